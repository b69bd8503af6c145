/- For the writers: what a round of the iterator keeps of a state; one option turned. For the writers: rows beside a row that is written; one option turned in memory. For the writers: what a loop over a select's options has in its boxes and in its row. -/
import Derived.Test.YtoajgfhcongocaaGreatDoorGe
import Derived.Test.YtoajgfhcongocaaGreatDoorGi
import Derived.Test.YtoajgfhcongocaaGreatDoorGa
namespace Go.Proofs.YtoajgfhcongocaaGreatDoor.doc
open Go.ChangeShapes Go.WideShapes Go.ChangeAt Go.RowKit Go.Lib Go.Proofs.YtoajgfhcongocaaGreatDoor.atr Go.Proofs.YtoajgfhcongocaaGreatDoor.link Go.Proofs.YtoajgfhcongocaaGreatDoor.ctl

theorem rowAt_kept {X Y : World} {row : Option Nat} {v : Value} {n : Nat} {xs : List Value} (h : RowAt X v n xs) (hg : X.grownBy Y row) (hr : ∀ r, row = some r → ∃ o : Obj, X.heap[r]? = some o ∧ o.isCells = false) : RowAt Y v n xs := by
  rcases h with h | ⟨b, off, cap, rfl, h0, hb, hc⟩
  · exact .inl h
  · exact .inr ⟨b, off, cap, rfl, h0, Nat.lt_of_lt_of_le hb hg.size, fun j u hj => cell_kept (hc j u hj) hg hr⟩
theorem ownsRow_keptO {X Y : World} {row : Option Nat} {b e size n : Nat} {v : Value} {xs : List Value} (h : X.ownsRow b e size v n xs) (hg : X.grownBy Y row) (hr : ∀ r, row = some r → ∃ o : Obj, X.heap[r]? = some o ∧ o.isCells = false) : Y.ownsRow b e size v n xs := by
  refine h.kept hg ?_
  rcases h.2 with ⟨rfl, _⟩ | ⟨g, cap, cur, rfl, _, hgb, _⟩
  · exact .inl rfl
  · refine .inr fun e' => ?_
    obtain ⟨o, ho, hc⟩ := hr g (by simpa [Value.ownBlock] using e'.symm)
    rw [hgb] at ho; cases ho; cases hc
theorem OwnC.keptO {X Y : World} {row : Option Nat} {B : Nat} {v : Value} {cs : List Ctl} {fs : List Value} (h : OwnC X B v cs fs) (hg : X.grownBy Y row) (hr : ∀ r, row = some r → ∃ o : Obj, X.heap[r]? = some o ∧ o.isCells = false) : OwnC Y B v cs fs :=
  ⟨h.len, ownsRow_keptO h.row hg hr, fun j a b => rowAt_kept (h.files j a b) hg hr, h.apart⟩
theorem ownC_own {β : Type} (B : Nat) (v : Value) (f : β → List Ctl) (fs : List Value) : Own (fun (s : β) W => OwnC W B v (f s) fs) := fun _ _ _ _ hs hg hr => hs.keptO hg hr

theorem mapOn_snocN (g : Int → Ctl → Ctl) (cs : List Ctl) (os : List Int) (o : Nat) (ho : o < cs.length) (_hn : (o : Int) ∉ os) : mapOn g cs (os ++ [(o : Int)]) = (mapOn g cs os).set o (g o cs[o]) := by
  apply List.ext_getElem?
  intro i
  rw [mapOn_get, List.getElem?_set, mapOn_len]
  by_cases e : o = i
  · subst e
    rw [if_pos rfl, if_pos ho, List.getElem?_eq_getElem ho]
    simp
  · rw [if_neg e, mapOn_get]
    cases cs[i]? with
    | none => rfl
    | some c =>
      have e2 : (i : Int) ∈ os ++ [(o : Int)] ↔ (i : Int) ∈ os := by simp; omega
      simp [e2]
theorem mapOn_at (g : Int → Ctl → Ctl) (cs : List Ctl) (os : List Int) (o : Nat) (ho : o < cs.length) (hn : (o : Int) ∉ os) (h2 : o < (mapOn g cs os).length) : (mapOn g cs os)[o] = cs[o] := by
  have := mapOn_get g cs os o
  rw [List.getElem?_eq_getElem h2, List.getElem?_eq_getElem ho] at this
  simpa [hn] using this
theorem lastP_snoc (cs : List Ctl) (os : List Int) (o : Int) : lastP cs (os ++ [o]) = if selB cs o then o else lastP cs os := by unfold lastP; rw [List.foldl_append]; rfl
theorem firstP_snoc (l : List Nd) (os : List Int) (o : Int) : firstP l (os ++ [o]) = if firstP l os < 0 ∧ offP l o = false then o else firstP l os := by unfold firstP; rw [List.foldl_append]; rfl
theorem selB_at (cs : List Ctl) (o : Nat) (h : o < cs.length) : selB cs (o : Int) = cs[o].selected := by
  unfold selB ct
  rw [Int.toNat_natCast, List.getD_eq_getElem?_getD, List.getElem?_eq_getElem h]; rfl
/-- all options off -/
def offG (_ : Int) (c : Ctl) : Ctl := { c with selected := false }
theorem nodup_prefix {os pre : List Int} {x : Int} (hn : os.Nodup) (h : pre ++ [x] <+: os) : x ∉ pre := by
  have := hn.sublist h.sublist
  rw [List.nodup_append] at this
  intro hx
  exact this.2.2 x hx x (by simp) rfl
end Go.Proofs.YtoajgfhcongocaaGreatDoor.doc

namespace Go.Proofs.YtoajgfhcongocaaGreatDoor.doc
open Go.ChangeShapes Go.WideShapes Go.ChangeAt Go.RowKit Go.Lib Go.Proofs.YtoajgfhcongocaaGreatDoor.atr Go.Proofs.YtoajgfhcongocaaGreatDoor.link Go.Proofs.YtoajgfhcongocaaGreatDoor.ctl

theorem rowAt_grownO {X Y : World} {row : Option Nat} {v : Value} {n : Nat} {xs : List Value} (h : RowAt X v n xs) (hg : X.grownBy Y row) (hne : ∀ r, row = some r → v.ownBlock ≠ some r) : RowAt Y v n xs := by
  rcases h with h | ⟨b, off, cap, rfl, h0, hb, hc⟩
  · exact .inl h
  · exact .inr ⟨b, off, cap, rfl, h0, Nat.lt_of_lt_of_le hb hg.size, fun j u hj => hg.cell (hc j u hj) (fun e => hne b e.symm rfl)⟩
theorem grownBy_trans {A B C : World} {row : Option Nat} (h : A.grownBy B row) (k : B.grownBy C row) : A.grownBy C row :=
  ⟨k.os.trans h.os, k.tape.trans h.tape, k.output.trans h.output, Nat.le_trans h.size k.size, fun j hj hn => (k.block j (Nat.lt_of_lt_of_le hj h.size) hn).trans (h.block j hj hn)⟩
theorem grownBy_below {A B : World} {row : Option Nat} (h : Below A.heap.size A B) : A.grownBy B row :=
  ⟨h.os, h.tape, h.output, h.size, fun k hk _ => h.block k hk⟩
theorem below_grownO {A B C : World} {n : Nat} {row : Option Nat} (h : Below n A B) (hg : B.grownBy C row) (hn : n ≤ B.heap.size) (hr : ∀ r, row = some r → n ≤ r) : Below n A C :=
  h.grown hg hn (fun k e => hr k e)

/-- a row that has an element has an address -/
theorem OwnC.addr {w : World} {B : Nat} {v : Value} {cs : List Ctl} {fs : List Value} (h : OwnC w B v cs fs) (h0 : 0 < cs.length) : ∃ g cap, v = .slice (some ⟨g, 0, none⟩) cs.length cap ∧ B ≤ g ∧ g < w.heap.size := by
  rcases h.row.2 with ⟨_, e⟩ | ⟨g, cap, cur, e, hb, hg, _⟩
  · omega
  · exact ⟨g, cap, e, hb, (Array.getElem?_eq_some_iff.1 hg).1⟩
/-- one field of a state -/
theorem OwnC.cell {w : World} {B g cap n : Nat} {cs : List Ctl} {fs : List Value} (h : OwnC w B (.slice (some ⟨g, 0, none⟩) n cap) cs fs) (o : Nat) (ho : o < cs.length) (i : Nat) (u : Value) (hu : ∀ f, (encC cs[o] f)[i]? = some u) : w.cell? ⟨g, o * 10 + i, none⟩ = some u := by
  obtain ⟨g', off, cap', f, e, _, hat⟩ := ctls_get h.at o ho
  cases e
  have := hat.cells i u (hu f)
  rwa [Nat.zero_add] at this
theorem OwnC.frozen {w : World} {B g cap n : Nat} {cs : List Ctl} {fs : List Value} (h : OwnC w B (.slice (some ⟨g, 0, none⟩) n cap) cs fs) (hn : n = cs.length) (j : Nat) : w.frozen? ⟨g, j, none⟩ = false := by
  subst hn
  exact World.ownsRow.frozenAt h.row j
/-- one option turned: one field -/
theorem OwnC.turn {w : World} {B g cap n : Nat} {G : Int → Ctl → Ctl} {cs : List Ctl} {pre : List Int} {fs : List Value} (h : OwnC w B (.slice (some ⟨g, 0, none⟩) n cap) (mapOn G cs pre) fs) (hn : n = cs.length) (o : Nat) (ho : o < cs.length) (hni : (o : Int) ∉ pre) (i : Nat) (hi : i < 10) (u : Value)
    (hfl : (G o cs[o]).files = cs[o].files) (he : ∀ f, (encC cs[o] f).set i u = encC (G o cs[o]) f) : OwnC (w.setCell ⟨g, o * 10 + i, none⟩ u) B (.slice (some ⟨g, 0, none⟩) n cap) (mapOn G cs (pre ++ [(o : Int)])) fs := by
  have hl : o < (mapOn G cs pre).length := by rw [mapOn_len]; exact ho
  have hat := mapOn_at G cs pre o ho hni hl
  rw [mapOn_snocN G cs pre o ho hni]
  exact h.set (by rw [mapOn_len]; exact hn) o hl i hi u (G o cs[o]) (by rw [hat]; exact hfl) (fun f => by rw [hat]; exact he f)
/-- .. two fields -/
theorem OwnC.turn2 {w : World} {B g cap n : Nat} {G : Int → Ctl → Ctl} {cs : List Ctl} {pre : List Int} {fs : List Value} (h : OwnC w B (.slice (some ⟨g, 0, none⟩) n cap) (mapOn G cs pre) fs) (hn : n = cs.length) (o : Nat) (ho : o < cs.length) (hni : (o : Int) ∉ pre) (i j : Nat) (hi : i < 10) (hj : j < 10) (u v : Value) (c1 : Ctl)
    (hf1 : c1.files = cs[o].files) (hfl : (G o cs[o]).files = cs[o].files) (he1 : ∀ f, (encC cs[o] f).set i u = encC c1 f) (he : ∀ f, (encC c1 f).set j v = encC (G o cs[o]) f) :
    OwnC ((w.setCell ⟨g, o * 10 + i, none⟩ u).setCell ⟨g, o * 10 + j, none⟩ v) B (.slice (some ⟨g, 0, none⟩) n cap) (mapOn G cs (pre ++ [(o : Int)])) fs := by
  have hl : o < (mapOn G cs pre).length := by rw [mapOn_len]; exact ho
  have hat := mapOn_at G cs pre o ho hni hl
  have h1 := h.set (by rw [mapOn_len]; exact hn) o hl i hi u c1 (by rw [hat]; exact hf1) (fun f => by rw [hat]; exact he1 f)
  have hl2 : o < ((mapOn G cs pre).set o c1).length := by rw [List.length_set]; exact hl
  have h2 := h1.set (by rw [List.length_set, mapOn_len]; exact hn) o hl2 j hj v (G o cs[o]) (by rw [List.getElem_set_self, hf1]; exact hfl) (fun f => by rw [List.getElem_set_self]; exact he f)
  rw [List.set_set, ← mapOn_snocN G cs pre o ho hni] at h2
  exact h2
/-- the selected field of a state that is not turned yet -/
theorem OwnC.selAt {w : World} {B g cap n : Nat} {G : Int → Ctl → Ctl} {cs : List Ctl} {pre : List Int} {fs : List Value} (h : OwnC w B (.slice (some ⟨g, 0, none⟩) n cap) (mapOn G cs pre) fs) (o : Nat) (ho : o < cs.length) (hni : (o : Int) ∉ pre) : w.cell? ⟨g, o * 10 + 6, none⟩ = some (.bool (selB cs o)) := by
  have hl : o < (mapOn G cs pre).length := by rw [mapOn_len]; exact ho
  refine h.cell o hl 6 _ (fun f => ?_)
  rw [mapOn_at G cs pre o ho hni hl, selB_at cs o ho]; rfl

/-- the last selected one, of options that may come twice -/
def lastQ (cs : List Ctl) (os : List Int) : Int := (os.foldl (fun (a : Int × List Int) o => (if decide (o ∉ a.2) && selB cs o then o else a.1, a.2 ++ [o])) (-1, [])).1
theorem lastQ_snd (cs : List Ctl) (os : List Int) : ∀ a : Int × List Int, (os.foldl (fun (a : Int × List Int) o => (if decide (o ∉ a.2) && selB cs o then o else a.1, a.2 ++ [o])) a).2 = a.2 ++ os := by
  induction os with
  | nil => intro a; simp
  | cons o r ih => intro a; rw [List.foldl_cons, ih]; simp
theorem lastQ_snoc (cs : List Ctl) (os : List Int) (o : Int) : lastQ cs (os ++ [o]) = if decide (o ∉ os) && selB cs o then o else lastQ cs os := by
  unfold lastQ
  rw [List.foldl_append, List.foldl_cons, List.foldl_nil, lastQ_snd]
  rfl
theorem snoc_ind {P : List Int → Prop} (h0 : P []) (h1 : ∀ t o, P t → P (t ++ [o])) (l : List Int) : P l := by
  have : ∀ n (l : List Int), l.length = n → P l := by
    intro n
    induction n with
    | zero => intro l h; rw [List.length_eq_zero_iff.1 h]; exact h0
    | succ n ih =>
      intro l h
      have hne : l ≠ [] := fun e => by rw [e] at h; cases h
      rw [← List.dropLast_concat_getLast hne]
      exact h1 _ _ (ih _ (by rw [List.length_dropLast, h]; rfl))
  exact this _ l rfl
theorem lastQ_is (cs : List Ctl) (os : List Int) : os.Nodup → lastQ cs os = lastP cs os := by
  refine snoc_ind (P := fun os => os.Nodup → lastQ cs os = lastP cs os) (fun _ => rfl) (fun t o ih hn => ?_) os
  have h1 : o ∉ t := nodup_prefix hn (List.prefix_refl _)
  rw [List.nodup_append] at hn
  rw [lastQ_snoc, lastP_snoc, ih hn.1, decide_eq_true h1, Bool.true_and]
theorem sel_off (cs : List Ctl) (os : List Int) (o : Nat) (ho : o < cs.length) : selB (mapOn offG cs os) (o : Int) = (decide ((o : Int) ∉ os) && selB cs (o : Int)) := by
  unfold selB
  rw [ct_mapOn offG cs os (o : Int) (by omega) (by omega)]
  by_cases h : (o : Int) ∈ os <;> simp [h, offG]
theorem off_same (cs : List Ctl) (os : List Int) (o : Nat) (ho : o < cs.length) (h : (decide ((o : Int) ∉ os) && selB cs (o : Int)) = false) : mapOn offG cs (os ++ [(o : Int)]) = mapOn offG cs os := by
  apply List.ext_getElem?
  intro i
  rw [mapOn_get, mapOn_get]
  by_cases e : (i : Int) = (o : Int)
  · have e' : i = o := by omega
    subst e'
    by_cases g : (i : Int) ∈ os
    · simp [g]
    · have h2 : selB cs (i : Int) = false := by simpa [g] using h
      rw [selB_at cs i ho] at h2
      rw [List.getElem?_eq_getElem ho]
      simp only [Option.map_some, g, if_false, List.mem_append, List.mem_singleton, or_true, if_true]
      unfold offG
      generalize cs[i] = c at *
      obtain ⟨v, d, t, ch, dc, m, s, ds, cu, fs⟩ := c
      have h2 : s = false := h2
      rw [h2]
  · cases cs[i]? with
    | none => rfl
    | some c => simp [e]
/-- the selected field -/
theorem OwnC.selOf {w : World} {B g cap n : Nat} {cs : List Ctl} {fs : List Value} (h : OwnC w B (.slice (some ⟨g, 0, none⟩) n cap) cs fs) (o : Nat) (ho : o < cs.length) : w.cell? ⟨g, o * 10 + 6, none⟩ = some (.bool (selB cs (o : Int))) := by
  refine h.cell o ho 6 _ (fun f => ?_)
  rw [selB_at cs o ho]; rfl
end Go.Proofs.YtoajgfhcongocaaGreatDoor.doc

namespace Go.Proofs.YtoajgfhcongocaaGreatDoor.doc
open Go.ChangeShapes Go.WideShapes Go.ChangeAt Go.RowKit Go.Lib Go.Proofs.YtoajgfhcongocaaGreatDoor.atr Go.Proofs.YtoajgfhcongocaaGreatDoor.link Go.Proofs.YtoajgfhcongocaaGreatDoor.ctl

theorem boxed_keptO {X Y : World} {row : Option Nat} {B : Nat} {t : TypeId} {v : Value} (h : Boxed X B t v) (hg : X.grownBy Y row) (hr : ∀ r, row = some r → ∃ o : Obj, X.heap[r]? = some o ∧ o.isCells = false) : Boxed Y B t v :=
  h.kept hg (fun e => by
    obtain ⟨o, ho, hc⟩ := hr B e.symm
    rw [show X.heap[B]? = _ from h] at ho; cases ho; cases hc)
theorem boxed_below {X Y : World} {B : Nat} {t : TypeId} {v : Value} (h : Boxed X B t v) (hb : Below X.heap.size X Y) : Boxed Y B t v := (hb.block _ h.lt).trans h
theorem boxed_set {X : World} {B : Nat} {t : TypeId} {v : Value} (h : Boxed X B t v) {b o : Nat} (hne : B ≠ b) (u : Value) : Boxed (X.setCell ⟨b, o, none⟩ u) B t v :=
  (Below.heap_setCell X ⟨b, o, none⟩ u B (fun e => hne e)).trans h
/-- the files lie below -/
def LowF (nb : Nat) (L : List (List Ent)) (fs : List Value) : Prop := ∀ j (a : j < L.length) (b : j < fs.length), L[j] ≠ [] → ∀ k, fs[j].ownBlock = some k → k < nb
theorem OwnC.lowF {w : World} {B : Nat} {v : Value} {cs : List Ctl} {fs : List Value} (h : OwnC w B v cs fs) : LowF w.heap.size (cs.map (·.files)) fs := by
  intro j a b hne k e
  rw [List.getElem_map] at hne
  exact ents_low (h.files j (by simpa using a) b) hne k e
theorem LowF.mono {n m : Nat} {L : List (List Ent)} {fs : List Value} (h : LowF n L fs) (hm : n ≤ m) : LowF m L fs := fun j a b hne k e => Nat.lt_of_lt_of_le (h j a b hne k e) hm
theorem files_mapOn (G : Int → Ctl → Ctl) (hG : ∀ k c, (G k c).files = c.files) (cs : List Ctl) (os : List Int) : (mapOn G cs os).map (·.files) = cs.map (·.files) := by
  apply List.ext_getElem?
  intro i
  rw [List.getElem?_map, List.getElem?_map, mapOn_get]
  cases cs[i]? with
  | none => rfl
  | some c =>
    simp only [Option.map_some]
    split
    · rw [hG]
    · rfl
theorem OwnC.setBox {w : World} {B g n cap : Nat} {cs : List Ctl} {fs : List Value} (h : OwnC w B (.slice (some ⟨g, 0, none⟩) n cap) cs fs) {nb : Nat} (hL : LowF nb (cs.map (·.files)) fs) {b o : Nat} (hg : g ≠ b) (hb : nb ≤ b) (u : Value) :
    OwnC (w.setCell ⟨b, o, none⟩ u) B (.slice (some ⟨g, 0, none⟩) n cap) cs fs :=
  ⟨h.len, h.row.kept (grownBy_set w b o u) (.inr (fun e => hg (Option.some.inj e))), fun j a c => ents_set (h.files j a c) (fun hne e => by
    have := hL j (by simpa using a) c (by rw [List.getElem_map]; exact hne) b e
    omega), h.apart⟩

structure Bst (nb B : Nat) (bx : List (Nat × TypeId × Value)) (g n cc : Nat) (W : World) (cs : List Ctl) (fs : List Value) : Prop where
  bx : ∀ x ∈ bx, Boxed W x.1 x.2.1 x.2.2
  own : OwnC W B (.slice (some ⟨g, 0, none⟩) n cc) cs fs
  low : LowF nb (cs.map (·.files)) fs
variable {nb B g n cc : Nat} {bx : List (Nat × TypeId × Value)} {W W' : World} {cs : List Ctl} {fs : List Value}
theorem Bst.below (h : Bst nb B bx g n cc W cs fs) (hb : Below W.heap.size W W') : Bst nb B bx g n cc W' cs fs := ⟨fun x hx => boxed_below (h.bx x hx) hb, h.own.below hb, h.low⟩
theorem Bst.keptO {row : Option Nat} (h : Bst nb B bx g n cc W cs fs) (hg : W.grownBy W' row) (hr : ∀ r, row = some r → ∃ o : Obj, W.heap[r]? = some o ∧ o.isCells = false) : Bst nb B bx g n cc W' cs fs :=
  ⟨fun x hx => boxed_keptO (h.bx x hx) hg hr, h.own.keptO hg hr, h.low⟩
/-- a store into a box -/
theorem Bst.put {b : Nat} {t : TypeId} {v : Value} {p q : List (Nat × TypeId × Value)} (h : Bst nb B (p ++ (b, t, v) :: q) g n cc W cs fs) (hb : ∀ x ∈ p ++ q, x.1 ≠ b) (hg : g ≠ b) (hnb : nb ≤ b) (u : Value) :
    Bst nb B (p ++ (b, t, u) :: q) g n cc (W.setCell ⟨b, 0, none⟩ u) cs fs := by
  refine ⟨fun x hx => ?_, h.own.setBox h.low hg hnb u, h.low⟩
  rw [List.mem_append, List.mem_cons] at hx
  rcases hx with hx | rfl | hx
  · exact boxed_set (h.bx x (by simp [hx])) (hb x (by simp [hx])) u
  · exact (h.bx (b, t, v) (by simp)).set u
  · exact boxed_set (h.bx x (by simp [hx])) (hb x (by simp [hx])) u
theorem Bst.put0 {b : Nat} {t : TypeId} {v : Value} {q : List (Nat × TypeId × Value)} (h : Bst nb B ((b, t, v) :: q) g n cc W cs fs) (hb : ∀ x ∈ q, x.1 ≠ b) (hg : g ≠ b) (hnb : nb ≤ b) (u : Value) :
    Bst nb B ((b, t, u) :: q) g n cc (W.setCell ⟨b, 0, none⟩ u) cs fs := Bst.put (p := []) h hb hg hnb u
theorem Bst.put1 {a : Nat × TypeId × Value} {b : Nat} {t : TypeId} {v : Value} {q : List (Nat × TypeId × Value)} (h : Bst nb B (a :: (b, t, v) :: q) g n cc W cs fs) (hb : ∀ x ∈ a :: q, x.1 ≠ b) (hg : g ≠ b) (hnb : nb ≤ b) (u : Value) :
    Bst nb B (a :: (b, t, u) :: q) g n cc (W.setCell ⟨b, 0, none⟩ u) cs fs := Bst.put (p := [a]) h hb hg hnb u
/-- a store into the row -/
theorem Bst.row {cs' : List Ctl} {o : Nat} {u : Value} (h : Bst nb B bx g n cc W cs fs) (hb : ∀ x ∈ bx, x.1 ≠ g) (hf : cs'.map (·.files) = cs.map (·.files)) (ho : OwnC (W.setCell ⟨g, o, none⟩ u) B (.slice (some ⟨g, 0, none⟩) n cc) cs' fs) :
    Bst nb B bx g n cc (W.setCell ⟨g, o, none⟩ u) cs' fs :=
  ⟨fun x hx => boxed_set (h.bx x hx) (hb x hx) u, ho, by rw [hf]; exact h.low⟩
theorem Bst.row2 {cs' : List Ctl} {o p : Nat} {u v : Value} (h : Bst nb B bx g n cc W cs fs) (hb : ∀ x ∈ bx, x.1 ≠ g) (hf : cs'.map (·.files) = cs.map (·.files)) (ho : OwnC ((W.setCell ⟨g, o, none⟩ u).setCell ⟨g, p, none⟩ v) B (.slice (some ⟨g, 0, none⟩) n cc) cs' fs) :
    Bst nb B bx g n cc ((W.setCell ⟨g, o, none⟩ u).setCell ⟨g, p, none⟩ v) cs' fs :=
  ⟨fun x hx => boxed_set (boxed_set (h.bx x hx) (hb x hx) u) (hb x hx) v, ho, by rw [hf]; exact h.low⟩

/-- the blocks below M but g stay -/
def Rg (M g : Nat) (A B : World) : Prop := ∀ k, k < M → k ≠ g → B.heap[k]? = A.heap[k]?
theorem Rg.refl (M g : Nat) (A : World) : Rg M g A A := fun _ _ _ => rfl
theorem Rg.trans {M g : Nat} {A B C : World} (h : Rg M g A B) (k : Rg M g B C) : Rg M g A C := fun j a b => (k j a b).trans (h j a b)
theorem Rg.below {M g : Nat} {A B : World} (h : Below A.heap.size A B) (hM : M ≤ A.heap.size) : Rg M g A B := fun k hk _ => h.block k (Nat.lt_of_lt_of_le hk hM)
theorem Rg.set {M g b o : Nat} (A : World) (h : M ≤ b ∨ b = g) (u : Value) : Rg M g A (A.setCell ⟨b, o, none⟩ u) := fun k hk hn => Below.heap_setCell A ⟨b, o, none⟩ u k (fun e => by
  have e : k = b := e
  omega)
theorem Rg.own {M g B : Nat} {β : Type} (A : World) (hM : M ≤ A.heap.size) (hB : M ≤ B) : OwnFrom B (fun (_ : β) W => A.heap.size ≤ W.heap.size ∧ Rg M g A W) :=
  fun _ W W' row hs hg hr => ⟨Nat.le_trans hs.1 hg.size, fun k hk hn => (hg.block k (Nat.lt_of_lt_of_le hk (Nat.le_trans hM hs.1)) (fun e => by
    have := (hr k e.symm).1
    omega)).trans (hs.2 k hk hn)⟩
theorem grownBy_of {n g : Nat} {A B : World} (h : Below n A B) (hs : Rg A.heap.size g A B) : A.grownBy B (some g) :=
  ⟨h.os, h.tape, h.output, h.size, fun k hk hn => hs k hk (fun e => hn (by rw [e]))⟩

/-- the picked one is selected -/
theorem only_none (cs : List Ctl) (os : List Int) (p : Int) (h : ∀ o ∈ os, o ≠ p) : onlyP cs os p = mapOn offG cs os := by
  unfold onlyP
  refine mapOn_congr _ _ cs os (fun o ho c => ?_)
  unfold onlyG offG
  rw [decide_eq_false (h o ho)]
theorem only_set (cs : List Ctl) (os : List Int) (pn : Nat) (hp : (pn : Int) ∈ os) (hc : pn < cs.length) (h2 : pn < (mapOn offG cs os).length) : (mapOn offG cs os).set pn { (mapOn offG cs os)[pn] with selected := true } = onlyP cs os (pn : Int) := by
  unfold onlyP
  apply List.ext_getElem?
  intro i
  rw [mapOn_get, List.getElem?_set, mapOn_get]
  by_cases e : pn = i
  · subst e
    have e2 : (mapOn offG cs os)[pn] = offG (pn : Int) cs[pn] := by
      have := mapOn_get offG cs os pn
      rw [List.getElem?_eq_getElem h2, List.getElem?_eq_getElem hc, Option.map_some, if_pos hp] at this
      exact Option.some.inj this
    rw [if_pos rfl, if_pos h2, List.getElem?_eq_getElem hc, e2, Option.map_some, if_pos hp]
    unfold onlyG offG
    simp
  · rw [if_neg e]
    cases cs[i]? with
    | none => rfl
    | some c =>
      have : ¬ (i : Int) = (pn : Int) := by omega
      simp [onlyG, offG, this]
theorem OwnC.pick {cap : Nat} {os : List Int} (h : OwnC W B (.slice (some ⟨g, 0, none⟩) n cap) (mapOn offG cs os) fs) (hn : n = cs.length) (pn : Nat) (hp : (pn : Int) ∈ os) (hc : pn < cs.length) :
    OwnC (W.setCell ⟨g, pn * 10 + 6, none⟩ (.bool true)) B (.slice (some ⟨g, 0, none⟩) n cap) (onlyP cs os (pn : Int)) fs := by
  have h2 : pn < (mapOn offG cs os).length := by rw [mapOn_len]; exact hc
  rw [← only_set cs os pn hp hc h2]
  exact h.set (by rw [mapOn_len]; exact hn) pn h2 6 (by decide) (.bool true) _ rfl (fun f => rfl)
theorem files_only (cs : List Ctl) (os : List Int) (p : Int) : (onlyP cs os p).map (·.files) = cs.map (·.files) := files_mapOn (onlyG p) (fun _ _ => rfl) cs os

theorem bx_nil : ∀ x ∈ ([] : List (Nat × TypeId × Value)), Boxed W x.1 x.2.1 x.2.2 := fun _ h => by cases h
theorem bx_cons {b : Nat} {t : TypeId} {v : Value} {q : List (Nat × TypeId × Value)} (h : Boxed W b t v) (hq : ∀ x ∈ q, Boxed W x.1 x.2.1 x.2.2) : ∀ x ∈ (b, t, v) :: q, Boxed W x.1 x.2.1 x.2.2 := by
  intro x hx
  rcases List.mem_cons.1 hx with rfl | hx
  · exact h
  · exact hq x hx
theorem ne_nil (b : Nat) : ∀ x ∈ ([] : List (Nat × TypeId × Value)), x.1 ≠ b := fun _ h => by cases h
theorem ne_cons {a b : Nat} {t : TypeId} {v : Value} {q : List (Nat × TypeId × Value)} (h : a ≠ b) (hq : ∀ x ∈ q, x.1 ≠ b) : ∀ x ∈ (a, t, v) :: q, x.1 ≠ b := by
  intro x hx
  rcases List.mem_cons.1 hx with rfl | hx
  · exact h
  · exact hq x hx
theorem Bst.b0 {b : Nat} {t : TypeId} {v : Value} {q : List (Nat × TypeId × Value)} (h : Bst nb B ((b, t, v) :: q) g n cc W cs fs) : Boxed W b t v := h.bx _ List.mem_cons_self
theorem Bst.b1 {a : Nat × TypeId × Value} {b : Nat} {t : TypeId} {v : Value} {q : List (Nat × TypeId × Value)} (h : Bst nb B (a :: (b, t, v) :: q) g n cc W cs fs) : Boxed W b t v := h.bx (b, t, v) (by simp)
theorem Bst.b2 {a a' : Nat × TypeId × Value} {b : Nat} {t : TypeId} {v : Value} {q : List (Nat × TypeId × Value)} (h : Bst nb B (a :: a' :: (b, t, v) :: q) g n cc W cs fs) : Boxed W b t v := h.bx (b, t, v) (by simp)
theorem Bst.b3 {a a' a'' : Nat × TypeId × Value} {b : Nat} {t : TypeId} {v : Value} {q : List (Nat × TypeId × Value)} (h : Bst nb B (a :: a' :: a'' :: (b, t, v) :: q) g n cc W cs fs) : Boxed W b t v := h.bx (b, t, v) (by simp)

/-- what a round keeps -/
structure Rd (n₀ Bl Bs : Nat) (W W' : World) : Prop where
  ko : KeepsOthers W W'
  kp : Kp n₀ Bl Bs W W'
theorem Rd.refl (n₀ Bl Bs : Nat) (W : World) : Rd n₀ Bl Bs W W := ⟨KeepsOthers.refl _, Kp.refl _ _ _ _⟩
theorem Rd.trans {n₀ Bl Bs : Nat} {A B C : World} (h : Rd n₀ Bl Bs A B) (k : Rd n₀ Bl Bs B C) : Rd n₀ Bl Bs A C := ⟨h.ko.trans k.ko, h.kp.trans k.kp⟩
theorem Rd.below {n₀ Bl Bs : Nat} {A B : World} (h : Below A.heap.size A B) (hn : n₀ ≤ A.heap.size) : Rd n₀ Bl Bs A B :=
  ⟨KeepsOthers.of_grownBy (grownBy_below (row := none) h) (fun _ _ e => by cases e), Kp.of_below h hn⟩
theorem Rd.set {n₀ Bl Bs b o : Nat} (A : World) (hb : n₀ ≤ b) (h1 : Bl ≠ b) (h2 : Bs ≠ b) (u : Value) : Rd n₀ Bl Bs A (A.setCell ⟨b, o, none⟩ u) := by
  refine ⟨KeepsOthers.setCell _ _ _, (Below.refl n₀ A).setCell (p := ⟨b, o, none⟩) hb u, fun v h => ?_, fun v h => ?_⟩
  · rw [← h]; unfold World.cell?; rw [Below.heap_setCell A ⟨b, o, none⟩ u Bl (fun e => h1 e)]
  · rw [← h]; unfold World.cell?; rw [Below.heap_setCell A ⟨b, o, none⟩ u Bs (fun e => h2 e)]

theorem OwnC.dselOf {cap : Nat} (h : OwnC W B (.slice (some ⟨g, 0, none⟩) n cap) cs fs) (o : Nat) (ho : o < cs.length) : W.cell? ⟨g, o * 10 + 7, none⟩ = some (.bool (ct cs (o : Int)).dselected) := by
  refine h.cell o ho 7 _ (fun f => ?_)
  unfold ct
  rw [Int.toNat_natCast, List.getD_eq_getElem?_getD, List.getElem?_eq_getElem ho]; rfl
theorem modify_set {L : List Ctl} {f : Ctl → Ctl} {o : Nat} (ho : o < L.length) : L.modify o f = L.set o (f L[o]) := by
  apply List.ext_getElem?
  intro i
  rw [List.getElem?_modify, List.getElem?_set]
  by_cases e : o = i
  · subst e; simp [ho]
  · simp [e]
/-- one option turned (it may have been turned before): two fields -/
theorem OwnC.turnI2 {cap : Nat} {G : Int → Ctl → Ctl} (hG : ∀ k c, G k (G k c) = G k c) {pre : List Int} (h : OwnC W B (.slice (some ⟨g, 0, none⟩) n cap) (mapOn G cs pre) fs) (hn : n = cs.length) (o : Nat) (ho : o < cs.length) (i j : Nat) (hi : i < 10) (hj : j < 10) (u v : Value) (c1 : Ctl → Ctl)
    (hf1 : ∀ c, (c1 c).files = c.files) (hfl : ∀ c, (G o c).files = c.files) (he1 : ∀ c f, (encC c f).set i u = encC (c1 c) f) (he : ∀ c f, (encC (c1 c) f).set j v = encC (G o c) f) :
    OwnC ((W.setCell ⟨g, o * 10 + i, none⟩ u).setCell ⟨g, o * 10 + j, none⟩ v) B (.slice (some ⟨g, 0, none⟩) n cap) (mapOn G cs (pre ++ [(o : Int)])) fs := by
  have hl : o < (mapOn G cs pre).length := by rw [mapOn_len]; exact ho
  have h1 := h.set (by rw [mapOn_len]; exact hn) o hl i hi u (c1 (mapOn G cs pre)[o]) (hf1 _) (fun f => he1 _ f)
  have hl2 : o < ((mapOn G cs pre).set o (c1 (mapOn G cs pre)[o])).length := by rw [List.length_set]; exact hl
  have h2 := h1.set (by rw [List.length_set, mapOn_len]; exact hn) o hl2 j hj v (G o (mapOn G cs pre)[o]) (by rw [List.getElem_set_self, hf1]; exact hfl _) (fun f => by rw [List.getElem_set_self]; exact he _ f)
  rw [List.set_set] at h2
  rw [mapOn_snoc G hG cs pre (o : Int) (by omega), Int.toNat_natCast, modify_set hl]
  exact h2
end Go.Proofs.YtoajgfhcongocaaGreatDoor.doc
