/- A part of the proofs: lemmas and contracts. -/
import Derived.Test.YtkhlfggnjcbniaaGreatDoorP26
set_option maxHeartbeats 12800000
set_option maxRecDepth 1000000
namespace Go.Proofs.YtkhlfggnjcbniaaGreatDoor.doc
open Go.ChangeShapes Go.WideShapes Go.ChangeAt Go.RowKit Go.Lib atr link ctl

def encC (c : Ctl) (f : Value) : List Value := [.string ⟨c.value.toArray⟩, .bool c.dirty, .bool c.typed, .bool c.checked, .bool c.dchecked, .bool c.mixed, .bool c.selected, .bool c.dselected, .string ⟨c.custom.toArray⟩, f]
theorem encC_len (x : Ctl × Value) : (encC x.1 x.2).length = 10 := rfl
structure CtlAt (w : World) (b o : Nat) (c : Ctl) (f : Value) : Prop where
 cells : ∀ i u, (encC c f)[i]? = some u → w.cell? ⟨b, o + i, none⟩ = some u
 files : EntsAt w f c.files
theorem CtlAt.below {w w' : World} {b o : Nat} {c : Ctl} {f : Value} (h : CtlAt w b o c f) (hb : Below w.heap.size w w') : CtlAt w' b o c f :=
 ⟨fun i u hu => cell_below hb (h.cells i u hu), h.files.below hb⟩
def CtlsAt (w : World) (v : Value) (cs : List Ctl) : Prop :=
 (cs = [] ∧ ∃ oa cap, v = .slice oa 0 cap) ∨ ∃ b off cap, v = .slice (some ⟨b, off, none⟩) cs.length cap ∧ 0 < cs.length ∧ b < w.heap.size ∧ ∀ j (h : j < cs.length), ∃ f, CtlAt w b (off + j * 10) cs[j] f
theorem CtlsAt.below {w w' : World} {v : Value} {cs : List Ctl} (h : CtlsAt w v cs) (hb : Below w.heap.size w w') : CtlsAt w' v cs := by
 rcases h with h | ⟨b, off, cap, e, h0, hl, hc⟩
 ·exact .inl h
 ·refine .inr ⟨b, off, cap, e, h0, Nat.lt_of_lt_of_le hl hb.size, fun j hj => ?_⟩
  obtain ⟨f, hf⟩ := hc j hj
  exact ⟨f, hf.below hb⟩
theorem CtlsAt.lenN {w : World} {v : Value} {cs : List Ctl} (h : CtlsAt w v cs) : ∃ oa cap, v = .slice oa cs.length cap := by
 rcases h with ⟨rfl, oa, cap, e⟩ | ⟨b, off, cap, e, _⟩
 ·exact ⟨oa, cap, e⟩
 ·exact ⟨_, cap, e⟩
theorem ctls_get {w : World} {v : Value} {cs : List Ctl} (h : CtlsAt w v cs) (j : Nat) (hj : j < cs.length) : ∃ b off cap f, v = .slice (some ⟨b, off, none⟩) cs.length cap ∧ b < w.heap.size ∧ CtlAt w b (off + j * 10) cs[j] f := by
 rcases h with ⟨rfl, _⟩ | ⟨b, off, cap, e, _, hl, hc⟩
 ·exact absurd hj (Nat.not_lt_zero _)
 ·obtain ⟨f, hf⟩ := hc j hj
  exact ⟨b, off, cap, f, e, hl, hf⟩
structure OwnC (w : World) (B : Nat) (v : Value) (cs : List Ctl) (fs : List Value) : Prop where
 len : fs.length = cs.length
 row : w.ownsRow B 35 10 v cs.length ((cs.zip fs).flatMap (fun x => encC x.1 x.2))
 files : ∀ j (h : j < cs.length) (h' : j < fs.length), EntsAt w fs[j] cs[j].files
 apart : ∀ j (h : j < cs.length) (h' : j < fs.length), cs[j].files ≠ [] → Apart fs[j] v
theorem OwnC.below {w w' : World} {B : Nat} {v : Value} {cs : List Ctl} {fs : List Value} (h : OwnC w B v cs fs) (hb : Below w.heap.size w w') : OwnC w' B v cs fs :=
 ⟨h.len, ownsRow_below h.row hb, fun j a b => (h.files j a b).below hb, h.apart⟩
theorem OwnC.at {w : World} {B : Nat} {v : Value} {cs : List Ctl} {fs : List Value} (h : OwnC w B v cs fs) : CtlsAt w v cs := by
 rcases RowAt.of_owns h.row with ⟨h0, _, oa, cap, rfl⟩ | ⟨b, off, cap, rfl, h0, hb, hc⟩
 ·exact .inl ⟨List.length_eq_zero_iff.1 h0, oa, cap, rfl⟩
 ·refine .inr ⟨b, off, cap, rfl, h0, hb, fun j hj => ?_⟩
  have hj' : j < fs.length := by rw [h.len]; exact hj
  have hz : j < (cs.zip fs).length := by rw [List.length_zip, h.len, Nat.min_self]; exact hj
  have ez : (cs.zip fs)[j] = (cs[j], fs[j]) := List.getElem_zip
  refine ⟨fs[j], fun i u hu => ?_, h.files j hj hj'⟩
  have hi : i < 10 := by
   rcases Nat.lt_or_ge i 10 with h | h
   ·exact h
   ·rw [List.getElem?_eq_none (by exact h)] at hu; cases hu
  have := flat_at (fun x : Ctl × Value => encC x.1 x.2) 10 encC_len (cs.zip fs) j hz i hi
  rw [ez] at this
  rw [Nat.add_assoc]
  exact hc _ _ (this.trans hu)
theorem flat_set {α : Type} (enc : α → List Value) (n : Nat) (hl : ∀ x, (enc x).length = n) : ∀ (L : List α) (j : Nat) (hj : j < L.length) (i : Nat), i < n → ∀ (u : Value) (x' : α), (enc L[j]).set i u = enc x' → (L.flatMap enc).set (j * n + i) u = (L.set j x').flatMap enc := by
 intro L
 induction L with
 | nil => intro j hj; exact absurd hj (Nat.not_lt_zero _)
 | cons x r ih =>
  intro j hj i hi u x' he
  cases j with
  | zero =>
   rw [Nat.zero_mul, Nat.zero_add, List.flatMap_cons, List.set_append_left _ _ (by rw [hl]; exact hi)]
   rw [List.getElem_cons_zero] at he
   rw [he]; rfl
  | succ j =>
   rw [List.flatMap_cons, List.set_append_right _ _ (by rw [hl, Nat.succ_mul]; omega), hl, show (j + 1) * n + i - n = j * n + i from by rw [Nat.succ_mul]; omega]
   rw [List.getElem_cons_succ] at he
   rw [ih j (by simpa using hj) i hi u x' he, List.set_cons_succ, List.flatMap_cons]
theorem zip_set {α β : Type} (a : List α) (b : List β) (j : Nat) (h : j < b.length) (x : α) : (a.set j x).zip b = (a.zip b).set j (x, b[j]) := by
 apply List.ext_getElem
 ·simp
 ·intro k h1 h2
  rw [List.getElem_zip, List.getElem_set, List.getElem_set]
  by_cases e : j = k
  ·subst e; simp
  ·simp [e]
theorem ents_set {w : World} {f : Value} {es : List Ent} (h : EntsAt w f es) {g o : Nat} {u : Value} (hne : es ≠ [] → f.ownBlock ≠ some g) : EntsAt (w.setCell ⟨g, o, none⟩ u) f es := by
 by_cases e : es = []
 ·subst e
  rcases h with h | ⟨b, off, cap, rfl, h0, _⟩
  ·exact .inl h
  ·exact absurd h0 (Nat.lt_irrefl _)
 ·exact RowAt.setCell h _ _ (hne e)
theorem OwnC.set {w : World} {B g cap n : Nat} {cs : List Ctl} {fs : List Value} (h : OwnC w B (.slice (some ⟨g, 0, none⟩) n cap) cs fs) (hn : n = cs.length) (j : Nat) (hj : j < cs.length) (i : Nat) (hi : i < 10) (u : Value) (c' : Ctl) (hfl : c'.files = cs[j].files)
  (he : ∀ f, (encC cs[j] f).set i u = encC c' f) : OwnC (w.setCell ⟨g, j * 10 + i, none⟩ u) B (.slice (some ⟨g, 0, none⟩) n cap) (cs.set j c') fs := by
 subst hn
 obtain ⟨hs, hgr⟩ := World.ownsRow.stored (w := w) h.row (j * 10 + i) u
 have hj' : j < fs.length := by rw [h.len]; exact hj
 have hfk : ∀ k (hk : k < (cs.set j c').length) (hk2 : k < cs.length), (cs.set j c')[k].files = cs[k].files := by
  intro k hk hk2
  by_cases e : j = k
  ·subst e; rw [List.getElem_set_self, hfl]
  ·rw [List.getElem_set_ne e]
 refine ⟨by rw [List.length_set]; exact h.len, ?_, ?_, fun k hk hk' hne => h.apart k (by simpa using hk) hk' (by rw [← hfk k hk (by simpa using hk)]; exact hne)⟩
 ·rw [List.length_set]
  have e : ((cs.zip fs).flatMap (fun x => encC x.1 x.2)).set (j * 10 + i) u = ((cs.set j c').zip fs).flatMap (fun x => encC x.1 x.2) := by
   rw [zip_set cs fs j hj' c']
   have hz : j < (cs.zip fs).length := by rw [List.length_zip, h.len, Nat.min_self]; exact hj
   refine flat_set (fun x : Ctl × Value => encC x.1 x.2) 10 encC_len (cs.zip fs) j hz i hi u (c', fs[j]) ?_
   rw [List.getElem_zip]
   exact he fs[j]
  rw [← e]
  exact hs
 ·intro k hk hk'
  have hk2 : k < cs.length := by simpa using hk
  rw [hfk k hk hk2]
  exact ents_set (h.files k hk2 hk') (fun hne e => h.apart k hk2 hk' hne g e rfl)

theorem infoC : (Tryz.prog.info? 35).map (fun i => (i.zero, i.size, i.bytes)) = some (some (.agg #[.string ⟨#[]⟩, .bool false, .bool false, .bool false, .bool false, .bool false, .bool false, .bool false, .string ⟨#[]⟩, .slice none 0 0]), 10, 64) := by kernel_rfl
theorem ctls_row {w : World} {v : Value} {cs : List Ctl} (h : CtlsAt w v cs) : ∃ fs : List Value, fs.length = cs.length ∧ RowAt w v cs.length ((cs.zip fs).flatMap (fun x => encC x.1 x.2)) ∧ ∀ j (a : j < cs.length) (b : j < fs.length), EntsAt w fs[j] cs[j].files := by
 rcases h with ⟨rfl, oa, cap, rfl⟩ | ⟨b, off, cap, rfl, h0, hl, hc⟩
 ·exact ⟨[], rfl, .inl ⟨rfl, rfl, oa, cap, rfl⟩, fun j a => absurd a (Nat.not_lt_zero _)⟩
 ·have key : ∀ (l : List Ctl) (o : Nat), (∀ j (h : j < l.length), ∃ f, CtlAt w b (o + j * 10) l[j] f) → ∃ fs : List Value, fs.length = l.length ∧ (∀ j u, ((l.zip fs).flatMap (fun x => encC x.1 x.2))[j]? = some u → w.cell? ⟨b, o + j, none⟩ = some u) ∧ ∀ j (a : j < l.length) (b : j < fs.length), EntsAt w fs[j] l[j].files := by
   intro l
   induction l with
   | nil => intro o _; exact ⟨[], rfl, fun j u h => by simp at h, fun j a => absurd a (Nat.not_lt_zero _)⟩
   | cons x r ih =>
    intro o h
    obtain ⟨f, hf⟩ := h 0 (by simp)
    obtain ⟨fs, h1, h2, h3⟩ := ih (o + 10) (fun j hj => by
     have := h (j + 1) (by simpa using hj)
     rw [show o + 10 + j * 10 = o + (j + 1) * 10 from by omega]
     exact this)
    refine ⟨f :: fs, by rw [List.length_cons, h1]; rfl, fun j u hu => ?_, fun j a c => ?_⟩
    ·rw [List.zip_cons_cons, List.flatMap_cons] at hu
     by_cases g : j < 10
     ·rw [List.getElem?_append_left (by exact g)] at hu
      have := hf.cells j u hu
      simpa using this
     ·rw [List.getElem?_append_right (by exact Nat.le_of_not_lt g)] at hu
      have := h2 (j - 10) u hu
      rw [show o + 10 + (j - 10) = o + j from by omega] at this
      exact this
    ·cases j with
     | zero => exact hf.files
     | succ j => exact h3 j (by simpa using a) (by simpa using c)
  obtain ⟨fs, h1, h2, h3⟩ := key cs off hc
  exact ⟨fs, h1, .inr ⟨b, off, cap, rfl, h0, hl, h2⟩, h3⟩
theorem encC_one {l : List (Ctl × Value)} (h : ∀ x ∈ l, x.2.oneCell' = true) : ∀ u ∈ l.flatMap (fun x => encC x.1 x.2), u.oneCell' = true := by
 intro u hu
 obtain ⟨x, hx, hu⟩ := List.mem_flatMap.1 hu
 simp only [encC, List.mem_cons, List.not_mem_nil, or_false] at hu
 rcases hu with rfl | rfl | rfl | rfl | rfl | rfl | rfl | rfl | rfl | rfl
 all_goals first | rfl | exact h x hx
theorem flatC_len (l : List (Ctl × Value)) : (l.flatMap (fun x => encC x.1 x.2)).length = l.length * 10 := by
 induction l with
 | nil => rfl
 | cons x r ih => rw [List.flatMap_cons, List.length_append, ih, List.length_cons, show (encC x.1 x.2).length = 10 from rfl]; omega
theorem slice_one {v : Value} (h : ∃ a n c, v = .slice a n c) : v.oneCell' = true := by obtain ⟨a, n, c, rfl⟩ := h; rfl
theorem zip_one {w : World} {cs : List Ctl} {fs : List Value} (hl : fs.length = cs.length) (h : ∀ j (a : j < cs.length) (b : j < fs.length), EntsAt w fs[j] cs[j].files) : ∀ x ∈ cs.zip fs, x.2.oneCell' = true := by
 intro x hx
 obtain ⟨j, hj, rfl⟩ := List.getElem_of_mem hx
 have hj2 : j < fs.length := by simp at hj; omega
 rw [List.getElem_zip]
 exact slice_one (h j (by omega) hj2).isSl
theorem ents_low {w : World} {f : Value} {fs : List Ent} (h : EntsAt w f fs) (hn : fs ≠ []) : ∀ k, f.ownBlock = some k → k < w.heap.size := by
 intro k e
 rcases h with ⟨h0, _⟩ | ⟨b, off, cap, rfl, _, hb, _⟩
 ·exact absurd (List.length_eq_zero_iff.1 h0) hn
 ·have : b = k := by simpa [Value.ownBlock] using e
  omega
theorem wpList_append_run {P : Program} {w : World} {ops : Array Oper} {rest : List Oper} {o : Oper} {a : Act} {Q : Exit → Act → World → Prop} (hg : o.guard = none) (s x : Operand) (t : TypeId)
  (hop : o.op = Op.call { callee := Callee.builtin Builtin.append, args := #[s, x], argTypes := #[t, t] }) (u v v' : Value) (w' : World) (hs : a.eval s = u) (hx : a.eval x = v) (hrun : (Builtin.append_ #[t, t] o.type #[u, v]).run P w = .ok v' w')
  (hK : wpList P ops Q rest (a.put o.dst v') w') : wpList P ops Q (o :: rest) a w := by
 refine wpList_plain hg fun K hK' => ?_
 unfold Oper.wp
 simp [execOp, hop, resolve, invoke, builtin, hs, hx, hrun, Result.andThen]
 exact hK' _ _ hK

theorem rcopiedC_from (v : Value) (cs : List Ctl) (hl : cs.length * 64 ≤ 140737488355328) (w0 w : World) (hb0 : Below w0.heap.size w0 w) (hA0 : CtlsAt w0 v cs) :
  Calls Tryz.prog 45 #[v] w fun e w' => ∃ v' fs, e = .returned v' ∧ OwnC w' w.heap.size v' cs fs ∧ Below w.heap.size w w' ∧ ∀ j (a : j < cs.length) (b : j < fs.length), EntsAt w0 fs[j] cs[j].files := by
 obtain ⟨ic, hic, hzc, hzc1, hzc2⟩ := info_parts infoC
 obtain ⟨fs, hfl, hrow0, hfs0⟩ := ctls_row hA0
 have hrow := RowAt.below hrow0 hb0 (Nat.le_refl _)
 have hfs : ∀ j (a : j < cs.length) (b : j < fs.length), EntsAt w fs[j] cs[j].files := fun j a b => (hfs0 j a b).below hb0
 have HF := Lib.hid hfs
 have HF0 := Lib.hid hfs0
 have hzl : (cs.zip fs).length = cs.length := by rw [List.length_zip, hfl, Nat.min_self]
 obtain ⟨v', w', hrun, hown, hgr⟩ := run_append_nil (P := Tryz.prog) (w := w) 26 26 35 ic _ 10 64 Tryz.underlying26 hic hzc hzc1 hzc2 rfl (by decide) v cs.length _ hrow (by rw [flatC_len, hzl]) (encC_one (zip_one hfl hfs)) (by unfold maxLen; omega) hl
 have hb : Below w.heap.size w w' := below_grown_by (Below.refl _ w) hgr
 have HO : Hid (OwnC w' w.heap.size v' cs fs) := Lib.hid ⟨hfl, hown, fun j a b => (hfs j a b).below hb, fun j a b hne k e e' => by
  have h1 := ents_low (hfs j a b) hne k e
  have h2 := (hown.lt k e').1
  omega⟩
 obtain ⟨a0, c0, rfl⟩ := CtlsAt.lenN hA0
 obtain ⟨a1, c1, rfl⟩ := RowAt.lenN (RowAt.of_owns hown)
 clear hA0 hrow0 hrow hfs hfs0 HF hown hgr
 go_enter Tryz.func45, Tryz.ntmps45
 go_wp2_with (at_builtin; refine wpList_append_run rfl _ _ 26 rfl _ _ _ _ rfl rfl hrun ?_)
 go_ret
 exact ⟨_, fs, rfl, HO.out, hb, HF0.out⟩
end Go.Proofs.YtkhlfggnjcbniaaGreatDoor.doc
