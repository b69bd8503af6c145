/- States in memory: a row of controls; a row of the call's own; a store into a field. The contract of the reference's Copied of states. The contract of slices.Clone at states. The contract of option.copied. The contract of group.copied. -/
import Derived.BigQuiet
import Derived.ChangeAlike
import Derived.Deep.AppendLies
import Derived.Deep.CutBlock
import Derived.Deep.DeepCutAuto
import Derived.Deep.MidRow
import Derived.Deep.RegionHeld
import Derived.Deep.RegionHeld3
import Derived.Deep.RegionLaw
import Derived.Deep.RegionLawGrows
import Derived.Deep.SlicePairs
import Derived.Deep.Slices
import Derived.Laws.BytesArg
import Derived.Laws.IdiomStrings
import Derived.Laws.OwnMore
import Derived.Lib.Hide
import Derived.Lib.IndexBytes
import Derived.Lib.IndexMore
import Derived.Lib.ItoaMem
import Derived.Lib.ItoaNum
import Derived.Lib.Replace
import Derived.Lib.SlTrimSet
import Derived.Lib.SliceRun
import Derived.Lib.Strings
import Derived.OneCell
import Derived.OpenShut
import Derived.ProofKit
import Derived.RangeFuncBox
import Derived.RegionTactic
import Derived.Shelf.SlicesQ.IndexFunc
import Derived.WalkKit
import Derived.WalkSmall
import Derived.WalkSpells
import Derived.WideKeyArgs
import Derived.Test.YtkhgfngppcemlaaGreatDoorRows
import Derived.Test.YtkhgfngppcemlaaGreatDoorShelf
import Derived.Test.YtkhgfngppcemlaaGreatDoorP0
import Derived.Test.YtkhgfngppcemlaaGreatDoorP1
import Derived.Test.YtkhgfngppcemlaaGreatDoorP3
import Derived.Test.YtkhgfngppcemlaaGreatDoorP6
import Derived.Test.YtkhgfngppcemlaaGreatDoorP7
import Derived.Test.YtkhgfngppcemlaaGreatDoorP8
import Derived.Test.YtkhgfngppcemlaaGreatDoorP9
import Derived.Test.YtkhgfngppcemlaaGreatDoorP10
import Derived.Test.YtkhgfngppcemlaaGreatDoorP11
import Derived.Test.YtkhgfngppcemlaaGreatDoorP12
import Derived.Test.YtkhgfngppcemlaaGreatDoorP13
import Derived.Test.YtkhgfngppcemlaaGreatDoorP14
import Derived.Test.YtkhgfngppcemlaaGreatDoorP15
import Derived.Test.YtkhgfngppcemlaaGreatDoorP16
import Derived.Test.YtkhgfngppcemlaaGreatDoorP17
import Derived.Test.YtkhgfngppcemlaaGreatDoorP18
import Derived.Test.YtkhgfngppcemlaaGreatDoorP19
import Derived.Test.YtkhgfngppcemlaaGreatDoorP20
import Derived.Test.YtkhgfngppcemlaaGreatDoorP21
import Derived.Test.YtkhgfngppcemlaaGreatDoorP22
namespace Go.Proofs.YtkhgfngppcemlaaGreatDoor.doc
open Go.ChangeShapes Go.WideShapes Go.ChangeAt Go.RowKit Go.Lib Go.Proofs.YtkhgfngppcemlaaGreatDoor.atr Go.Proofs.YtkhgfngppcemlaaGreatDoor.link Go.Proofs.YtkhgfngppcemlaaGreatDoor.ctl

def encC (c : Ctl) (f : Value) : List Value := [.string ⟨c.value.toArray⟩, .bool c.dirty, .bool c.typed, .bool c.checked, .bool c.dchecked, .bool c.mixed, .bool c.selected, .bool c.dselected, .string ⟨c.custom.toArray⟩, f]
theorem encC_len (x : Ctl × Value) : (encC x.1 x.2).length = 10 := rfl
/-- one control -/
structure CtlAt (w : World) (b o : Nat) (c : Ctl) (f : Value) : Prop where
  cells : ∀ i u, (encC c f)[i]? = some u → w.cell? ⟨b, o + i, none⟩ = some u
  files : EntsAt w f c.files
theorem CtlAt.below {w w' : World} {b o : Nat} {c : Ctl} {f : Value} (h : CtlAt w b o c f) (hb : Below w.heap.size w w') : CtlAt w' b o c f :=
  ⟨fun i u hu => cell_below hb (h.cells i u hu), h.files.below hb⟩
def CtlsAt (w : World) (v : Value) (cs : List Ctl) : Prop :=
  (cs = [] ∧ ∃ oa cap, v = .slice oa 0 cap) ∨ ∃ b off cap, v = .slice (some ⟨b, off, none⟩) cs.length cap ∧ 0 < cs.length ∧ b < w.heap.size ∧ ∀ j (h : j < cs.length), ∃ f, CtlAt w b (off + j * 10) cs[j] f
theorem CtlsAt.below {w w' : World} {v : Value} {cs : List Ctl} (h : CtlsAt w v cs) (hb : Below w.heap.size w w') : CtlsAt w' v cs := by
  rcases h with h | ⟨b, off, cap, e, h0, hl, hc⟩
  · exact .inl h
  · refine .inr ⟨b, off, cap, e, h0, Nat.lt_of_lt_of_le hl hb.size, fun j hj => ?_⟩
    obtain ⟨f, hf⟩ := hc j hj
    exact ⟨f, hf.below hb⟩
theorem CtlsAt.lenN {w : World} {v : Value} {cs : List Ctl} (h : CtlsAt w v cs) : ∃ oa cap, v = .slice oa cs.length cap := by
  rcases h with ⟨rfl, oa, cap, e⟩ | ⟨b, off, cap, e, _⟩
  · exact ⟨oa, cap, e⟩
  · exact ⟨_, cap, e⟩
theorem ctls_get {w : World} {v : Value} {cs : List Ctl} (h : CtlsAt w v cs) (j : Nat) (hj : j < cs.length) : ∃ b off cap f, v = .slice (some ⟨b, off, none⟩) cs.length cap ∧ b < w.heap.size ∧ CtlAt w b (off + j * 10) cs[j] f := by
  rcases h with ⟨rfl, _⟩ | ⟨b, off, cap, e, _, hl, hc⟩
  · exact absurd hj (Nat.not_lt_zero _)
  · obtain ⟨f, hf⟩ := hc j hj
    exact ⟨b, off, cap, f, e, hl, hf⟩
/-- a state of the call's own: the files' slices lie elsewhere -/
structure OwnC (w : World) (B : Nat) (v : Value) (cs : List Ctl) (fs : List Value) : Prop where
  len : fs.length = cs.length
  row : w.ownsRow B 105 10 v cs.length ((cs.zip fs).flatMap (fun x => encC x.1 x.2))
  files : ∀ j (h : j < cs.length) (h' : j < fs.length), EntsAt w fs[j] cs[j].files
  apart : ∀ j (h : j < cs.length) (h' : j < fs.length), cs[j].files ≠ [] → Apart fs[j] v
theorem OwnC.below {w w' : World} {B : Nat} {v : Value} {cs : List Ctl} {fs : List Value} (h : OwnC w B v cs fs) (hb : Below w.heap.size w w') : OwnC w' B v cs fs :=
  ⟨h.len, ownsRow_below h.row hb, fun j a b => (h.files j a b).below hb, h.apart⟩
theorem OwnC.at {w : World} {B : Nat} {v : Value} {cs : List Ctl} {fs : List Value} (h : OwnC w B v cs fs) : CtlsAt w v cs := by
  rcases RowAt.of_owns h.row with ⟨h0, _, oa, cap, rfl⟩ | ⟨b, off, cap, rfl, h0, hb, hc⟩
  · exact .inl ⟨List.length_eq_zero_iff.1 h0, oa, cap, rfl⟩
  · refine .inr ⟨b, off, cap, rfl, h0, hb, fun j hj => ?_⟩
    have hj' : j < fs.length := by rw [h.len]; exact hj
    have hz : j < (cs.zip fs).length := by rw [List.length_zip, h.len, Nat.min_self]; exact hj
    have ez : (cs.zip fs)[j] = (cs[j], fs[j]) := List.getElem_zip
    refine ⟨fs[j], fun i u hu => ?_, h.files j hj hj'⟩
    have hi : i < 10 := by
      rcases Nat.lt_or_ge i 10 with h | h
      · exact h
      · rw [List.getElem?_eq_none (by exact h)] at hu; cases hu
    have := flat_at (fun x : Ctl × Value => encC x.1 x.2) 10 encC_len (cs.zip fs) j hz i hi
    rw [ez] at this
    rw [Nat.add_assoc]
    exact hc _ _ (this.trans hu)
theorem flat_set {α : Type} (enc : α → List Value) (n : Nat) (hl : ∀ x, (enc x).length = n) : ∀ (L : List α) (j : Nat) (hj : j < L.length) (i : Nat), i < n → ∀ (u : Value) (x' : α), (enc L[j]).set i u = enc x' → (L.flatMap enc).set (j * n + i) u = (L.set j x').flatMap enc := by
  intro L
  induction L with
  | nil => intro j hj; exact absurd hj (Nat.not_lt_zero _)
  | cons x r ih =>
    intro j hj i hi u x' he
    cases j with
    | zero =>
      rw [Nat.zero_mul, Nat.zero_add, List.flatMap_cons, List.set_append_left _ _ (by rw [hl]; exact hi)]
      rw [List.getElem_cons_zero] at he
      rw [he]; rfl
    | succ j =>
      rw [List.flatMap_cons, List.set_append_right _ _ (by rw [hl, Nat.succ_mul]; omega), hl, show (j + 1) * n + i - n = j * n + i from by rw [Nat.succ_mul]; omega]
      rw [List.getElem_cons_succ] at he
      rw [ih j (by simpa using hj) i hi u x' he, List.set_cons_succ, List.flatMap_cons]
theorem zip_set {α β : Type} (a : List α) (b : List β) (j : Nat) (h : j < b.length) (x : α) : (a.set j x).zip b = (a.zip b).set j (x, b[j]) := by
  apply List.ext_getElem
  · simp
  · intro k h1 h2
    rw [List.getElem_zip, List.getElem_set, List.getElem_set]
    by_cases e : j = k
    · subst e; simp
    · simp [e]
theorem ents_set {w : World} {f : Value} {es : List Ent} (h : EntsAt w f es) {g o : Nat} {u : Value} (hne : es ≠ [] → f.ownBlock ≠ some g) : EntsAt (w.setCell ⟨g, o, none⟩ u) f es := by
  by_cases e : es = []
  · subst e
    rcases h with h | ⟨b, off, cap, rfl, h0, _⟩
    · exact .inl h
    · exact absurd h0 (Nat.lt_irrefl _)
  · exact RowAt.setCell h _ _ (hne e)
/-- a store into field i of control j -/
theorem OwnC.set {w : World} {B g cap n : Nat} {cs : List Ctl} {fs : List Value} (h : OwnC w B (.slice (some ⟨g, 0, none⟩) n cap) cs fs) (hn : n = cs.length) (j : Nat) (hj : j < cs.length) (i : Nat) (hi : i < 10) (u : Value) (c' : Ctl) (hfl : c'.files = cs[j].files)
    (he : ∀ f, (encC cs[j] f).set i u = encC c' f) : OwnC (w.setCell ⟨g, j * 10 + i, none⟩ u) B (.slice (some ⟨g, 0, none⟩) n cap) (cs.set j c') fs := by
  subst hn
  obtain ⟨hs, hgr⟩ := World.ownsRow.stored (w := w) h.row (j * 10 + i) u
  have hj' : j < fs.length := by rw [h.len]; exact hj
  have hfk : ∀ k (hk : k < (cs.set j c').length) (hk2 : k < cs.length), (cs.set j c')[k].files = cs[k].files := by
    intro k hk hk2
    by_cases e : j = k
    · subst e; rw [List.getElem_set_self, hfl]
    · rw [List.getElem_set_ne e]
  refine ⟨by rw [List.length_set]; exact h.len, ?_, ?_, fun k hk hk' hne => h.apart k (by simpa using hk) hk' (by rw [← hfk k hk (by simpa using hk)]; exact hne)⟩
  · rw [List.length_set]
    have e : ((cs.zip fs).flatMap (fun x => encC x.1 x.2)).set (j * 10 + i) u = ((cs.set j c').zip fs).flatMap (fun x => encC x.1 x.2) := by
      rw [zip_set cs fs j hj' c']
      have hz : j < (cs.zip fs).length := by rw [List.length_zip, h.len, Nat.min_self]; exact hj
      refine flat_set (fun x : Ctl × Value => encC x.1 x.2) 10 encC_len (cs.zip fs) j hz i hi u (c', fs[j]) ?_
      rw [List.getElem_zip]
      exact he fs[j]
    rw [← e]
    exact hs
  · intro k hk hk'
    have hk2 : k < cs.length := by simpa using hk
    rw [hfk k hk hk2]
    exact ents_set (h.files k hk2 hk') (fun hne e => h.apart k hk2 hk' hne g e rfl)
end Go.Proofs.YtkhgfngppcemlaaGreatDoor.doc
namespace Go.Proofs.YtkhgfngppcemlaaGreatDoor.doc
open Go.ChangeShapes Go.WideShapes Go.ChangeAt Go.RowKit Go.Lib Go.Proofs.YtkhgfngppcemlaaGreatDoor.atr Go.Proofs.YtkhgfngppcemlaaGreatDoor.link Go.Proofs.YtkhgfngppcemlaaGreatDoor.ctl

theorem infoC : (Tryz.prog.info? 105).map (fun i => (i.zero, i.size, i.bytes)) = some (some (.agg #[.string ⟨#[]⟩, .bool false, .bool false, .bool false, .bool false, .bool false, .bool false, .bool false, .string ⟨#[]⟩, .slice none 0 0]), 10, 64) := by kernel_rfl
/-- the files' slices of a state in memory -/
theorem ctls_row {w : World} {v : Value} {cs : List Ctl} (h : CtlsAt w v cs) : ∃ fs : List Value, fs.length = cs.length ∧ RowAt w v cs.length ((cs.zip fs).flatMap (fun x => encC x.1 x.2)) ∧ ∀ j (a : j < cs.length) (b : j < fs.length), EntsAt w fs[j] cs[j].files := by
  rcases h with ⟨rfl, oa, cap, rfl⟩ | ⟨b, off, cap, rfl, h0, hl, hc⟩
  · exact ⟨[], rfl, .inl ⟨rfl, rfl, oa, cap, rfl⟩, fun j a => absurd a (Nat.not_lt_zero _)⟩
  · have key : ∀ (l : List Ctl) (o : Nat), (∀ j (h : j < l.length), ∃ f, CtlAt w b (o + j * 10) l[j] f) → ∃ fs : List Value, fs.length = l.length ∧ (∀ j u, ((l.zip fs).flatMap (fun x => encC x.1 x.2))[j]? = some u → w.cell? ⟨b, o + j, none⟩ = some u) ∧ ∀ j (a : j < l.length) (b : j < fs.length), EntsAt w fs[j] l[j].files := by
      intro l
      induction l with
      | nil => intro o _; exact ⟨[], rfl, fun j u h => by simp at h, fun j a => absurd a (Nat.not_lt_zero _)⟩
      | cons x r ih =>
        intro o h
        obtain ⟨f, hf⟩ := h 0 (by simp)
        obtain ⟨fs, h1, h2, h3⟩ := ih (o + 10) (fun j hj => by
          have := h (j + 1) (by simpa using hj)
          rw [show o + 10 + j * 10 = o + (j + 1) * 10 from by omega]
          exact this)
        refine ⟨f :: fs, by rw [List.length_cons, h1]; rfl, fun j u hu => ?_, fun j a c => ?_⟩
        · rw [List.zip_cons_cons, List.flatMap_cons] at hu
          by_cases g : j < 10
          · rw [List.getElem?_append_left (by exact g)] at hu
            have := hf.cells j u hu
            simpa using this
          · rw [List.getElem?_append_right (by exact Nat.le_of_not_lt g)] at hu
            have := h2 (j - 10) u hu
            rw [show o + 10 + (j - 10) = o + j from by omega] at this
            exact this
        · cases j with
          | zero => exact hf.files
          | succ j => exact h3 j (by simpa using a) (by simpa using c)
    obtain ⟨fs, h1, h2, h3⟩ := key cs off hc
    exact ⟨fs, h1, .inr ⟨b, off, cap, rfl, h0, hl, h2⟩, h3⟩
theorem encC_one {l : List (Ctl × Value)} (h : ∀ x ∈ l, x.2.oneCell' = true) : ∀ u ∈ l.flatMap (fun x => encC x.1 x.2), u.oneCell' = true := by
  intro u hu
  obtain ⟨x, hx, hu⟩ := List.mem_flatMap.1 hu
  simp only [encC, List.mem_cons, List.not_mem_nil, or_false] at hu
  rcases hu with rfl | rfl | rfl | rfl | rfl | rfl | rfl | rfl | rfl | rfl
  all_goals first | rfl | exact h x hx
theorem flatC_len (l : List (Ctl × Value)) : (l.flatMap (fun x => encC x.1 x.2)).length = l.length * 10 := by
  induction l with
  | nil => rfl
  | cons x r ih => rw [List.flatMap_cons, List.length_append, ih, List.length_cons, show (encC x.1 x.2).length = 10 from rfl]; omega
theorem slice_one {v : Value} (h : ∃ a n c, v = .slice a n c) : v.oneCell' = true := by obtain ⟨a, n, c, rfl⟩ := h; rfl
theorem zip_one {w : World} {cs : List Ctl} {fs : List Value} (hl : fs.length = cs.length) (h : ∀ j (a : j < cs.length) (b : j < fs.length), EntsAt w fs[j] cs[j].files) : ∀ x ∈ cs.zip fs, x.2.oneCell' = true := by
  intro x hx
  obtain ⟨j, hj, rfl⟩ := List.getElem_of_mem hx
  have hj2 : j < fs.length := by simp at hj; omega
  rw [List.getElem_zip]
  exact slice_one (h j (by omega) hj2).isSl
theorem ents_low {w : World} {f : Value} {fs : List Ent} (h : EntsAt w f fs) (hn : fs ≠ []) : ∀ k, f.ownBlock = some k → k < w.heap.size := by
  intro k e
  rcases h with ⟨h0, _⟩ | ⟨b, off, cap, rfl, _, hb, _⟩
  · exact absurd (List.length_eq_zero_iff.1 h0) hn
  · have : b = k := by simpa [Value.ownBlock] using e
    omega
end Go.Proofs.YtkhgfngppcemlaaGreatDoor.doc
namespace Go.Proofs.YtkhgfngppcemlaaGreatDoor.doc
open Go.ChangeShapes Go.WideShapes Go.ChangeAt Go.RowKit Go.Lib Go.Proofs.YtkhgfngppcemlaaGreatDoor.atr Go.Proofs.YtkhgfngppcemlaaGreatDoor.link Go.Proofs.YtkhgfngppcemlaaGreatDoor.ctl

set_option maxHeartbeats 2000000 in
set_option maxRecDepth 100000 in
theorem clone_row (v : Value) (n : Nat) (xs : List Value) (hx : xs.length = n * 10) (h1 : ∀ u ∈ xs, u.oneCell' = true) (hbig : n * 64 ≤ 140737488355328) (w : World) (hR : RowAt w v n xs) :
    Calls Tryz.prog 118 #[v] w (RetRow w.heap.size 105 10 n xs w) := by
  obtain ⟨i0, hi, hz0, hz1, hz2⟩ := info_parts infoC
  have q22 : ∀ (w : World) (a : Option Addr) (n c n' c' : Nat), (binOp .eql 66 (.slice a n c) (.slice none n' c')).run Tryz.prog w = .ok (.bool a.isNone) w := fun w a n c n' c' => Lib.run_eql_slice_nil w _ _ a n c n' c' Tryz.underlying66
  have key : ∀ (a : Addr) (c : Nat), n ≤ maxLen → (∀ j u, xs[j]? = some u → w.cell? (a.add j) = some u) → Calls Tryz.prog 118 #[.slice (some a) n c] w (RetRow w.heap.size 105 10 n xs w) := by
    intro a c hn hc
    have A : Aside (∀ j u, xs[j]? = some u → w.cell? (a.add j) = some u) := hc
    clear hc
    go_enter Tryz.func118, Tryz.ntmps118
    go_wp2_with (at_builtin; refine wpList_append_own _ rfl _ _ 66 rfl w.heap.size 105 i0 _ 10 64 Tryz.underlying66 hi hz0 hz1 hz2 rfl (by decide) _ _ _ rfl (World.ownsRow_made w #[] 0 (Nat.le_refl _) (Nat.zero_le _) rfl) a n c xs rfl ?qc1 ?qc2 ?qc3 ?qc4 ?qc5 ?qc6 ?_)
    case qc1 => exact hx
    case qc2 =>
      intro j u hj
      exact Lib.cell?_alloc_some _ (A.out j u hj)
    case qc3 => exact h1
    case qc4 => omega
    case qc5 => omega
    case qc6 => simp
    intro v' w1 hown hgrow hnil
    go_wp2
    go_ret
    refine ⟨v', rfl, by simpa using hown, ?_⟩
    exact ((Below.refl _ w).alloc (Nat.le_refl _) _).grown hgrow (by simp) (by intro k hk; simp [Value.ownBlock] at hk; omega)
  rcases hR with ⟨rfl, rfl, oa, cap, rfl⟩ | ⟨b, off, cap, rfl, h0, hb, hc⟩
  · cases oa with
    | none =>
      clear key
      go_enter Tryz.func118, Tryz.ntmps118
      go_wp2
      go_ret
      exact ⟨_, rfl, World.ownsRow_nil _ _ _ _, Below.refl _ _⟩
    | some a => exact key a cap (Nat.zero_le _) (fun j u hj => by simp at hj)
  · exact key ⟨b, off, none⟩ cap (by unfold maxLen; omega) (fun j u hj => by rw [Lib.add_plain]; exact hc j u hj)
theorem clone_ctls (v : Value) (cs : List Ctl) (hl : cs.length * 64 ≤ 140737488355328) (w : World) (hA : CtlsAt w v cs) :
    Calls Tryz.prog 118 #[v] w fun e w' => ∃ v' fs, e = .returned v' ∧ OwnC w' w.heap.size v' cs fs ∧ Below w.heap.size w w' := by
  obtain ⟨fs, hfl, hrow, hfs⟩ := ctls_row hA
  have hzl : (cs.zip fs).length = cs.length := by rw [List.length_zip, hfl, Nat.min_self]
  refine (clone_row v cs.length _ (by rw [flatC_len, hzl]) (encC_one (zip_one hfl hfs)) hl w hrow).mono ?_
  rintro e w' ⟨v', rfl, hown, hb⟩
  exact ⟨v', fs, rfl, ⟨hfl, hown, fun j a b => (hfs j a b).below hb, fun j a b hne k e e' => by
    have h1 := ents_low (hfs j a b) hne k e
    have h2 := (hown.lt k e').1
    omega⟩, hb⟩
end Go.Proofs.YtkhgfngppcemlaaGreatDoor.doc
namespace Go.Proofs.YtkhgfngppcemlaaGreatDoor.doc
open Go.ChangeShapes Go.WideShapes Go.ChangeAt Go.RowKit Go.Lib Go.Proofs.YtkhgfngppcemlaaGreatDoor.atr Go.Proofs.YtkhgfngppcemlaaGreatDoor.link Go.Proofs.YtkhgfngppcemlaaGreatDoor.ctl

/-- a store into the files of control j -/
theorem OwnC.setF {w : World} {B g cap n : Nat} {cs : List Ctl} {fs : List Value} (h : OwnC w B (.slice (some ⟨g, 0, none⟩) n cap) cs fs) (hn : n = cs.length) (j : Nat) (hj : j < cs.length) (f : Value) (hf : EntsAt w f cs[j].files) (ha : cs[j].files ≠ [] → f.ownBlock ≠ some g) :
    OwnC (w.setCell ⟨g, j * 10 + 9, none⟩ f) B (.slice (some ⟨g, 0, none⟩) n cap) cs (fs.set j f) := by
  subst hn
  obtain ⟨hs, hgr⟩ := World.ownsRow.stored (w := w) h.row (j * 10 + 9) f
  have hj' : j < fs.length := by rw [h.len]; exact hj
  have hz : j < (cs.zip fs).length := by rw [List.length_zip, h.len, Nat.min_self]; exact hj
  have ez : cs.zip (fs.set j f) = (cs.zip fs).set j (cs[j], f) := by
    apply List.ext_getElem
    · simp
    · intro k h1 h2
      rw [List.getElem_zip, List.getElem_set, List.getElem_set]
      by_cases e : j = k
      · subst e; simp
      · simp [e]
  refine ⟨by rw [List.length_set]; exact h.len, ?_, ?_, ?_⟩
  · rw [ez, ← flat_set (fun x : Ctl × Value => encC x.1 x.2) 10 encC_len (cs.zip fs) j hz 9 (by decide) f (cs[j], f) (by rw [List.getElem_zip]; rfl)]
    exact hs
  · intro k hk hk'
    by_cases e : j = k
    · subst e
      rw [List.getElem_set_self]
      exact ents_set hf ha
    · rw [List.getElem_set_ne e]
      exact ents_set (h.files k hk (by simpa using hk')) (fun hne e' => h.apart k hk (by simpa using hk') hne g e' rfl)
  · intro k hk hk' hne
    by_cases e : j = k
    · subst e
      rw [List.getElem_set_self]
      intro i e1 e2
      exact ha hne (by rw [e1]; exact e2.symm)
    · rw [List.getElem_set_ne e]
      exact h.apart k hk (by simpa using hk') hne

end Go.Proofs.YtkhgfngppcemlaaGreatDoor.doc
namespace Go.Proofs.YtkhgfngppcemlaaGreatDoor.doc
open Go.ChangeShapes Go.WideShapes Go.ChangeAt Go.RowKit Go.Lib Go.Proofs.YtkhgfngppcemlaaGreatDoor.atr Go.Proofs.YtkhgfngppcemlaaGreatDoor.link Go.Proofs.YtkhgfngppcemlaaGreatDoor.ctl

set_option maxHeartbeats 3200000 in
set_option maxRecDepth 100000 in
theorem gcopied_any (v : Value) (cs : List Ctl) (hl : cs.length * 64 ≤ 140737488355328) (hf : ∀ c ∈ cs, c.files.length * 72 ≤ 140737488355328) (w : World) (hA : CtlsAt w v cs) :
    Calls Tryz.prog 251 #[v] w fun e w' => ∃ v' fs, e = .returned v' ∧ OwnC w' w.heap.size v' cs fs ∧ Below w.heap.size w w' := by
  have hc := clone_ctls v cs hl w hA
  have HF := Lib.hid hf
  have HC := Lib.hid (fun f (es : List Ent) (hb : es.length * 72 ≤ 140737488355328) w h => clone_ents f es.length (es.flatMap encE) (flat_len encE 5 encE_len es) (encE_one es) hb w h)
  obtain ⟨a0, c0, rfl⟩ := CtlsAt.lenN hA
  obtain ⟨B, hB⟩ : ∃ B, B = w.heap.size := ⟨_, rfl⟩
  have HB := Lib.hid hB
  rw [← hB] at hc ⊢
  clear hA hf hB
  go_enter Tryz.func251, Tryz.ntmps251
  go_wp2_with fail
  refine hc.mono ?_
  rintro e w1 ⟨v3, fs1, rfl, ho1, hb1⟩
  clear hc
  have HO1 := Lib.hid ho1
  obtain ⟨a3, c3, rfl⟩ := CtlsAt.lenN ho1.at
  clear ho1
  go_wp2_with fail
  go_loopw [9] (fun s9 wr => ∃ (k : Nat) (fs : List Value), s9 = .int .i64 k ∧ k ≤ cs.length ∧ Hid (OwnC wr B (.slice a3 cs.length c3) cs fs) ∧ Below B w wr) (fun s9 _ => cs.length - (RowKit.intOf s9).toNat)
  case atStart => exact ⟨0, fs1, rfl, Nat.zero_le _, HO1, hb1⟩
  case round =>
    obtain ⟨k, fs, rfl, hk, ho, hbw⟩ := hrel
    by_cases hlt : k < cs.length
    case neg =>
      obtain rfl : k = cs.length := by omega
      go_wp2_with fail
      go_ret
      exact ⟨_, fs, rfl, ho.out, hbw⟩
    obtain ⟨g, off, cap, f, e, hg, hat⟩ := ctls_get ho.out.at k hlt
    have hoff : off = 0 := by
      rcases ho.out.row.2 with ⟨e1, _⟩ | ⟨g1, cp1, _, e1, _⟩
      · rw [e] at e1; cases e1
      · rw [e] at e1; cases e1; rfl
    subst hoff
    cases e
    have c9 : wr.cell? ⟨g, k * 10 + 9, none⟩ = some f := by have := hat.cells 9 f rfl; simpa using this
    have hBg : B ≤ g := (ho.out.row.lt g rfl).1
    have HFl := Lib.hid hat.files
    have hcl := HC.out f cs[k].files (HF.out _ (List.getElem_mem hlt)) wr hat.files
    obtain ⟨fa, fc, rfl⟩ := RowAt.lenN hat.files
    have hz9 := World.ownsRow.frozenAt ho.out.row (k * 10 + 9)
    clear hat
    go_wp2_with fail
    refine hcl.mono ?_
    rintro e w2 ⟨f2, rfl, hown2, hb2⟩
    have ho2 := ho.out.below hb2
    have hset := ho2.setF rfl k hlt f2 (RowAt.of_owns hown2) (fun _ e => by have := (hown2.lt g e).1; omega)
    have HS := Lib.hid hset
    have c92 := cell_below hb2 c9
    have hz92 := World.ownsRow.frozenAt ho2.row (k * 10 + 9)
    obtain ⟨fa2, fc2, rfl⟩ := RowAt.lenN (RowAt.of_owns hown2)
    have hbw2 := (hbw.trans (hb2.mono (by have := hbw.size; have := HB.out; omega))).setCell (p := ⟨g, k * 10 + 9, none⟩) hBg (.slice fa2 cs[k].files.length fc2)
    clear hset ho2 hown2 hcl ho hz9 c9
    go_wp2_with fail
    go_roundw
    case rel => exact ⟨k + 1, _, by go_num, by omega, HS, hbw2⟩
    case measure => simp [RowKit.intOf]; omega
end Go.Proofs.YtkhgfngppcemlaaGreatDoor.doc
