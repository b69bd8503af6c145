/- The contract of engine.New, of no draws. -/
import Derived.BigQuiet
import Derived.Carry
import Derived.ChangeAlike
import Derived.Deep.AppendLies
import Derived.Deep.CutBlock
import Derived.Deep.DeepCutAuto
import Derived.Deep.MidRow
import Derived.Deep.RegionHeld
import Derived.Deep.RegionHeld3
import Derived.Deep.RegionLaw
import Derived.Deep.RegionLawGrows
import Derived.Deep.SlicePairs
import Derived.Deep.Slices
import Derived.Laws.BytesArg
import Derived.Laws.IdiomStrings
import Derived.Laws.MakeOwn
import Derived.Laws.OwnMore
import Derived.Laws.Rows
import Derived.Lib.Hide
import Derived.Lib.IndexBytes
import Derived.Lib.IndexMore
import Derived.Lib.ItoaMem
import Derived.Lib.ItoaNum
import Derived.Lib.OwnKind
import Derived.Lib.Replace
import Derived.Lib.SlTrimSet
import Derived.Lib.SliceRun
import Derived.Lib.Strings
import Derived.OneCell
import Derived.OpenShut
import Derived.Orders
import Derived.ProofKit
import Derived.RangeFuncBox
import Derived.RegionTactic
import Derived.Shelf.SlicesQ.IndexFunc
import Derived.WalkKit
import Derived.WalkSmall
import Derived.WalkSpells
import Derived.WideKeyArgs
import Derived.Test.YtkhgfngppcemlaaGreatDoorRows
import Derived.Test.YtkhgfngppcemlaaGreatDoorShelf
import Derived.Test.YtkhgfngppcemlaaGreatDoorP0
import Derived.Test.YtkhgfngppcemlaaGreatDoorP1
import Derived.Test.YtkhgfngppcemlaaGreatDoorP3
import Derived.Test.YtkhgfngppcemlaaGreatDoorP5
import Derived.Test.YtkhgfngppcemlaaGreatDoorP6
import Derived.Test.YtkhgfngppcemlaaGreatDoorP7
import Derived.Test.YtkhgfngppcemlaaGreatDoorP8
import Derived.Test.YtkhgfngppcemlaaGreatDoorP9
import Derived.Test.YtkhgfngppcemlaaGreatDoorP10
import Derived.Test.YtkhgfngppcemlaaGreatDoorP11
import Derived.Test.YtkhgfngppcemlaaGreatDoorP12
import Derived.Test.YtkhgfngppcemlaaGreatDoorP13
import Derived.Test.YtkhgfngppcemlaaGreatDoorP14
import Derived.Test.YtkhgfngppcemlaaGreatDoorP15
import Derived.Test.YtkhgfngppcemlaaGreatDoorP16
import Derived.Test.YtkhgfngppcemlaaGreatDoorP17
import Derived.Test.YtkhgfngppcemlaaGreatDoorP18
import Derived.Test.YtkhgfngppcemlaaGreatDoorP19
import Derived.Test.YtkhgfngppcemlaaGreatDoorP20
import Derived.Test.YtkhgfngppcemlaaGreatDoorP21
import Derived.Test.YtkhgfngppcemlaaGreatDoorP22
import Derived.Test.YtkhgfngppcemlaaGreatDoorP23
import Derived.Test.YtkhgfngppcemlaaGreatDoorP24
namespace Go.Proofs.YtkhgfngppcemlaaGreatDoor.scr
open Go Go.RowKit Go.ChangeShapes Go.WideShapes Go.ChangeAt Go.Lib Go.Proofs.YtkhgfngppcemlaaGreatDoor.doc Go.Proofs.YtkhgfngppcemlaaGreatDoor.atr Go.Proofs.YtkhgfngppcemlaaGreatDoor.ctl

set_option maxRecDepth 100000 in
theorem clone_str (w : World) : Calls Tryz.prog 81 #[.slice none 0 0] w fun e w' => e = .returned (.slice none 0 0) ∧ w = w' := by
  have q22 : ∀ (w : World) (a : Option Addr) (n c n' c' : Nat), (binOp .eql 35 (.slice a n c) (.slice none n' c')).run Tryz.prog w = .ok (.bool a.isNone) w := fun w a n c n' c' => Lib.run_eql_slice_nil w _ _ a n c n' c' Tryz.underlying35
  go_enter Tryz.func81, Tryz.ntmps81
  go_wp2
  go_ret
  exact ⟨rfl, rfl⟩
def htC : Array Value := #[.string ⟨#[104, 116, 109, 108]⟩, .string ⟨#[]⟩, .slice none 0 0, .int .i64 (-1), .slice none 0 0]
def NB (H : Nat) (v : Value) (w : World) : Prop := ∃ b, v = .slice (some ⟨b, 0, none⟩) 1 1 ∧ H ≤ b ∧ w.heap[b]? = some (.cells htC 84 (0, 0))
def NC (H : Nat) (v : Value) (w : World) : Prop := ∃ b, v = .slice (some ⟨b, 0, none⟩) 1 1 ∧ H ≤ b ∧ w.heap[b]? = some (.cells (encC ctl0 (.slice none 0 0)).toArray 105 (0, 0))
def NE (H : Nat) (v : Value) (w : World) : Prop := ∃ b vn vc x0 x1 x2 x5 x6 x7 x8 x9 x10 x11, v = .pointer (some ⟨b, 0, none⟩) ∧ H ≤ b ∧ NB H vn w ∧ NC H vc w ∧ w.heap[b]? = some (.cells #[x0, x1, x2, vn, vc, x5, x6, x7, x8, x9, x10, x11] 92 (0, 0))
theorem NB.below {H : Nat} {v : Value} {w w' : World} (h : NB H v w) (hb : Below w.heap.size w w') : NB H v w' := by
  obtain ⟨b, e, h1, h2⟩ := h
  exact ⟨b, e, h1, (hb.block b (lt_of_blk h2)).trans h2⟩
theorem NC.below {H : Nat} {v : Value} {w w' : World} (h : NC H v w) (hb : Below w.heap.size w w') : NC H v w' := by
  obtain ⟨b, e, h1, h2⟩ := h
  exact ⟨b, e, h1, (hb.block b (lt_of_blk h2)).trans h2⟩
theorem NE.below {H : Nat} {v : Value} {w w' : World} (h : NE H v w) (hb : Below w.heap.size w w') : NE H v w' := by
  obtain ⟨b, vn, vc, x0, x1, x2, x5, x6, x7, x8, x9, x10, x11, e, h1, h2, h3, h4⟩ := h
  exact ⟨b, vn, vc, x0, x1, x2, x5, x6, x7, x8, x9, x10, x11, e, h1, h2.below hb, h3.below hb, (hb.block b (lt_of_blk h4)).trans h4⟩
/-- what holds of a slot once its operation has been done -/
def NF (H : Nat) (i : Nat) (v : Value) (w : World) : Prop :=
  match i with
  | 0 => v = .agg htC
  | 1 => NB H v w
  | 2 => NC H v w
  | 3 => ∃ x y, v = .agg #[x, y] ∧ NB H x w ∧ NC H y w
  | 4 => v = .slice none 0 0
  | 5 => v = .slice none 0 0
  | 6 => ∃ m, v = .map m
  | 7 => ∃ m, v = .map m
  | 8 => ∃ m, v = .map m
  | 9 => ∃ m1 m2 m3, v = .agg #[.map m1, .map m2, .map m3]
  | 10 => ∃ vn vc x0 x1 x2 x5 x6 x7 x8 x9 x10 x11, v = .agg #[x0, x1, x2, vn, vc, x5, x6, x7, x8, x9, x10, x11] ∧ NB H vn w ∧ NC H vc w
  | _ => NE H v w
theorem NF.below {H i : Nat} {v : Value} {w w' : World} (h : NF H i v w) (hb : Below w.heap.size w w') : NF H i v w' := by
  unfold NF at *
  split at h
  · exact h
  · exact h.below hb
  · exact h.below hb
  · obtain ⟨x, y, e, h1, h2⟩ := h
    exact ⟨x, y, e, h1.below hb, h2.below hb⟩
  · exact h
  · exact h
  · exact h
  · exact h
  · exact h
  · exact h
  · obtain ⟨vn, vc, x0, x1, x2, x5, x6, x7, x8, x9, x10, x11, e, h1, h2⟩ := h
    exact ⟨vn, vc, x0, x1, x2, x5, x6, x7, x8, x9, x10, x11, e, h1.below hb, h2.below hb⟩
  · exact h.below hb
def sl (j : Nat) : Nat := if j = 12 then 2 else j + 3
structure NI (w0 : World) (n : Nat) (l : Array Bool) (a : Act) (w : World) : Prop where
  size : l.size = 13
  off : Off l n
  fr : ∃ T : Array Value, a = ⟨T, []⟩ ∧ T.size = 15 ∧ T[0]? = some (.slice none 0 0) ∧ ∀ j : Nat, l[j]? = some true → ∃ v, T[sl j]? = some v ∧ NF w0.heap.size j v w
  low : Below w0.heap.size w0 w
theorem NI.next {w0 w w' : World} {n i : Nat} {l : Array Bool} {T : Array Value} {v : Value} (h : NI w0 (n + 1) l ⟨T, []⟩ w) (hi : l[i]? = some false) (hi2 : i < 13) (hb : Below w.heap.size w w') (hF : NF w0.heap.size i v w') : NI w0 n (l.setIfInBounds i true) ⟨T.setIfInBounds (sl i) v, []⟩ w' := by
  obtain ⟨T', e, hs, h0, hf⟩ := h.fr
  cases e
  refine ⟨by rw [Array.size_setIfInBounds]; exact h.size, h.off.set hi, ⟨_, rfl, by rw [Array.size_setIfInBounds]; exact hs, ?_, fun j hj => ?_⟩, h.low.trans (hb.mono h.low.size)⟩
  · rw [Array.getElem?_setIfInBounds_ne (by unfold sl; split <;> omega)]
    exact h0
  · by_cases e : i = j
    · subst e
      refine ⟨v, ?_, hF⟩
      rw [Array.getElem?_setIfInBounds_self_of_lt (by rw [hs]; unfold sl; split <;> omega)]
    · rw [Array.getElem?_setIfInBounds_ne e] at hj
      have hj2 : j < 13 := by rw [← h.size]; exact (Array.getElem?_eq_some_iff.1 hj).1
      obtain ⟨u, hu, hF2⟩ := hf j hj
      refine ⟨u, ?_, hF2.below hb⟩
      rw [Array.getElem?_setIfInBounds_ne (by unfold sl; split <;> split <;> omega)]
      exact hu
theorem arr15 {T : Array Value} (h : T.size = 15) : ∃ x0 x1 x2 x3 x4 x5 x6 x7 x8 x9 x10 x11 x12 x13 x14, T = #[x0, x1, x2, x3, x4, x5, x6, x7, x8, x9, x10, x11, x12, x13, x14] := by
  obtain ⟨l⟩ := T
  match l, h with
  | [x0, x1, x2, x3, x4, x5, x6, x7, x8, x9, x10, x11, x12, x13, x14], _ => exact ⟨x0, x1, x2, x3, x4, x5, x6, x7, x8, x9, x10, x11, x12, x13, x14, rfl⟩

set_option maxHeartbeats 3200000 in
set_option maxRecDepth 100000 in
theorem new_ne (w : World) : Calls Tryz.prog 36 #[.slice none 0 0] w fun e w' => ∃ v, e = .returned v ∧ NE w.heap.size v w' ∧ Below w.heap.size w w' := by
  go_enter Tryz.func36, Tryz.ntmps36
  go_upto_region 1 with fail
  rename_i Q' K hK
  refine wp_region_any (by rfl) ?_
  generalize hops : (#[_, _, _, _, _, _, _, _, _, _, _, _, _] : Array Oper) = ops
  have hsz : ops.size = 13 := by rw [← hops]; rfl
  have hbd : ∀ o ∈ ops, ∀ e ∈ o.after, Region.binds .any e = true := by rw [← hops]; decide
  have hlt := lt_of_B (ops := ops) (by rw [← hops]; rfl)
  refine wpAny_inv (NI w) ?h0 ?hs _ _ _ _ ?st
  case st =>
    refine ⟨by simp [hsz], by rw [hsz]; exact Off.all 13, ⟨_, rfl, rfl, rfl, fun j hj => ?_⟩, ?_⟩
    · rw [Array.getElem?_replicate] at hj
      split at hj <;> cases hj
    · exact (Below.refl _ _).drew
  case h0 =>
    intro l a w1 hI
    have hall : ∀ i : Nat, i < 13 → l[i]? = some true := fun i hi => hI.off.zero i (by rw [hI.size]; exact hi)
    refine ⟨?_, ?_⟩
    · cases hr : Region.ready .any ops l with
      | nil => rfl
      | cons i r =>
        obtain ⟨h1, h2, _⟩ := ready_off hbd (show i ∈ Region.ready .any ops l by rw [hr]; simp)
        rw [hall i (by omega)] at h2
        cases h2
    · obtain ⟨_, _, ⟨T, rfl, hT, h0, hf⟩, hlow⟩ := hI
      obtain ⟨v, e12, hN⟩ := hf 12 (hall 12 (by decide))
      obtain ⟨x0, x1, x2, x3, x4, x5, x6, x7, x8, x9, x10, x11, x12, x13, x14, rfl⟩ := arr15 hT
      have y2 : x2 = v := by simpa [sl] using e12
      subst y2
      clear hops h0 hf hT e12 hall hlt hbd hsz
      refine hK ⟨#[x0, x1, x2, x3, x4, x5, x6, x7, x8, x9, x10, x11, x12, x13, x14], []⟩ w1 ?_
      go_wp2_with fail
      go_ret
      exact ⟨_, rfl, hN, hlow⟩
  case hs =>
    intro n l a w1 hI
    refine ⟨ready_some (by rw [hI.size, hsz]) hlt hI.off.some, fun i hi => ?_⟩
    obtain ⟨hi1, hi2, hm⟩ := ready_off hbd hi
    rw [hsz] at hi1
    have hI0 := hI
    obtain ⟨_, _, ⟨T, rfl, hT, h0, hf⟩, hlow⟩ := hI0
    clear hlt hbd hi
    have hi := hi2
    clear hi2
    have hc : i = 0 ∨ i = 1 ∨ i = 2 ∨ i = 3 ∨ i = 4 ∨ i = 5 ∨ i = 6 ∨ i = 7 ∨ i = 8 ∨ i = 9 ∨ i = 10 ∨ i = 11 ∨ i = 12 := by omega
    rcases hc with rfl | rfl | rfl | rfl | rfl | rfl | rfl | rfl | rfl | rfl | rfl | rfl | rfl
    · -- 0
      have ho := congrArg (fun a : Array Oper => a[0]?) hops.symm
      simp only [List.getElem?_toArray, List.getElem?_cons_zero] at ho
      obtain ⟨x0, x1, x2, x3, x4, x5, x6, x7, x8, x9, x10, x11, x12, x13, x14, rfl⟩ := arr15 hT
      have z0 : x0 = .slice none 0 0 := by simpa using h0
      subst z0
      clear hm hops h0 hf hT
      refine wpOp_list ho rfl ?_
      go_wp2_with fail
      exact NI.next hI hi (by decide) (Below.refl _ _) (show _ = _ from rfl)
    · -- 1
      have ho := congrArg (fun a : Array Oper => a[1]?) hops.symm
      simp only [List.getElem?_toArray, List.getElem?_cons_succ, List.getElem?_cons_zero] at ho
      obtain ⟨v0, e0, F0⟩ := hf 0 (on_some (hm _ ho { on := 0, ground := Ground.data } (by simp)))
      obtain ⟨x0, x1, x2, x3, x4, x5, x6, x7, x8, x9, x10, x11, x12, x13, x14, rfl⟩ := arr15 hT
      have z0 : x0 = .slice none 0 0 := by simpa using h0
      have y0 : x3 = v0 := by simpa [sl] using e0
      subst z0
      subst y0
      clear hm hops h0 hf hT e0
      have F0' : x3 = .agg htC := F0
      subst F0'
      unfold htC
      refine wpOp_list ho rfl ?_
      go_wp2_with fail
      exact NI.next hI hi (by decide) ((Below.refl _ _).alloc (Nat.le_refl _) _) ⟨_, rfl, hlow.size, heap_alloc_new _ _⟩
    · -- 2
      have ho := congrArg (fun a : Array Oper => a[2]?) hops.symm
      simp only [List.getElem?_toArray, List.getElem?_cons_succ, List.getElem?_cons_zero] at ho
      obtain ⟨x0, x1, x2, x3, x4, x5, x6, x7, x8, x9, x10, x11, x12, x13, x14, rfl⟩ := arr15 hT
      have z0 : x0 = .slice none 0 0 := by simpa using h0
      subst z0
      clear hm hops h0 hf hT
      obtain ⟨ic, hic, hzc, hzc1, hzc2⟩ := info_parts infoC
      have hmk := run_make (P := Tryz.prog) w1 66 105 ic _ Tryz.underlying66 hic hzc .i64 .i64 1 1 (by decide) (by decide) (by rw [hzc2]; decide) (by decide)
      rw [hzc1] at hmk
      have hmk2 : (Instr.makeSlice 66 (.int .i64 1) (.int .i64 1)).run Tryz.prog w1 = .ok (.slice (some ⟨w1.heap.size, 0, none⟩) 1 1) (w1.alloc (.cells (encC ctl0 (.slice none 0 0)).toArray 105)) := by
        have eC : madeCells (Value.agg #[.string ⟨#[]⟩, .bool false, .bool false, .bool false, .bool false, .bool false, .bool false, .bool false, .string ⟨#[]⟩, .slice none 0 0]).cells (Int.toNat 1 * 10) = (encC ctl0 (.slice none 0 0)).toArray := by kernel_rfl
        rw [← eC]
        exact hmk
      clear hmk
      refine wpOp_list ho rfl ?_
      go_wp2_with fail
      exact NI.next hI hi (by decide) ((Below.refl _ _).alloc (Nat.le_refl _) _) ⟨_, rfl, hlow.size, heap_alloc_new _ _⟩
    · -- 3
      have ho := congrArg (fun a : Array Oper => a[3]?) hops.symm
      simp only [List.getElem?_toArray, List.getElem?_cons_succ, List.getElem?_cons_zero] at ho
      obtain ⟨v1, e1, F1⟩ := hf 1 (on_some (hm _ ho { on := 1, ground := Ground.data } (by simp)))
      obtain ⟨v2, e2, F2⟩ := hf 2 (on_some (hm _ ho { on := 2, ground := Ground.data } (by simp)))
      obtain ⟨x0, x1, x2, x3, x4, x5, x6, x7, x8, x9, x10, x11, x12, x13, x14, rfl⟩ := arr15 hT
      have z0 : x0 = .slice none 0 0 := by simpa using h0
      have y1 : x4 = v1 := by simpa [sl] using e1
      have y2 : x5 = v2 := by simpa [sl] using e2
      subst z0
      subst y1
      subst y2
      clear hm hops h0 hf hT e1 e2
      obtain ⟨b1, rfl, hb1, hh1⟩ := F1
      obtain ⟨b2, rfl, hb2, hh2⟩ := F2
      refine wpOp_list ho rfl ?_
      go_wp2_with fail
      exact NI.next hI hi (by decide) (Below.refl _ _) ⟨_, _, rfl, ⟨b1, rfl, hb1, hh1⟩, ⟨b2, rfl, hb2, hh2⟩⟩
    · -- 4
      have ho := congrArg (fun a : Array Oper => a[4]?) hops.symm
      simp only [List.getElem?_toArray, List.getElem?_cons_succ, List.getElem?_cons_zero] at ho
      obtain ⟨x0, x1, x2, x3, x4, x5, x6, x7, x8, x9, x10, x11, x12, x13, x14, rfl⟩ := arr15 hT
      have z0 : x0 = .slice none 0 0 := by simpa using h0
      subst z0
      clear hm hops h0 hf hT
      refine wpOp_list ho rfl ?_
      go_wp2_with fail
      exact NI.next hI hi (by decide) (Below.refl _ _) (show _ = _ from rfl)
    · -- 5
      have ho := congrArg (fun a : Array Oper => a[5]?) hops.symm
      simp only [List.getElem?_toArray, List.getElem?_cons_succ, List.getElem?_cons_zero] at ho
      obtain ⟨v4, e4, F4⟩ := hf 4 (on_some (hm _ ho { on := 4, ground := Ground.data } (by simp)))
      obtain ⟨x0, x1, x2, x3, x4, x5, x6, x7, x8, x9, x10, x11, x12, x13, x14, rfl⟩ := arr15 hT
      have z0 : x0 = .slice none 0 0 := by simpa using h0
      have y4 : x7 = v4 := by simpa [sl] using e4
      subst z0
      subst y4
      clear hm hops h0 hf hT e4
      have F4' : x7 = .slice none 0 0 := F4
      subst F4'
      refine wpOp_list ho rfl ?_
      go_wp2_with fail
      refine (clone_str _).mono ?_
      rintro e w' ⟨rfl, rfl⟩
      go_wp2_with fail
      exact NI.next hI hi (by decide) (Below.refl _ _) (show _ = _ from rfl)
    · -- 6
      have ho := congrArg (fun a : Array Oper => a[6]?) hops.symm
      simp only [List.getElem?_toArray, List.getElem?_cons_succ, List.getElem?_cons_zero] at ho
      obtain ⟨x0, x1, x2, x3, x4, x5, x6, x7, x8, x9, x10, x11, x12, x13, x14, rfl⟩ := arr15 hT
      have z0 : x0 = .slice none 0 0 := by simpa using h0
      subst z0
      clear hm hops h0 hf hT
      have hmm := run_makeMap (P := Tryz.prog) 86 w1
      refine wpOp_list ho rfl ?_
      go_wp2_with fail
      exact NI.next hI hi (by decide) ((Below.refl _ _).alloc (Nat.le_refl _) _) ⟨_, rfl⟩
    · -- 7
      have ho := congrArg (fun a : Array Oper => a[7]?) hops.symm
      simp only [List.getElem?_toArray, List.getElem?_cons_succ, List.getElem?_cons_zero] at ho
      obtain ⟨x0, x1, x2, x3, x4, x5, x6, x7, x8, x9, x10, x11, x12, x13, x14, rfl⟩ := arr15 hT
      have z0 : x0 = .slice none 0 0 := by simpa using h0
      subst z0
      clear hm hops h0 hf hT
      have hmm := run_makeMap (P := Tryz.prog) 86 w1
      refine wpOp_list ho rfl ?_
      go_wp2_with fail
      exact NI.next hI hi (by decide) ((Below.refl _ _).alloc (Nat.le_refl _) _) ⟨_, rfl⟩
    · -- 8
      have ho := congrArg (fun a : Array Oper => a[8]?) hops.symm
      simp only [List.getElem?_toArray, List.getElem?_cons_succ, List.getElem?_cons_zero] at ho
      obtain ⟨x0, x1, x2, x3, x4, x5, x6, x7, x8, x9, x10, x11, x12, x13, x14, rfl⟩ := arr15 hT
      have z0 : x0 = .slice none 0 0 := by simpa using h0
      subst z0
      clear hm hops h0 hf hT
      have hmm := run_makeMap (P := Tryz.prog) 86 w1
      refine wpOp_list ho rfl ?_
      go_wp2_with fail
      exact NI.next hI hi (by decide) ((Below.refl _ _).alloc (Nat.le_refl _) _) ⟨_, rfl⟩
    · -- 9
      have ho := congrArg (fun a : Array Oper => a[9]?) hops.symm
      simp only [List.getElem?_toArray, List.getElem?_cons_succ, List.getElem?_cons_zero] at ho
      obtain ⟨v6, e6, F6⟩ := hf 6 (on_some (hm _ ho { on := 6, ground := Ground.data } (by simp)))
      obtain ⟨v7, e7, F7⟩ := hf 7 (on_some (hm _ ho { on := 7, ground := Ground.data } (by simp)))
      obtain ⟨v8, e8, F8⟩ := hf 8 (on_some (hm _ ho { on := 8, ground := Ground.data } (by simp)))
      obtain ⟨x0, x1, x2, x3, x4, x5, x6, x7, x8, x9, x10, x11, x12, x13, x14, rfl⟩ := arr15 hT
      have z0 : x0 = .slice none 0 0 := by simpa using h0
      have y6 : x9 = v6 := by simpa [sl] using e6
      have y7 : x10 = v7 := by simpa [sl] using e7
      have y8 : x11 = v8 := by simpa [sl] using e8
      subst z0
      subst y6
      subst y7
      subst y8
      clear hm hops h0 hf hT e6 e7 e8
      obtain ⟨m6, rfl⟩ := F6
      obtain ⟨m7, rfl⟩ := F7
      obtain ⟨m8, rfl⟩ := F8
      refine wpOp_list ho rfl ?_
      go_wp2_with fail
      exact NI.next hI hi (by decide) (Below.refl _ _) ⟨m6, m7, m8, rfl⟩
    · -- 10
      have ho := congrArg (fun a : Array Oper => a[10]?) hops.symm
      simp only [List.getElem?_toArray, List.getElem?_cons_succ, List.getElem?_cons_zero] at ho
      obtain ⟨v3, e3, F3⟩ := hf 3 (on_some (hm _ ho { on := 3, ground := Ground.data } (by simp)))
      obtain ⟨v5, e5, F5⟩ := hf 5 (on_some (hm _ ho { on := 5, ground := Ground.data } (by simp)))
      obtain ⟨v9, e9, F9⟩ := hf 9 (on_some (hm _ ho { on := 9, ground := Ground.data } (by simp)))
      obtain ⟨x0, x1, x2, x3, x4, x5, x6, x7, x8, x9, x10, x11, x12, x13, x14, rfl⟩ := arr15 hT
      have z0 : x0 = .slice none 0 0 := by simpa using h0
      have y3 : x6 = v3 := by simpa [sl] using e3
      have y5 : x8 = v5 := by simpa [sl] using e5
      have y9 : x12 = v9 := by simpa [sl] using e9
      subst z0
      subst y3
      subst y5
      subst y9
      clear hm hops h0 hf hT e3 e5 e9
      obtain ⟨vn, vc, rfl, ⟨b1, rfl, hb1, hh1⟩, ⟨b2, rfl, hb2, hh2⟩⟩ := F3
      have F5' : x8 = .slice none 0 0 := F5
      subst F5'
      obtain ⟨m6, m7, m8, rfl⟩ := F9
      refine wpOp_list ho rfl ?_
      go_wp2_with fail
      exact NI.next hI hi (by decide) (Below.refl _ _) ⟨_, _, _, _, _, _, _, _, _, _, _, _, rfl, ⟨b1, rfl, hb1, hh1⟩, ⟨b2, rfl, hb2, hh2⟩⟩
    · -- 11
      have ho := congrArg (fun a : Array Oper => a[11]?) hops.symm
      simp only [List.getElem?_toArray, List.getElem?_cons_succ, List.getElem?_cons_zero] at ho
      obtain ⟨v10, e10, F10⟩ := hf 10 (on_some (hm _ ho { on := 10, ground := Ground.data } (by simp)))
      obtain ⟨x0, x1, x2, x3, x4, x5, x6, x7, x8, x9, x10, x11, x12, x13, x14, rfl⟩ := arr15 hT
      have z0 : x0 = .slice none 0 0 := by simpa using h0
      have y10 : x13 = v10 := by simpa [sl] using e10
      subst z0
      subst y10
      clear hm hops h0 hf hT e10
      obtain ⟨vn, vc, p0, p1, p2, p5, p6, p7, p8, p9, p10, p11, rfl, hN, hC⟩ := F10
      have hbA : Below w1.heap.size w1 (w1.alloc (.cells #[p0, p1, p2, vn, vc, p5, p6, p7, p8, p9, p10, p11] 92)) := (Below.refl _ _).alloc (Nat.le_refl _) _
      refine wpOp_list ho rfl ?_
      go_wp2_with fail
      exact NI.next hI hi (by decide) hbA ⟨_, _, _, _, _, _, _, _, _, _, _, _, _, rfl, hlow.size, hN.below hbA, hC.below hbA, heap_alloc_new _ _⟩
    · -- 12
      have ho := congrArg (fun a : Array Oper => a[12]?) hops.symm
      simp only [List.getElem?_toArray, List.getElem?_cons_succ, List.getElem?_cons_zero] at ho
      obtain ⟨v11, e11, F11⟩ := hf 11 (on_some (hm _ ho { on := 11, ground := Ground.data } (by simp)))
      obtain ⟨x0, x1, x2, x3, x4, x5, x6, x7, x8, x9, x10, x11, x12, x13, x14, rfl⟩ := arr15 hT
      have z0 : x0 = .slice none 0 0 := by simpa using h0
      have y11 : x14 = v11 := by simpa [sl] using e11
      subst z0
      subst y11
      clear hm hops h0 hf hT e11
      refine wpOp_list ho rfl ?_
      go_wp2_with fail
      exact NI.next hI hi (by decide) (Below.refl _ _) F11
end Go.Proofs.YtkhgfngppcemlaaGreatDoor.scr
