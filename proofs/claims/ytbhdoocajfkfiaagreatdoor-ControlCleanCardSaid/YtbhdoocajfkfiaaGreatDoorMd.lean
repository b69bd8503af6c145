/- The contracts of step.Value, Show, bound and of the reference's. The contracts of step.Least, Most, Base and of the reference's. The contracts of step.Step and of the reference's. The contract of the reference's Step. -/
import Derived.Test.YtbhdoocajfkfiaaGreatDoorZOf
import Derived.Test.YtbhdoocajfkfiaaGreatDoorNn
import Derived.Test.YtbhdoocajfkfiaaGreatDoorNd
import Derived.Test.YtbhdoocajfkfiaaGreatDoorNk
import Derived.Test.YtbhdoocajfkfiaaGreatDoorNe
import Derived.Test.YtbhdoocajfkfiaaGreatDoorNb
import Derived.Test.YtbhdoocajfkfiaaGreatDoorNh
import Derived.Test.YtbhdoocajfkfiaaGreatDoorMc
import Derived.Test.YtbhdoocajfkfiaaGreatDoorNl
import Derived.Test.YtbhdoocajfkfiaaGreatDoorZDiv64
import Derived.Test.YtbhdoocajfkfiaaGreatDoorMa
import Derived.Deep.DeepCutAuto
namespace Go.Proofs.YtbhdoocajfkfiaaGreatDoor.stp
open Go.ChangeShapes Go.WideShapes Go.ChangeAt Go.RowKit Go.Lib Go.Proofs.YtbhdoocajfkfiaaGreatDoor.num Go.Proofs.YtbhdoocajfkfiaaGreatDoor.mom Go.Proofs.YtbhdoocajfkfiaaGreatDoor.fits Go.Proofs.YtbhdoocajfkfiaaGreatDoor.atr

theorem sret_ib {a b : Int} {c d : Bool} (h : a = b) (g : c = d) : Ending.returned (.tuple #[.int .i64 a, .bool c]) = .returned (.tuple #[.int .i64 b, .bool d]) := by rw [h, g]
theorem sret_sb {a b : List UInt8} {c d : Bool} (h : a = b) (g : c = d) : Ending.returned (.tuple #[.string ⟨a.toArray⟩, .bool c]) = .returned (.tuple #[.string ⟨b.toArray⟩, .bool d]) := by rw [h, g]

theorem kinds3 (kind : Int) : (kind = 13 ∨ kind = 14) ∨ (8 ≤ kind ∧ kind ≤ 12) ∨ ¬ (8 ≤ kind ∧ kind ≤ 14) := by omega
theorem val_num (kind : Int) (s : List UInt8) (h : kind = 13 ∨ kind = 14) : valK kind s = ((parseS s).1, (parseS s).2 == 0) := by unfold valK; rw [if_pos h]
theorem val_mom (kind : Int) (s : List UInt8) (h : 8 ≤ kind ∧ kind ≤ 12) : valK kind s = ((parseM (kind - 7) s).1, (parseM (kind - 7) s).2 == 0) := by unfold valK; rw [if_neg (by omega), if_pos h]
theorem val_none (kind : Int) (s : List UInt8) (h : ¬ (8 ≤ kind ∧ kind ≤ 14)) : valK kind s = (0, false) := by unfold valK; rw [if_neg (by omega), if_neg (by omega)]
theorem show_num (kind n : Int) (h : kind = 13 ∨ kind = 14) : showK kind n = if 1000000000000000000 < n ∨ n < -1000000000000000000 then ([], false) else (showS n, true) := by unfold showK; rw [if_pos h]
theorem show_mom (kind n : Int) (h : 8 ≤ kind ∧ kind ≤ 12) : showK kind n = ((showM (kind - 7) n).1, (showM (kind - 7) n).2 == 0) := by unfold showK; rw [if_neg (by omega), if_pos h]
theorem show_none (kind n : Int) (h : ¬ (8 ≤ kind ∧ kind ≤ 14)) : showK kind n = ([], false) := by unfold showK; rw [if_neg (by omega), if_neg (by omega)]
theorem u_num (kind : Int) (h : kind = 13 ∨ kind = 14) : isK kind = true ∧ uM kind = 0 := by
  rcases h with rfl | rfl <;> exact ⟨by decide, by decide⟩
theorem u_mom (kind : Int) (h : 8 ≤ kind ∧ kind ≤ 12) : isK kind = true ∧ uM kind = kind - 7 := by
  refine ⟨?_, by unfold uM; rw [if_pos h]⟩
  unfold isK
  rw [decide_eq_true h.1, decide_eq_true (show kind ≤ 14 by omega)]; rfl

set_option maxHeartbeats 1600000 in
set_option maxRecDepth 100000 in
theorem value_any (kind : Int) (hk : i64 kind) (s : List UInt8) (hs : s.length ≤ 1000000) (w : World) (hG : G w) (hE : GE w) :
    Calls Tryz.prog 110 #[.int .i64 kind, .string ⟨s.toArray⟩] w fun e w' => e = .returned (.tuple #[.int .i64 (valK kind s).1, .bool (valK kind s).2]) ∧ Below w.heap.size w w' := by
  have ho := of_any kind hk w
  rcases kinds3 kind with h | h | h
  · rw [val_num kind s h]
    obtain ⟨e1, e2⟩ := u_num kind h
    rw [e1, e2] at ho
    have hp := fun w g k => parse_any s (by omega) w g k
    generalize (parseS s).1 = n at *
    generalize (parseS s).2 = er at *
    generalize uS kind = us at *
    generalize uB kind = ub at *
    clear e1 e2 h
    go_enter Tryz.func110, Tryz.ntmps110
    go_wp2_with fail
    refine ho.mono ?_
    rintro e w1 ⟨rfl, hb⟩
    clear ho
    have B1 : Below w.heap.size w (w1.alloc (.cells #[.int .i64 0, .int .i64 us, .int .i64 ub] 134)) := hb.alloc hb.size _
    go_wp2_with fail
    refine (hp _ (hG.below B1) (hE.below B1)).mono ?_
    rintro e w2 ⟨rfl, hb2⟩
    go_wp2_with fail
    go_ret2
    exact ⟨rfl, below_trans B1 hb2⟩
  · rw [val_mom kind s h]
    obtain ⟨e1, e2⟩ := u_mom kind h
    rw [e1, e2] at ho
    have hp := fun w k => mparse_any (kind - 7) ⟨by omega, by omega⟩ s (by omega) w k
    have hm : (kind - 7 == 0) = false := by simp; omega
    generalize (parseM (kind - 7) s).1 = n at *
    generalize (parseM (kind - 7) s).2 = er at *
    generalize uS kind = us at *
    generalize uB kind = ub at *
    generalize kind - 7 = mm at *
    clear e1 e2 h
    go_enter Tryz.func110, Tryz.ntmps110
    go_wp2_with fail
    refine ho.mono ?_
    rintro e w1 ⟨rfl, hb⟩
    clear ho
    have B1 : Below w.heap.size w (w1.alloc (.cells #[.int .i64 mm, .int .i64 us, .int .i64 ub] 134)) := hb.alloc hb.size _
    go_wp2_with fail
    refine (hp _ (hE.below B1)).mono ?_
    rintro e w2 ⟨rfl, hb2⟩
    go_wp2_with fail
    go_ret2
    exact ⟨rfl, below_trans B1 hb2⟩
  · rw [val_none kind s h]
    obtain ⟨e1, e2, e3, e4⟩ := u_no kind h
    rw [e1, e2, e3, e4] at ho
    clear e1 e2 e3 e4 h
    go_enter Tryz.func110, Tryz.ntmps110
    go_wp2_with fail
    refine ho.mono ?_
    rintro e w1 ⟨rfl, hb⟩
    clear ho
    go_wp2_with fail
    go_ret2
    exact ⟨rfl, hb.alloc hb.size _⟩

set_option maxHeartbeats 1600000 in
set_option maxRecDepth 100000 in
theorem show_any (kind : Int) (hk : i64 kind) (n : Int) (hn : i64 n) (w : World) (hG : G w) :
    Calls Tryz.prog 111 #[.int .i64 kind, .int .i64 n] w fun e w' => e = .returned (.tuple #[.string ⟨(showK kind n).1.toArray⟩, .bool (showK kind n).2]) ∧ Below w.heap.size w w' := by
  have ho := of_any kind hk w
  obtain ⟨n1, n2⟩ := hn
  rcases kinds3 kind with h | h | h
  · rw [show_num kind n h]
    obtain ⟨e1, e2⟩ := u_num kind h
    rw [e1, e2] at ho
    have hp := fun w g => num.show_any n n1 n2 w g
    generalize uS kind = us at *
    generalize uB kind = ub at *
    clear e1 e2 h
    by_cases g1 : 1000000000000000000 < n
    · rw [if_pos (Or.inl g1)]
      go_enter Tryz.func111, Tryz.ntmps111
      go_wp2_with fail
      refine ho.mono ?_
      rintro e w1 ⟨rfl, hb⟩
      clear ho
      go_wp2_with fail
      go_ret2
      exact ⟨rfl, hb.alloc hb.size _⟩
    by_cases g2 : n < -1000000000000000000
    · rw [if_pos (Or.inr g2)]
      go_enter Tryz.func111, Tryz.ntmps111
      go_wp2_with fail
      refine ho.mono ?_
      rintro e w1 ⟨rfl, hb⟩
      clear ho
      go_wp2_with fail
      go_ret2
      exact ⟨rfl, hb.alloc hb.size _⟩
    rw [if_neg (by omega)]
    generalize showS n = t at *
    go_enter Tryz.func111, Tryz.ntmps111
    go_wp2_with fail
    refine ho.mono ?_
    rintro e w1 ⟨rfl, hb⟩
    clear ho
    have B1 : Below w.heap.size w (w1.alloc (.cells #[.int .i64 0, .int .i64 us, .int .i64 ub] 134)) := hb.alloc hb.size _
    go_wp2_with fail
    refine (hp _ (hG.below B1)).mono ?_
    rintro e w2 ⟨rfl, hb2⟩
    go_wp2_with fail
    go_ret2
    exact ⟨rfl, below_trans B1 hb2⟩
  · rw [show_mom kind n h]
    obtain ⟨e1, e2⟩ := u_mom kind h
    rw [e1, e2] at ho
    have hp := fun w k => mshow_any (kind - 7) n ⟨by omega, by omega⟩ ⟨n1, n2⟩ w k
    have hm : (kind - 7 == 0) = false := by simp; omega
    generalize (showM (kind - 7) n).1 = t at *
    generalize (showM (kind - 7) n).2 = er at *
    generalize uS kind = us at *
    generalize uB kind = ub at *
    generalize kind - 7 = mm at *
    clear e1 e2 h
    go_enter Tryz.func111, Tryz.ntmps111
    go_wp2_with fail
    refine ho.mono ?_
    rintro e w1 ⟨rfl, hb⟩
    clear ho
    have B1 : Below w.heap.size w (w1.alloc (.cells #[.int .i64 mm, .int .i64 us, .int .i64 ub] 134)) := hb.alloc hb.size _
    go_wp2_with fail
    refine (hp _ (hG.below B1)).mono ?_
    rintro e w2 ⟨rfl, hb2⟩
    go_wp2_with fail
    go_ret2
    exact ⟨rfl, below_trans B1 hb2⟩
  · rw [show_none kind n h]
    obtain ⟨e1, e2, e3, e4⟩ := u_no kind h
    rw [e1, e2, e3, e4] at ho
    clear e1 e2 e3 e4 h
    go_enter Tryz.func111, Tryz.ntmps111
    go_wp2_with fail
    refine ho.mono ?_
    rintro e w1 ⟨rfl, hb⟩
    clear ho
    go_wp2_with fail
    go_ret2
    exact ⟨rfl, hb.alloc hb.size _⟩

/-- what is wanted of a list of attributes -/
def Fine (l : List Attr) : Prop := l.length ≤ 1000000000 ∧ ∀ a ∈ l, a.2.length ≤ 1000000
theorem fval_mem (nm : List UInt8) (l : List Attr) (s : List UInt8) (h : fval nm l = some s) : ∃ a ∈ l, a.2 = s := by
  rcases find_ways nm l with ⟨k, hk, _, _, _, h4⟩ | ⟨_, _, h3⟩
  · rw [h4] at h
    exact ⟨l[k], List.getElem_mem hk, Option.some.inj h⟩
  · rw [h3] at h; cases h
theorem fval_len (nm : List UInt8) (l : List Attr) (hl : Fine l) : (attrS nm l).length ≤ 1000000 := by
  unfold attrS
  cases h : fval nm l with
  | none => simp
  | some s =>
    obtain ⟨a, ha, rfl⟩ := fval_mem nm l s h
    exact hl.2 a ha

set_option maxHeartbeats 1600000 in
set_option maxRecDepth 100000 in
theorem bound_any (kind : Int) (hk : i64 kind) (v : Value) (l : List Attr) (hl : Fine l) (nm : List UInt8) (w : World) (hA : AttrsAt w v l) (hG : G w) (hE : GE w) :
    Calls Tryz.prog 262 #[.int .i64 kind, v, .string ⟨nm.toArray⟩] w fun e w' => e = .returned (.tuple #[.int .i64 (boundK kind l nm).1, .bool (boundK kind l nm).2]) ∧ Below w.heap.size w w' := by
  have ha := attr_any v l nm hl.1 w hA
  have hlen := fval_len nm l hl
  have hB : boundK kind l nm = match fval nm l with | none => (0, false) | some s => valK kind s := rfl
  have hS : attrS nm l = (fval nm l).getD [] := rfl
  have hI : attrB nm l = (fval nm l).isSome := rfl
  rw [hS, hI] at ha
  rw [hS] at hlen
  rw [hB]
  clear hB hS hI hA hl
  generalize fval nm l = o at *
  cases o with
  | none =>
    dsimp only [Option.getD, Option.isSome] at ha ⊢
    go_enter Tryz.func262, Tryz.ntmps262
    go_wp2_with fail
    refine ha.mono ?_
    rintro e w1 ⟨rfl, hb⟩
    clear ha
    go_wp2_with fail
    go_ret2
    exact ⟨rfl, hb⟩
  | some s =>
    dsimp only [Option.getD, Option.isSome] at ha hlen ⊢
    have hv := fun w g k => value_any kind hk s hlen w g k
    generalize (valK kind s).1 = n at *
    generalize (valK kind s).2 = q at *
    go_enter Tryz.func262, Tryz.ntmps262
    go_wp2_with fail
    refine ha.mono ?_
    rintro e w1 ⟨rfl, hb⟩
    clear ha
    go_wp2_with fail
    refine (hv _ (hG.below hb) (hE.below hb)).mono ?_
    rintro e w2 ⟨rfl, hb2⟩
    go_wp2_with fail
    go_ret2
    exact ⟨rfl, below_trans hb hb2⟩

/-! ### the reference's -/
set_option maxHeartbeats 1600000 in
set_option maxRecDepth 100000 in
theorem rvalue_any (kind : Int) (hk : i64 kind) (s : List UInt8) (hs : s.length ≤ 1000000) (w : World) :
    Calls Tryz.prog 71 #[.int .i64 kind, .string ⟨s.toArray⟩] w fun e w' => e = .returned (.tuple #[.int .i64 (valK kind s).1, .bool (valK kind s).2]) ∧ Below w.heap.size w w' := by
  obtain ⟨k1, k2⟩ := hk
  rcases kinds3 kind with h | h | h
  · rw [val_num kind s h]
    have hp := fun w => refparse_any s w (by omega)
    generalize (parseS s).1 = n at *
    generalize (parseS s).2 = er at *
    rcases h with rfl | rfl
    all_goals
      go_enter Tryz.func71, Tryz.ntmps71
      go_wp2_with fail
      refine (hp _).mono ?_
      rintro e w2 ⟨rfl, rfl⟩
      go_wp2_with fail
      go_ret2
      exact ⟨rfl, Below.refl _ _⟩
  · rw [val_mom kind s h]
    have hp := fun w => rParse_any (kind - 7) ⟨by omega, by omega⟩ s (by omega) w
    rw [show kind - 7 = kind - 8 + 1 from by omega] at *
    generalize (parseM (kind - 8 + 1) s).1 = n at *
    generalize (parseM (kind - 8 + 1) s).2 = er at *
    have t13 : (kind == 13) = false := by simp; omega
    have t14 : (kind == 14) = false := by simp; omega
    obtain ⟨h1, h2⟩ := h
    go_enter Tryz.func71, Tryz.ntmps71
    go_wp2_with fail
    refine (hp _).mono ?_
    rintro e w2 ⟨rfl, hb⟩
    go_wp2_with fail
    go_ret2
    exact ⟨rfl, hb⟩
  · rw [val_none kind s h]
    have t13 : (kind == 13) = false := by simp; omega
    have t14 : (kind == 14) = false := by simp; omega
    by_cases g : kind < 8
    · clear h
      go_enter Tryz.func71, Tryz.ntmps71
      go_wp2_with fail
      go_ret2
      exact ⟨rfl, Below.refl _ _⟩
    · have g2 : 14 < kind := by omega
      clear h
      go_enter Tryz.func71, Tryz.ntmps71
      go_wp2_with fail
      go_ret2
      exact ⟨rfl, Below.refl _ _⟩

set_option maxHeartbeats 1600000 in
set_option maxRecDepth 100000 in
theorem rshowk_any (kind : Int) (hk : i64 kind) (n : Int) (hn : i64 n) (w : World) :
    Calls Tryz.prog 76 #[.int .i64 kind, .int .i64 n] w fun e w' => e = .returned (.tuple #[.string ⟨(showK kind n).1.toArray⟩, .bool (showK kind n).2]) ∧ Below w.heap.size w w' := by
  obtain ⟨k1, k2⟩ := hk
  obtain ⟨n1, n2⟩ := hn
  rcases kinds3 kind with h | h | h
  · rw [show_num kind n h]
    have hp := fun w => refshow_any n n1 n2 w
    by_cases g1 : 1000000000000000000 < n
    · rw [if_pos (Or.inl g1)]
      rcases h with rfl | rfl
      all_goals
        go_enter Tryz.func76, Tryz.ntmps76
        go_wp2_with fail
        go_ret2
        exact ⟨rfl, Below.refl _ _⟩
    by_cases g2 : n < -1000000000000000000
    · rw [if_pos (Or.inr g2)]
      rcases h with rfl | rfl
      all_goals
        go_enter Tryz.func76, Tryz.ntmps76
        go_wp2_with fail
        go_ret2
        exact ⟨rfl, Below.refl _ _⟩
    rw [if_neg (by omega)]
    generalize showS n = t at *
    rcases h with rfl | rfl
    all_goals
      go_enter Tryz.func76, Tryz.ntmps76
      go_wp2_with fail
      refine (hp _).mono ?_
      rintro e w2 ⟨rfl, hb⟩
      go_wp2_with fail
      go_ret2
      exact ⟨rfl, hb⟩
  · rw [show_mom kind n h]
    have hp := fun w => rshow_any (kind - 7) n ⟨by omega, by omega⟩ ⟨n1, n2⟩ w
    rw [show kind - 7 = kind - 8 + 1 from by omega] at *
    generalize (showM (kind - 8 + 1) n).1 = t at *
    generalize (showM (kind - 8 + 1) n).2 = er at *
    have t13 : (kind == 13) = false := by simp; omega
    have t14 : (kind == 14) = false := by simp; omega
    obtain ⟨h1, h2⟩ := h
    go_enter Tryz.func76, Tryz.ntmps76
    go_wp2_with fail
    refine (hp _).mono ?_
    rintro e w2 ⟨rfl, hb⟩
    go_wp2_with fail
    go_ret2
    exact ⟨rfl, hb⟩
  · rw [show_none kind n h]
    have t13 : (kind == 13) = false := by simp; omega
    have t14 : (kind == 14) = false := by simp; omega
    by_cases g : kind < 8
    · clear h
      go_enter Tryz.func76, Tryz.ntmps76
      go_wp2_with fail
      go_ret2
      exact ⟨rfl, Below.refl _ _⟩
    · have g2 : 14 < kind := by omega
      clear h
      go_enter Tryz.func76, Tryz.ntmps76
      go_wp2_with fail
      go_ret2
      exact ⟨rfl, Below.refl _ _⟩

set_option maxHeartbeats 1600000 in
set_option maxRecDepth 100000 in
theorem rattr_any (kind : Int) (hk : i64 kind) (v : Value) (l : List Attr) (hl : Fine l) (nm : List UInt8) (w : World) (hA : AttrsAt w v l) :
    Calls Tryz.prog 170 #[.int .i64 kind, v, .string ⟨nm.toArray⟩] w fun e w' => e = .returned (.tuple #[.int .i64 (boundK kind l nm).1, .bool (boundK kind l nm).2]) ∧ Below w.heap.size w w' := by
  have hf := rfind_any v l nm hl.1 w hA
  have hw := fint_ways nm l
  have hB : boundK kind l nm = match fval nm l with | none => (0, false) | some s => valK kind s := rfl
  rcases hw with ⟨k, hk', h1, _, _, h4⟩ | ⟨h1, _, h3⟩
  · rw [h1] at hf
    rw [h4] at hB
    dsimp only at hB
    rw [hB]
    have hlen := hl.2 l[k] (List.getElem_mem hk')
    have hlk := hl.1
    have hv := fun w => rvalue_any kind hk l[k].2 hlen w
    rcases hA with ⟨rfl, _⟩ | ⟨b, off, cap, rfl, h0, hb, hR⟩
    · exact absurd hk' (Nat.not_lt_zero _)
    · obtain ⟨_, c2⟩ := hR k hk'
      generalize (valK kind l[k].2).1 = n at *
      generalize (valK kind l[k].2).2 = q at *
      generalize l[k].2 = y at *
      clear h1 h4 hB hR hl
      go_enter Tryz.func170, Tryz.ntmps170
      go_wp2_with fail
      refine hf.mono ?_
      rintro e w' ⟨rfl, rfl⟩
      clear hf
      go_wp2_with fail
      refine (hv _).mono ?_
      rintro e w2 ⟨rfl, hb2⟩
      go_wp2_with fail
      go_ret2
      exact ⟨rfl, hb2⟩
  · rw [h1] at hf
    rw [h3] at hB
    dsimp only at hB
    rw [hB]
    clear h1 h3 hB hA hl
    go_enter Tryz.func170, Tryz.ntmps170
    go_wp2_with fail
    refine hf.mono ?_
    rintro e w' ⟨rfl, rfl⟩
    clear hf
    go_wp2_with fail
    go_ret2
    exact ⟨rfl, Below.refl _ _⟩
end Go.Proofs.YtbhdoocajfkfiaaGreatDoor.stp

namespace Go.Proofs.YtbhdoocajfkfiaaGreatDoor.stp
open Go.ChangeShapes Go.WideShapes Go.ChangeAt Go.RowKit Go.Lib Go.Proofs.YtbhdoocajfkfiaaGreatDoor.num Go.Proofs.YtbhdoocajfkfiaaGreatDoor.mom Go.Proofs.YtbhdoocajfkfiaaGreatDoor.fits Go.Proofs.YtbhdoocajfkfiaaGreatDoor.atr

theorem sret_i {a b : Int} (h : a = b) : Ending.returned (.int .i64 a) = .returned (.int .i64 b) := by rw [h]

set_option maxHeartbeats 1600000 in
set_option maxRecDepth 100000 in
theorem least_any (kind : Int) (hk : i64 kind) (v : Value) (l : List Attr) (hl : Fine l) (w : World) (hA : AttrsAt w v l) (hG : G w) (hE : GE w) :
    Calls Tryz.prog 214 #[.int .i64 kind, v] w fun e w' => e = .returned (.tuple #[.int .i64 (leastK kind l).1, .bool (leastK kind l).2]) ∧ Below w.heap.size w w' := by
  have hb := bound_any kind hk v l hl [109, 105, 110] w hA hG hE
  have hL : leastK kind l = ((boundK kind l [109, 105, 110]).1, (boundK kind l [109, 105, 110]).2 || (kind == 14)) := rfl
  rw [hL]
  generalize (boundK kind l [109, 105, 110]).1 = n at *
  generalize (boundK kind l [109, 105, 110]).2 = q at *
  clear hL hA hl
  go_enter Tryz.func214, Tryz.ntmps214
  go_wp2_with fail
  refine hb.mono ?_
  rintro e w1 ⟨rfl, hB⟩
  clear hb
  cases q
  · go_wp2_with fail
    go_ret2
    exact ⟨sret_ib rfl (by simp), hB⟩
  · go_wp2_with fail
    go_ret2
    exact ⟨sret_ib rfl (by simp), hB⟩

set_option maxHeartbeats 1600000 in
set_option maxRecDepth 100000 in
theorem rleast_any (kind : Int) (hk : i64 kind) (v : Value) (l : List Attr) (hl : Fine l) (w : World) (hA : AttrsAt w v l) :
    Calls Tryz.prog 121 #[.int .i64 kind, v] w fun e w' => e = .returned (.tuple #[.int .i64 (leastK kind l).1, .bool (leastK kind l).2]) ∧ Below w.heap.size w w' := by
  have hb := rattr_any kind hk v l hl [109, 105, 110] w hA
  have hL : leastK kind l = if (boundK kind l [109, 105, 110]).2 = false ∧ kind = 14 then (0, true) else ((boundK kind l [109, 105, 110]).1, (boundK kind l [109, 105, 110]).2) := leastK_ref kind l
  rw [hL]
  generalize (boundK kind l [109, 105, 110]).1 = n at *
  generalize (boundK kind l [109, 105, 110]).2 = q at *
  clear hL hA hl
  obtain ⟨k1, k2⟩ := hk
  cases q
  · by_cases h : kind = 14
    · rw [if_pos ⟨rfl, h⟩]
      subst h
      go_enter Tryz.func121, Tryz.ntmps121
      go_wp2_with fail
      refine hb.mono ?_
      rintro e w1 ⟨rfl, hB⟩
      clear hb
      go_wp2_with fail
      go_ret2
      exact ⟨rfl, hB⟩
    · rw [if_neg (fun g => h g.2)]
      have t : (kind == 14) = false := by simpa using h
      clear h
      go_enter Tryz.func121, Tryz.ntmps121
      go_wp2_with fail
      refine hb.mono ?_
      rintro e w1 ⟨rfl, hB⟩
      clear hb
      go_wp2_with fail
      go_ret2
      exact ⟨rfl, hB⟩
  · rw [if_neg (fun g => by cases g.1)]
    go_enter Tryz.func121, Tryz.ntmps121
    go_wp2_with fail
    refine hb.mono ?_
    rintro e w1 ⟨rfl, hB⟩
    clear hb
    go_wp2_with fail
    go_ret2
    exact ⟨rfl, hB⟩

set_option maxHeartbeats 1600000 in
set_option maxRecDepth 100000 in
theorem most_any (kind : Int) (hk : i64 kind) (v : Value) (l : List Attr) (hl : Fine l) (w : World) (hA : AttrsAt w v l) (hG : G w) (hE : GE w) :
    Calls Tryz.prog 215 #[.int .i64 kind, v] w fun e w' => e = .returned (.tuple #[.int .i64 (mostK kind l).1, .bool (mostK kind l).2]) ∧ Below w.heap.size w w' := by
  have hb := bound_any kind hk v l hl [109, 97, 120] w hA hG hE
  have hLe := fun w h g k => least_any kind hk v l hl w h g k
  have hL : mostK kind l = if (boundK kind l [109, 97, 120]).2 = true ∨ kind ≠ 14 then ((boundK kind l [109, 97, 120]).1, (boundK kind l [109, 97, 120]).2) else (max (leastK kind l).1 100000000, true) := rfl
  rw [hL]
  have h64 := leastK_64 kind l
  generalize (boundK kind l [109, 97, 120]).1 = n at *
  generalize (boundK kind l [109, 97, 120]).2 = q at *
  generalize (leastK kind l).1 = lo at *
  generalize (leastK kind l).2 = lq at *
  clear hL hl
  obtain ⟨l1, l2⟩ := h64
  cases q
  · by_cases h : kind = 14
    · rw [if_neg (fun g => g.elim (fun g => by cases g) (fun g => g h))]
      subst h
      go_enter Tryz.func215, Tryz.ntmps215
      go_wp2_with fail
      refine hb.mono ?_
      rintro e w1 ⟨rfl, hB⟩
      clear hb
      go_wp2_with fail
      refine (hLe w1 (hA.below hB) (hG.below hB) (hE.below hB)).mono ?_
      rintro e w2 ⟨rfl, hB2⟩
      clear hLe
      go_wp2_with fail
      go_ret2
      exact ⟨sret_ib (by omega) rfl, below_trans hB hB2⟩
    · rw [if_pos (Or.inr h)]
      have t : (kind != 14) = true := by simpa using h
      clear h
      go_enter Tryz.func215, Tryz.ntmps215
      go_wp2_with fail
      refine hb.mono ?_
      rintro e w1 ⟨rfl, hB⟩
      clear hb
      go_wp2_with fail
      go_ret2
      exact ⟨rfl, hB⟩
  · rw [if_pos (Or.inl rfl)]
    go_enter Tryz.func215, Tryz.ntmps215
    go_wp2_with fail
    refine hb.mono ?_
    rintro e w1 ⟨rfl, hB⟩
    clear hb
    go_wp2_with fail
    go_ret2
    exact ⟨rfl, hB⟩

set_option maxHeartbeats 1600000 in
set_option maxRecDepth 100000 in
theorem rmost_any (kind : Int) (hk : i64 kind) (v : Value) (l : List Attr) (hl : Fine l) (w : World) (hA : AttrsAt w v l) :
    Calls Tryz.prog 122 #[.int .i64 kind, v] w fun e w' => e = .returned (.tuple #[.int .i64 (mostK kind l).1, .bool (mostK kind l).2]) ∧ Below w.heap.size w w' := by
  have hb := rattr_any kind hk v l hl [109, 97, 120] w hA
  have hLe := fun w h => rleast_any kind hk v l hl w h
  have hL : mostK kind l = if (boundK kind l [109, 97, 120]).2 = true ∨ kind ≠ 14 then ((boundK kind l [109, 97, 120]).1, (boundK kind l [109, 97, 120]).2) else (max (leastK kind l).1 100000000, true) := rfl
  rw [hL]
  have h64 := leastK_64 kind l
  generalize (boundK kind l [109, 97, 120]).1 = n at *
  generalize (boundK kind l [109, 97, 120]).2 = q at *
  generalize (leastK kind l).1 = lo at *
  generalize (leastK kind l).2 = lq at *
  clear hL hl
  obtain ⟨l1, l2⟩ := h64
  cases q
  · by_cases h : kind = 14
    · rw [if_neg (fun g => g.elim (fun g => by cases g) (fun g => g h))]
      subst h
      by_cases h2 : 100000000 < lo
      · go_enter Tryz.func122, Tryz.ntmps122
        go_wp2_with fail
        refine hb.mono ?_
        rintro e w1 ⟨rfl, hB⟩
        clear hb
        go_wp2_with fail
        refine (hLe w1 (hA.below hB)).mono ?_
        rintro e w2 ⟨rfl, hB2⟩
        clear hLe
        go_wp2_with fail
        go_ret2
        exact ⟨sret_ib (by omega) rfl, below_trans hB hB2⟩
      · go_enter Tryz.func122, Tryz.ntmps122
        go_wp2_with fail
        refine hb.mono ?_
        rintro e w1 ⟨rfl, hB⟩
        clear hb
        go_wp2_with fail
        refine (hLe w1 (hA.below hB)).mono ?_
        rintro e w2 ⟨rfl, hB2⟩
        clear hLe
        go_wp2_with fail
        go_ret2
        exact ⟨sret_ib (by omega) rfl, below_trans hB hB2⟩
    · rw [if_pos (Or.inr h)]
      have t : (kind == 14) = false := by simpa using h
      clear h
      go_enter Tryz.func122, Tryz.ntmps122
      go_wp2_with fail
      refine hb.mono ?_
      rintro e w1 ⟨rfl, hB⟩
      clear hb
      go_wp2_with fail
      go_ret2
      exact ⟨rfl, hB⟩
  · rw [if_pos (Or.inl rfl)]
    go_enter Tryz.func122, Tryz.ntmps122
    go_wp2_with fail
    refine hb.mono ?_
    rintro e w1 ⟨rfl, hB⟩
    clear hb
    go_wp2_with fail
    go_ret2
    exact ⟨rfl, hB⟩

theorem ifx0 (w : World) : (Instr.index 227 (Value.agg #[Value.string ⟨#[109, 105, 110]⟩, Value.string ⟨#[118, 97, 108, 117, 101]⟩]) (Value.int IntKind.i64 0)).run Tryz.prog w = .ok (Value.string ⟨#[109, 105, 110]⟩) w := by kernel_rfl
theorem ifx1 (w : World) : (Instr.index 227 (Value.agg #[Value.string ⟨#[109, 105, 110]⟩, Value.string ⟨#[118, 97, 108, 117, 101]⟩]) (Value.int IntKind.i64 1)).run Tryz.prog w = .ok (Value.string ⟨#[118, 97, 108, 117, 101]⟩) w := by kernel_rfl

set_option maxHeartbeats 1600000 in
set_option maxRecDepth 100000 in
theorem base_any (kind : Int) (hk : i64 kind) (v : Value) (l : List Attr) (hl : Fine l) (w : World) (hA : AttrsAt w v l) (hG : G w) (hE : GE w) :
    Calls Tryz.prog 217 #[.int .i64 kind, v] w fun e w' => e = .returned (.int .i64 (baseK kind l)) ∧ Below w.heap.size w w' := by
  have hb1 := fun w h g k => bound_any kind hk v l hl [109, 105, 110] w h g k
  have hb2 := fun w h g k => bound_any kind hk v l hl [118, 97, 108, 117, 101] w h g k
  have hL : baseK kind l = if (boundK kind l [109, 105, 110]).2 = true then (boundK kind l [109, 105, 110]).1 else if (boundK kind l [118, 97, 108, 117, 101]).2 = true then (boundK kind l [118, 97, 108, 117, 101]).1 else if kind = 10 then -259200000 else 0 := rfl
  rw [hL]
  generalize (boundK kind l [109, 105, 110]).1 = n at *
  generalize (boundK kind l [109, 105, 110]).2 = q at *
  generalize (boundK kind l [118, 97, 108, 117, 101]).1 = n2 at *
  generalize (boundK kind l [118, 97, 108, 117, 101]).2 = q2 at *
  clear hL hl
  obtain ⟨r, hr⟩ : ∃ r, r = (if q = true then n else if q2 = true then n2 else if kind = 10 then -259200000 else 0) := ⟨_, rfl⟩
  rw [← hr]
  have HR := Lib.hid hr
  clear hr
  have f0 := ifx0
  have f1 := ifx1
  go_enter Tryz.func217, Tryz.ntmps217
  go_wp2_with fail
  go_loopw [10] (fun s10 wr => ∃ k : Nat, s10 = .int .i64 k ∧ (k = 0 ∨ k = 1 ∧ q = false ∨ k = 2 ∧ q = false ∧ q2 = false) ∧ Below w.heap.size w wr) (fun s10 _ => (3 - RowKit.intOf s10).toNat)
  case atStart => exact ⟨0, rfl, .inl rfl, Below.refl _ _⟩
  case round =>
    obtain ⟨k, rfl, hk3, hB⟩ := hrel
    rcases hk3 with rfl | ⟨rfl, rfl⟩ | ⟨rfl, rfl, rfl⟩
    · cases q
      · go_wp2_with fail
        refine (hb1 _ (hA.below hB) (hG.below hB) (hE.below hB)).mono ?_
        rintro e w1 ⟨rfl, hB1⟩
        go_wp2_with fail
        go_roundw
        case rel => exact ⟨1, rfl, .inr (.inl ⟨rfl, by first | rfl | trivial⟩), below_trans hB hB1⟩
        case measure => simp [RowKit.intOf]
      · have HX : Hid (r = n) := Lib.hid (by rw [HR.out, if_pos rfl])
        go_wp2_with fail
        refine (hb1 _ (hA.below hB) (hG.below hB) (hE.below hB)).mono ?_
        rintro e w1 ⟨rfl, hB1⟩
        go_wp2_with fail
        go_ret
        exact ⟨sret_i HX.out.symm, below_trans hB hB1⟩
    · cases q2
      · go_wp2_with fail
        refine (hb2 _ (hA.below hB) (hG.below hB) (hE.below hB)).mono ?_
        rintro e w1 ⟨rfl, hB1⟩
        go_wp2_with fail
        go_roundw
        case rel => exact ⟨2, rfl, .inr (.inr ⟨rfl, by first | rfl | trivial, by first | rfl | trivial⟩), below_trans hB hB1⟩
        case measure => simp [RowKit.intOf]
      · have HX : Hid (r = n2) := Lib.hid (by rw [HR.out, if_neg (by decide), if_pos rfl])
        go_wp2_with fail
        refine (hb2 _ (hA.below hB) (hG.below hB) (hE.below hB)).mono ?_
        rintro e w1 ⟨rfl, hB1⟩
        go_wp2_with fail
        go_ret
        exact ⟨sret_i HX.out.symm, below_trans hB hB1⟩
    · by_cases h : kind = 10
      · have HX : Hid (r = -259200000) := Lib.hid (by rw [HR.out, if_neg (by decide), if_neg (by decide), if_pos h])
        have t : (kind == 10) = true := by simpa using h
        clear h
        go_wp2_with fail
        go_ret
        exact ⟨sret_i HX.out.symm, hB⟩
      · have HX : Hid (r = 0) := Lib.hid (by rw [HR.out, if_neg (by decide), if_neg (by decide), if_neg h])
        have t : (kind == 10) = false := by simpa using h
        clear h
        go_wp2_with fail
        go_ret
        exact ⟨sret_i HX.out.symm, hB⟩

set_option maxHeartbeats 1600000 in
set_option maxRecDepth 100000 in
theorem rbase_any (kind : Int) (hk : i64 kind) (v : Value) (l : List Attr) (hl : Fine l) (w : World) (hA : AttrsAt w v l) :
    Calls Tryz.prog 124 #[.int .i64 kind, v] w fun e w' => e = .returned (.int .i64 (baseK kind l)) ∧ Below w.heap.size w w' := by
  have hb1 := fun w h => rattr_any kind hk v l hl [109, 105, 110] w h
  have hb2 := fun w h => rattr_any kind hk v l hl [118, 97, 108, 117, 101] w h
  have hL : baseK kind l = if (boundK kind l [109, 105, 110]).2 = true then (boundK kind l [109, 105, 110]).1 else if (boundK kind l [118, 97, 108, 117, 101]).2 = true then (boundK kind l [118, 97, 108, 117, 101]).1 else if kind = 10 then -259200000 else 0 := rfl
  rw [hL]
  generalize (boundK kind l [109, 105, 110]).1 = n at *
  generalize (boundK kind l [109, 105, 110]).2 = q at *
  generalize (boundK kind l [118, 97, 108, 117, 101]).1 = n2 at *
  generalize (boundK kind l [118, 97, 108, 117, 101]).2 = q2 at *
  clear hL hl
  obtain ⟨r, hr⟩ : ∃ r, r = (if q = true then n else if q2 = true then n2 else if kind = 10 then -259200000 else 0) := ⟨_, rfl⟩
  rw [← hr]
  have HR := Lib.hid hr
  clear hr
  go_enter Tryz.func124, Tryz.ntmps124
  go_wp2_with fail
  refine (hb1 _ hA).mono ?_
  rintro e w1 ⟨rfl, hB⟩
  cases q
  · go_wp2_with fail
    refine (hb2 _ (hA.below hB)).mono ?_
    rintro e w2 ⟨rfl, hB2⟩
    have hBB := below_trans hB hB2
    cases q2
    · by_cases h : kind = 10
      · have HX : Hid (r = -259200000) := Lib.hid (by rw [HR.out, if_neg (by decide), if_neg (by decide), if_pos h])
        have t : (kind == 10) = true := by simpa using h
        clear h
        go_wp2_with fail
        go_ret
        exact ⟨sret_i HX.out.symm, hBB⟩
      · have HX : Hid (r = 0) := Lib.hid (by rw [HR.out, if_neg (by decide), if_neg (by decide), if_neg h])
        have t : (kind == 10) = false := by simpa using h
        clear h
        go_wp2_with fail
        go_ret
        exact ⟨sret_i HX.out.symm, hBB⟩
    · have HX : Hid (r = n2) := Lib.hid (by rw [HR.out, if_neg (by decide), if_pos rfl])
      go_wp2_with fail
      go_ret
      exact ⟨sret_i HX.out.symm, hBB⟩
  · have HX : Hid (r = n) := Lib.hid (by rw [HR.out, if_pos rfl])
    go_wp2_with fail
    go_ret
    exact ⟨sret_i HX.out.symm, hB⟩
end Go.Proofs.YtbhdoocajfkfiaaGreatDoor.stp

namespace Go.Proofs.YtbhdoocajfkfiaaGreatDoor.stp
open Go.ChangeShapes Go.WideShapes Go.ChangeAt Go.RowKit Go.Lib Go.Proofs.YtbhdoocajfkfiaaGreatDoor.num Go.Proofs.YtbhdoocajfkfiaaGreatDoor.mom Go.Proofs.YtbhdoocajfkfiaaGreatDoor.fits Go.Proofs.YtbhdoocajfkfiaaGreatDoor.atr Go.Proofs.YtbhdoocajfkfiaaGreatDoor.link

set_option maxHeartbeats 800000 in
set_option maxRecDepth 100000 in
theorem same_any (a b : List UInt8) (ha : a.length ≤ 1000000) (hb : b.length ≤ 1000000) (w : World) :
    Calls Tryz.prog 264 #[.string ⟨a.toArray⟩, .string ⟨b.toArray⟩] w fun e w' => e = .returned (.bool (lowS a == lowS b)) ∧ Below w.heap.size w w' := by
  have h1 := fun w => tlower_any a (by omega) w
  have h2 := fun w => tlower_any b (by omega) w
  generalize lowS a = x at *
  generalize lowS b = y at *
  go_enter Tryz.func264, Tryz.ntmps264
  go_wp2_with fail
  refine (h1 _).mono ?_
  rintro e w1 ⟨rfl, hB⟩
  go_wp2_with fail
  refine (h2 _).mono ?_
  rintro e w2 ⟨rfl, hB2⟩
  go_wp2_with fail
  go_ret
  exact ⟨rfl, below_trans hB hB2⟩

theorem scaleK_ways (kind : Int) : (kind = 8 ∧ scaleK kind = 86400000) ∨ (kind = 9 ∧ scaleK kind = 1) ∨ (kind = 10 ∧ scaleK kind = 604800000) ∨ (kind = 11 ∧ scaleK kind = 1000) ∨ (kind = 12 ∧ scaleK kind = 1000) ∨ (kind ≠ 8 ∧ kind ≠ 9 ∧ kind ≠ 10 ∧ kind ≠ 11 ∧ kind ≠ 12 ∧ scaleK kind = 1000000) := by
  unfold scaleK
  by_cases h8 : kind = 8
  · left; exact ⟨h8, by rw [if_pos h8]⟩
  by_cases h9 : kind = 9
  · right; left; exact ⟨h9, by rw [if_neg h8, if_pos h9]⟩
  by_cases h10 : kind = 10
  · right; right; left; exact ⟨h10, by rw [if_neg h8, if_neg h9, if_pos h10]⟩
  by_cases h11 : kind = 11
  · right; right; right; left; exact ⟨h11, by rw [if_neg h8, if_neg h9, if_neg h10, if_pos (Or.inl h11)]⟩
  by_cases h12 : kind = 12
  · right; right; right; right; left; exact ⟨h12, by rw [if_neg h8, if_neg h9, if_neg h10, if_pos (Or.inr h12)]⟩
  · right; right; right; right; right; exact ⟨h8, h9, h10, h11, h12, by rw [if_neg h8, if_neg h9, if_neg h10, if_neg (by omega)]⟩

set_option maxHeartbeats 800000 in
set_option maxRecDepth 100000 in
theorem rscale_any (kind : Int) (hk : i64 kind) (w : World) :
    Calls Tryz.prog 171 #[.int .i64 kind] w fun e w' => e = .returned (.int .i64 (scaleK kind)) ∧ w = w' := by
  obtain ⟨k1, k2⟩ := hk
  rcases scaleK_ways kind with ⟨rfl, h⟩ | ⟨rfl, h⟩ | ⟨rfl, h⟩ | ⟨rfl, h⟩ | ⟨rfl, h⟩ | ⟨a8, a9, a10, a11, a12, h⟩
  case inr.inr.inr.inr.inr =>
    rw [h]
    have t8 : (kind == 8) = false := by simpa using a8
    have t9 : (kind == 9) = false := by simpa using a9
    have t10 : (kind == 10) = false := by simpa using a10
    have t11 : (kind == 11) = false := by simpa using a11
    have t12 : (kind == 12) = false := by simpa using a12
    clear a8 a9 a10 a11 a12 h
    go_enter Tryz.func171, Tryz.ntmps171
    go_wp2_with fail
    go_ret
    exact ⟨rfl, rfl⟩
  all_goals
    rw [h]
    clear h
    go_enter Tryz.func171, Tryz.ntmps171
    go_wp2_with fail
    go_ret
    exact ⟨rfl, rfl⟩

/-- what the step is, by the attribute -/
theorem stepK_some (kind : Int) (l : List Attr) (s : List UInt8) (hi : isK kind = true) (h : fval [115, 116, 101, 112] l = some s) :
    stepK kind l = if lowS s = [97, 110, 121] then (0, false) else if (parseS s).2 ≠ 0 ∨ (parseS s).1 ≤ 0 then (byK kind, true) else (stepQ (byK kind) (scaleK kind) (parseS s).1, true) := by
  have e : nStep = [115, 116, 101, 112] := rfl
  unfold stepK
  rw [if_neg (by rw [hi]; decide), e, h]
  rfl
theorem stepK_none (kind : Int) (l : List Attr) (hi : isK kind = true) (h : fval [115, 116, 101, 112] l = none) : stepK kind l = (byK kind, true) := by
  have e : nStep = [115, 116, 101, 112] := rfl
  unfold stepK
  rw [if_neg (by rw [hi]; decide), e, h]
theorem stepK_no (kind : Int) (l : List Attr) (hi : isK kind = false) : stepK kind l = (0, false) := by
  unfold stepK
  rw [if_pos hi]
theorem low_any : lowS [97, 110, 121] = [97, 110, 121] := by decide

/-- the product's halves, and the quotient -/
theorem mul_parts (n s : Nat) (_hn : n ≤ 1000000000000000000) (_hs : s ≤ 604800000) :
    (n * s / 18446744073709551616 * 18446744073709551616 + n * s % 18446744073709551616) / 1000000 = n * s / 1000000 ∧ n * s % 18446744073709551616 < 18446744073709551616 ∧ (1000000 ≤ n * s / 18446744073709551616 → 1000000000000000000 < n * s / 1000000) ∧ (n * s / 18446744073709551616 < 1000000 → n * s / 1000000 < 18446744073709551616) := by
  generalize n * s = p
  omega

theorem stepQ_nat (b : Int) (x s : Nat) : stepQ b (s : Int) (x : Int) = if ((x * s / 1000000 : Nat) : Int) = 0 ∨ 1000000000000000000 < ((x * s / 1000000 : Nat) : Int) then b else ((x * s / 1000000 : Nat) : Int) := by
  have e : ((x : Int) * (s : Int)) / 1000000 = ((x * s / 1000000 : Nat) : Int) := by rw [Int.natCast_ediv, Int.natCast_mul]; rfl
  unfold stepQ
  rw [e]

set_option maxHeartbeats 6400000 in
set_option maxRecDepth 100000 in
theorem step_any (kind : Int) (hk : i64 kind) (v : Value) (l : List Attr) (hl : Fine l) (w : World) (hA : AttrsAt w v l) (hG : G w) (hE : GE w) :
    Calls Tryz.prog 216 #[.int .i64 kind, v] w fun e w' => e = .returned (.tuple #[.int .i64 (stepK kind l).1, .bool (stepK kind l).2]) ∧ Below w.heap.size w w' := by
  have ho := of_any kind hk w
  cases hi : isK kind with
  | false =>
    rw [stepK_no kind l hi]
    rw [hi] at ho
    generalize uM kind = um at *
    generalize uS kind = us at *
    generalize uB kind = ub at *
    clear hi
    go_enter Tryz.func216, Tryz.ntmps216
    go_wp2_with fail
    refine ho.mono ?_
    rintro e w1 ⟨rfl, hb⟩
    clear ho
    go_wp2_with fail
    go_ret2
    exact ⟨rfl, hb.alloc hb.size _⟩
  | true =>
    have eS : uS kind = scaleK kind := by unfold uS; rw [hi]; rfl
    have eB : uB kind = byK kind := by unfold uB; rw [hi]; rfl
    rw [hi, eS, eB] at ho
    have ha := fun w h => attr_any v l [115, 116, 101, 112] hl.1 w h
    have hlen := fval_len [115, 116, 101, 112] l hl
    have hS : attrS [115, 116, 101, 112] l = (fval [115, 116, 101, 112] l).getD [] := rfl
    have hI : attrB [115, 116, 101, 112] l = (fval [115, 116, 101, 112] l).isSome := rfl
    rw [hS, hI] at ha
    rw [hS] at hlen
    obtain ⟨sp1, sp2⟩ := scaleK_pos kind
    obtain ⟨sc, hsc⟩ : ∃ sc : Nat, scaleK kind = (sc : Int) := ⟨(scaleK kind).toNat, by omega⟩
    cases hf : fval [115, 116, 101, 112] l with
    | none =>
      rw [stepK_none kind l hi hf]
      rw [hf] at ha
      dsimp only [Option.getD, Option.isSome] at ha
      have hp := fun w g k => parse_any [] (by decide) w g k
      generalize uM kind = um at *
      generalize scaleK kind = us at *
      generalize byK kind = ub at *
      generalize (parseS []).1 = n at *
      generalize (parseS []).2 = er at *
      clear hi hf hS hI eS eB hl hlen hsc
      go_enter Tryz.func216, Tryz.ntmps216
      go_wp2_with fail
      refine ho.mono ?_
      rintro e w1 ⟨rfl, hb⟩
      clear ho
      obtain ⟨W1, hW1⟩ : ∃ W1, W1 = w1.alloc (.cells #[.int .i64 um, .int .i64 us, .int .i64 ub] 134) := ⟨_, rfl⟩
      have B1 : Below w.heap.size w W1 := by rw [hW1]; exact hb.alloc hb.size _
      have k2 : W1.cell? ⟨w1.heap.size, 2, none⟩ = some (.int .i64 ub) := by rw [hW1, World.cell?_alloc_new]; rfl
      go_wp2_with fail
      rw [← hW1]
      clear hW1
      refine (ha W1 (hA.below B1)).mono ?_
      rintro e w2 ⟨rfl, hb2⟩
      have B2 := below_trans B1 hb2
      have k3 := cell_below hb2 k2
      clear ha k2
      go_wp2_with fail
      refine (hp w2 (hG.below B2) (hE.below B2)).mono ?_
      rintro e w3 ⟨rfl, hb3⟩
      have k4 := cell_below hb3 k3
      clear hp k3
      go_wp2_with fail
      go_ret2
      exact ⟨rfl, below_trans B2 hb3⟩
    | some s =>
      rw [stepK_some kind l s hi hf]
      rw [hf] at ha hlen
      dsimp only [Option.getD, Option.isSome] at ha hlen
      have hsm := fun w => same_any s [97, 110, 121] hlen (by decide) w
      rw [low_any] at hsm
      have hp := fun w g k => parse_any s (by omega) w g k
      obtain ⟨pb1, pb2, pb3, pb4⟩ := parse_bd s
      have HSC : Hid (scaleK kind = (sc : Int) ∧ sc ≤ 604800000) := Lib.hid ⟨hsc, by omega⟩
      generalize scaleK kind = us at *
      generalize uM kind = um at *
      generalize byK kind = ub at *
      obtain ⟨r, hr⟩ : ∃ r, r = (if lowS s = [97, 110, 121] then (0, false) else if (parseS s).2 ≠ 0 ∨ (parseS s).1 ≤ 0 then (ub, true) else (stepQ ub us (parseS s).1, true) : Int × Bool) := ⟨_, rfl⟩
      rw [← hr]
      have HR := Lib.hid hr
      clear hi hf hS hI eS eB hl hsc hr
      have hle : (lowS s == [97, 110, 121]) = decide (lowS s = [97, 110, 121]) := lst_eq _ _
      rw [hle] at hsm
      clear hle
      generalize (parseS s).1 = n at *
      generalize (parseS s).2 = er at *
      go_enter Tryz.func216, Tryz.ntmps216
      go_wp2_with fail
      refine ho.mono ?_
      rintro e w1 ⟨rfl, hb⟩
      clear ho
      obtain ⟨W1, hW1⟩ : ∃ W1, W1 = w1.alloc (.cells #[.int .i64 um, .int .i64 us, .int .i64 ub] 134) := ⟨_, rfl⟩
      have B1 : Below w.heap.size w W1 := by rw [hW1]; exact hb.alloc hb.size _
      have k1 : W1.cell? ⟨w1.heap.size, 1, none⟩ = some (.int .i64 us) := by rw [hW1, World.cell?_alloc_new]; rfl
      have k2 : W1.cell? ⟨w1.heap.size, 2, none⟩ = some (.int .i64 ub) := by rw [hW1, World.cell?_alloc_new]; rfl
      go_wp2_with fail
      rw [← hW1]
      clear hW1
      refine (ha W1 (hA.below B1)).mono ?_
      rintro e w2 ⟨rfl, hb2⟩
      have B2 := below_trans B1 hb2
      have k1 := cell_below hb2 k1
      have k2 := cell_below hb2 k2
      clear ha
      go_wp2_with fail
      refine (hsm w2).mono ?_
      rintro e w3 ⟨rfl, hb3⟩
      have B3 := below_trans B2 hb3
      have k1 := cell_below hb3 k1
      have k2 := cell_below hb3 k2
      clear hsm
      by_cases hany : lowS s = [97, 110, 121]
      · have HX : Hid (r = (0, false)) := Lib.hid (by rw [HR.out, if_pos hany])
        rw [decide_eq_true hany]
        clear hany HR
        go_wp2_with fail
        go_ret2
        exact ⟨sret_ib (by rw [HX.out]) (by rw [HX.out]), B3⟩
      have HR1 := Lib.hid (HR.out.trans (if_neg hany))
      rw [decide_eq_false hany]
      clear hany HR
      go_wp2_with fail
      refine (hp w3 (hG.below B3) (hE.below B3)).mono ?_
      rintro e w4 ⟨rfl, hb4⟩
      have B4 := below_trans B3 hb4
      have k1 := cell_below hb4 k1
      have k2 := cell_below hb4 k2
      clear hp
      by_cases he : er = 0
      case neg =>
        have HX : Hid (r = (ub, true)) := Lib.hid (by rw [HR1.out, if_pos (Or.inl he)])
        have t : (er != 0) = true := by simpa using he
        clear he HR1
        go_wp2_with fail
        go_ret2
        exact ⟨sret_ib (by rw [HX.out]) (by rw [HX.out]), B4⟩
      by_cases hn : n ≤ 0
      · have HX : Hid (r = (ub, true)) := Lib.hid (by rw [HR1.out, if_pos (Or.inr hn)])
        have t : (er != 0) = false := by simpa using he
        clear he HR1
        go_wp2_with fail
        go_ret2
        exact ⟨sret_ib (by rw [HX.out]) (by rw [HX.out]), B4⟩
      have HR2 := Lib.hid (HR1.out.trans (if_neg (by omega)))
      have t : (er != 0) = false := by simpa using he
      clear he HR1
      obtain ⟨hsc, scn⟩ := HSC.out
      obtain ⟨x, hx⟩ : ∃ x : Nat, n = (x : Int) := ⟨n.toNat, by omega⟩
      have hm := fun w => Tryz.bits_Mul64 x sc (by omega) (by omega) w
      have hmp := mul_parts x sc (by omega) scn
      have hq := stepQ_nat ub x sc
      obtain ⟨hi, hhi⟩ : ∃ hi : Int, hi = ((x * sc / 18446744073709551616 : Nat) : Int) := ⟨_, rfl⟩
      obtain ⟨lo, hlo⟩ : ∃ lo : Int, lo = ((x * sc % 18446744073709551616 : Nat) : Int) := ⟨_, rfl⟩
      obtain ⟨Q, hQ⟩ : ∃ Q : Int, Q = ((x * sc / 1000000 : Nat) : Int) := ⟨_, rfl⟩
      rw [← hhi, ← hlo, ← hx, ← hsc] at hm
      rw [← hx, ← hsc, ← hQ] at hq
      have HQ := Lib.hid hq
      have hi0 : 0 ≤ hi := by omega
      have hl0 : 0 ≤ lo := by omega
      have hbg : 1000000 ≤ hi → 1000000000000000000 < Q := by have := hmp.2.2.1; omega
      have HBG := Lib.hid hbg
      have hd : hi < 1000000 → ∀ w, Calls Tryz.prog 266 #[.int .u64 hi, .int .u64 lo, .int .u64 1000000] w fun e w' => ∃ r : Int, e = .returned (.tuple #[.int .u64 Q, .int .u64 r]) ∧ Below w.heap.size w w' := by
        intro g w
        have h := div64_any (x * sc / 18446744073709551616) (x * sc % 18446744073709551616) (by omega) hmp.2.1 w
        rw [hmp.1, ← hhi, ← hlo, ← hQ] at h
        exact h
      have HD := Lib.hid hd
      have hq0 : 0 ≤ Q := by omega
      clear hhi hlo hQ hmp hq hbg hd hx hsc scn HSC
      by_cases hbig : 1000000 ≤ hi
      · have HX : Hid (r = (ub, true)) := Lib.hid (by rw [HR2.out, HQ.out, if_pos (Or.inr (HBG.out hbig))])
        go_wp2_with fail
        refine (hm _).mono ?_
        rintro e w5 ⟨rfl, rfl⟩
        go_wp2_with fail
        go_ret2
        exact ⟨sret_ib (by rw [HX.out]) (by rw [HX.out]), B4⟩
      have hd := HD.out (by omega)
      by_cases hz : Q = 0
      · have HX : Hid (r = (ub, true)) := Lib.hid (by rw [HR2.out, HQ.out, if_pos (Or.inl hz)])
        have t2 : (Q == 0) = true := by simpa using hz
        clear hz
        go_wp2_with fail
        refine (hm _).mono ?_
        rintro e w5 ⟨rfl, rfl⟩
        go_wp2_with fail
        refine (hd _).mono ?_
        rintro e w6 ⟨rr, rfl, hb6⟩
        have k2 := cell_below hb6 k2
        clear hd hm
        go_wp2_with fail
        go_ret2
        exact ⟨sret_ib (by rw [HX.out]) (by rw [HX.out]), below_trans B4 hb6⟩
      have t2 : (Q == 0) = false := by simpa using hz
      by_cases hg : 1000000000000000000 < Q
      · have HX : Hid (r = (ub, true)) := Lib.hid (by rw [HR2.out, HQ.out, if_pos (Or.inr hg)])
        clear hz
        go_wp2_with fail
        refine (hm _).mono ?_
        rintro e w5 ⟨rfl, rfl⟩
        go_wp2_with fail
        refine (hd _).mono ?_
        rintro e w6 ⟨rr, rfl, hb6⟩
        have k2 := cell_below hb6 k2
        clear hd hm
        go_wp2_with fail
        go_ret2
        exact ⟨sret_ib (by rw [HX.out]) (by rw [HX.out]), below_trans B4 hb6⟩
      · have HX : Hid (r = (Q, true)) := Lib.hid (by rw [HR2.out, HQ.out, if_neg (by omega)])
        clear hz
        go_wp2_with fail
        refine (hm _).mono ?_
        rintro e w5 ⟨rfl, rfl⟩
        go_wp2_with fail
        refine (hd _).mono ?_
        rintro e w6 ⟨rr, rfl, hb6⟩
        clear hd hm
        go_wp2_with fail
        go_ret2
        exact ⟨sret_ib (by rw [HX.out]) (by rw [HX.out]), below_trans B4 hb6⟩
end Go.Proofs.YtbhdoocajfkfiaaGreatDoor.stp

namespace Go.Proofs.YtbhdoocajfkfiaaGreatDoor.stp
open Go.ChangeShapes Go.WideShapes Go.ChangeAt Go.RowKit Go.Lib Go.Proofs.YtbhdoocajfkfiaaGreatDoor.num Go.Proofs.YtbhdoocajfkfiaaGreatDoor.mom Go.Proofs.YtbhdoocajfkfiaaGreatDoor.fits Go.Proofs.YtbhdoocajfkfiaaGreatDoor.atr Go.Proofs.YtbhdoocajfkfiaaGreatDoor.link

set_option maxHeartbeats 6400000 in
set_option maxRecDepth 100000 in
theorem rstep_any (kind : Int) (hk : i64 kind) (v : Value) (l : List Attr) (hl : Fine l) (w : World) (hA : AttrsAt w v l) :
    Calls Tryz.prog 123 #[.int .i64 kind, v] w fun e w' => e = .returned (.tuple #[.int .i64 (stepK kind l).1, .bool (stepK kind l).2]) ∧ Below w.heap.size w w' := by
  have hsc := fun w => rscale_any kind hk w
  obtain ⟨k1, k2⟩ := hk
  by_cases c1 : kind < 8
  · rw [stepK_no kind l (by unfold isK; rw [decide_eq_false (by omega)]; rfl)]
    go_enter Tryz.func123, Tryz.ntmps123
    go_wp2_with fail
    go_ret2
    exact ⟨rfl, Below.refl _ _⟩
  by_cases c2 : 14 < kind
  · rw [stepK_no kind l (by unfold isK; rw [decide_eq_false (show ¬ kind ≤ 14 by omega), Bool.and_false])]
    go_enter Tryz.func123, Tryz.ntmps123
    go_wp2_with fail
    go_ret2
    exact ⟨rfl, Below.refl _ _⟩
  have hi : isK kind = true := by unfold isK; rw [decide_eq_true (by omega), decide_eq_true (by omega)]; rfl
  have hby : byK kind = if kind = 11 ∨ kind = 12 then 60000 else scaleK kind := rfl
  have hf := rfind_any v l [115, 116, 101, 112] hl.1 w hA
  have hw := fint_ways [115, 116, 101, 112] l
  obtain ⟨sp1, sp2⟩ := scaleK_pos kind
  obtain ⟨r, hr⟩ : ∃ r, r = stepK kind l := ⟨_, rfl⟩
  rw [← hr]
  have hrn : fval [115, 116, 101, 112] l = none → r = (byK kind, true) := fun h => hr.trans (stepK_none kind l hi h)
  have hrs : ∀ s, fval [115, 116, 101, 112] l = some s → r = _ := fun s h => hr.trans (stepK_some kind l s hi h)
  generalize fint [115, 116, 101, 112] l = p at *
  generalize scaleK kind = us at *
  generalize byK kind = ub at *
  have HBY := Lib.hid hby
  have HW := Lib.hid hw
  have HRN := Lib.hid hrn
  have HRS := Lib.hid hrs
  have HL := Lib.hid hl
  clear hby hw hrn hrs hr hi hl
  go_enter Tryz.func123, Tryz.ntmps123
  go_wp2_with fail
  refine (hsc _).mono ?_
  rintro e w' ⟨rfl, rfl⟩
  go_upto_region 4 with fail
  go_cut [27] (fun s27 wx => s27 = .bool ((kind == 11) || (kind == 12)) ∧ w = wx)
  case first =>
    by_cases g1 : kind = 11
    · subst g1
      go_wp2_with fail
      go_meet
      exact ⟨rfl, rfl⟩
    · have t : (kind == 11) = false := by simpa using g1
      clear g1
      go_wp2_with fail
      go_meet
      exact ⟨by simp [t], rfl⟩
  case rest =>
  obtain ⟨rfl, rfl⟩ := hcut
  have hbb : ((kind == 11) || (kind == 12)) = true ∧ ub = 60000 ∨ ((kind == 11) || (kind == 12)) = false ∧ ub = us := by
    rw [HBY.out]
    by_cases g : kind = 11 ∨ kind = 12
    · left; rw [if_pos g]; exact ⟨by rcases g with rfl | rfl <;> rfl, rfl⟩
    · right; rw [if_neg g]; exact ⟨by rw [Bool.or_eq_false_iff]; exact ⟨by simp; omega, by simp; omega⟩, rfl⟩
  generalize ((kind == 11) || (kind == 12)) = bb at *
  have HBB := Lib.hid hbb
  clear hbb HBY
  go_upto_if 27 with fail
  go_cut [6] (fun s6 wx => s6 = .int .i64 ub ∧ w = wx)
  case first =>
    cases bb
    · have HX : Hid (ub = us) := Lib.hid (by rcases HBB.out with ⟨h, _⟩ | ⟨_, h⟩; cases h; exact h)
      clear HBB
      go_wp2_with fail
      go_meet
      exact ⟨by rw [HX.out], rfl⟩
    · have HX : Hid (ub = 60000) := Lib.hid (by rcases HBB.out with ⟨_, h⟩ | ⟨h, _⟩; exact h; cases h)
      clear HBB
      go_wp2_with fail
      go_meet
      exact ⟨by rw [HX.out], rfl⟩
  case rest =>
  obtain ⟨rfl, rfl⟩ := hcut
  clear HBB
  go_wp2_with fail
  refine hf.mono ?_
  rintro e w' ⟨rfl, rfl⟩
  clear hf
  rcases HW.out with ⟨k, hk, rfl, _, _, h4⟩ | ⟨rfl, _, h3⟩
  case inr =>
    have HX := Lib.hid (HRN.out h3)
    clear HW h3 HRS HRN
    go_wp2_with fail
    go_ret2
    exact ⟨sret_ib (by rw [HX.out]) (by rw [HX.out]), Below.refl _ _⟩
  have hR := HRS.out _ h4
  have hlk := HL.out.1
  have hlen := HL.out.2 l[k] (List.getElem_mem hk)
  rcases hA with ⟨rfl, _⟩ | ⟨b, off, cap, rfl, h0, hb, hRow⟩
  · exact absurd hk (Nat.not_lt_zero _)
  obtain ⟨_, x2⟩ := hRow k hk
  generalize l[k].2 = s at *
  clear h4 HRS HRN HW hRow HL
  have HR := Lib.hid hR
  clear hR
  have hlo := fun w => rlower_any s (by omega) w
  have hle : (lowS s == [97, 110, 121]) = decide (lowS s = [97, 110, 121]) := lst_eq _ _
  have hp := fun w => refparse_any s w (by omega)
  obtain ⟨pb1, pb2, pb3, pb4⟩ := parse_bd s
  generalize (parseS s).1 = n at *
  generalize (parseS s).2 = er at *
  generalize lowS s = lo at *
  go_wp2_with fail
  refine (hlo _).mono ?_
  rintro e w1 ⟨rfl, hB⟩
  clear hlo
  by_cases hany : lo = [97, 110, 121]
  · have HX : Hid (r = (0, false)) := Lib.hid (by rw [HR.out, if_pos hany])
    rw [decide_eq_true hany] at hle
    clear hany HR
    go_wp2_with fail
    go_ret2
    exact ⟨sret_ib (by rw [HX.out]) (by rw [HX.out]), hB⟩
  have HR1 := Lib.hid (HR.out.trans (if_neg hany))
  rw [decide_eq_false hany] at hle
  clear hany HR
  have x3 := cell_below hB x2
  clear x2
  go_wp2_with fail
  refine (hp _).mono ?_
  rintro e w' ⟨rfl, rfl⟩
  clear hp hle
  by_cases he : er = 0
  case neg =>
    have HX : Hid (r = (ub, true)) := Lib.hid (by rw [HR1.out, if_pos (Or.inl he)])
    have t : (er != 0) = true := by simpa using he
    clear he HR1
    go_wp2_with fail
    go_ret2
    exact ⟨sret_ib (by rw [HX.out]) (by rw [HX.out]), hB⟩
  have t : (er != 0) = false := by simpa using he
  by_cases hn : n ≤ 0
  · have HX : Hid (r = (ub, true)) := Lib.hid (by rw [HR1.out, if_pos (Or.inr hn)])
    clear he HR1
    go_wp2_with fail
    go_ret2
    exact ⟨sret_ib (by rw [HX.out]) (by rw [HX.out]), hB⟩
  have HR2 := Lib.hid (HR1.out.trans (if_neg (by omega)))
  clear he HR1
  obtain ⟨Q, hQ⟩ : ∃ Q, Q = n * us / 1000000 := ⟨_, rfl⟩
  have hR3 : r = (if Q = 0 ∨ 1000000000000000000 < Q then ub else Q, true) := by rw [HR2.out, hQ]; rfl
  have HR3 := Lib.hid hR3
  have hq := parts_q n us (by omega) sp1
  have hbig := parts_big n us (by omega) sp1
  have hsm := parts_small n us (by omega) sp1
  rw [← hQ] at hq hbig
  have hp0 : 0 ≤ n % 1000000 * us := Int.mul_nonneg (by omega) (by omega)
  have hp1 : n % 1000000 * us ≤ 999999 * 604800000 := Int.mul_le_mul (by omega) sp2 (by omega) (by omega)
  have hw0 : 0 ≤ n / 1000000 * us := Int.mul_nonneg (by omega) (by omega)
  have hK : (1000000000000000000 : Int).tdiv us = 1000000000000000000 / us := Int.tdiv_eq_ediv_of_nonneg (by decide)
  obtain ⟨W, hW⟩ : ∃ W, W = n / 1000000 := ⟨_, rfl⟩
  obtain ⟨M, hM⟩ : ∃ M, M = n % 1000000 := ⟨_, rfl⟩
  rw [← hW] at hq hbig hsm hw0
  rw [← hM] at hq hp0 hp1
  have hk0 : 0 ≤ 1000000000000000000 / us := Int.ediv_nonneg (by decide) (by omega)
  have hk1 : 1000000000000000000 / us ≤ 1000000000000000000 := by
    have := Int.ediv_le_self (a := 1000000000000000000) us (by decide)
    exact this
  generalize 1000000000000000000 / us = K at *
  have HQ := Lib.hid hq
  have HB := Lib.hid hbig
  have HS := Lib.hid hsm
  have HWM := Lib.hid (And.intro hW hM)
  have us0 : (us == 0) = false := by simp; omega
  have us0' : us ≠ 0 := by omega
  have wb : 0 ≤ W ∧ W ≤ 1000000000000 := by omega
  obtain ⟨wb1, wb2⟩ := wb
  have mb : 0 ≤ M ∧ M < 1000000 := by omega
  obtain ⟨mb1, mb2⟩ := mb
  clear hQ hR3 HR2 hq hbig hsm hW hM
  go_wp2_with fail
  refine (hsc _).mono ?_
  rintro e w' ⟨rfl, rfl⟩
  clear hsc
  go_upto_region 16 with fail
  go_cut [11, 12] (fun s11 s12 wx => s11 = .int .i64 W ∧ s12 = .int .i64 M ∧ w1 = wx)
  case first =>
    go_wp2_with fail
    go_meet
    exact ⟨by rw [HWM.out.1], by rw [HWM.out.2], rfl⟩
  case rest =>
  obtain ⟨rfl, rfl, rfl⟩ := hcut
  clear HWM
  by_cases g : K < W
  · have HX : Hid (r = (ub, true)) := Lib.hid (by rw [HR3.out, if_pos (Or.inr (HB.out g))])
    go_wp2_with fail
    go_ret2
    exact ⟨sret_ib (by rw [HX.out]) (by rw [HX.out]), hB⟩
  have hA1 := HS.out (by omega)
  have q0 : 0 ≤ Q := by have := HQ.out; omega
  have q1 : Q ≤ 2000000000000000000 := by have := HQ.out; omega
  clear HB HS
  go_upto_region 19 with fail
  go_cut [13] (fun s13 wx => s13 = .int .i64 Q ∧ w1 = wx)
  case first =>
    go_wp2_with fail
    go_meet
    exact ⟨by rw [← HQ.out], rfl⟩
  case rest =>
  obtain ⟨rfl, rfl⟩ := hcut
  by_cases hz : Q = 0
  · have HX : Hid (r = (ub, true)) := Lib.hid (by rw [HR3.out, if_pos (Or.inl hz)])
    have t2 : (Q == 0) = true := by simpa using hz
    clear hz
    go_wp2_with fail
    go_ret2
    exact ⟨sret_ib (by rw [HX.out]) (by rw [HX.out]), hB⟩
  have t2 : (Q == 0) = false := by simpa using hz
  by_cases hg : 1000000000000000000 < Q
  · have HX : Hid (r = (ub, true)) := Lib.hid (by rw [HR3.out, if_pos (Or.inr hg)])
    clear hz
    go_wp2_with fail
    go_ret2
    exact ⟨sret_ib (by rw [HX.out]) (by rw [HX.out]), hB⟩
  · have HX : Hid (r = (Q, true)) := Lib.hid (by rw [HR3.out, if_neg (by omega)])
    clear hz
    go_wp2_with fail
    go_ret2
    exact ⟨sret_ib (by rw [HX.out]) (by rw [HX.out]), hB⟩
end Go.Proofs.YtbhdoocajfkfiaaGreatDoor.stp
