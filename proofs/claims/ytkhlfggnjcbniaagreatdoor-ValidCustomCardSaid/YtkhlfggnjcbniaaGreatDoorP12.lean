/- A part of the proofs: lemmas and contracts. -/
import Derived.Deep.RegionHeld3
import Derived.Test.YtkhlfggnjcbniaaGreatDoorP7
import Derived.Test.YtkhlfggnjcbniaaGreatDoorP9
import Derived.Test.YtkhlfggnjcbniaaGreatDoorP10
import Derived.Test.YtkhlfggnjcbniaaGreatDoorP11
set_option maxHeartbeats 12800000
set_option maxRecDepth 1000000
namespace Go.Proofs.YtkhlfggnjcbniaaGreatDoor.stp
open Go.ChangeShapes Go.WideShapes Go.ChangeAt Go.RowKit Go.Lib num mom fits atr

theorem sret_ib {a b : Int} {c d : Bool} (h : a = b) (g : c = d) : Ending.returned (.tuple #[.int .i64 a, .bool c]) = .returned (.tuple #[.int .i64 b, .bool d]) := by rw [h, g]
theorem kinds3 (kind : Int) : (kind = 13 ∨ kind = 14) ∨ (8 ≤ kind ∧ kind ≤ 12) ∨ ¬ (8 ≤ kind ∧ kind ≤ 14) := by omega
theorem val_num (kind : Int) (s : List UInt8) (h : kind = 13 ∨ kind = 14) : valK kind s = ((parseS s).1, (parseS s).2 == 0) := by unfold valK; rw [if_pos h]
theorem val_mom (kind : Int) (s : List UInt8) (h : 8 ≤ kind ∧ kind ≤ 12) : valK kind s = ((parseM (kind - 7) s).1, (parseM (kind - 7) s).2 == 0) := by unfold valK; rw [if_neg (by omega), if_pos h]
theorem val_none (kind : Int) (s : List UInt8) (h : ¬ (8 ≤ kind ∧ kind ≤ 14)) : valK kind s = (0, false) := by unfold valK; rw [if_neg (by omega), if_neg (by omega)]
theorem u_num (kind : Int) (h : kind = 13 ∨ kind = 14) : isK kind = true ∧ uM kind = 0 := by
 rcases h with rfl | rfl <;> exact ⟨by decide, by decide⟩
theorem u_mom (kind : Int) (h : 8 ≤ kind ∧ kind ≤ 12) : isK kind = true ∧ uM kind = kind - 7 := by
 refine ⟨?_, by unfold uM; rw [if_pos h]⟩
 unfold isK
 rw [decide_eq_true h.1, decide_eq_true (show kind ≤ 14 by omega)]; rfl

theorem value_any_wide (kind : Int) (hk : i64 kind) (s : List UInt8) (hs : (8 ≤ kind ∧ kind ≤ 14) → s.length ≤ 1000000) (w : World) (hG : G w) (hE : GE w) :
  Calls Tryz.prog 97 #[.int .i64 kind, .string ⟨s.toArray⟩] w fun e w' => e = .returned (.tuple #[.int .i64 (valK kind s).1, .bool (valK kind s).2]) ∧ Below w.heap.size w w' := by
 have ho := of_any kind hk w
 rcases kinds3 kind with h | h | h
 ·replace hs := hs (by omega)
  rw [val_num kind s h]
  obtain ⟨e1, e2⟩ := u_num kind h
  rw [e1, e2] at ho
  have hp := fun w g k => parse_any s (by omega) w g k
  generalize (parseS s).1 = n at *
  generalize (parseS s).2 = er at *
  generalize uS kind = us at *
  generalize uB kind = ub at *
  clear e1 e2 h
  go_enter Tryz.func97, Tryz.ntmps97
  go_wp2_with fail
  refine ho.mono ?_
  rintro e w1 ⟨rfl, hb⟩
  clear ho
  have B1 : Below w.heap.size w (w1.alloc (.cells #[.int .i64 0, .int .i64 us, .int .i64 ub] 150)) := hb.alloc hb.size _
  go_wp2_with fail
  refine (hp _ (hG.below B1) (hE.below B1)).mono ?_
  rintro e w2 ⟨rfl, hb2⟩
  go_wp2_with fail
  go_ret2
  exact ⟨rfl, below_trans B1 hb2⟩
 ·replace hs := hs (by omega)
  rw [val_mom kind s h]
  obtain ⟨e1, e2⟩ := u_mom kind h
  rw [e1, e2] at ho
  have hp := fun w k => mparse_any (kind - 7) ⟨by omega, by omega⟩ s (by omega) w k
  have hm : (kind - 7 == 0) = false := by simp; omega
  generalize (parseM (kind - 7) s).1 = n at *
  generalize (parseM (kind - 7) s).2 = er at *
  generalize uS kind = us at *
  generalize uB kind = ub at *
  generalize kind - 7 = mm at *
  clear e1 e2 h
  go_enter Tryz.func97, Tryz.ntmps97
  go_wp2_with fail
  refine ho.mono ?_
  rintro e w1 ⟨rfl, hb⟩
  clear ho
  have B1 : Below w.heap.size w (w1.alloc (.cells #[.int .i64 mm, .int .i64 us, .int .i64 ub] 150)) := hb.alloc hb.size _
  go_wp2_with fail
  refine (hp _ (hE.below B1)).mono ?_
  rintro e w2 ⟨rfl, hb2⟩
  go_wp2_with fail
  go_ret2
  exact ⟨rfl, below_trans B1 hb2⟩
 ·rw [val_none kind s h]
  obtain ⟨e1, e2, e3, e4⟩ := u_no kind h
  rw [e1, e2, e3, e4] at ho
  clear e1 e2 e3 e4 h
  go_enter Tryz.func97, Tryz.ntmps97
  go_wp2_with fail
  refine ho.mono ?_
  rintro e w1 ⟨rfl, hb⟩
  clear ho
  go_wp2_with fail
  go_ret2
  exact ⟨rfl, hb.alloc hb.size _⟩

theorem value_any (kind : Int) (hk : i64 kind) (s : List UInt8) (hs : s.length ≤ 1000000) (w : World) (hG : G w) (hE : GE w) :
  Calls Tryz.prog 97 #[.int .i64 kind, .string ⟨s.toArray⟩] w fun e w' => e = .returned (.tuple #[.int .i64 (valK kind s).1, .bool (valK kind s).2]) ∧ Below w.heap.size w w' :=
 value_any_wide kind hk s (fun _ => hs) w hG hE
def Fine (l : List Attr) : Prop := l.length ≤ 1000000000 ∧ ∀ a ∈ l, a.2.length ≤ 1000000
theorem fval_mem (nm : List UInt8) (l : List Attr) (s : List UInt8) (h : fval nm l = some s) : ∃ a ∈ l, a.2 = s := by
 rcases find_ways nm l with ⟨k, hk, _, _, _, h4⟩ | ⟨_, _, h3⟩
 ·rw [h4] at h
  exact ⟨l[k], List.getElem_mem hk, Option.some.inj h⟩
 ·rw [h3] at h; cases h
theorem fval_len (nm : List UInt8) (l : List Attr) (hl : Fine l) : (attrS nm l).length ≤ 1000000 := by
 unfold attrS
 cases h : fval nm l with
 | none => simp
 | some s =>
  obtain ⟨a, ha, rfl⟩ := fval_mem nm l s h
  exact hl.2 a ha

theorem bound_any (kind : Int) (hk : i64 kind) (v : Value) (l : List Attr) (hl : Fine l) (nm : List UInt8) (w : World) (hA : AttrsAt w v l) (hG : G w) (hE : GE w) :
  Calls Tryz.prog 184 #[.int .i64 kind, v, .string ⟨nm.toArray⟩] w fun e w' => e = .returned (.tuple #[.int .i64 (boundK kind l nm).1, .bool (boundK kind l nm).2]) ∧ Below w.heap.size w w' := by
 have ha := attr_any v l nm hl.1 w hA
 have hlen := fval_len nm l hl
 have hB : boundK kind l nm = match fval nm l with | none => (0, false) | some s => valK kind s := rfl
 have hS : attrS nm l = (fval nm l).getD [] := rfl
 have hI : attrB nm l = (fval nm l).isSome := rfl
 rw [hS, hI] at ha
 rw [hS] at hlen
 rw [hB]
 clear hB hS hI hA hl
 generalize fval nm l = o at *
 cases o with
 | none =>
  dsimp only [Option.getD, Option.isSome] at ha ⊢
  go_enter Tryz.func184, Tryz.ntmps184
  go_wp2_with fail
  refine ha.mono ?_
  rintro e w1 ⟨rfl, hb⟩
  clear ha
  go_wp2_with fail
  go_ret2
  exact ⟨rfl, hb⟩
 | some s =>
  dsimp only [Option.getD, Option.isSome] at ha hlen ⊢
  have hv := fun w g k => value_any kind hk s hlen w g k
  generalize (valK kind s).1 = n at *
  generalize (valK kind s).2 = q at *
  go_enter Tryz.func184, Tryz.ntmps184
  go_wp2_with fail
  refine ha.mono ?_
  rintro e w1 ⟨rfl, hb⟩
  clear ha
  go_wp2_with fail
  refine (hv _ (hG.below hb) (hE.below hb)).mono ?_
  rintro e w2 ⟨rfl, hb2⟩
  go_wp2_with fail
  go_ret2
  exact ⟨rfl, below_trans hb hb2⟩


theorem sret_i {a b : Int} (h : a = b) : Ending.returned (.int .i64 a) = .returned (.int .i64 b) := by rw [h]

theorem least_any (kind : Int) (hk : i64 kind) (v : Value) (l : List Attr) (hl : Fine l) (w : World) (hA : AttrsAt w v l) (hG : G w) (hE : GE w) :
  Calls Tryz.prog 98 #[.int .i64 kind, v] w fun e w' => e = .returned (.tuple #[.int .i64 (leastK kind l).1, .bool (leastK kind l).2]) ∧ Below w.heap.size w w' := by
 have hb := bound_any kind hk v l hl [109, 105, 110] w hA hG hE
 have hL : leastK kind l = ((boundK kind l [109, 105, 110]).1, (boundK kind l [109, 105, 110]).2 || (kind == 14)) := rfl
 rw [hL]
 generalize (boundK kind l [109, 105, 110]).1 = n at *
 generalize (boundK kind l [109, 105, 110]).2 = q at *
 clear hL hA hl
 go_enter Tryz.func98, Tryz.ntmps98
 go_wp2_with fail
 refine hb.mono ?_
 rintro e w1 ⟨rfl, hB⟩
 clear hb
 cases q
 ·go_wp2_with fail
  go_ret2
  exact ⟨sret_ib rfl (by simp), hB⟩
 ·go_wp2_with fail
  go_ret2
  exact ⟨sret_ib rfl (by simp), hB⟩

theorem most_any (kind : Int) (hk : i64 kind) (v : Value) (l : List Attr) (hl : Fine l) (w : World) (hA : AttrsAt w v l) (hG : G w) (hE : GE w) :
  Calls Tryz.prog 99 #[.int .i64 kind, v] w fun e w' => e = .returned (.tuple #[.int .i64 (mostK kind l).1, .bool (mostK kind l).2]) ∧ Below w.heap.size w w' := by
 have hb := bound_any kind hk v l hl [109, 97, 120] w hA hG hE
 have hLe := fun w h g k => least_any kind hk v l hl w h g k
 have hL : mostK kind l = if (boundK kind l [109, 97, 120]).2 = true ∨ kind ≠ 14 then ((boundK kind l [109, 97, 120]).1, (boundK kind l [109, 97, 120]).2) else (max (leastK kind l).1 100000000, true) := rfl
 rw [hL]
 have h64 := leastK_64 kind l
 generalize (boundK kind l [109, 97, 120]).1 = n at *
 generalize (boundK kind l [109, 97, 120]).2 = q at *
 generalize (leastK kind l).1 = lo at *
 generalize (leastK kind l).2 = lq at *
 clear hL hl
 obtain ⟨l1, l2⟩ := h64
 cases q
 ·by_cases h : kind = 14
  ·rw [if_neg (fun g => g.elim (fun g => by cases g) (fun g => g h))]
   subst h
   go_enter Tryz.func99, Tryz.ntmps99
   go_wp2_with fail
   refine hb.mono ?_
   rintro e w1 ⟨rfl, hB⟩
   clear hb
   go_wp2_with fail
   refine (hLe w1 (hA.below hB) (hG.below hB) (hE.below hB)).mono ?_
   rintro e w2 ⟨rfl, hB2⟩
   clear hLe
   go_wp2_with fail
   go_ret2
   exact ⟨sret_ib (by omega) rfl, below_trans hB hB2⟩
  ·rw [if_pos (Or.inr h)]
   have t : (kind != 14) = true := by simpa using h
   clear h
   go_enter Tryz.func99, Tryz.ntmps99
   go_wp2_with fail
   refine hb.mono ?_
   rintro e w1 ⟨rfl, hB⟩
   clear hb
   go_wp2_with fail
   go_ret2
   exact ⟨rfl, hB⟩
 ·rw [if_pos (Or.inl rfl)]
  go_enter Tryz.func99, Tryz.ntmps99
  go_wp2_with fail
  refine hb.mono ?_
  rintro e w1 ⟨rfl, hB⟩
  clear hb
  go_wp2_with fail
  go_ret2
  exact ⟨rfl, hB⟩

theorem ifx0 (w : World) : (Instr.index 162 (Value.agg #[Value.string ⟨#[109, 105, 110]⟩, Value.string ⟨#[118, 97, 108, 117, 101]⟩]) (Value.int IntKind.i64 0)).run Tryz.prog w = .ok (Value.string ⟨#[109, 105, 110]⟩) w := by kernel_rfl
theorem ifx1 (w : World) : (Instr.index 162 (Value.agg #[Value.string ⟨#[109, 105, 110]⟩, Value.string ⟨#[118, 97, 108, 117, 101]⟩]) (Value.int IntKind.i64 1)).run Tryz.prog w = .ok (Value.string ⟨#[118, 97, 108, 117, 101]⟩) w := by kernel_rfl

theorem base_any (kind : Int) (hk : i64 kind) (v : Value) (l : List Attr) (hl : Fine l) (w : World) (hA : AttrsAt w v l) (hG : G w) (hE : GE w) :
  Calls Tryz.prog 102 #[.int .i64 kind, v] w fun e w' => e = .returned (.int .i64 (baseK kind l)) ∧ Below w.heap.size w w' := by
 have hb1 := fun w h g k => bound_any kind hk v l hl [109, 105, 110] w h g k
 have hb2 := fun w h g k => bound_any kind hk v l hl [118, 97, 108, 117, 101] w h g k
 have hL : baseK kind l = if (boundK kind l [109, 105, 110]).2 = true then (boundK kind l [109, 105, 110]).1 else if (boundK kind l [118, 97, 108, 117, 101]).2 = true then (boundK kind l [118, 97, 108, 117, 101]).1 else if kind = 10 then -259200000 else 0 := rfl
 rw [hL]
 generalize (boundK kind l [109, 105, 110]).1 = n at *
 generalize (boundK kind l [109, 105, 110]).2 = q at *
 generalize (boundK kind l [118, 97, 108, 117, 101]).1 = n2 at *
 generalize (boundK kind l [118, 97, 108, 117, 101]).2 = q2 at *
 clear hL hl
 obtain ⟨r, hr⟩ : ∃ r, r = (if q = true then n else if q2 = true then n2 else if kind = 10 then -259200000 else 0) := ⟨_, rfl⟩
 rw [← hr]
 have HR := Lib.hid hr
 clear hr
 have f0 := ifx0
 have f1 := ifx1
 go_enter Tryz.func102, Tryz.ntmps102
 go_wp2_with fail
 go_loopw [10] (fun s10 wr => ∃ k : Nat, s10 = .int .i64 k ∧ (k = 0 ∨ k = 1 ∧ q = false ∨ k = 2 ∧ q = false ∧ q2 = false) ∧ Below w.heap.size w wr) (fun s10 _ => (3 - RowKit.intOf s10).toNat)
 case atStart => exact ⟨0, rfl, .inl rfl, Below.refl _ _⟩
 case round =>
  obtain ⟨k, rfl, hk3, hB⟩ := hrel
  rcases hk3 with rfl | ⟨rfl, rfl⟩ | ⟨rfl, rfl, rfl⟩
  ·cases q
   ·go_wp2_with fail
    refine (hb1 _ (hA.below hB) (hG.below hB) (hE.below hB)).mono ?_
    rintro e w1 ⟨rfl, hB1⟩
    go_wp2_with fail
    go_roundw
    case rel => exact ⟨1, rfl, .inr (.inl ⟨rfl, by first | rfl | trivial⟩), below_trans hB hB1⟩
    case measure => simp [RowKit.intOf]
   ·have HX : Hid (r = n) := Lib.hid (by rw [HR.out, if_pos rfl])
    go_wp2_with fail
    refine (hb1 _ (hA.below hB) (hG.below hB) (hE.below hB)).mono ?_
    rintro e w1 ⟨rfl, hB1⟩
    go_wp2_with fail
    go_ret
    exact ⟨sret_i HX.out.symm, below_trans hB hB1⟩
  ·cases q2
   ·go_wp2_with fail
    refine (hb2 _ (hA.below hB) (hG.below hB) (hE.below hB)).mono ?_
    rintro e w1 ⟨rfl, hB1⟩
    go_wp2_with fail
    go_roundw
    case rel => exact ⟨2, rfl, .inr (.inr ⟨rfl, by first | rfl | trivial, by first | rfl | trivial⟩), below_trans hB hB1⟩
    case measure => simp [RowKit.intOf]
   ·have HX : Hid (r = n2) := Lib.hid (by rw [HR.out, if_neg (by decide), if_pos rfl])
    go_wp2_with fail
    refine (hb2 _ (hA.below hB) (hG.below hB) (hE.below hB)).mono ?_
    rintro e w1 ⟨rfl, hB1⟩
    go_wp2_with fail
    go_ret
    exact ⟨sret_i HX.out.symm, below_trans hB hB1⟩
  ·by_cases h : kind = 10
   ·have HX : Hid (r = -259200000) := Lib.hid (by rw [HR.out, if_neg (by decide), if_neg (by decide), if_pos h])
    have t : (kind == 10) = true := by simpa using h
    clear h
    go_wp2_with fail
    go_ret
    exact ⟨sret_i HX.out.symm, hB⟩
   ·have HX : Hid (r = 0) := Lib.hid (by rw [HR.out, if_neg (by decide), if_neg (by decide), if_neg h])
    have t : (kind == 10) = false := by simpa using h
    clear h
    go_wp2_with fail
    go_ret
    exact ⟨sret_i HX.out.symm, hB⟩

end Go.Proofs.YtkhlfggnjcbniaaGreatDoor.stp
namespace Go.Proofs.YtkhlfggnjcbniaaGreatDoor.stp
open Go.ChangeShapes Go.WideShapes Go.ChangeAt Go.RowKit Go.Lib num mom fits atr link

theorem same_any (a b : List UInt8) (ha : a.length ≤ 1000000) (hb : b.length ≤ 1000000) (w : World) :
  Calls Tryz.prog 186 #[.string ⟨a.toArray⟩, .string ⟨b.toArray⟩] w fun e w' => e = .returned (.bool (lowS a == lowS b)) ∧ Below w.heap.size w w' := by
 have h1 := fun w => tlower_any a (by omega) w
 have h2 := fun w => tlower_any b (by omega) w
 generalize lowS a = x at *
 generalize lowS b = y at *
 go_enter Tryz.func186, Tryz.ntmps186
 go_wp2_with fail
 refine (h1 _).mono ?_
 rintro e w1 ⟨rfl, hB⟩
 go_wp2_with fail
 refine (h2 _).mono ?_
 rintro e w2 ⟨rfl, hB2⟩
 go_wp2_with fail
 go_ret
 exact ⟨rfl, below_trans hB hB2⟩

theorem stepK_some (kind : Int) (l : List Attr) (s : List UInt8) (hi : isK kind = true) (h : fval [115, 116, 101, 112] l = some s) :
  stepK kind l = if lowS s = [97, 110, 121] then (0, false) else if (parseS s).2 ≠ 0 ∨ (parseS s).1 ≤ 0 then (byK kind, true) else (stepQ (byK kind) (scaleK kind) (parseS s).1, true) := by
 have e : nStep = [115, 116, 101, 112] := rfl
 unfold stepK
 rw [if_neg (by rw [hi]; decide), e, h]
 rfl
theorem stepK_none (kind : Int) (l : List Attr) (hi : isK kind = true) (h : fval [115, 116, 101, 112] l = none) : stepK kind l = (byK kind, true) := by
 have e : nStep = [115, 116, 101, 112] := rfl
 unfold stepK
 rw [if_neg (by rw [hi]; decide), e, h]
theorem stepK_no (kind : Int) (l : List Attr) (hi : isK kind = false) : stepK kind l = (0, false) := by
 unfold stepK
 rw [if_pos hi]
theorem low_any : lowS [97, 110, 121] = [97, 110, 121] := by decide

theorem mul_parts (n s : Nat) (_hn : n ≤ 1000000000000000000) (_hs : s ≤ 604800000) :
  (n * s / 18446744073709551616 * 18446744073709551616 + n * s % 18446744073709551616) / 1000000 = n * s / 1000000 ∧ n * s % 18446744073709551616 < 18446744073709551616 ∧ (1000000 ≤ n * s / 18446744073709551616 → 1000000000000000000 < n * s / 1000000) ∧ (n * s / 18446744073709551616 < 1000000 → n * s / 1000000 < 18446744073709551616) := by
 generalize n * s = p
 omega

theorem stepQ_nat (b : Int) (x s : Nat) : stepQ b (s : Int) (x : Int) = if ((x * s / 1000000 : Nat) : Int) = 0 ∨ 1000000000000000000 < ((x * s / 1000000 : Nat) : Int) then b else ((x * s / 1000000 : Nat) : Int) := by
 have e : ((x : Int) * (s : Int)) / 1000000 = ((x * s / 1000000 : Nat) : Int) := by rw [Int.natCast_ediv, Int.natCast_mul]; rfl
 unfold stepQ
 rw [e]

theorem step_any (kind : Int) (hk : i64 kind) (v : Value) (l : List Attr) (hl : Fine l) (w : World) (hA : AttrsAt w v l) (hG : G w) (hE : GE w) :
  Calls Tryz.prog 100 #[.int .i64 kind, v] w fun e w' => e = .returned (.tuple #[.int .i64 (stepK kind l).1, .bool (stepK kind l).2]) ∧ Below w.heap.size w w' := by
 have ho := of_any kind hk w
 cases hi : isK kind with
 | false =>
  rw [stepK_no kind l hi]
  rw [hi] at ho
  generalize uM kind = um at *
  generalize uS kind = us at *
  generalize uB kind = ub at *
  clear hi
  go_enter Tryz.func100, Tryz.ntmps100
  go_wp2_with fail
  refine ho.mono ?_
  rintro e w1 ⟨rfl, hb⟩
  clear ho
  go_wp2_with fail
  go_ret2
  exact ⟨rfl, hb.alloc hb.size _⟩
 | true =>
  have eS : uS kind = scaleK kind := by unfold uS; rw [hi]; rfl
  have eB : uB kind = byK kind := by unfold uB; rw [hi]; rfl
  rw [hi, eS, eB] at ho
  have ha := fun w h => attr_any v l [115, 116, 101, 112] hl.1 w h
  have hlen := fval_len [115, 116, 101, 112] l hl
  have hS : attrS [115, 116, 101, 112] l = (fval [115, 116, 101, 112] l).getD [] := rfl
  have hI : attrB [115, 116, 101, 112] l = (fval [115, 116, 101, 112] l).isSome := rfl
  rw [hS, hI] at ha
  rw [hS] at hlen
  obtain ⟨sp1, sp2⟩ := scaleK_pos kind
  obtain ⟨sc, hsc⟩ : ∃ sc : Nat, scaleK kind = (sc : Int) := ⟨(scaleK kind).toNat, by omega⟩
  cases hf : fval [115, 116, 101, 112] l with
  | none =>
   rw [stepK_none kind l hi hf]
   rw [hf] at ha
   dsimp only [Option.getD, Option.isSome] at ha
   have hp := fun w g k => parse_any [] (by decide) w g k
   generalize uM kind = um at *
   generalize scaleK kind = us at *
   generalize byK kind = ub at *
   generalize (parseS []).1 = n at *
   generalize (parseS []).2 = er at *
   clear hi hf hS hI eS eB hl hlen hsc
   go_enter Tryz.func100, Tryz.ntmps100
   go_wp2_with fail
   refine ho.mono ?_
   rintro e w1 ⟨rfl, hb⟩
   clear ho
   obtain ⟨W1, hW1⟩ : ∃ W1, W1 = w1.alloc (.cells #[.int .i64 um, .int .i64 us, .int .i64 ub] 150) := ⟨_, rfl⟩
   have B1 : Below w.heap.size w W1 := by rw [hW1]; exact hb.alloc hb.size _
   have k2 : W1.cell? ⟨w1.heap.size, 2, none⟩ = some (.int .i64 ub) := by rw [hW1, World.cell?_alloc_new]; rfl
   go_wp2_with fail
   rw [← hW1]
   clear hW1
   refine (ha W1 (hA.below B1)).mono ?_
   rintro e w2 ⟨rfl, hb2⟩
   have B2 := below_trans B1 hb2
   have k3 := cell_below hb2 k2
   clear ha k2
   go_wp2_with fail
   refine (hp w2 (hG.below B2) (hE.below B2)).mono ?_
   rintro e w3 ⟨rfl, hb3⟩
   have k4 := cell_below hb3 k3
   clear hp k3
   go_wp2_with fail
   go_ret2
   exact ⟨rfl, below_trans B2 hb3⟩
  | some s =>
   rw [stepK_some kind l s hi hf]
   rw [hf] at ha hlen
   dsimp only [Option.getD, Option.isSome] at ha hlen
   have hsm := fun w => same_any s [97, 110, 121] hlen (by decide) w
   rw [low_any] at hsm
   have hp := fun w g k => parse_any s (by omega) w g k
   obtain ⟨pb1, pb2, pb3, pb4⟩ := parse_bd s
   have HSC : Hid (scaleK kind = (sc : Int) ∧ sc ≤ 604800000) := Lib.hid ⟨hsc, by omega⟩
   generalize scaleK kind = us at *
   generalize uM kind = um at *
   generalize byK kind = ub at *
   obtain ⟨r, hr⟩ : ∃ r, r = (if lowS s = [97, 110, 121] then (0, false) else if (parseS s).2 ≠ 0 ∨ (parseS s).1 ≤ 0 then (ub, true) else (stepQ ub us (parseS s).1, true) : Int × Bool) := ⟨_, rfl⟩
   rw [← hr]
   have HR := Lib.hid hr
   clear hi hf hS hI eS eB hl hsc hr
   have hle : (lowS s == [97, 110, 121]) = decide (lowS s = [97, 110, 121]) := lst_eq _ _
   rw [hle] at hsm
   clear hle
   generalize (parseS s).1 = n at *
   generalize (parseS s).2 = er at *
   go_enter Tryz.func100, Tryz.ntmps100
   go_wp2_with fail
   refine ho.mono ?_
   rintro e w1 ⟨rfl, hb⟩
   clear ho
   obtain ⟨W1, hW1⟩ : ∃ W1, W1 = w1.alloc (.cells #[.int .i64 um, .int .i64 us, .int .i64 ub] 150) := ⟨_, rfl⟩
   have B1 : Below w.heap.size w W1 := by rw [hW1]; exact hb.alloc hb.size _
   have k1 : W1.cell? ⟨w1.heap.size, 1, none⟩ = some (.int .i64 us) := by rw [hW1, World.cell?_alloc_new]; rfl
   have k2 : W1.cell? ⟨w1.heap.size, 2, none⟩ = some (.int .i64 ub) := by rw [hW1, World.cell?_alloc_new]; rfl
   go_wp2_with fail
   rw [← hW1]
   clear hW1
   refine (ha W1 (hA.below B1)).mono ?_
   rintro e w2 ⟨rfl, hb2⟩
   have B2 := below_trans B1 hb2
   have k1 := cell_below hb2 k1
   have k2 := cell_below hb2 k2
   clear ha
   go_wp2_with fail
   refine (hsm w2).mono ?_
   rintro e w3 ⟨rfl, hb3⟩
   have B3 := below_trans B2 hb3
   have k1 := cell_below hb3 k1
   have k2 := cell_below hb3 k2
   clear hsm
   by_cases hany : lowS s = [97, 110, 121]
   ·have HX : Hid (r = (0, false)) := Lib.hid (by rw [HR.out, if_pos hany])
    rw [decide_eq_true hany]
    clear hany HR
    go_wp2_with fail
    go_ret2
    exact ⟨sret_ib (by rw [HX.out]) (by rw [HX.out]), B3⟩
   have HR1 := Lib.hid (HR.out.trans (if_neg hany))
   rw [decide_eq_false hany]
   clear hany HR
   go_wp2_with fail
   refine (hp w3 (hG.below B3) (hE.below B3)).mono ?_
   rintro e w4 ⟨rfl, hb4⟩
   have B4 := below_trans B3 hb4
   have k1 := cell_below hb4 k1
   have k2 := cell_below hb4 k2
   clear hp
   by_cases he : er = 0
   case neg =>
    have HX : Hid (r = (ub, true)) := Lib.hid (by rw [HR1.out, if_pos (Or.inl he)])
    have t : (er != 0) = true := by simpa using he
    clear he HR1
    go_wp2_with fail
    go_ret2
    exact ⟨sret_ib (by rw [HX.out]) (by rw [HX.out]), B4⟩
   by_cases hn : n ≤ 0
   ·have HX : Hid (r = (ub, true)) := Lib.hid (by rw [HR1.out, if_pos (Or.inr hn)])
    have t : (er != 0) = false := by simpa using he
    clear he HR1
    go_wp2_with fail
    go_ret2
    exact ⟨sret_ib (by rw [HX.out]) (by rw [HX.out]), B4⟩
   have HR2 := Lib.hid (HR1.out.trans (if_neg (by omega)))
   have t : (er != 0) = false := by simpa using he
   clear he HR1
   obtain ⟨hsc, scn⟩ := HSC.out
   obtain ⟨x, hx⟩ : ∃ x : Nat, n = (x : Int) := ⟨n.toNat, by omega⟩
   have hm := fun w => Tryz.bits_Mul64 x sc (by omega) (by omega) w
   have hmp := mul_parts x sc (by omega) scn
   have hq := stepQ_nat ub x sc
   obtain ⟨hi, hhi⟩ : ∃ hi : Int, hi = ((x * sc / 18446744073709551616 : Nat) : Int) := ⟨_, rfl⟩
   obtain ⟨lo, hlo⟩ : ∃ lo : Int, lo = ((x * sc % 18446744073709551616 : Nat) : Int) := ⟨_, rfl⟩
   obtain ⟨Q, hQ⟩ : ∃ Q : Int, Q = ((x * sc / 1000000 : Nat) : Int) := ⟨_, rfl⟩
   rw [← hhi, ← hlo, ← hx, ← hsc] at hm
   rw [← hx, ← hsc, ← hQ] at hq
   have HQ := Lib.hid hq
   have hi0 : 0 ≤ hi := by omega
   have hl0 : 0 ≤ lo := by omega
   have hbg : 1000000 ≤ hi → 1000000000000000000 < Q := by have := hmp.2.2.1; omega
   have HBG := Lib.hid hbg
   have hd : hi < 1000000 → ∀ w, Calls Tryz.prog 188 #[.int .u64 hi, .int .u64 lo, .int .u64 1000000] w fun e w' => ∃ r : Int, e = .returned (.tuple #[.int .u64 Q, .int .u64 r]) ∧ Below w.heap.size w w' := by
    intro g w
    have h := div64_any (x * sc / 18446744073709551616) (x * sc % 18446744073709551616) (by omega) hmp.2.1 w
    rw [hmp.1, ← hhi, ← hlo, ← hQ] at h
    exact h
   have HD := Lib.hid hd
   have hq0 : 0 ≤ Q := by omega
   clear hhi hlo hQ hmp hq hbg hd hx hsc scn HSC
   by_cases hbig : 1000000 ≤ hi
   ·have HX : Hid (r = (ub, true)) := Lib.hid (by rw [HR2.out, HQ.out, if_pos (Or.inr (HBG.out hbig))])
    go_wp2_with fail
    refine (hm _).mono ?_
    rintro e w5 ⟨rfl, rfl⟩
    go_wp2_with fail
    go_ret2
    exact ⟨sret_ib (by rw [HX.out]) (by rw [HX.out]), B4⟩
   have hd := HD.out (by omega)
   by_cases hz : Q = 0
   ·have HX : Hid (r = (ub, true)) := Lib.hid (by rw [HR2.out, HQ.out, if_pos (Or.inl hz)])
    have t2 : (Q == 0) = true := by simpa using hz
    clear hz
    go_wp2_with fail
    refine (hm _).mono ?_
    rintro e w5 ⟨rfl, rfl⟩
    go_wp2_with fail
    refine (hd _).mono ?_
    rintro e w6 ⟨rr, rfl, hb6⟩
    have k2 := cell_below hb6 k2
    clear hd hm
    go_wp2_with fail
    go_ret2
    exact ⟨sret_ib (by rw [HX.out]) (by rw [HX.out]), below_trans B4 hb6⟩
   have t2 : (Q == 0) = false := by simpa using hz
   by_cases hg : 1000000000000000000 < Q
   ·have HX : Hid (r = (ub, true)) := Lib.hid (by rw [HR2.out, HQ.out, if_pos (Or.inr hg)])
    clear hz
    go_wp2_with fail
    refine (hm _).mono ?_
    rintro e w5 ⟨rfl, rfl⟩
    go_wp2_with fail
    refine (hd _).mono ?_
    rintro e w6 ⟨rr, rfl, hb6⟩
    have k2 := cell_below hb6 k2
    clear hd hm
    go_wp2_with fail
    go_ret2
    exact ⟨sret_ib (by rw [HX.out]) (by rw [HX.out]), below_trans B4 hb6⟩
   ·have HX : Hid (r = (Q, true)) := Lib.hid (by rw [HR2.out, HQ.out, if_neg (by omega)])
    clear hz
    go_wp2_with fail
    refine (hm _).mono ?_
    rintro e w5 ⟨rfl, rfl⟩
    go_wp2_with fail
    refine (hd _).mono ?_
    rintro e w6 ⟨rr, rfl, hb6⟩
    clear hd hm
    go_wp2_with fail
    go_ret2
    exact ⟨sret_ib (by rw [HX.out]) (by rw [HX.out]), below_trans B4 hb6⟩

theorem sret_b3 {a b c a' b' c' : Bool} (h : a = a') (g : b = b') (k : c = c') : Ending.returned (.tuple #[.bool a, .bool b, .bool c]) = .returned (.tuple #[.bool a', .bool b', .bool c']) := by rw [h, g, k]

def flagsP (ok T U O F : Bool) : Bool × Bool × Bool := if ok = false then (false, false, false) else if T = true then (U && O, U && O, F) else (U, O, F)
theorem flagsK_P (kind : Int) (l : List Attr) (s : List UInt8) : flagsK kind l s = flagsP (valK kind s).2 ((kind == 11) && (leastK kind l).2 && (mostK kind l).2 && decide ((mostK kind l).1 < (leastK kind l).1))
  ((leastK kind l).2 && decide ((valK kind s).1 < (leastK kind l).1)) ((mostK kind l).2 && decide ((mostK kind l).1 < (valK kind s).1)) ((stepK kind l).2 && !fitsB (valK kind s).1 (baseK kind l) (stepK kind l).1) := rfl

theorem flags_any_wide (kind : Int) (hk : i64 kind) (v : Value) (l : List Attr) (hl : Fine l) (s : List UInt8) (hs : (8 ≤ kind ∧ kind ≤ 14) → s.length ≤ 1000000) (w : World) (hA : AttrsAt w v l) (hG : G w) (hE : GE w) :
  Calls Tryz.prog 44 #[.int .i64 kind, v, .string ⟨s.toArray⟩] w fun e w' => e = .returned (.tuple #[.bool (flagsK kind l s).1, .bool (flagsK kind l s).2.1, .bool (flagsK kind l s).2.2]) ∧ Below w.heap.size w w' := by
 rw [flagsK_P]
 have hv := value_any_wide kind hk s hs w hG hE
 have hle := fun w h g k => least_any kind hk v l hl w h g k
 have hmo := fun w h g k => most_any kind hk v l hl w h g k
 have hst := fun w h g k => step_any kind hk v l hl w h g k
 have hba := fun w h g k => base_any kind hk v l hl w h g k
 obtain ⟨n1, n2⟩ := valK_64 kind s
 obtain ⟨l1, l2⟩ := leastK_64 kind l
 obtain ⟨m1, m2⟩ := mostK_64 kind l
 obtain ⟨s1, s2⟩ := stepK_64 kind l
 obtain ⟨b1, b2⟩ := baseK_64 kind l
 generalize (valK kind s).1 = n at *
 generalize (valK kind s).2 = ok at *
 generalize (leastK kind l).1 = lo at *
 generalize (leastK kind l).2 = has at *
 generalize (mostK kind l).1 = hg at *
 generalize (mostK kind l).2 = is at *
 generalize (stepK kind l).1 = by' at *
 generalize (stepK kind l).2 = st at *
 generalize baseK kind l = ba at *
 have hfi := fun w => fits_any n ba by' w s1 s2 n1 n2 b1 b2
 generalize fitsB n ba by' = fi at *
 obtain ⟨r, hr⟩ : ∃ r, r = flagsP ok ((kind == 11) && has && is && decide (hg < lo)) (has && decide (n < lo)) (is && decide (hg < n)) (st && !fi) := ⟨_, rfl⟩
 rw [← hr]
 have HR := Lib.hid hr
 clear hr hl
 cases ok
 ·have HX : Hid (r = (false, false, false)) := Lib.hid (by rw [HR.out]; rfl)
  go_enter Tryz.func44, Tryz.ntmps44
  go_wp2_with fail
  refine hv.mono ?_
  rintro e w1 ⟨rfl, hB⟩
  go_wp2_with fail
  go_ret3
  exact ⟨sret_b3 (by rw [HX.out]) (by rw [HX.out]) (by rw [HX.out]), hB⟩
 go_enter Tryz.func44, Tryz.ntmps44
 go_wp2_with fail
 refine hv.mono ?_
 rintro e w1 ⟨rfl, hB1⟩
 clear hv
 go_wp2_with fail
 refine (hle w1 (hA.below hB1) (hG.below hB1) (hE.below hB1)).mono ?_
 rintro e w2 ⟨rfl, hb2⟩
 have hB2 := below_trans hB1 hb2
 clear hle hB1 hb2
 go_wp2_with fail
 refine (hmo w2 (hA.below hB2) (hG.below hB2) (hE.below hB2)).mono ?_
 rintro e w3 ⟨rfl, hb3⟩
 have hB3 := below_trans hB2 hb3
 clear hmo hB2 hb3
 go_upto_region 5 with fail
 go_cut [6, 7] (fun s6 s7 wx => s6 = .bool (has && decide (n < lo)) ∧ s7 = .bool (is && decide (hg < n)) ∧ w3 = wx)
 case first =>
  by_cases g1 : n < lo
  ·by_cases g2 : hg < n
   ·cases has
    ·cases is
     ·go_wp2_with fail
      go_meet
      exact ⟨by simp, by simp, rfl⟩
     ·go_wp2_with fail
      go_meet
      exact ⟨by simp, by simp [g2], rfl⟩
    ·cases is
     ·go_wp2_with fail
      go_meet
      exact ⟨by simp [g1], by simp, rfl⟩
     ·go_wp2_with fail
      go_meet
      exact ⟨by simp [g1], by simp [g2], rfl⟩
   ·cases has
    ·cases is
     ·go_wp2_with fail
      go_meet
      exact ⟨by simp, by simp, rfl⟩
     ·go_wp2_with fail
      go_meet
      exact ⟨by simp, by simp; omega, rfl⟩
    ·cases is
     ·go_wp2_with fail
      go_meet
      exact ⟨by simp [g1], by simp, rfl⟩
     ·go_wp2_with fail
      go_meet
      exact ⟨by simp [g1], by simp; omega, rfl⟩
  ·by_cases g2 : hg < n
   ·cases has
    ·cases is
     ·go_wp2_with fail
      go_meet
      exact ⟨by simp, by simp, rfl⟩
     ·go_wp2_with fail
      go_meet
      exact ⟨by simp, by simp [g2], rfl⟩
    ·cases is
     ·go_wp2_with fail
      go_meet
      exact ⟨by simp; omega, by simp, rfl⟩
     ·go_wp2_with fail
      go_meet
      exact ⟨by simp; omega, by simp [g2], rfl⟩
   ·cases has
    ·cases is
     ·go_wp2_with fail
      go_meet
      exact ⟨by simp, by simp, rfl⟩
     ·go_wp2_with fail
      go_meet
      exact ⟨by simp, by simp; omega, rfl⟩
    ·cases is
     ·go_wp2_with fail
      go_meet
      exact ⟨by simp; omega, by simp, rfl⟩
     ·go_wp2_with fail
      go_meet
      exact ⟨by simp; omega, by simp; omega, rfl⟩
 case rest =>
 obtain ⟨rfl, rfl, rfl⟩ := hcut
 generalize (has && decide (n < lo)) = U at *
 generalize (is && decide (hg < n)) = O at *
 go_upto_region 6 with fail
 go_cut [61] (fun s61 wx => s61 = .bool ((kind == 11) && has && is && decide (hg < lo)) ∧ w3 = wx)
 case first =>
  generalize hz : (kind == 11) = z at *
  cases z
  ·go_wp2_with fail
   go_meet
   exact ⟨by simp, rfl⟩
  ·cases has
   ·go_wp2_with fail
    go_meet
    exact ⟨by simp, rfl⟩
   ·cases is
    ·go_wp2_with fail
     go_meet
     exact ⟨by simp, rfl⟩
    ·by_cases g : hg < lo
     ·go_wp2_with fail
      go_meet
      exact ⟨by simp [g], rfl⟩
     ·go_wp2_with fail
      go_meet
      exact ⟨by simp; omega, rfl⟩
 case rest =>
 obtain ⟨rfl, rfl⟩ := hcut
 generalize ((kind == 11) && has && is && decide (hg < lo)) = T at *
 go_upto_if 61 with fail
 go_cut [6, 7] (fun s6 s7 wx => s6 = .bool (if T = true then U && O else U) ∧ s7 = .bool (if T = true then U && O else O) ∧ w3 = wx)
 case first =>
  cases T
  ·go_wp2_with fail
   go_meet
   exact ⟨rfl, rfl, rfl⟩
  ·cases U
   ·go_wp2_with fail
    go_meet
    exact ⟨rfl, rfl, rfl⟩
   ·go_wp2_with fail
    go_meet
    exact ⟨by simp, by simp, rfl⟩
 case rest =>
 obtain ⟨rfl, rfl, rfl⟩ := hcut
 obtain ⟨X, hX⟩ : ∃ X, X = (if T = true then U && O else U) := ⟨_, rfl⟩
 obtain ⟨Y, hY⟩ : ∃ Y, Y = (if T = true then U && O else O) := ⟨_, rfl⟩
 rw [← hX, ← hY]
 have HF : Hid (r = (X, Y, st && !fi)) := Lib.hid (by
  rw [HR.out, hX, hY]
  cases T <;> rfl)
 clear hX hY HR
 go_wp2_with fail
 refine (hst w3 (hA.below hB3) (hG.below hB3) (hE.below hB3)).mono ?_
 rintro e w4 ⟨rfl, hb4⟩
 have hB4 := below_trans hB3 hb4
 clear hst
 cases st
 ·go_wp2_with fail
  go_ret3
  exact ⟨sret_b3 (by rw [HF.out]) (by rw [HF.out]) (by rw [HF.out]; rfl), hB4⟩
 ·go_wp2_with fail
  refine (hba w4 (hA.below hB4) (hG.below hB4) (hE.below hB4)).mono ?_
  rintro e w5 ⟨rfl, hb5⟩
  have hB5 := below_trans hB4 hb5
  clear hba
  go_wp2_with fail
  refine (hfi _).mono ?_
  rintro e w6 ⟨rfl, rfl⟩
  clear hfi
  go_wp2_with fail
  go_ret3
  exact ⟨sret_b3 (by rw [HF.out]) (by rw [HF.out]) (by rw [HF.out]; simp), hB5⟩
end Go.Proofs.YtkhlfggnjcbniaaGreatDoor.stp
