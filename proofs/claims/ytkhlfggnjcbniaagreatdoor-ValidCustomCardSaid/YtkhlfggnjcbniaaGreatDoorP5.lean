/- A part of the proofs: lemmas and contracts. -/
import Derived.Test.YtkhlfggnjcbniaaGreatDoorP4
set_option maxHeartbeats 12800000
set_option maxRecDepth 1000000
namespace Go.Proofs.YtkhlfggnjcbniaaGreatDoor.mom
open Go.ChangeShapes Go.WideShapes Go.ChangeAt Go.RowKit Go.Lib num days cal

def RD (w : World) (B : Nat) (rest : List UInt8) (bad : Bool) : Prop := ∃ T, w.heap[B]? = some (.cells #[.string ⟨rest.toArray⟩, .bool bad] T (0, 0))
theorem RD.c0 {w : World} {B : Nat} {rest : List UInt8} {bad : Bool} (h : RD w B rest bad) : w.cell? ⟨B, 0, none⟩ = some (.string ⟨rest.toArray⟩) := by obtain ⟨T, h⟩ := h; simp [World.cell?, h]
theorem RD.c1 {w : World} {B : Nat} {rest : List UInt8} {bad : Bool} (h : RD w B rest bad) : w.cell? ⟨B, 1, none⟩ = some (.bool bad) := by obtain ⟨T, h⟩ := h; simp [World.cell?, h]
theorem RD.f0 {w : World} {B : Nat} {rest : List UInt8} {bad : Bool} (h : RD w B rest bad) : w.frozen? ⟨B, 0, none⟩ = false := by obtain ⟨T, h⟩ := h; simp [World.frozen?, h]
theorem RD.f1 {w : World} {B : Nat} {rest : List UInt8} {bad : Bool} (h : RD w B rest bad) : w.frozen? ⟨B, 1, none⟩ = false := by obtain ⟨T, h⟩ := h; simp [World.frozen?, h]
theorem RD.lt {w : World} {B : Nat} {rest : List UInt8} {bad : Bool} (h : RD w B rest bad) : B < w.heap.size := by obtain ⟨T, h⟩ := h; exact lt_of_block h
theorem RD.s0 {w : World} {B : Nat} {rest : List UInt8} {bad : Bool} (h : RD w B rest bad) (r2 : List UInt8) : RD (w.setCell ⟨B, 0, none⟩ (.string ⟨r2.toArray⟩)) B r2 bad := by
 obtain ⟨T, h⟩ := h
 have hlt := lt_of_block h
 have h' : w.heap[B] = .cells #[.string ⟨rest.toArray⟩, .bool bad] T (0, 0) := by simpa [Array.getElem?_eq_getElem hlt] using h
 refine ⟨T, ?_⟩
 show (w.heap.modify B _)[B]? = _
 rw [Array.getElem?_eq_getElem (by simpa using hlt), Array.getElem_modify_self, h']
 rfl
theorem RD.s1 {w : World} {B : Nat} {rest : List UInt8} {bad : Bool} (h : RD w B rest bad) (b2 : Bool) : RD (w.setCell ⟨B, 1, none⟩ (.bool b2)) B rest b2 := by
 obtain ⟨T, h⟩ := h
 have hlt := lt_of_block h
 have h' : w.heap[B] = .cells #[.string ⟨rest.toArray⟩, .bool bad] T (0, 0) := by simpa [Array.getElem?_eq_getElem hlt] using h
 refine ⟨T, ?_⟩
 show (w.heap.modify B _)[B]? = _
 rw [Array.getElem?_eq_getElem (by simpa using hlt), Array.getElem_modify_self, h']
 rfl
theorem RD.below {w w' : World} {B : Nat} {rest : List UInt8} {bad : Bool} (h : RD w B rest bad) (hb : Below w.heap.size w w') : RD w' B rest bad := by
 have hl := h.lt
 obtain ⟨T, h⟩ := h
 exact ⟨T, by rw [hb.block _ hl]; exact h⟩

structure Ro (w0 w : World) (B : Nat) (rest : List UInt8) (bad : Bool) : Prop where
 low : Below w0.heap.size w0 w
 above : w0.heap.size ≤ B
 rd : RD w B rest bad
 small : rest.length ≤ 1000000
theorem Ro.below {w0 w w' : World} {B : Nat} {rest : List UInt8} {bad : Bool} (h : Ro w0 w B rest bad) (hb : Below w.heap.size w w') : Ro w0 w' B rest bad :=
 ⟨below_trans h.low hb, h.above, h.rd.below hb, h.small⟩
theorem Ro.s0 {w0 w : World} {B : Nat} {rest : List UInt8} {bad : Bool} (h : Ro w0 w B rest bad) (r2 : List UInt8) (hl : r2.length ≤ 1000000) : Ro w0 (w.setCell ⟨B, 0, none⟩ (.string ⟨r2.toArray⟩)) B r2 bad :=
 ⟨h.low.setCell (p := ⟨B, 0, none⟩) h.above _, h.above, h.rd.s0 r2, hl⟩
theorem Ro.s1 {w0 w : World} {B : Nat} {rest : List UInt8} {bad : Bool} (h : Ro w0 w B rest bad) (b2 : Bool) : Ro w0 (w.setCell ⟨B, 1, none⟩ (.bool b2)) B rest b2 :=
 ⟨h.low.setCell (p := ⟨B, 1, none⟩) h.above _, h.above, h.rd.s1 b2, h.small⟩

theorem must_any (w0 w : World) (B : Nat) (rest : List UInt8) (bad ok : Bool) (h : Ro w0 w B rest bad) :
  Calls Tryz.prog 308 #[.pointer (some ⟨B, 0, none⟩), .bool ok] w fun e w' => (∃ v, e = .returned v) ∧ Ro w0 w' B rest (bad || !ok) := by
 have c1 := h.rd.c1
 have f1 := h.rd.f1
 cases ok
 ·have hs := h.s1 true
  have hb : (bad || !false) = true := by cases bad <;> rfl
  rw [hb]
  clear hb
  go_enter Tryz.func308, Tryz.ntmps308
  go_wp2_with fail
  go_end0
  exact ⟨⟨_, rfl⟩, hs⟩
 ·have hb : (bad || !true) = bad := by cases bad <;> rfl
  rw [hb]
  clear hb
  go_enter Tryz.func308, Tryz.ntmps308
  go_wp2_with fail
  go_end0
  exact ⟨⟨_, rfl⟩, h⟩

theorem cutpre_any (l p : List UInt8) (w : World) :
  Calls Tryz.prog 159 #[.string ⟨l.toArray⟩, .string ⟨p.toArray⟩] w fun e w' => e = .returned (.tuple #[.string ⟨(Lib.trimPrefix l p).toArray⟩, .bool (Lib.hasPrefix l p)]) ∧ w = w' := by
 refine (Tryz.strings_CutPrefix ⟨l.toArray⟩ ⟨p.toArray⟩ w).mono ?_
 rintro e w' ⟨rfl, rfl⟩
 exact ⟨rfl, rfl⟩

theorem sign_any (w0 w : World) (B : Nat) (rest : List UInt8) (bad : Bool) (p : List UInt8) (h : Ro w0 w B rest bad) :
  Calls Tryz.prog 305 #[.pointer (some ⟨B, 0, none⟩), .string ⟨p.toArray⟩] w fun e w' => (∃ v, e = .returned v) ∧ Ro w0 w' B (Lib.trimPrefix rest p) (bad || !(Lib.hasPrefix rest p)) := by
 have hc := cutpre_any rest p w
 have hl : (Lib.trimPrefix rest p).length ≤ 1000000 := by
  have := h.small
  unfold Lib.trimPrefix; split
  ·simp; omega
  ·exact this
 generalize Lib.trimPrefix rest p = r2 at *
 have c0 := h.rd.c0
 have c1 := h.rd.c1
 have f0 := h.rd.f0
 have f1 := h.rd.f1
 cases hp : Lib.hasPrefix rest p
 ·rw [hp] at hc
  have hs1 := h.s1 true
  have hs := hs1.s0 r2 hl
  have g0 := hs1.rd.c0
  have k0 := hs1.rd.f0
  have hb : (bad || !false) = true := by cases bad <;> rfl
  rw [hb]
  clear hb hp
  go_enter Tryz.func305, Tryz.ntmps305
  go_wp2_with fail
  refine hc.mono ?_
  rintro e w' ⟨rfl, rfl⟩
  go_wp2_with fail
  go_end0
  exact ⟨⟨_, rfl⟩, hs⟩
 ·rw [hp] at hc
  have hs := h.s0 r2 hl
  have hb : (bad || !true) = bad := by cases bad <;> rfl
  rw [hb]
  clear hb hp
  go_enter Tryz.func305, Tryz.ntmps305
  go_wp2_with fail
  refine hc.mono ?_
  rintro e w' ⟨rfl, rfl⟩
  go_wp2_with fail
  go_end0
  exact ⟨⟨_, rfl⟩, hs⟩

def dN (most : Nat) (l : List UInt8) : Nat := min (cnt l) most
def digRel (least most : Nat) (rest : List UInt8) (bad : Bool) (v : Int) (r2 : List UInt8) (bad2 : Bool) : Prop :=
 int64 v ∧ ((dN most rest < least ∧ v = 0 ∧ r2 = rest ∧ bad2 = true) ∨
  (least ≤ dN most rest ∧ r2 = rest.drop (dN most rest) ∧ ((val (rest.take (dN most rest)) < 9223372036854775808 ∧ v = val (rest.take (dN most rest)) ∧ bad2 = bad) ∨ (9223372036854775808 ≤ val (rest.take (dN most rest)) ∧ bad2 = true))))

theorem dN_step (most : Nat) (l : List UInt8) (k : Nat) (c : UInt8) (r : List UInt8) (hk : k < most) (h : l.drop k = c :: r) : dN (most - k) (l.drop k) = if isDig c then 1 + dN (most - (k + 1)) (l.drop (k + 1)) else 0 := by
 have h2 : l.drop (k + 1) = r := by
  have := congrArg List.tail h
  rwa [List.tail_drop] at this
 unfold dN
 rw [h, h2, cnt]
 split <;> omega
theorem allDig_take (l : List UInt8) (n : Nat) (h : n ≤ cnt l) : allDig (l.take n) = true := by
 have := cnt_take l
 unfold allDig at *
 rw [List.all_eq_true] at *
 intro x hx
 apply this
 rw [show l.take n = (l.take (cnt l)).take n from by rw [List.take_take, Nat.min_eq_left h]] at hx
 exact List.mem_of_mem_take hx

theorem digits_any (w0 w : World) (B : Nat) (rest : List UInt8) (bad : Bool) (least most : Nat) (a b : Int) (ha : a = least) (hb : b = most) (hl : 1 ≤ least) (hl2 : least ≤ 10) (hm : most ≤ 1000000) (h : Ro w0 w B rest bad) (hE : GE w0) :
  Calls Tryz.prog 306 #[.pointer (some ⟨B, 0, none⟩), .int .i64 a, .int .i64 b] w fun e w' => ∃ v r2 bad2, e = .returned (.int .i64 v) ∧ Ro w0 w' B r2 bad2 ∧ digRel least most rest bad v r2 bad2 := by
 subst ha
 subst hb
 have hsm := h.small
 have c0 := h.rd.c0
 have hnle : dN most rest ≤ rest.length := by have := cnt_le rest; unfold dN; omega
 obtain ⟨N, hN⟩ : ∃ N, N = dN most rest := ⟨_, rfl⟩
 have HN0 : Hid (N = 0 + dN (most - 0) (rest.drop 0)) := Lib.hid (by rw [hN]; simp)
 go_enter Tryz.func306, Tryz.ntmps306
 rw [← hN] at hnle
 have HN := Lib.hid hN
 clear hN
 go_upto_block 0 with fail
 go_cut [7] (fun s7 wx => s7 = .int .i64 N ∧ wx = w)
 case first =>
  go_wp2_with fail
  go_loop [7] (fun s => ∃ k : Nat, s = .int .i64 k ∧ k ≤ rest.length ∧ k ≤ most ∧ Hid (N = k + dN (most - k) (rest.drop k))) (fun s => rest.length - (RowKit.intOf s).toNat)
  case atStart => exact ⟨0, rfl, by omega, by omega, HN0⟩
  case round =>
   obtain ⟨k, rfl, hk, hk2, hh⟩ := hrel
   clear HN0
   by_cases hlt : k < rest.length
   ·by_cases hlm : k < most
    ·obtain ⟨c, r, hd1, hd2, hidx⟩ := Go.Proofs.YtkhlfggnjcbniaaGreatDoor.num.byte_at rest k hlt
     have hx := hh.out
     rw [dN_step most rest k c r hlm hd1] at hx
     cases hdig : isDig c
     ·rw [hdig, if_neg (by decide)] at hx
      have hno := isDig_no c hdig
      have HX : Hid (N = k) := Lib.hid hx
      clear hx hh hd1 hd2 hdig
      rcases hno with g | g
      ·go_wp2_with fail
       go_meet
       exact ⟨by rw [HX.out], rfl⟩
      ·go_wp2_with fail
       go_meet
       exact ⟨by rw [HX.out], rfl⟩
     ·rw [hdig, if_pos rfl] at hx
      obtain ⟨g1, g2⟩ := (isDig_iff c).1 hdig
      have HX : Hid (N = (k + 1) + dN (most - (k + 1)) (rest.drop (k + 1))) := Lib.hid (by rw [hx]; omega)
      clear hx hh hd1 hd2 hdig
      go_wp2_with fail
      go_round
      case rel => exact ⟨k + 1, by go_num, by omega, by omega, HX⟩
      case measure => simp [RowKit.intOf]; omega
    ·have HX : Hid (N = k) := Lib.hid (by rw [hh.out]; unfold dN; omega)
     clear hh
     go_wp2_with fail
     go_meet
     exact ⟨by rw [HX.out], rfl⟩
   ·have HX : Hid (N = k) := Lib.hid (by rw [hh.out, List.drop_eq_nil_of_le (by omega)]; unfold dN; simp [cnt])
    clear hh
    go_wp2_with fail
    go_meet
    exact ⟨by rw [HX.out], rfl⟩
 case rest =>
 obtain ⟨rfl, rfl⟩ := hcut
 clear HN0
 by_cases hlt : N < least
 ·have c1 := h.rd.c1
  have f1 := h.rd.f1
  have hs := h.s1 true
  have HR : digRel least most rest bad 0 rest true := ⟨⟨by decide, by decide⟩, .inl ⟨by rw [← HN.out]; exact hlt, rfl, rfl, rfl⟩⟩
  have HRR := Lib.hid HR
  clear HR
  go_wp2_with fail
  go_ret
  exact ⟨0, rest, true, rfl, hs, HRR.out⟩
 ·have htl : (rest.take N).length = N := by rw [List.length_take]; omega
  have hda : allDig (rest.take N) = true := allDig_take rest N (by rw [HN.out]; unfold dN; omega)
  have hat := atoi_any (rest.take N) (by rw [htl]; omega) wc (hE.below h.low)
  have hav := atoi_val (rest.take N) (by omega) hda
  have hvl := Lib.hid (show ∀ v bad2, int64 v → ((val (rest.take N) < 9223372036854775808 ∧ v = val (rest.take N) ∧ bad2 = bad) ∨ (9223372036854775808 ≤ val (rest.take N) ∧ bad2 = true)) → digRel least most rest bad v (rest.drop N) bad2 from fun v bad2 h1 h2 => ⟨h1, .inr ⟨by rw [← HN.out]; omega, by rw [HN.out], by rw [← HN.out]; exact h2⟩⟩)
  have hdl : (rest.drop N).length ≤ 1000000 := by simp; omega
  generalize val (rest.take N) = x at *
  have HAV := Lib.hid hav
  clear hav hda htl
  go_wp2_with fail
  refine hat.mono ?_
  rintro e w2 ⟨hb2, ⟨v, hv, rfl⟩ | ⟨hv, n, M, hn64, rfl⟩⟩
  ·have h2 := h.below hb2
   have c0' := h2.rd.c0
   have f0' := h2.rd.f0
   have c1' := h2.rd.c1
   have f1' := h2.rd.f1
   have hs := h2.s0 (rest.drop N) hdl
   have HX : Hid (digRel least most rest bad v (rest.drop N) bad) := Lib.hid (by
    rcases HAV.out with ⟨g1, g2⟩ | ⟨g1, g2⟩
    ·rw [g2] at hv
     cases hv
     exact hvl.out _ _ ⟨by omega, by omega⟩ (.inl ⟨g1, rfl, rfl⟩)
    ·exact absurd hv (g2 v))
   clear hat hv HAV hvl
   go_wp2_with fail
   go_ret
   exact ⟨v, _, bad, rfl, hs, HX.out⟩
  ·have h2 := h.below hb2
   have c0' := h2.rd.c0
   have f0' := h2.rd.f0
   have c1' := h2.rd.c1
   have f1' := h2.rd.f1
   have hs1 := h2.s1 true
   have hs := hs1.s0 (rest.drop N) hdl
   have g0 := hs1.rd.c0
   have k0 := hs1.rd.f0
   have hge : 9223372036854775808 ≤ x := by
    rcases HAV.out with ⟨g1, g2⟩ | ⟨g1, g2⟩
    ·exact absurd g2 (hv _)
    ·exact g1
   have HX : Hid (int64 n → digRel least most rest bad n (rest.drop N) true) := Lib.hid (fun hn => hvl.out _ _ hn (.inr ⟨hge, rfl⟩))
   clear hat hv HAV hvl hge
   go_wp2_with fail
   go_ret
   exact ⟨n, _, true, rfl, hs, HX.out hn64⟩
end Go.Proofs.YtkhlfggnjcbniaaGreatDoor.mom
namespace Go.Proofs.YtkhlfggnjcbniaaGreatDoor.mom
open Go.Lib num days cal

def stepRel (F : List UInt8 → Option (Int × List UInt8)) (rest : List UInt8) (bad : Bool) (v : Int) (r2 : List UInt8) (bad2 : Bool) : Prop :=
 int64 v ∧ ((bad2 = false ∧ bad = false ∧ F rest = some (v, r2)) ∨ (bad2 = true ∧ (bad = true ∨ F rest = none)))
theorem step_some {F : List UInt8 → Option (Int × List UInt8)} {rest r2 r' : List UInt8} {v v' : Int} {bad2 : Bool} (h : stepRel F rest false v r2 bad2) (g : F rest = some (v', r')) : v = v' ∧ r2 = r' ∧ bad2 = false := by
 rcases h.2 with ⟨h1, _, h3⟩ | ⟨_, h2 | h2⟩
 ·rw [g] at h3
  have := Prod.mk.inj (Option.some.inj h3)
  exact ⟨this.1.symm, this.2.symm, h1⟩
 ·cases h2
 ·rw [g] at h2; cases h2
theorem step_false {F : List UInt8 → Option (Int × List UInt8)} {rest r2 : List UInt8} {v : Int} {bad : Bool} (h : stepRel F rest bad v r2 false) : bad = false ∧ F rest = some (v, r2) := by
 rcases h.2 with ⟨_, h2, h3⟩ | ⟨h1, _⟩
 ·exact ⟨h2, h3⟩
 ·cases h1
theorem step_of {F : List UInt8 → Option (Int × List UInt8)} {rest r2 : List UInt8} {v : Int} {bad bad2 : Bool} (hv : int64 v) (h1 : bad2 = false → bad = false ∧ F rest = some (v, r2)) (h2 : bad = false → ∀ v' r', F rest = some (v', r') → bad2 = false) : stepRel F rest bad v r2 bad2 := by
 refine ⟨hv, ?_⟩
 cases hb : bad2
 ·left; exact ⟨rfl, h1 hb⟩
 ·right
  refine ⟨rfl, ?_⟩
  cases hb0 : bad
  ·right
   cases hf : F rest with
   | none => rfl
   | some x =>
    obtain ⟨a, b⟩ := x
    have := h2 hb0 a b hf
    rw [hb] at this; cases this
  ·left; rfl

theorem pre1 (c : UInt8) (r : List UInt8) : Lib.hasPrefix r [c] = (r.head? == some c) ∧ Lib.trimPrefix r [c] = if r.head? = some c then r.tail else r := by
 have h : Lib.hasPrefix r [c] = (r.head? == some c) := by
  unfold Lib.hasPrefix
  cases r with
  | nil => rfl
  | cons a t => simp [List.isPrefixOf, Bool.beq_comm]
 refine ⟨h, ?_⟩
 unfold Lib.trimPrefix
 rw [h]
 by_cases g : r.head? = some c
 ·rw [if_pos g, if_pos (by simpa using g)]; simp
 ·rw [if_neg g, if_neg (by simpa using g)]
theorem sg_false {c : UInt8} {r : List UInt8} {bad : Bool} (h : (bad || !(Lib.hasPrefix r [c])) = false) : bad = false ∧ r = c :: Lib.trimPrefix r [c] := by
 rw [Bool.or_eq_false_iff] at h
 obtain ⟨h1, h2⟩ := h
 obtain ⟨p1, p2⟩ := pre1 c r
 rw [p1] at h2
 have g : r.head? = some c := by simpa using h2
 refine ⟨h1, ?_⟩
 rw [p2, if_pos g]
 cases r with
 | nil => cases g
 | cons a t => cases g; rfl
theorem sg_cons (c : UInt8) (t : List UInt8) : Lib.hasPrefix (c :: t) [c] = true ∧ Lib.trimPrefix (c :: t) [c] = t := by
 obtain ⟨p1, p2⟩ := pre1 c (c :: t)
 rw [p1, p2]
 simp

def twoI (l : List UInt8) : Option (Int × List UInt8) := (two l).map fun x => ((x.1 : Int), x.2)
def yearI (l : List UInt8) : Option (Int × List UInt8) := (yearP l).map fun x => ((x.1 : Int), x.2)
theorem twoI_some {l r : List UInt8} {v : Int} (h : twoI l = some (v, r)) : ∃ n : Nat, two l = some (n, r) ∧ v = n := by
 unfold twoI at h
 cases ht : two l with
 | none => rw [ht] at h; cases h
 | some x => obtain ⟨a, b⟩ := x; rw [ht] at h; cases h; exact ⟨a, rfl, rfl⟩
theorem yearI_some {l r : List UInt8} {v : Int} (h : yearI l = some (v, r)) : ∃ n : Nat, yearP l = some (n, r) ∧ v = n := by
 unfold yearI at h
 cases ht : yearP l with
 | none => rw [ht] at h; cases h
 | some x => obtain ⟨a, b⟩ := x; rw [ht] at h; cases h; exact ⟨a, rfl, rfl⟩
theorem twoI_of {l r : List UInt8} {n : Nat} (h : two l = some (n, r)) : twoI l = some ((n : Int), r) := by unfold twoI; rw [h]; rfl
theorem yearI_of {l r : List UInt8} {n : Nat} (h : yearP l = some (n, r)) : yearI l = some ((n : Int), r) := by unfold yearI; rw [h]; rfl

theorem dig_two (rest r2 : List UInt8) (bad bad2 : Bool) (v : Int) (h : digRel 2 2 rest bad v r2 bad2) : stepRel twoI rest bad v r2 bad2 := by
 obtain ⟨hv, ⟨h1, _, _, h4⟩ | ⟨h1, h2, h3⟩⟩ := h
 ·refine ⟨hv, .inr ⟨h4, .inr ?_⟩⟩
  unfold twoI
  cases ht : two rest with
  | none => rfl
  | some x =>
   exfalso
   obtain ⟨n, r⟩ := x
   obtain ⟨a, b, rfl, ha, hb, _⟩ := two_form rest n r ht
   unfold dN at h1
   rw [cnt, if_pos ha, cnt, if_pos hb] at h1
   omega
 ·have hn : dN 2 rest = 2 := by unfold dN at *; omega
  rw [hn] at h2 h3
  have hc : 2 ≤ cnt rest := by unfold dN at h1; omega
  match rest, hc with
  | [], hc => simp [cnt] at hc
  | [a], hc => exfalso; have := cnt_le [a]; simp at this; omega
  | a :: b :: t, hc =>
   have ha : isDig a = true := by
    cases h : isDig a
    ·rw [cnt, h] at hc; simp at hc
    ·rfl
   have hb : isDig b = true := by
    cases h : isDig b
    ·rw [cnt, if_pos ha, cnt, h] at hc; simp at hc
    ·rfl
   have hval : val ((a :: b :: t).take 2) = dv a * 10 + dv b := by
    show val [a, b] = _
    unfold val
    rw [valFrom_cons, valFrom_cons]
    show (0 * 10 + dv a) * 10 + dv b = _
    omega
   rw [hval] at h3
   have l1 := dv_le a ha
   have l2 := dv_le b hb
   have hr : r2 = t := h2
   subst hr
   rcases h3 with ⟨_, k2, k3⟩ | ⟨k1, _⟩
   ·refine step_of hv (fun g => ?_) (fun g v' r' _ => by rw [k3]; exact g)
    rw [k3] at g
    exact ⟨g, by rw [twoI_of (two_of a b r2 ha hb), k2]⟩
   ·omega

theorem dig_year (rest r2 : List UInt8) (bad bad2 : Bool) (v : Int) (h : digRel 4 rest.length rest bad v r2 bad2) : stepRel yearI rest bad v r2 (bad2 || !(decide (1 ≤ v) && decide (v ≤ 275760))) := by
 have hcl := cnt_le rest
 have hn : dN rest.length rest = cnt rest := by unfold dN; omega
 obtain ⟨hv, ⟨h1, _, _, h4⟩ | ⟨h1, h2, h3⟩⟩ := h
 ·rw [hn] at h1
  have : yearI rest = none := by
   unfold yearI yearP yOk
   rw [decide_eq_false (by omega : ¬ 4 ≤ cnt rest)]; rfl
  rw [h4]
  exact ⟨hv, .inr ⟨rfl, .inr this⟩⟩
 ·rw [hn] at h1 h2 h3
  have key : yearI rest = if 1 ≤ val (rest.take (cnt rest)) ∧ val (rest.take (cnt rest)) ≤ 275760 then some (((val (rest.take (cnt rest)) : Nat) : Int), r2) else none := by
   unfold yearI yearP yOk
   rw [decide_eq_true h1, Bool.true_and, h2]
   by_cases g : 1 ≤ val (rest.take (cnt rest)) ∧ val (rest.take (cnt rest)) ≤ 275760
   ·rw [if_pos g, if_pos (by simp; exact g)]; rfl
   ·rw [if_neg g, if_neg (by simp; omega)]; rfl
  rcases h3 with ⟨_, k2, k3⟩ | ⟨k1, k3⟩
  ·refine step_of hv (fun g => ?_) (fun g v' r' hf => ?_)
   ·rw [Bool.or_eq_false_iff] at g
    obtain ⟨g1, g2⟩ := g
    rw [k3] at g1
    have g3 : 1 ≤ v ∧ v ≤ 275760 := by simpa using g2
    refine ⟨g1, ?_⟩
    rw [key, if_pos (by omega), k2]
   ·rw [key] at hf
    split at hf
    ·rename_i gg
     rw [k3, g, k2, decide_eq_true (by omega : (1 : Int) ≤ ((val (rest.take (cnt rest)) : Nat) : Int)), decide_eq_true (by omega : ((val (rest.take (cnt rest)) : Nat) : Int) ≤ 275760)]; rfl
    ·cases hf
  ·refine ⟨hv, .inr ⟨by rw [k3]; rfl, .inr ?_⟩⟩
   rw [key, if_neg (by omega)]

theorem date_comp (rest r1 r3 r5 : List UInt8) (bad b1 b3 b5 : Bool) (y m d : Int) (h1 : stepRel yearI rest bad y r1 b1) (h2 : stepRel twoI (Lib.trimPrefix r1 [45]) (b1 || !(Lib.hasPrefix r1 [45])) m r3 b3)
  (h3 : stepRel twoI (Lib.trimPrefix r3 [45]) (b3 || !(Lib.hasPrefix r3 [45])) d r5 b5) :
  stepRel dateP rest bad ((numE y m d).1 * 86400000) r5 (b5 || !(decide ((numE y m d).2 = 0))) := by
 have hok : ∀ Y M D : Nat, 1 ≤ Y → Y ≤ 275760 → (dOk Y M D = true ↔ (numE Y M D).2 = 0) := by
  intro Y M D a b
  unfold dOk numE
  simp only [Bool.and_eq_true, decide_eq_true_eq]
  split
  ·rename_i g; simp; omega
  ·rename_i g; simp; omega
 refine step_of ?_ (fun g => ?_) (fun g v' r' hf => ?_)
 ·unfold numE
  split
  ·rename_i g
   obtain ⟨g1, g2, g3, g4, g5, g6⟩ := g
   have hy := num_year y m d ⟨g3, g4, g5, g6⟩
   have := newY_bound y g1 (by omega)
   have := newY_bound (y + 1) (by omega) (by omega)
   unfold int64
   constructor <;> omega
  ·exact ⟨by decide, by decide⟩
 ·rw [Bool.or_eq_false_iff] at g
  obtain ⟨g1, g2⟩ := g
  subst g1
  obtain ⟨e3, f3⟩ := step_false h3
  obtain ⟨e3, s3⟩ := sg_false e3
  subst e3
  obtain ⟨e2, f2⟩ := step_false h2
  obtain ⟨e2, s2⟩ := sg_false e2
  subst e2
  obtain ⟨e1, f1⟩ := step_false h1
  obtain ⟨Y, a1, rfl⟩ := yearI_some f1
  obtain ⟨M, a2, rfl⟩ := twoI_some f2
  obtain ⟨D, a3, rfl⟩ := twoI_some f3
  obtain ⟨ds, _, _, _, y1, y2⟩ := yearR_some rest Y r1 a1
  have hk : (numE Y M D).2 = 0 := by simpa using g2
  have hd := (hok Y M D y1 y2).2 hk
  refine ⟨e1, ?_⟩
  rw [dateP_of rest Y M D r1 _ r3 _ r5 a1 s2 a2 s3 a3 hd]
  unfold numE at hk ⊢
  split
  ·rfl
  ·rename_i gg; rw [if_neg gg] at hk; exact absurd hk (by decide)
 ·obtain ⟨Y, M, D, q1, q2, q3, q4, k1, k2, k3, k4, k5, k6, k7⟩ := dateP_form rest v' r' hf
  subst g
  obtain ⟨rfl, rfl, rfl⟩ := step_some h1 (yearI_of k1)
  subst k2
  obtain ⟨p1, p2⟩ := sg_cons 45 q2
  rw [p1, p2] at h2
  obtain ⟨rfl, rfl, rfl⟩ := step_some h2 (twoI_of k3)
  subst k4
  obtain ⟨p1, p2⟩ := sg_cons 45 q4
  rw [p1, p2] at h3
  obtain ⟨rfl, rfl, rfl⟩ := step_some h3 (twoI_of k5)
  obtain ⟨ds, _, _, _, y1, y2⟩ := yearR_some rest Y _ k1
  rw [decide_eq_true ((hok Y M D y1 y2).1 k6)]; rfl

theorem monthP_form (l : List UInt8) (v : Int) (r : List UInt8) (h : monthP l = some (v, r)) : ∃ y m r1 r2, yearP l = some (y, r1) ∧ r1 = 45 :: r2 ∧ two r2 = some (m, r) ∧ (1 ≤ m ∧ m ≤ 12) ∧ v = 12 * ((y : Int) - 1970) + m - 1 := by
 unfold monthP at h
 split at h
 ·cases h
 ·rename_i y r1 e1
  split at h
  ·cases h
  ·rename_i r2 e2
   split at h
   ·cases h
   ·rename_i m r3 e3
    split at h
    ·rename_i g
     cases h
     exact ⟨y, m, r1, r2, e1, sgn_form _ _ _ e2, e3, by simpa using g, rfl⟩
    ·cases h
theorem monthP_of (l : List UInt8) (y m : Nat) (r2 r : List UInt8) (h1 : yearP l = some (y, 45 :: r2)) (h3 : two r2 = some (m, r)) (h6 : 1 ≤ m ∧ m ≤ 12) : monthP l = some (12 * ((y : Int) - 1970) + m - 1, r) := by
 unfold monthP
 rw [h1]
 simp only [sgn_of, h3]
 rw [if_pos (by simpa using h6)]

theorem month_comp (rest r1 r3 : List UInt8) (bad b1 b3 : Bool) (y m v : Int) (h1 : stepRel yearI rest bad y r1 b1) (h2 : stepRel twoI (Lib.trimPrefix r1 [45]) (b1 || !(Lib.hasPrefix r1 [45])) m r3 b3)
  (hv : int64 v) (hx : 1 ≤ y → y ≤ 275760 → 0 ≤ m → m < 100 → v = 12 * (y - 1970) + m - 1) :
  stepRel monthP rest bad v r3 (b3 || !(decide (1 ≤ m) && decide (m ≤ 12))) := by
 refine step_of hv (fun g => ?_) (fun g v' r' hf => ?_)
 ·rw [Bool.or_eq_false_iff] at g
  obtain ⟨g1, g2⟩ := g
  subst g1
  obtain ⟨e2, f2⟩ := step_false h2
  obtain ⟨e2, s2⟩ := sg_false e2
  subst e2
  obtain ⟨e1, f1⟩ := step_false h1
  obtain ⟨Y, a1, rfl⟩ := yearI_some f1
  obtain ⟨M, a2, rfl⟩ := twoI_some f2
  obtain ⟨ds, _, _, _, y1, y2⟩ := yearR_some rest Y r1 a1
  have hm := two_lt _ _ _ a2
  have g3 : 1 ≤ M ∧ M ≤ 12 := by
   have : (1 : Int) ≤ M ∧ (M : Int) ≤ 12 := by simpa using g2
   omega
  rw [s2] at a1
  refine ⟨e1, ?_⟩
  rw [monthP_of rest Y M _ r3 a1 a2 g3, hx (by omega) (by omega) (by omega) (by omega)]
 ·obtain ⟨Y, M, q1, q2, k1, k2, k3, k6, k7⟩ := monthP_form rest v' r' hf
  subst g
  obtain ⟨rfl, rfl, rfl⟩ := step_some h1 (yearI_of k1)
  subst k2
  obtain ⟨p1, p2⟩ := sg_cons 45 q2
  rw [p1, p2] at h2
  obtain ⟨rfl, rfl, rfl⟩ := step_some h2 (twoI_of k3)
  rw [decide_eq_true (by omega : (1 : Int) ≤ M), decide_eq_true (by omega : (M : Int) ≤ 12)]; rfl

theorem pre2_cons (a b : UInt8) (r : List UInt8) : Lib.hasPrefix r [a, b] = true ↔ ∃ t, r = a :: b :: t := by
 unfold Lib.hasPrefix
 match r with
 | [] => simp [List.isPrefixOf]
 | [x] => simp [List.isPrefixOf]
 | x :: y :: t =>
  simp [List.isPrefixOf]
  constructor
  ·rintro ⟨h1, h2⟩; exact ⟨h1.symm, h2.symm⟩
  ·rintro ⟨h1, h2⟩; exact ⟨h1.symm, h2.symm⟩
theorem sg2_false {a b : UInt8} {r : List UInt8} {bad : Bool} (h : (bad || !(Lib.hasPrefix r [a, b])) = false) : bad = false ∧ r = a :: b :: Lib.trimPrefix r [a, b] := by
 rw [Bool.or_eq_false_iff] at h
 obtain ⟨h1, h2⟩ := h
 have h3 : Lib.hasPrefix r [a, b] = true := by simpa using h2
 obtain ⟨t, rfl⟩ := (pre2_cons a b r).1 h3
 refine ⟨h1, ?_⟩
 unfold Lib.trimPrefix
 rw [if_pos h3]; rfl
theorem sg2_cons (a b : UInt8) (t : List UInt8) : Lib.hasPrefix (a :: b :: t) [a, b] = true ∧ Lib.trimPrefix (a :: b :: t) [a, b] = t := by
 have h3 : Lib.hasPrefix (a :: b :: t) [a, b] = true := (pre2_cons a b _).2 ⟨t, rfl⟩
 refine ⟨h3, ?_⟩
 unfold Lib.trimPrefix
 rw [if_pos h3]; rfl

theorem weekP_form (l : List UInt8) (v : Int) (r : List UInt8) (h : weekP l = some (v, r)) : ∃ y w r1 r2, yearP l = some (y, r1) ∧ r1 = 45 :: 87 :: r2 ∧ two r2 = some (w, r) ∧ wOk y w = true ∧ v = (firstW y + 7 * ((w : Int) - 1)) * 86400000 := by
 unfold weekP at h
 split at h
 ·cases h
 ·rename_i y r1 e1
  split at h
  ·cases h
  ·rename_i r2 e2
   split at h
   ·cases h
   ·rename_i r2' e2'
    split at h
    ·cases h
    ·rename_i m r3 e3
     split at h
     ·rename_i g
      cases h
      have := sgn_form _ _ _ e2
      rw [sgn_form _ _ _ e2'] at this
      exact ⟨y, m, r1, r2', e1, this, e3, g, rfl⟩
     ·cases h
theorem weekP_of (l : List UInt8) (y w : Nat) (r2 r : List UInt8) (h1 : yearP l = some (y, 45 :: 87 :: r2)) (h3 : two r2 = some (w, r)) (h6 : wOk y w = true) : weekP l = some ((firstW y + 7 * ((w : Int) - 1)) * 86400000, r) := by
 unfold weekP
 rw [h1]
 simp only [sgn_of, h3, h6, if_true]

theorem week_comp (rest r1 r3 : List UInt8) (bad b1 b3 : Bool) (y w : Int) (h1 : stepRel yearI rest bad y r1 b1) (h2 : stepRel twoI (Lib.trimPrefix r1 [45, 87]) (b1 || !(Lib.hasPrefix r1 [45, 87])) w r3 b3) :
  stepRel weekP rest bad ((monE y w).1 * 86400000) r3 (b3 || !(decide ((monE y w).2 = 0))) := by
 have hok : ∀ Y W : Nat, 1 ≤ Y → Y ≤ 275760 → (wOk Y W = true ↔ (monE Y W).2 = 0) := by
  intro Y W a b
  unfold wOk monE
  simp only [Bool.and_eq_true, decide_eq_true_eq]
  split
  ·rename_i g; simp; omega
  ·rename_i g; simp; omega
 refine step_of ?_ (fun g => ?_) (fun g v' r' hf => ?_)
 ·unfold monE
  split
  ·rename_i g
   have := firstW_bound y (by omega) (by omega)
   have := weeksW_pos y
   unfold int64
   constructor <;> omega
  ·exact ⟨by decide, by decide⟩
 ·rw [Bool.or_eq_false_iff] at g
  obtain ⟨g1, g2⟩ := g
  subst g1
  obtain ⟨e2, f2⟩ := step_false h2
  obtain ⟨e2, s2⟩ := sg2_false e2
  subst e2
  obtain ⟨e1, f1⟩ := step_false h1
  obtain ⟨Y, a1, rfl⟩ := yearI_some f1
  obtain ⟨M, a2, rfl⟩ := twoI_some f2
  obtain ⟨ds, _, _, _, y1, y2⟩ := yearR_some rest Y r1 a1
  have hk : (monE Y M).2 = 0 := by simpa using g2
  rw [s2] at a1
  refine ⟨e1, ?_⟩
  rw [weekP_of rest Y M _ r3 a1 a2 ((hok Y M y1 y2).2 hk)]
  unfold monE at hk ⊢
  split
  ·rfl
  ·rename_i gg; rw [if_neg gg] at hk; exact absurd hk (by decide)
 ·obtain ⟨Y, M, q1, q2, k1, k2, k3, k6, k7⟩ := weekP_form rest v' r' hf
  subst g
  obtain ⟨rfl, rfl, rfl⟩ := step_some h1 (yearI_of k1)
  subst k2
  obtain ⟨p1, p2⟩ := sg2_cons 45 87 q2
  rw [p1, p2] at h2
  obtain ⟨rfl, rfl, rfl⟩ := step_some h2 (twoI_of k3)
  obtain ⟨ds, _, _, _, y1, y2⟩ := yearR_some rest Y _ k1
  rw [decide_eq_true ((hok Y M y1 y2).1 k6)]; rfl

theorem dig2_small (rest r2 : List UInt8) (bad bad2 : Bool) (v : Int) (least most : Nat) (hm : most ≤ 3) (h : digRel least most rest bad v r2 bad2) : 0 ≤ v ∧ v ≤ 999 := by
 obtain ⟨hv, ⟨_, h2, _, _⟩ | ⟨h1, h2, h3⟩⟩ := h
 ·omega
 ·have hl : dN most rest ≤ 3 := by unfold dN; omega
  have hd := allDig_take rest (dN most rest) (by unfold dN; omega)
  have := val_lt _ hd
  have hlen : (rest.take (dN most rest)).length ≤ 3 := by rw [List.length_take]; omega
  have hp : 10 ^ (rest.take (dN most rest)).length ≤ 10 ^ 3 := Nat.pow_le_pow_right (by decide) hlen
  rcases h3 with ⟨_, k, _⟩ | ⟨k, _⟩ <;> omega

def thouI (l : List UInt8) : Option (Int × List UInt8) := (thou l).map fun x => ((x.1 : Int), x.2)
theorem dig_thou (u r7 : List UInt8) (bad b7 : Bool) (v : Int) (h : digRel 1 3 u bad v r7 b7) :
  r7.length ≤ u.length ∧ u.length - r7.length ≤ 3 ∧ stepRel thouI u bad (v * 10 ^ (3 - (u.length - r7.length))) r7 b7 := by
 have hs := dig2_small u r7 bad b7 v 1 3 (by omega) h
 obtain ⟨hv, ⟨h1, h2, h3, h4⟩ | ⟨h1, h2, h3⟩⟩ := h
 ·subst h3
  refine ⟨Nat.le_refl _, by omega, ?_⟩
  rw [h2, Int.zero_mul]
  refine ⟨⟨by decide, by decide⟩, .inr ⟨h4, .inr ?_⟩⟩
  unfold thouI thou dN at *
  simp only []
  rw [if_pos (by omega)]; rfl
 ·have hn3 : dN 3 u ≤ 3 := by unfold dN; omega
  have hcu := cnt_le u
  have hnu : dN 3 u ≤ u.length := by unfold dN; omega
  have hl : u.length - r7.length = dN 3 u ∧ r7.length ≤ u.length := by rw [h2, List.length_drop]; omega
  refine ⟨hl.2, by omega, ?_⟩
  rw [hl.1]
  have hp : (10 : Int) ^ (3 - dN 3 u) ≤ 100 := by
   have : dN 3 u = 1 ∨ dN 3 u = 2 ∨ dN 3 u = 3 := by omega
   rcases this with e | e | e <;> rw [e] <;> decide
  have hp0 : (0 : Int) ≤ (10 : Int) ^ (3 - dN 3 u) := by
   have : dN 3 u = 1 ∨ dN 3 u = 2 ∨ dN 3 u = 3 := by omega
   rcases this with e | e | e <;> rw [e] <;> decide
  have hb : 0 ≤ v * 10 ^ (3 - dN 3 u) ∧ v * 10 ^ (3 - dN 3 u) ≤ 999 * 100 := ⟨Int.mul_nonneg hs.1 hp0, Int.mul_le_mul hs.2 hp hp0 (by decide)⟩
  have ht : thouI u = some (((val (u.take (dN 3 u)) * 10 ^ (3 - dN 3 u) : Nat) : Int), r7) := by
   unfold thouI thou
   simp only []
   show Option.map _ (if dN 3 u = 0 then none else some (val (u.take (dN 3 u)) * 10 ^ (3 - dN 3 u), u.drop (dN 3 u))) = _
   rw [if_neg (by omega), h2]; rfl
  have hlt := val_lt _ (allDig_take u (dN 3 u) (by unfold dN; omega))
  have hlen : (u.take (dN 3 u)).length ≤ 3 := by rw [List.length_take]; omega
  have hpp : 10 ^ (u.take (dN 3 u)).length ≤ 10 ^ 3 := Nat.pow_le_pow_right (by decide) hlen
  rcases h3 with ⟨_, k2, k3⟩ | ⟨k1, _⟩
  ·refine step_of ⟨by omega, by omega⟩ (fun g => ?_) (fun g v' r' _ => by rw [k3]; exact g)
   rw [k3] at g
   refine ⟨g, ?_⟩
   rw [ht, k2]
   simp
  ·omega

theorem step_bind {F : List UInt8 → Option (Int × List UInt8)} {K : Int → List UInt8 → Option (Int × List UInt8)} {rest r r2 : List UInt8} {bad b b2 : Bool} {v v2 : Int}
  (h1 : stepRel F rest bad v r b) (h2 : stepRel (K v) r b v2 r2 b2) : stepRel (fun l => (F l).bind fun x => K x.1 x.2) rest bad v2 r2 b2 := by
 refine step_of h2.1 (fun g => ?_) (fun g v' r' hf => ?_)
 ·subst g
  obtain ⟨e1, f1⟩ := step_false h2
  subst e1
  obtain ⟨e2, f2⟩ := step_false h1
  exact ⟨e2, by rw [f2]; exact f1⟩
 ·subst g
  cases hF : F rest with
  | none => rw [hF] at hf; cases hf
  | some x =>
   obtain ⟨a, q⟩ := x
   rw [hF] at hf
   obtain ⟨rfl, rfl, rfl⟩ := step_some h1 hF
   exact (step_some h2 hf).2.2
theorem step_eq {F F' : List UInt8 → Option (Int × List UInt8)} {rest r2 : List UInt8} {bad b2 : Bool} {v : Int} (h : stepRel F rest bad v r2 b2) (e : F rest = F' rest) : stepRel F' rest bad v r2 b2 := by
 unfold stepRel at *; rw [← e]; exact h
theorem step_stay {F : List UInt8 → Option (Int × List UInt8)} {rest : List UInt8} {bad : Bool} {v : Int} (hv : int64 v) (e : F rest = some (v, rest)) : stepRel F rest bad v rest bad := by
 refine ⟨hv, ?_⟩
 cases bad
 ·left; exact ⟨rfl, rfl, e⟩
 ·right; exact ⟨rfl, .inl rfl⟩

def timeH (l : List UInt8) : Option (Int × List UInt8) :=
 match two l with
 | none => none
 | some (h, r) => match sgn 58 r with
  | none => none
  | some r => match two r with
   | none => none
   | some (m, r) => if decide (h < 24) && decide (m < 60) then some ((((h * 60 + m) * 60000 : Nat) : Int), r) else none
def secH (l : List UInt8) : Option (Int × List UInt8) := (two l).bind fun x => if x.1 < 60 then some ((x.1 : Int), x.2) else none
def secU (n : Int) (r : List UInt8) : Option (Int × List UInt8) := if r.head? = some 46 then (thouI r.tail).map fun x => (n + x.1, x.2) else some (n, r)
def minU (n : Int) (r : List UInt8) : Option (Int × List UInt8) := if r.head? = some 58 then (secH r.tail).bind (fun x => secU (n + 1000 * x.1) x.2) else some (n, r)

theorem secU_eq (n : Nat) (r : List UInt8) : secU n r = secT n r := by
 unfold secU secT
 by_cases h : r.head? = some 46
 ·rw [if_pos h, if_pos h]
  unfold thouI
  cases thou r.tail with
  | none => rfl
  | some x => obtain ⟨a, b⟩ := x; simp
 ·rw [if_neg h, if_neg h]
theorem minU_eq (n : Nat) (r : List UInt8) : minU n r = minT n r := by
 unfold minU minT
 by_cases h : r.head? = some 58
 ·rw [if_pos h, if_pos h]
  unfold secH secP
  cases two r.tail with
  | none => rfl
  | some x =>
   obtain ⟨s, q⟩ := x
   simp only [Option.bind_some]
   by_cases hs : s < 60
   ·rw [if_pos hs, if_pos hs]
    simp only [Option.bind_some]
    rw [← secU_eq]
    congr 1
   ·rw [if_neg hs, if_neg hs]; rfl
 ·rw [if_neg h, if_neg h]
theorem time_bind (l : List UInt8) : (timeH l).bind (fun x => minU x.1 x.2) = timeP l := by
 unfold timeH timeP
 cases two l with
 | none => rfl
 | some x =>
  obtain ⟨h, r⟩ := x
  dsimp only
  cases sgn 58 r with
  | none => rfl
  | some r =>
   dsimp only
   cases two r with
   | none => rfl
   | some x =>
    obtain ⟨m, r⟩ := x
    dsimp only
    by_cases g : (decide (h < 24) && decide (m < 60)) = true
    ·rw [if_pos g, if_pos g]
     exact minU_eq _ _
    ·rw [if_neg g, if_neg g]; rfl

theorem timeH_form (l : List UInt8) (v : Int) (r : List UInt8) (e : timeH l = some (v, r)) : ∃ h m r1 r2, two l = some (h, r1) ∧ r1 = 58 :: r2 ∧ two r2 = some (m, r) ∧ h < 24 ∧ m < 60 ∧ v = (((h * 60 + m) * 60000 : Nat) : Int) := by
 unfold timeH at e
 split at e
 ·cases e
 ·rename_i h r1 e1
  split at e
  ·cases e
  ·rename_i r2 e2
   split at e
   ·cases e
   ·rename_i m r3 e3
    split at e
    ·rename_i g
     cases e
     have : h < 24 ∧ m < 60 := by simpa using g
     exact ⟨h, m, r1, r2, e1, sgn_form _ _ _ e2, e3, this.1, this.2, rfl⟩
    ·cases e
theorem timeH_of (l : List UInt8) (h m : Nat) (r2 r : List UInt8) (h1 : two l = some (h, 58 :: r2)) (h3 : two r2 = some (m, r)) (h5 : h < 24) (h6 : m < 60) : timeH l = some ((((h * 60 + m) * 60000 : Nat) : Int), r) := by
 unfold timeH
 rw [h1]
 simp only [sgn_of, h3]
 rw [if_pos (by simp; exact ⟨h5, h6⟩)]

theorem timeH_comp (rest r1 r3 : List UInt8) (bad b1 b3 : Bool) (h m : Int) (hh : 0 ≤ h ∧ h ≤ 999) (hm : 0 ≤ m ∧ m ≤ 999) (h1 : stepRel twoI rest bad h r1 b1) (h2 : stepRel twoI (Lib.trimPrefix r1 [58]) (b1 || !(Lib.hasPrefix r1 [58])) m r3 b3) :
  stepRel timeH rest bad ((h * 60 + m) * 60000) r3 (b3 || !(decide (h < 24) && decide (m < 60))) := by
 refine step_of ⟨by omega, by omega⟩ (fun g => ?_) (fun g v' r' hf => ?_)
 ·rw [Bool.or_eq_false_iff] at g
  obtain ⟨g1, g2⟩ := g
  subst g1
  obtain ⟨e2, f2⟩ := step_false h2
  obtain ⟨e2, s2⟩ := sg_false e2
  subst e2
  obtain ⟨e1, f1⟩ := step_false h1
  obtain ⟨H, a1, rfl⟩ := twoI_some f1
  obtain ⟨M, a2, rfl⟩ := twoI_some f2
  rw [s2] at a1
  have g3 : (H : Int) < 24 ∧ (M : Int) < 60 := by simpa using g2
  refine ⟨e1, ?_⟩
  rw [timeH_of rest H M _ r3 a1 a2 (by omega) (by omega)]
  simp
 ·obtain ⟨H, M, q1, q2, k1, k2, k3, k5, k6, k7⟩ := timeH_form rest v' r' hf
  subst g
  obtain ⟨rfl, rfl, rfl⟩ := step_some h1 (twoI_of k1)
  subst k2
  obtain ⟨p1, p2⟩ := sg_cons 58 q2
  rw [p1, p2] at h2
  obtain ⟨rfl, rfl, rfl⟩ := step_some h2 (twoI_of k3)
  rw [decide_eq_true (by omega : (H : Int) < 24), decide_eq_true (by omega : (M : Int) < 60)]; rfl

theorem secH_comp (rest r1 : List UInt8) (bad b1 : Bool) (s : Int) (h1 : stepRel twoI rest bad s r1 b1) : stepRel secH rest bad s r1 (b1 || !(decide (s < 60))) := by
 refine step_of h1.1 (fun g => ?_) (fun g v' r' hf => ?_)
 ·rw [Bool.or_eq_false_iff] at g
  obtain ⟨g1, g2⟩ := g
  subst g1
  obtain ⟨e1, f1⟩ := step_false h1
  obtain ⟨S, a1, rfl⟩ := twoI_some f1
  have : (S : Int) < 60 := by simpa using g2
  refine ⟨e1, ?_⟩
  unfold secH
  rw [a1]
  show (if S < 60 then _ else _) = _
  rw [if_pos (by omega)]
 ·subst g
  unfold secH at hf
  cases ht : two rest with
  | none => rw [ht] at hf; cases hf
  | some x =>
   obtain ⟨S, q⟩ := x
   rw [ht] at hf
   have hf2 : (if S < 60 then some ((S : Int), q) else none) = some (v', r') := hf
   obtain ⟨rfl, rfl, rfl⟩ := step_some h1 (twoI_of ht)
   by_cases hs : S < 60
   ·rw [decide_eq_true (by omega : (S : Int) < 60)]; rfl
   ·rw [if_neg hs] at hf2; cases hf2

theorem time_A (rest r3 : List UInt8) (bad b4 : Bool) (n : Int) (h : stepRel timeH rest bad n r3 b4) (hh : r3.head? ≠ some 58) : stepRel timeP rest bad n r3 b4 :=
 step_eq (step_bind h (step_stay h.1 (by unfold minU; rw [if_neg hh]))) (time_bind rest)
theorem time_B (rest r3 t r5 : List UInt8) (bad b4 b6 : Bool) (n s : Int) (h : stepRel timeH rest bad n r3 b4) (hh : r3 = 58 :: t) (h2 : stepRel secH t b4 s r5 b6) (h3 : r5.head? ≠ some 46) (hv : int64 (n + 1000 * s)) :
  stepRel timeP rest bad (n + 1000 * s) r5 b6 := by
 refine step_eq (step_bind h ?_) (time_bind rest)
 have : stepRel (fun l => (secH l).bind fun x => secU (n + 1000 * x.1) x.2) t b4 (n + 1000 * s) r5 b6 :=
  step_bind (K := fun v l => secU (n + 1000 * v) l) h2 (step_stay hv (by show secU (n + 1000 * s) r5 = _; unfold secU; rw [if_neg h3]))
 unfold stepRel at *
 have e : minU n r3 = (secH t).bind (fun x => secU (n + 1000 * x.1) x.2) := by rw [hh]; unfold minU; rw [if_pos (show (58 :: t).head? = some 58 from rfl)]; rfl
 rw [e]; exact this
theorem time_C (rest r3 t r5 u r7 : List UInt8) (bad b4 b6 b7 : Bool) (n s p : Int) (h : stepRel timeH rest bad n r3 b4) (hh : r3 = 58 :: t) (h2 : stepRel secH t b4 s r5 b6) (h3 : r5 = 46 :: u) (h4 : stepRel thouI u b6 p r7 b7) (hv : int64 (n + 1000 * s + p)) :
  stepRel timeP rest bad (n + 1000 * s + p) r7 b7 := by
 refine step_eq (step_bind h ?_) (time_bind rest)
 have k1 : stepRel (secU (n + 1000 * s)) r5 b6 (n + 1000 * s + p) r7 b7 := by
  have e : secU (n + 1000 * s) r5 = (thouI u).map fun x => (n + 1000 * s + x.1, x.2) := by rw [h3]; unfold secU; rw [if_pos (show (46 :: u).head? = some 46 from rfl)]; rfl
  refine step_of hv (fun g => ?_) (fun g v' r' hf => ?_)
  ·subst g
   obtain ⟨e1, f1⟩ := step_false h4
   exact ⟨e1, by rw [e, f1]; rfl⟩
  ·subst g
   rw [e] at hf
   cases ht : thouI u with
   | none => rw [ht] at hf; cases hf
   | some x => obtain ⟨a, b⟩ := x; exact (step_some h4 ht).2.2
 have : stepRel (fun l => (secH l).bind fun x => secU (n + 1000 * x.1) x.2) t b4 (n + 1000 * s + p) r7 b7 := step_bind (K := fun v l => secU (n + 1000 * v) l) h2 k1
 unfold stepRel at *
 have e : minU n r3 = (secH t).bind (fun x => secU (n + 1000 * x.1) x.2) := by rw [hh]; unfold minU; rw [if_pos (show (58 :: t).head? = some 58 from rfl)]; rfl
 rw [e]; exact this

theorem local_comp (rest r1 r2 r3 : List UInt8) (bad b1 b2 b3 : Bool) (d t v : Int) (h1 : stepRel dateP rest bad d r1 b1)
  (hm : (∃ c, isMid c = true ∧ r1 = c :: r2 ∧ b2 = b1) ∨ ((∀ c q, r1 = c :: q → isMid c = false) ∧ b2 = true))
  (h2 : stepRel timeP r2 b2 t r3 b3) (hv : int64 v) (hx : b3 = false → v = d + t) : stepRel localP rest bad v r3 b3 := by
 refine step_of hv (fun g => ?_) (fun g v' r' hf => ?_)
 ·have hvv := hx g
  subst g
  obtain ⟨e1, f1⟩ := step_false h2
  rcases hm with ⟨c, c1, c2, c3⟩ | ⟨_, c3⟩
  ·rw [e1] at c3
   subst c3
   obtain ⟨e2, f2⟩ := step_false h1
   subst c2
   exact ⟨e2, by rw [localP_of rest d t c r2 r3 f2 c1 f1, hvv]⟩
  ·rw [c3] at e1; cases e1
 ·obtain ⟨d', q1, c, q2, t', k1, k2, k3, k4, k5⟩ := localP_form rest v' r' hf
  subst g
  obtain ⟨rfl, rfl, rfl⟩ := step_some h1 k1
  rcases hm with ⟨c', c1, c2, c3⟩ | ⟨c2, _⟩
  ·rw [k2] at c2
   obtain ⟨rfl, rfl⟩ := List.cons.inj c2
   subst c3
   exact (step_some h2 k4).2.2
  ·rw [c2 c q2 k2] at k3; cases k3
end Go.Proofs.YtkhlfggnjcbniaaGreatDoor.mom
namespace Go.Proofs.YtkhlfggnjcbniaaGreatDoor.mom
open Go.ChangeShapes Go.WideShapes Go.ChangeAt Go.RowKit Go.Lib num days cal

def StepPost (F : List UInt8 → Option (Int × List UInt8)) (w0 : World) (B : Nat) (rest : List UInt8) (bad : Bool) (e : Ending) (w' : World) : Prop :=
 ∃ v r2 bad2, e = .returned (.int .i64 v) ∧ Ro w0 w' B r2 bad2 ∧ stepRel F rest bad v r2 bad2

def StepPostB (F : List UInt8 → Option (Int × List UInt8)) (lo hi : Int) (w0 : World) (B : Nat) (rest : List UInt8) (bad : Bool) (e : Ending) (w' : World) : Prop :=
 ∃ v r2 bad2, e = .returned (.int .i64 v) ∧ Ro w0 w' B r2 bad2 ∧ stepRel F rest bad v r2 bad2 ∧ lo ≤ v ∧ v ≤ hi

theorem year_any (w0 w : World) (B : Nat) (rest : List UInt8) (bad : Bool) (h : Ro w0 w B rest bad) (hE : GE w0) :
  Calls Tryz.prog 304 #[.pointer (some ⟨B, 0, none⟩)] w (StepPost yearI w0 B rest bad) := by
 unfold StepPost
 have c0 := h.rd.c0
 have hsm := h.small
 have hd := digits_any w0 w B rest bad 4 rest.length 4 rest.length rfl rfl (by decide) (by decide) hsm h hE
 go_enter Tryz.func304, Tryz.ntmps304
 go_wp2_with fail
 refine hd.mono ?_
 rintro e w1 ⟨v, r1, b1, rfl, h1, hr⟩
 clear hd c0
 have hs := dig_year rest r1 bad b1 v hr
 have HS := Lib.hid hs
 obtain ⟨v1, v2⟩ := hr.1
 clear hs hr
 by_cases g1 : 1 ≤ v
 ·by_cases g2 : v ≤ 275760
  ·have hm := must_any w0 w1 B r1 b1 true h1
   have HT : Hid (stepRel yearI rest bad v r1 (b1 || !true)) := Lib.hid (by have := HS.out; rwa [decide_eq_true g1, decide_eq_true g2] at this)
   clear HS
   go_wp2_with fail
   refine hm.mono ?_
   rintro e w2 ⟨⟨u, rfl⟩, h2⟩
   go_wp2_with fail
   go_ret
   exact ⟨v, r1, _, rfl, h2, HT.out⟩
  ·have hm := must_any w0 w1 B r1 b1 false h1
   have e2 : decide (v ≤ 275760) = false := decide_eq_false g2
   have HT : Hid (stepRel yearI rest bad v r1 (b1 || !false)) := Lib.hid (by have := HS.out; rwa [decide_eq_true g1, decide_eq_false g2] at this)
   clear HS
   go_wp2_with fail
   refine hm.mono ?_
   rintro e w2 ⟨⟨u, rfl⟩, h2⟩
   go_wp2_with fail
   go_ret
   exact ⟨v, r1, _, rfl, h2, HT.out⟩
 ·have hm := must_any w0 w1 B r1 b1 false h1
  have HT : Hid (stepRel yearI rest bad v r1 (b1 || !false)) := Lib.hid (by have := HS.out; rwa [decide_eq_false g1, Bool.false_and] at this)
  clear HS
  go_wp2_with fail
  refine hm.mono ?_
  rintro e w2 ⟨⟨u, rfl⟩, h2⟩
  go_wp2_with fail
  go_ret
  exact ⟨v, r1, _, rfl, h2, HT.out⟩

theorem two_any (w0 w : World) (B : Nat) (rest : List UInt8) (bad : Bool) (h : Ro w0 w B rest bad) (hE : GE w0) :
  Calls Tryz.prog 306 #[.pointer (some ⟨B, 0, none⟩), .int .i64 2, .int .i64 2] w fun e w' => ∃ v r2 bad2, e = .returned (.int .i64 v) ∧ Ro w0 w' B r2 bad2 ∧ (0 ≤ v ∧ v ≤ 999) ∧ stepRel twoI rest bad v r2 bad2 := by
 refine (digits_any w0 w B rest bad 2 2 2 2 rfl rfl (by decide) (by decide) (by decide) h hE).mono ?_
 rintro e w' ⟨v, r2, b2, he, hr, hd⟩
 exact ⟨v, r2, b2, he, hr, dig2_small rest r2 bad b2 v 2 2 (by decide) hd, dig_two rest r2 bad b2 v hd⟩
theorem sign1 (c : UInt8) (w0 w : World) (B : Nat) (rest : List UInt8) (bad : Bool) (h : Ro w0 w B rest bad) :
  Calls Tryz.prog 305 #[.pointer (some ⟨B, 0, none⟩), .string ⟨#[c]⟩] w fun e w' => (∃ v, e = .returned v) ∧ Ro w0 w' B (Lib.trimPrefix rest [c]) (bad || !(Lib.hasPrefix rest [c])) := sign_any w0 w B rest bad [c] h
theorem sign2 (c d : UInt8) (w0 w : World) (B : Nat) (rest : List UInt8) (bad : Bool) (h : Ro w0 w B rest bad) :
  Calls Tryz.prog 305 #[.pointer (some ⟨B, 0, none⟩), .string ⟨#[c, d]⟩] w fun e w' => (∃ v, e = .returned v) ∧ Ro w0 w' B (Lib.trimPrefix rest [c, d]) (bad || !(Lib.hasPrefix rest [c, d])) := sign_any w0 w B rest bad [c, d] h

theorem numE_ways (y m d : Int) : ((numE y m d).2 = 0 ∧ -800000 ≤ (numE y m d).1 ∧ (numE y m d).1 ≤ 200000000) ∨ ((numE y m d).2 = 2 ∧ (numE y m d).1 = 0) := by
 unfold numE
 split
 ·left
  rename_i g
  obtain ⟨g1, g2, g3, g4, g5, g6⟩ := g
  have hy := num_year y m d ⟨g3, g4, g5, g6⟩
  have := newY_bound y g1 (by omega)
  have := newY_bound (y + 1) (by omega) (by omega)
  exact ⟨rfl, by show _ ≤ numD y m d; omega, by show numD y m d ≤ _; omega⟩
 ·right; exact ⟨rfl, rfl⟩
theorem monE_ways (y k : Int) : ((monE y k).2 = 0 ∧ -800000 ≤ (monE y k).1 ∧ (monE y k).1 ≤ 200000000) ∨ ((monE y k).2 = 2 ∧ (monE y k).1 = 0) := by
 unfold monE
 split
 ·left
  rename_i g
  have := firstW_bound y (by omega) (by omega)
  have := weeksW_pos y
  exact ⟨rfl, by show _ ≤ firstW y + 7 * (k - 1); omega, by show firstW y + 7 * (k - 1) ≤ _; omega⟩
 ·right; exact ⟨rfl, rfl⟩

theorem date_r (w0 w : World) (B : Nat) (rest : List UInt8) (bad : Bool) (h : Ro w0 w B rest bad) (hE : GE w0) :
  Calls Tryz.prog 263 #[.pointer (some ⟨B, 0, none⟩)] w (StepPostB dateP (-100000000000000000) 100000000000000000 w0 B rest bad) := by
 unfold StepPostB
 have hy := year_any w0 w B rest bad h hE
 unfold StepPost at hy
 go_enter Tryz.func263, Tryz.ntmps263
 go_wp2_with fail
 refine hy.mono ?_
 rintro e w1 ⟨y, r1, b1, rfl, h1, k1⟩
 have K1 := Lib.hid k1
 have hyi := k1.1
 clear hy k1
 go_wp2_with fail
 refine (sign1 45 w0 w1 B r1 b1 h1).mono ?_
 rintro e w2 ⟨⟨u2, rfl⟩, h2⟩
 go_wp2_with fail
 refine (two_any w0 w2 B _ _ h2 hE).mono ?_
 rintro e w3 ⟨m, r3, b3, rfl, h3, hm, k3⟩
 have K3 := Lib.hid k3
 clear k3
 go_wp2_with fail
 refine (sign1 45 w0 w3 B r3 b3 h3).mono ?_
 rintro e w4 ⟨⟨u4, rfl⟩, h4⟩
 go_wp2_with fail
 refine (two_any w0 w4 B _ _ h4 hE).mono ?_
 rintro e w5 ⟨d, r5, b5, rfl, h5, hd, k5⟩
 have K5 := Lib.hid k5
 clear k5
 have hn := number_any y m d hyi ⟨by omega, by omega⟩ ⟨by omega, by omega⟩ w5
 have HC : Hid (stepRel dateP rest bad ((numE y m d).1 * 86400000) r5 (b5 || !(decide ((numE y m d).2 = 0)))) := Lib.hid (date_comp rest r1 r3 r5 bad b1 b3 b5 y m d K1.out K3.out K5.out)
 have hw := numE_ways y m d
 generalize numE y m d = ne at *
 obtain ⟨n, ee⟩ := ne
 dsimp only at hn hw
 clear K1 K3 K5 hm hd hyi h1 h2 h3 h4
 rcases hw with ⟨rfl, n1, n2⟩ | ⟨rfl, rfl⟩
 ·have hmu := must_any w0 w5 B r5 b5 true h5
  go_wp2_with fail
  refine hn.mono ?_
  rintro e w6 ⟨rfl, rfl⟩
  go_wp2_with fail
  refine hmu.mono ?_
  rintro e w7 ⟨⟨u7, rfl⟩, h7⟩
  go_wp2_with fail
  go_ret
  exact ⟨_, r5, _, rfl, h7, HC.out, by omega, by omega⟩
 ·have hmu := must_any w0 w5 B r5 b5 false h5
  go_wp2_with fail
  refine hn.mono ?_
  rintro e w6 ⟨rfl, rfl⟩
  go_wp2_with fail
  refine hmu.mono ?_
  rintro e w7 ⟨⟨u7, rfl⟩, h7⟩
  go_wp2_with fail
  go_ret
  exact ⟨_, r5, _, rfl, h7, HC.out, by omega, by omega⟩

theorem week_r (w0 w : World) (B : Nat) (rest : List UInt8) (bad : Bool) (h : Ro w0 w B rest bad) (hE : GE w0) :
  Calls Tryz.prog 265 #[.pointer (some ⟨B, 0, none⟩)] w (StepPost weekP w0 B rest bad) := by
 unfold StepPost
 have hy := year_any w0 w B rest bad h hE
 unfold StepPost at hy
 go_enter Tryz.func265, Tryz.ntmps265
 go_wp2_with fail
 refine hy.mono ?_
 rintro e w1 ⟨y, r1, b1, rfl, h1, k1⟩
 have K1 := Lib.hid k1
 have hyi := k1.1
 clear hy k1
 go_wp2_with fail
 refine (sign2 45 87 w0 w1 B r1 b1 h1).mono ?_
 rintro e w2 ⟨⟨u2, rfl⟩, h2⟩
 go_wp2_with fail
 refine (two_any w0 w2 B _ _ h2 hE).mono ?_
 rintro e w5 ⟨d, r5, b5, rfl, h5, hd, k5⟩
 have K5 := Lib.hid k5
 clear k5
 have hn := monday_any y d hyi ⟨by omega, by omega⟩ w5
 have HC : Hid (stepRel weekP rest bad ((monE y d).1 * 86400000) r5 (b5 || !(decide ((monE y d).2 = 0)))) := Lib.hid (week_comp rest r1 r5 bad b1 b5 y d K1.out K5.out)
 have hw := monE_ways y d
 generalize monE y d = ne at *
 obtain ⟨n, ee⟩ := ne
 dsimp only at hn hw
 clear K1 K5 hd hyi h1 h2
 rcases hw with ⟨rfl, n1, n2⟩ | ⟨rfl, rfl⟩
 ·have hmu := must_any w0 w5 B r5 b5 true h5
  go_wp2_with fail
  refine hn.mono ?_
  rintro e w6 ⟨rfl, rfl⟩
  go_wp2_with fail
  refine hmu.mono ?_
  rintro e w7 ⟨⟨u7, rfl⟩, h7⟩
  go_wp2_with fail
  go_ret
  exact ⟨_, r5, _, rfl, h7, HC.out⟩
 ·have hmu := must_any w0 w5 B r5 b5 false h5
  go_wp2_with fail
  refine hn.mono ?_
  rintro e w6 ⟨rfl, rfl⟩
  go_wp2_with fail
  refine hmu.mono ?_
  rintro e w7 ⟨⟨u7, rfl⟩, h7⟩
  go_wp2_with fail
  go_ret
  exact ⟨_, r5, _, rfl, h7, HC.out⟩

theorem wrap_int64 (n : Int) : int64 (wrap64 n) := by
 unfold int64 wrap64
 omega

theorem month_r (w0 w : World) (B : Nat) (rest : List UInt8) (bad : Bool) (h : Ro w0 w B rest bad) (hE : GE w0) :
  Calls Tryz.prog 264 #[.pointer (some ⟨B, 0, none⟩)] w (StepPost monthP w0 B rest bad) := by
 unfold StepPost
 have hy := year_any w0 w B rest bad h hE
 unfold StepPost at hy
 go_enter Tryz.func264, Tryz.ntmps264
 go_wp2_with fail
 refine hy.mono ?_
 rintro e w1 ⟨y, r1, b1, rfl, h1, k1⟩
 have K1 := Lib.hid k1
 have hyi := k1.1
 clear hy k1
 go_wp2_with fail
 refine (sign1 45 w0 w1 B r1 b1 h1).mono ?_
 rintro e w2 ⟨⟨u2, rfl⟩, h2⟩
 go_wp2_with fail
 refine (two_any w0 w2 B _ _ h2 hE).mono ?_
 rintro e w3 ⟨m, r3, b3, rfl, h3, hm, k3⟩
 have K3 := Lib.hid k3
 clear k3
 obtain ⟨m1, m2⟩ := hm
 have HC : Hid (∀ v, int64 v → (1 ≤ y → y ≤ 275760 → 0 ≤ m → m < 100 → v = 12 * (y - 1970) + m - 1) → stepRel monthP rest bad v r3 (b3 || !(decide (1 ≤ m) && decide (m ≤ 12)))) := Lib.hid (fun v a b => month_comp rest r1 r3 bad b1 b3 y m v K1.out K3.out a b)
 clear K1 K3 h1 h2
 by_cases hyy : 1 ≤ y ∧ y ≤ 275760
 ·obtain ⟨y1, y2⟩ := hyy
  have HC2 : Hid (stepRel monthP rest bad (12 * (y - 1970) + m - 1) r3 (b3 || !(decide (1 ≤ m) && decide (m ≤ 12)))) := Lib.hid (HC.out _ ⟨by omega, by omega⟩ (fun _ _ _ _ => rfl))
  clear HC hyi
  by_cases g1 : 1 ≤ m
  ·by_cases g2 : m ≤ 12
   ·rw [decide_eq_true g1, decide_eq_true g2] at HC2
    have hmu := must_any w0 w3 B r3 b3 true h3
    go_wp2_with fail
    refine hmu.mono ?_
    rintro e w7 ⟨⟨u7, rfl⟩, h7⟩
    go_wp2_with fail
    go_ret
    exact ⟨_, r3, _, rfl, h7, HC2.out⟩
   ·rw [decide_eq_true g1, decide_eq_false g2] at HC2
    have e2 : decide (m ≤ 12) = false := decide_eq_false g2
    have hmu := must_any w0 w3 B r3 b3 false h3
    go_wp2_with fail
    refine hmu.mono ?_
    rintro e w7 ⟨⟨u7, rfl⟩, h7⟩
    go_wp2_with fail
    go_ret
    exact ⟨_, r3, _, rfl, h7, HC2.out⟩
  ·rw [decide_eq_false g1, Bool.false_and] at HC2
   have hmu := must_any w0 w3 B r3 b3 false h3
   go_wp2_with fail
   refine hmu.mono ?_
   rintro e w7 ⟨⟨u7, rfl⟩, h7⟩
   go_wp2_with fail
   go_ret
   exact ⟨_, r3, _, rfl, h7, HC2.out⟩
 ·have HC2 : Hid (∀ v, int64 v → stepRel monthP rest bad v r3 (b3 || !(decide (1 ≤ m) && decide (m ≤ 12)))) := Lib.hid (fun v a => HC.out v a (fun b c => absurd ⟨b, c⟩ hyy))
  obtain ⟨y1, y2⟩ := hyi
  clear HC hyy
  by_cases g1 : 1 ≤ m
  ·by_cases g2 : m ≤ 12
   ·rw [decide_eq_true g1, decide_eq_true g2] at HC2
    have hmu := must_any w0 w3 B r3 b3 true h3
    go_wp2_with fail
    refine hmu.mono ?_
    rintro e w7 ⟨⟨u7, rfl⟩, h7⟩
    go_wp2_with fail
    go_ret
    exact ⟨_, r3, _, rfl, h7, HC2.out _ (wrap_int64 _)⟩
   ·rw [decide_eq_true g1, decide_eq_false g2] at HC2
    have e2 : decide (m ≤ 12) = false := decide_eq_false g2
    have hmu := must_any w0 w3 B r3 b3 false h3
    go_wp2_with fail
    refine hmu.mono ?_
    rintro e w7 ⟨⟨u7, rfl⟩, h7⟩
    go_wp2_with fail
    go_ret
    exact ⟨_, r3, _, rfl, h7, HC2.out _ (wrap_int64 _)⟩
  ·rw [decide_eq_false g1, Bool.false_and] at HC2
   have hmu := must_any w0 w3 B r3 b3 false h3
   go_wp2_with fail
   refine hmu.mono ?_
   rintro e w7 ⟨⟨u7, rfl⟩, h7⟩
   go_wp2_with fail
   go_ret
   exact ⟨_, r3, _, rfl, h7, HC2.out _ (wrap_int64 _)⟩

theorem haspre_any (l p : List UInt8) (w : World) :
  Calls Tryz.prog 163 #[.string ⟨l.toArray⟩, .string ⟨p.toArray⟩] w fun e w' => e = .returned (.bool (Lib.hasPrefix l p)) ∧ w = w' := by
 refine (Tryz.strings_HasPrefix ⟨l.toArray⟩ ⟨p.toArray⟩ w).mono ?_
 rintro e w' ⟨rfl, rfl⟩
 exact ⟨rfl, rfl⟩
theorem haspre1 (l : List UInt8) (c : UInt8) (w : World) :
  Calls Tryz.prog 163 #[.string ⟨l.toArray⟩, .string ⟨#[c]⟩] w fun e w' => e = .returned (.bool (Lib.hasPrefix l [c])) ∧ w = w' := haspre_any l [c] w

theorem time_r (w0 w : World) (B : Nat) (rest : List UInt8) (bad : Bool) (h : Ro w0 w B rest bad) (hE : GE w0) :
  Calls Tryz.prog 266 #[.pointer (some ⟨B, 0, none⟩)] w (StepPostB timeP 0 10000000000 w0 B rest bad) := by
 unfold StepPostB
 go_enter Tryz.func266, Tryz.ntmps266
 go_wp2_with fail
 refine (two_any w0 w B _ _ h hE).mono ?_
 rintro e w1 ⟨hh, r1, b1, rfl, h1, hm1, k1⟩
 have K1 := Lib.hid k1
 clear k1
 go_wp2_with fail
 refine (sign1 58 w0 w1 B r1 b1 h1).mono ?_
 rintro e w2 ⟨⟨u2, rfl⟩, h2⟩
 go_wp2_with fail
 refine (two_any w0 w2 B _ _ h2 hE).mono ?_
 rintro e w3 ⟨m, r3, b3, rfl, h3, hm3, k3⟩
 have HC : Hid (stepRel timeH rest bad ((hh * 60 + m) * 60000) r3 (b3 || !(decide (hh < 24) && decide (m < 60)))) := Lib.hid (timeH_comp rest r1 r3 bad b1 b3 hh m hm1 hm3 K1.out k3)
 clear k3 K1
 have HM : Hid (∀ w' , Ro w0 w' B r3 (b3 || !(decide (hh < 24) && decide (m < 60))) → Ro w0 w' B r3 (b3 || !(decide (hh < 24) && decide (m < 60)))) := Lib.hid (fun _ h => h)
 obtain ⟨b4, hb4⟩ : ∃ b4, b4 = (b3 || !(decide (hh < 24) && decide (m < 60))) := ⟨_, rfl⟩
 rw [← hb4] at HC
 have HB4 := Lib.hid hb4
 clear hb4 HM h1 h2
 obtain ⟨hh1, hh2⟩ := hm1
 obtain ⟨m1, m2⟩ := hm3
 go_upto_region 4 with fail
 go_cut [] (fun wx => Ro w0 wx B r3 b4)
 case first =>
  by_cases g1 : hh < 24
  ·by_cases g2 : m < 60
   ·have hmu := must_any w0 w3 B r3 b3 true h3
    have e2 : decide (m < 60) = true := decide_eq_true g2
    have HE : Hid (b4 = (b3 || !true)) := Lib.hid (by rw [HB4.out, decide_eq_true g1, e2]; rfl)
    go_wp2_with fail
    refine hmu.mono ?_
    rintro e w7 ⟨⟨u7, rfl⟩, h7⟩
    go_wp2_with fail
    go_meet
    rw [HE.out]; exact h7
   ·have hmu := must_any w0 w3 B r3 b3 false h3
    have e2 : decide (m < 60) = false := decide_eq_false g2
    have HE : Hid (b4 = (b3 || !false)) := Lib.hid (by rw [HB4.out, decide_eq_true g1, e2]; rfl)
    go_wp2_with fail
    refine hmu.mono ?_
    rintro e w7 ⟨⟨u7, rfl⟩, h7⟩
    go_wp2_with fail
    go_meet
    rw [HE.out]; exact h7
  ·have hmu := must_any w0 w3 B r3 b3 false h3
   have HE : Hid (b4 = (b3 || !false)) := Lib.hid (by rw [HB4.out, decide_eq_false g1, Bool.false_and])
   go_wp2_with fail
   refine hmu.mono ?_
   rintro e w7 ⟨⟨u7, rfl⟩, h7⟩
   go_wp2_with fail
   go_meet
   rw [HE.out]; exact h7
 case rest =>
 have h4 := hcut
 clear hcut h3 HB4
 have hp := haspre1 r3 58 wc
 have c0 := h4.rd.c0
 have hpre := pre1 58 r3
 cases hA : Lib.hasPrefix r3 [58]
 ·rw [hA] at hp hpre
  have hne : r3.head? ≠ some 58 := by
   intro g; have := hpre.1; rw [g] at this; simp at this
  have HF : Hid (stepRel timeP rest bad ((hh * 60 + m) * 60000) r3 b4) := Lib.hid (time_A rest r3 bad b4 _ HC.out hne)
  clear hpre hne hA HC
  go_wp2_with fail
  refine hp.mono ?_
  rintro e w4 ⟨rfl, rfl⟩
  go_wp2_with fail
  go_ret
  exact ⟨_, r3, b4, rfl, h4, HF.out, by omega, by omega⟩
 ·rw [hA] at hp hpre
  obtain ⟨t, ht⟩ : ∃ t, r3 = 58 :: t := by
   cases r3 with
   | nil => have := hpre.1; simp at this
   | cons a q => have := hpre.1; simp at this; exact ⟨q, by rw [this]⟩
  subst ht
  obtain ⟨s1, s2⟩ := sg_cons 58 t
  have hsg := sign1 58 w0 wc B (58 :: t) b4 h4
  rw [s1, s2] at hsg
  have eb : (b4 || !true) = b4 := by cases b4 <;> rfl
  rw [eb] at hsg
  clear hpre hA s1 s2 eb
  go_wp2_with fail
  refine hp.mono ?_
  rintro e w4 ⟨rfl, rfl⟩
  clear hp c0
  go_wp2_with fail
  refine hsg.mono ?_
  rintro e w5 ⟨⟨u5, rfl⟩, h5⟩
  clear hsg h4
  go_wp2_with fail
  refine (two_any w0 w5 B _ _ h5 hE).mono ?_
  rintro e w6 ⟨s, r5, b5, rfl, h6, hs, k6⟩
  have HS : Hid (stepRel secH t b4 s r5 (b5 || !(decide (s < 60)))) := Lib.hid (secH_comp t r5 b4 b5 s k6)
  clear k6 h5
  obtain ⟨s1, s2⟩ := hs
  have hmu := must_any w0 w6 B r5 b5 (decide (s < 60)) h6
  generalize (b5 || !(decide (s < 60))) = b6 at *
  go_wp2_with fail
  refine hmu.mono ?_
  rintro e w7 ⟨⟨u7, rfl⟩, h7⟩
  clear hmu h6
  have hp := haspre1 r5 46 w7
  have c0 := h7.rd.c0
  have hpre := pre1 46 r5
  cases hA : Lib.hasPrefix r5 [46]
  ·rw [hA] at hp hpre
   have hne : r5.head? ≠ some 46 := by
    intro g; have := hpre.1; rw [g] at this; simp at this
   have HF : Hid (stepRel timeP rest bad ((hh * 60 + m) * 60000 + 1000 * s) r5 b6) := Lib.hid (time_B rest (58 :: t) t r5 bad b4 b6 _ s HC.out rfl HS.out hne ⟨by omega, by omega⟩)
   clear hpre hne hA HC HS
   go_wp2_with fail
   refine hp.mono ?_
   rintro e w4 ⟨rfl, rfl⟩
   go_wp2_with fail
   go_ret
   exact ⟨_, r5, b6, rfl, h7, HF.out, by omega, by omega⟩
  ·rw [hA] at hp hpre
   obtain ⟨u, hu⟩ : ∃ u, r5 = 46 :: u := by
    cases r5 with
    | nil => have := hpre.1; simp at this
    | cons a q => have := hpre.1; simp at this; exact ⟨q, by rw [this]⟩
   subst hu
   obtain ⟨p1, p2⟩ := sg_cons 46 u
   have hsg := sign1 46 w0 w7 B (46 :: u) b6 h7
   rw [p1, p2] at hsg
   have eb : (b6 || !true) = b6 := by cases b6 <;> rfl
   rw [eb] at hsg
   clear hpre hA p1 p2 eb
   go_wp2_with fail
   refine hp.mono ?_
   rintro e w4 ⟨rfl, rfl⟩
   clear hp c0
   go_wp2_with fail
   refine hsg.mono ?_
   rintro e w8 ⟨⟨u8, rfl⟩, h8⟩
   clear hsg h7
   have c0 := h8.rd.c0
   have hus := h8.small
   have hdg := digits_any w0 w8 B u b6 1 3 1 3 rfl rfl (by decide) (by decide) (by decide) h8 hE
   go_wp2_with fail
   refine hdg.mono ?_
   rintro e w9 ⟨p, r7, b7, rfl, h9, hd⟩
   have hp := dig2_small u r7 b6 b7 p 1 3 (by decide) hd
   obtain ⟨q1, q2, q3⟩ := dig_thou u r7 b6 b7 p hd
   have c0' := h9.rd.c0
   clear hdg c0 hd h8
   obtain ⟨x, hx⟩ : ∃ x, x = u.length - r7.length := ⟨_, rfl⟩
   have hxe : (u.length : Int) - r7.length = x := by omega
   rw [← hx] at q2 q3
   have HX := Lib.hid hx
   have hpb : ∀ k, k ≤ 3 → 0 ≤ p * 10 ^ k ∧ p * 10 ^ k ≤ 999000 := by
    intro k hk
    have : k = 0 ∨ k = 1 ∨ k = 2 ∨ k = 3 := by omega
    rcases this with rfl | rfl | rfl | rfl <;> simp <;> omega
   have hpx := hpb (3 - x) (by omega)
   have HF : Hid (stepRel timeP rest bad ((hh * 60 + m) * 60000 + 1000 * s + p * 10 ^ (3 - x)) r7 b7) := Lib.hid (time_C rest (58 :: t) t (46 :: u) u r7 bad b4 b6 b7 _ s _ HC.out rfl HS.out rfl q3 ⟨by omega, by omega⟩)
   have HPB := Lib.hid hpb
   clear q3 hpb HC HS hx
   go_wp2_with fail
   go_loopw [8, 9] (fun s8 s9 wr => ∃ (k : Nat) (q : Int), s8 = .int .i64 q ∧ s9 = .int .i64 k ∧ x ≤ k ∧ k ≤ 3 ∧ 0 ≤ q ∧ q ≤ 999000 ∧ Hid (q * 10 ^ (3 - k) = p * 10 ^ (3 - x)) ∧ wr = w9) (fun _ s _ => 3 - (RowKit.intOf s).toNat)
   case atStart => exact ⟨x, p, rfl, by go_num, by omega, by omega, by omega, by omega, Lib.hid rfl, rfl⟩
   case round =>
    obtain ⟨k, q, rfl, rfl, hk1, hk2, hq1, hq2, hq, rfl⟩ := hrel
    by_cases hlt : k < 3
    ·have hq' : q * 10 * 10 ^ (3 - (k + 1)) = p * 10 ^ (3 - x) := by
      rw [← hq.out]
      have : k = 0 ∨ k = 1 ∨ k = 2 := by omega
      rcases this with rfl | rfl | rfl <;> simp <;> omega
     have hb : 0 ≤ q * 10 ∧ q * 10 ≤ 999000 := by
      have h1 := HPB.out (3 - x) (by omega)
      rw [← hq'] at h1
      have : k = 0 ∨ k = 1 ∨ k = 2 := by omega
      rcases this with rfl | rfl | rfl <;> simp at h1 <;> omega
     have HQ := Lib.hid hq'
     obtain ⟨hb1, hb2⟩ := hb
     clear hq hq'
     go_wp2_with fail
     go_roundw
     case rel => exact ⟨k + 1, q * 10, rfl, by go_num, by omega, by omega, hb1, hb2, HQ, by first | rfl | trivial⟩
     case measure => simp [RowKit.intOf]; omega
    ·have HE : Hid (q = p * 10 ^ (3 - x)) := Lib.hid (by
      rw [← hq.out, show 3 - k = 0 from by omega]; simp)
     have hqq : 0 ≤ q ∧ q ≤ 999000 := ⟨hq1, hq2⟩
     clear hq
     go_wp2_with fail
     go_ret
     exact ⟨_, r7, b7, rfl, h9, by rw [HE.out]; exact HF.out, by omega, by omega⟩

theorem local_r (w0 w : World) (B : Nat) (rest : List UInt8) (bad : Bool) (h : Ro w0 w B rest bad) (hE : GE w0) :
  Calls Tryz.prog 267 #[.pointer (some ⟨B, 0, none⟩)] w (StepPost localP w0 B rest bad) := by
 unfold StepPost
 have hd := date_r w0 w B rest bad h hE
 unfold StepPostB at hd
 have ht := fun w r b h => time_r w0 w B r b h hE
 unfold StepPostB at ht
 go_enter Tryz.func267, Tryz.ntmps267
 go_wp2_with fail
 refine hd.mono ?_
 rintro e w1 ⟨d, r1, b1, rfl, h1, k1, d1, d2⟩
 have K1 := Lib.hid k1
 clear hd k1
 have hp := haspre1 r1 32 w1
 have c0 := h1.rd.c0
 have hpre := pre1 32 r1
 cases hA : Lib.hasPrefix r1 [32]
 ·rw [hA] at hp hpre
  have hsg := sign1 84 w0 w1 B r1 b1 h1
  have HM : Hid ((∃ c, isMid c = true ∧ r1 = c :: Lib.trimPrefix r1 [84] ∧ (b1 || !(Lib.hasPrefix r1 [84])) = b1) ∨ ((∀ c q, r1 = c :: q → isMid c = false) ∧ (b1 || !(Lib.hasPrefix r1 [84])) = true)) := Lib.hid (by
   cases hB : Lib.hasPrefix r1 [84]
   ·right
    refine ⟨fun c q e => ?_, by cases b1 <;> rfl⟩
    subst e
    obtain ⟨g1, _⟩ := pre1 84 (c :: q)
    rw [hB] at g1
    have n1 : ¬ c = 84 := by intro e; rw [e] at g1; simp at g1
    have n2 : ¬ c = 32 := by intro e; have := hpre.1; rw [e] at this; simp at this
    unfold isMid
    simp [n1, n2]
   ·left
    have e : (b1 || !true) = b1 := by cases b1 <;> rfl
    obtain ⟨_, g2⟩ := sg_false (c := 84) (r := r1) (bad := false) (by rw [hB]; rfl)
    exact ⟨84, rfl, g2, e⟩)
  clear hpre hA
  go_wp2_with fail
  refine hp.mono ?_
  rintro e w2 ⟨rfl, rfl⟩
  clear hp c0
  go_wp2_with fail
  refine hsg.mono ?_
  rintro e w3 ⟨⟨u3, rfl⟩, h3⟩
  clear hsg
  generalize (b1 || !(Lib.hasPrefix r1 [84])) = b2 at *
  generalize Lib.trimPrefix r1 [84] = r2 at *
  go_wp2_with fail
  refine (ht w3 r2 b2 h3).mono ?_
  rintro e w4 ⟨t, r3, b3, rfl, h4, k4, t1, t2⟩
  have HF : Hid (stepRel localP rest bad (d + t) r3 b3) := Lib.hid (local_comp rest r1 r2 r3 bad b1 b2 b3 d t (d + t) K1.out HM.out k4 ⟨by omega, by omega⟩ (fun _ => rfl))
  clear k4
  go_wp2_with fail
  go_ret
  exact ⟨_, r3, b3, rfl, h4, HF.out⟩
 ·rw [hA] at hp hpre
  have hsg := sign1 32 w0 w1 B r1 b1 h1
  have HM : Hid ((∃ c, isMid c = true ∧ r1 = c :: Lib.trimPrefix r1 [32] ∧ (b1 || !(Lib.hasPrefix r1 [32])) = b1) ∨ ((∀ c q, r1 = c :: q → isMid c = false) ∧ (b1 || !(Lib.hasPrefix r1 [32])) = true)) := Lib.hid (by
   left
   rw [hA]
   have e : (b1 || !true) = b1 := by cases b1 <;> rfl
   obtain ⟨_, g2⟩ := sg_false (c := 32) (r := r1) (bad := false) (by rw [hA]; rfl)
   exact ⟨32, rfl, g2, e⟩)
  clear hpre hA
  go_wp2_with fail
  refine hp.mono ?_
  rintro e w2 ⟨rfl, rfl⟩
  clear hp c0
  go_wp2_with fail
  refine hsg.mono ?_
  rintro e w3 ⟨⟨u3, rfl⟩, h3⟩
  clear hsg
  generalize (b1 || !(Lib.hasPrefix r1 [32])) = b2 at *
  generalize Lib.trimPrefix r1 [32] = r2 at *
  go_wp2_with fail
  refine (ht w3 r2 b2 h3).mono ?_
  rintro e w4 ⟨t, r3, b3, rfl, h4, k4, t1, t2⟩
  have HF : Hid (stepRel localP rest bad (d + t) r3 b3) := Lib.hid (local_comp rest r1 r2 r3 bad b1 b2 b3 d t (d + t) K1.out HM.out k4 ⟨by omega, by omega⟩ (fun _ => rfl))
  clear k4
  go_wp2_with fail
  go_ret
  exact ⟨_, r3, b3, rfl, h4, HF.out⟩

theorem fx1 (w : World) : (Instr.index 205 (Value.agg #[Value.nilFunc, Value.func (Fn.func 263) #[] #[], Value.func (Fn.func 264) #[] #[], Value.func (Fn.func 265) #[] #[], Value.func (Fn.func 266) #[] #[], Value.func (Fn.func 267) #[] #[]]) (.int .i64 1)).run Tryz.prog w = .ok (Value.func (Fn.func 263) #[] #[]) w := by kernel_rfl
theorem fx2 (w : World) : (Instr.index 205 (Value.agg #[Value.nilFunc, Value.func (Fn.func 263) #[] #[], Value.func (Fn.func 264) #[] #[], Value.func (Fn.func 265) #[] #[], Value.func (Fn.func 266) #[] #[], Value.func (Fn.func 267) #[] #[]]) (.int .i64 2)).run Tryz.prog w = .ok (Value.func (Fn.func 264) #[] #[]) w := by kernel_rfl
theorem fx3 (w : World) : (Instr.index 205 (Value.agg #[Value.nilFunc, Value.func (Fn.func 263) #[] #[], Value.func (Fn.func 264) #[] #[], Value.func (Fn.func 265) #[] #[], Value.func (Fn.func 266) #[] #[], Value.func (Fn.func 267) #[] #[]]) (.int .i64 3)).run Tryz.prog w = .ok (Value.func (Fn.func 265) #[] #[]) w := by kernel_rfl
theorem fx4 (w : World) : (Instr.index 205 (Value.agg #[Value.nilFunc, Value.func (Fn.func 263) #[] #[], Value.func (Fn.func 264) #[] #[], Value.func (Fn.func 265) #[] #[], Value.func (Fn.func 266) #[] #[], Value.func (Fn.func 267) #[] #[]]) (.int .i64 4)).run Tryz.prog w = .ok (Value.func (Fn.func 266) #[] #[]) w := by kernel_rfl
theorem fx5 (w : World) : (Instr.index 205 (Value.agg #[Value.nilFunc, Value.func (Fn.func 263) #[] #[], Value.func (Fn.func 264) #[] #[], Value.func (Fn.func 265) #[] #[], Value.func (Fn.func 266) #[] #[], Value.func (Fn.func 267) #[] #[]]) (.int .i64 5)).run Tryz.prog w = .ok (Value.func (Fn.func 267) #[] #[]) w := by kernel_rfl

theorem ro_new (w : World) (l : List UInt8) (hl : l.length ≤ 1000000) (T : TypeId) : Ro w (w.alloc (.cells #[.string ⟨l.toArray⟩, .bool false] T)) w.heap.size l false :=
 ⟨(Below.refl _ _).alloc (Nat.le_refl _) _, Nat.le_refl _, ⟨T, by show (w.heap.push _)[w.heap.size]? = _; simp⟩, hl⟩
theorem parse_fin (F : List UInt8 → Option (Int × List UInt8)) (l r2 : List UInt8) (v : Int) (bad2 : Bool) (h : stepRel F l false v r2 bad2) :
  (bad2 = true ∧ whole (F l) = none) ∨ (bad2 = false ∧ r2 ≠ [] ∧ whole (F l) = none) ∨ (bad2 = false ∧ r2 = [] ∧ whole (F l) = some v) := by
 rcases h.2 with ⟨h1, _, h3⟩ | ⟨h1, h2 | h2⟩
 ·right
  cases r2 with
  | nil => right; exact ⟨h1, rfl, by rw [h3]; rfl⟩
  | cons a q => left; exact ⟨h1, by simp, by rw [h3]; rfl⟩
 ·cases h2
 ·left; exact ⟨h1, by rw [h2]; rfl⟩

theorem mparse_any (kind : Int) (hk : int64 kind) (l : List UInt8) (hl : l.length ≤ 1000000) (w : World) (hE : GE w) :
  Calls Tryz.prog 183 #[.int .i64 kind, .string ⟨l.toArray⟩] w fun e w' => e = .returned (.tuple #[.int .i64 (parseM kind l).1, .int .i64 (parseM kind l).2]) ∧ Below w.heap.size w w' := by
 obtain ⟨v, hv⟩ : ∃ v, v = parseM kind l := ⟨_, rfl⟩
 rw [← hv]
 unfold parseM at hv
 obtain ⟨k1, k2⟩ := hk
 by_cases h1 : kind < 1
 ·rw [if_pos (Or.inl h1)] at hv
  have HV := Lib.hid hv
  clear hv
  go_enter Tryz.func183, Tryz.ntmps183
  go_wp2_with fail
  go_ret2
  exact ⟨ret_ii (by rw [HV.out]) (by rw [HV.out]), Below.refl _ _⟩
 by_cases h2 : 5 < kind
 ·rw [if_pos (Or.inr h2)] at hv
  have HV := Lib.hid hv
  clear hv
  go_enter Tryz.func183, Tryz.ntmps183
  go_wp2_with fail
  go_ret2
  exact ⟨ret_ii (by rw [HV.out]) (by rw [HV.out]), Below.refl _ _⟩
 rw [if_neg (by omega)] at hv
 have hkk : kind = 1 ∨ kind = 2 ∨ kind = 3 ∨ kind = 4 ∨ kind = 5 := by omega
 clear h1 h2 k1 k2
 rcases hkk with rfl | rfl | rfl | rfl | rfl
 ·have HV : Hid (v = match whole (dateP l) with | some v => (v, 0) | none => (0, 1)) := Lib.hid hv
  clear hv
  have hro := ro_new w l hl 202
  have hc := date_r w _ w.heap.size l false hro hE
  unfold StepPostB at hc
  have ifx := fx1
  have hbp := hro.rd.c0
  have hbq := hro.rd.c1
  go_enter Tryz.func183, Tryz.ntmps183
  go_wp2_with fail
  refine hc.mono ?_
  rintro e w1 ⟨x, r2, b2, rfl, h1, k1, _, _⟩
  have hf := parse_fin _ l r2 x b2 k1
  have c0 := h1.rd.c0
  have c1 := h1.rd.c1
  have hb := h1.low
  clear hc hro ifx hbp hbq k1 h1
  rcases hf with ⟨rfl, g⟩ | ⟨rfl, g1, g⟩ | ⟨rfl, g1, g⟩
  ·have HF : Hid (v = (0, 1)) := Lib.hid (by rw [HV.out, g])
   clear g HV
   go_wp2_with fail
   go_ret2
   exact ⟨ret_ii (by rw [HF.out]) (by rw [HF.out]), hb⟩
  ·have HF : Hid (v = (0, 1)) := Lib.hid (by rw [HV.out, g])
   have hemp : r2.isEmpty = false := by simp [g1]
   clear g HV
   go_wp2_with fail
   go_ret2
   exact ⟨ret_ii (by rw [HF.out]) (by rw [HF.out]), hb⟩
  ·have HF : Hid (v = (x, 0)) := Lib.hid (by rw [HV.out, g])
   subst g1
   clear g HV
   go_wp2_with fail
   go_ret2
   exact ⟨ret_ii (by rw [HF.out]) (by rw [HF.out]), hb⟩
 ·have HV : Hid (v = match whole (monthP l) with | some v => (v, 0) | none => (0, 1)) := Lib.hid hv
  clear hv
  have hro := ro_new w l hl 202
  have hc := month_r w _ w.heap.size l false hro hE
  unfold StepPost at hc
  have ifx := fx2
  have hbp := hro.rd.c0
  have hbq := hro.rd.c1
  go_enter Tryz.func183, Tryz.ntmps183
  go_wp2_with fail
  refine hc.mono ?_
  rintro e w1 ⟨x, r2, b2, rfl, h1, k1⟩
  have hf := parse_fin _ l r2 x b2 k1
  have c0 := h1.rd.c0
  have c1 := h1.rd.c1
  have hb := h1.low
  clear hc hro ifx hbp hbq k1 h1
  rcases hf with ⟨rfl, g⟩ | ⟨rfl, g1, g⟩ | ⟨rfl, g1, g⟩
  ·have HF : Hid (v = (0, 1)) := Lib.hid (by rw [HV.out, g])
   clear g HV
   go_wp2_with fail
   go_ret2
   exact ⟨ret_ii (by rw [HF.out]) (by rw [HF.out]), hb⟩
  ·have HF : Hid (v = (0, 1)) := Lib.hid (by rw [HV.out, g])
   have hemp : r2.isEmpty = false := by simp [g1]
   clear g HV
   go_wp2_with fail
   go_ret2
   exact ⟨ret_ii (by rw [HF.out]) (by rw [HF.out]), hb⟩
  ·have HF : Hid (v = (x, 0)) := Lib.hid (by rw [HV.out, g])
   subst g1
   clear g HV
   go_wp2_with fail
   go_ret2
   exact ⟨ret_ii (by rw [HF.out]) (by rw [HF.out]), hb⟩
 ·have HV : Hid (v = match whole (weekP l) with | some v => (v, 0) | none => (0, 1)) := Lib.hid hv
  clear hv
  have hro := ro_new w l hl 202
  have hc := week_r w _ w.heap.size l false hro hE
  unfold StepPost at hc
  have ifx := fx3
  have hbp := hro.rd.c0
  have hbq := hro.rd.c1
  go_enter Tryz.func183, Tryz.ntmps183
  go_wp2_with fail
  refine hc.mono ?_
  rintro e w1 ⟨x, r2, b2, rfl, h1, k1⟩
  have hf := parse_fin _ l r2 x b2 k1
  have c0 := h1.rd.c0
  have c1 := h1.rd.c1
  have hb := h1.low
  clear hc hro ifx hbp hbq k1 h1
  rcases hf with ⟨rfl, g⟩ | ⟨rfl, g1, g⟩ | ⟨rfl, g1, g⟩
  ·have HF : Hid (v = (0, 1)) := Lib.hid (by rw [HV.out, g])
   clear g HV
   go_wp2_with fail
   go_ret2
   exact ⟨ret_ii (by rw [HF.out]) (by rw [HF.out]), hb⟩
  ·have HF : Hid (v = (0, 1)) := Lib.hid (by rw [HV.out, g])
   have hemp : r2.isEmpty = false := by simp [g1]
   clear g HV
   go_wp2_with fail
   go_ret2
   exact ⟨ret_ii (by rw [HF.out]) (by rw [HF.out]), hb⟩
  ·have HF : Hid (v = (x, 0)) := Lib.hid (by rw [HV.out, g])
   subst g1
   clear g HV
   go_wp2_with fail
   go_ret2
   exact ⟨ret_ii (by rw [HF.out]) (by rw [HF.out]), hb⟩
 ·have HV : Hid (v = match whole (timeP l) with | some v => (v, 0) | none => (0, 1)) := Lib.hid hv
  clear hv
  have hro := ro_new w l hl 202
  have hc := time_r w _ w.heap.size l false hro hE
  unfold StepPostB at hc
  have ifx := fx4
  have hbp := hro.rd.c0
  have hbq := hro.rd.c1
  go_enter Tryz.func183, Tryz.ntmps183
  go_wp2_with fail
  refine hc.mono ?_
  rintro e w1 ⟨x, r2, b2, rfl, h1, k1, _, _⟩
  have hf := parse_fin _ l r2 x b2 k1
  have c0 := h1.rd.c0
  have c1 := h1.rd.c1
  have hb := h1.low
  clear hc hro ifx hbp hbq k1 h1
  rcases hf with ⟨rfl, g⟩ | ⟨rfl, g1, g⟩ | ⟨rfl, g1, g⟩
  ·have HF : Hid (v = (0, 1)) := Lib.hid (by rw [HV.out, g])
   clear g HV
   go_wp2_with fail
   go_ret2
   exact ⟨ret_ii (by rw [HF.out]) (by rw [HF.out]), hb⟩
  ·have HF : Hid (v = (0, 1)) := Lib.hid (by rw [HV.out, g])
   have hemp : r2.isEmpty = false := by simp [g1]
   clear g HV
   go_wp2_with fail
   go_ret2
   exact ⟨ret_ii (by rw [HF.out]) (by rw [HF.out]), hb⟩
  ·have HF : Hid (v = (x, 0)) := Lib.hid (by rw [HV.out, g])
   subst g1
   clear g HV
   go_wp2_with fail
   go_ret2
   exact ⟨ret_ii (by rw [HF.out]) (by rw [HF.out]), hb⟩
 ·have HV : Hid (v = match whole (localP l) with | some v => (v, 0) | none => (0, 1)) := Lib.hid hv
  clear hv
  have hro := ro_new w l hl 202
  have hc := local_r w _ w.heap.size l false hro hE
  unfold StepPost at hc
  have ifx := fx5
  have hbp := hro.rd.c0
  have hbq := hro.rd.c1
  go_enter Tryz.func183, Tryz.ntmps183
  go_wp2_with fail
  refine hc.mono ?_
  rintro e w1 ⟨x, r2, b2, rfl, h1, k1⟩
  have hf := parse_fin _ l r2 x b2 k1
  have c0 := h1.rd.c0
  have c1 := h1.rd.c1
  have hb := h1.low
  clear hc hro ifx hbp hbq k1 h1
  rcases hf with ⟨rfl, g⟩ | ⟨rfl, g1, g⟩ | ⟨rfl, g1, g⟩
  ·have HF : Hid (v = (0, 1)) := Lib.hid (by rw [HV.out, g])
   clear g HV
   go_wp2_with fail
   go_ret2
   exact ⟨ret_ii (by rw [HF.out]) (by rw [HF.out]), hb⟩
  ·have HF : Hid (v = (0, 1)) := Lib.hid (by rw [HV.out, g])
   have hemp : r2.isEmpty = false := by simp [g1]
   clear g HV
   go_wp2_with fail
   go_ret2
   exact ⟨ret_ii (by rw [HF.out]) (by rw [HF.out]), hb⟩
  ·have HF : Hid (v = (x, 0)) := Lib.hid (by rw [HV.out, g])
   subst g1
   clear g HV
   go_wp2_with fail
   go_ret2
   exact ⟨ret_ii (by rw [HF.out]) (by rw [HF.out]), hb⟩
end Go.Proofs.YtkhlfggnjcbniaaGreatDoor.mom
