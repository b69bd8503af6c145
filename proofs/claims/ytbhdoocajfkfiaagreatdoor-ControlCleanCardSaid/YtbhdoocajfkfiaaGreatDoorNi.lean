/- strconv.Atoi at every text; of digits it is their number. moment's reader: its two cells; the contracts of digits, sign, must. The contract of the reader's digits. -/
import Derived.Test.YtbhdoocajfkfiaaGreatDoorMa
import Derived.Test.YtbhdoocajfkfiaaGreatDoorShelf
import Derived.Shelf.Strconv.AtoiAll
import Derived.Test.YtbhdoocajfkfiaaGreatDoorNg
import Derived.Test.YtbhdoocajfkfiaaGreatDoorZWeek
import Derived.OneCell
import Derived.WalkSpells
import Derived.Lib.Strings
import Derived.Deep.CutBlock
namespace Go.Proofs.YtbhdoocajfkfiaaGreatDoor.num
open Go.ChangeShapes Go.WideShapes Go.ChangeAt Go.RowKit Go.Lib

theorem isDig_nat (c : UInt8) (h : isDig c = true) : 48 ≤ c.toNat ∧ c.toNat ≤ 57 := by
  have := (isDig_iff c).1 h
  omega

theorem parse_val (l : List UInt8) : ∀ n, allDig l = true → (valFrom n l < 18446744073709551616 → parseUint10 n l = .ok (valFrom n l)) ∧ (18446744073709551616 ≤ valFrom n l → n < 18446744073709551616 → parseUint10 n l = .range) := by
  induction l with
  | nil => intro n _; exact ⟨fun _ => rfl, fun h g => absurd h (by show ¬ _ ≤ n; omega)⟩
  | cons c r ih =>
    intro n hd
    rw [allDig_cons, Bool.and_eq_true] at hd
    obtain ⟨h1, h2⟩ := hd
    have hc := isDig_nat c h1
    have hg := valFrom_ge (n * 10 + dv c) r
    rw [parseUint10, if_pos hc, valFrom_cons]
    obtain ⟨i1, i2⟩ := ih (n * 10 + dv c) h2
    rw [dv_eq] at *
    constructor
    · intro h
      rw [if_neg (by omega), if_neg (by omega)]
      exact i1 h
    · intro h hn
      by_cases g1 : 1844674407370955162 ≤ n
      · rw [if_pos g1]
      · rw [if_neg g1]
        by_cases g2 : 18446744073709551616 ≤ n * 10 + (c.toNat - 48)
        · rw [if_pos g2]
        · rw [if_neg g2]
          exact i2 h (by omega)

/-- of digits: the number, if it fits an int; else none -/
theorem atoi_val (l : List UInt8) (hp : 0 < l.length) (h2 : allDig l = true) : (val l < 9223372036854775808 ∧ atoiAll l = .ok (val l : Int)) ∨ (9223372036854775808 ≤ val l ∧ ∀ v, atoiAll l ≠ .ok v) := by
  cases l with
  | nil => simp at hp
  | cons c r =>
    have hp := parse_val (c :: r) 0 h2
    have hc : 48 ≤ c.toNat ∧ c.toNat ≤ 57 := by
      rw [allDig_cons, Bool.and_eq_true] at h2
      exact isDig_nat c h2.1
    unfold val
    generalize valFrom 0 (c :: r) = n at *
    have e : atoiAll (c :: r) = match parseMag (c :: r) with
      | .ok u => if 9223372036854775808 ≤ u then .range else .ok (u : Int)
      | .range => .range
      | _ => atoiAll [] := by
      unfold atoiAll
      simp only []
      rw [if_neg (by omega)]
      have h45 : ¬ c.toNat = 45 := by omega
      simp only [h45, not_false_eq_true, true_and, false_and, if_false]
      cases parseMag (c :: r) <;> rfl
    have em : parseMag (c :: r) = parseUint10 0 (c :: r) := by unfold parseMag; rw [if_neg (by simp)]
    rw [em] at e
    by_cases g : n < 18446744073709551616
    · rw [hp.1 g] at e
      simp only [] at e
      by_cases g2 : n < 9223372036854775808
      · left; rw [if_neg (by omega)] at e; exact ⟨g2, e⟩
      · right; rw [if_pos (by omega)] at e; exact ⟨by omega, fun v h => by rw [e] at h; cases h⟩
    · right
      rw [hp.2 (by omega) (by omega)] at e
      exact ⟨by omega, fun v h => by rw [e] at h; cases h⟩

set_option maxRecDepth 100000 in
/-- strconv.Atoi: the number and no error, or some number and an error -/
theorem atoi_any (l : List UInt8) (hl : l.length ≤ 1000000000) (w : World) (hE : GE w) :
    Calls Tryz.prog 142 #[.string ⟨l.toArray⟩] w fun e w' => Below w.heap.size w w' ∧
      ((∃ v, atoiAll l = .ok v ∧ e = .returned (.tuple #[.int .i64 v, .nilIface])) ∨ ((∀ v, atoiAll l ≠ .ok v) ∧ ∃ (n : Int) (N : Nat), (-9223372036854775808 ≤ n ∧ n ≤ 9223372036854775807) ∧ e = .returned (.tuple #[.int .i64 n, .iface 208 (.pointer (some ⟨N, 0, none⟩))]))) := by
  obtain ⟨ev, hev, hev2⟩ := hE.er
  obtain ⟨es, hes, hes2⟩ := hE.es
  have hb : (⟨l.toArray⟩ : ByteArray).size ≤ 1000000000 := by rw [bsize]; omega
  cases h : atoiAll l
  · rename_i v
    refine (Tryz.strconv_Atoi_ok ⟨l.toArray⟩ (by omega) v h w).mono ?_
    rintro e w' ⟨rfl, hw⟩
    refine ⟨?_, .inl ⟨v, rfl, rfl⟩⟩
    rcases hw with rfl | ⟨t, rfl⟩
    · exact Below.refl _ _
    · exact Lib.bytesWorld_below _ _ _
  · refine (Any.strconv_Atoi_syntax Tryz.laysC172 ⟨l.toArray⟩ (by omega) h es w hes hes2).mono ?_
    rintro e w' ⟨N, rfl, _, _, hB⟩
    exact ⟨hB, .inr ⟨(fun v g => by cases g), _, N, ⟨by decide, by decide⟩, rfl⟩⟩
  · refine (Any.strconv_Atoi_range Tryz.laysC172 ⟨l.toArray⟩ (by omega) h ev w hev hev2).mono ?_
    rintro e w' ⟨N, rfl, _, _, hB⟩
    exact ⟨hB, .inr ⟨(fun v g => by cases g), _, N, Lib.atoiSat_bounds l, rfl⟩⟩
end Go.Proofs.YtbhdoocajfkfiaaGreatDoor.num

namespace Go.Proofs.YtbhdoocajfkfiaaGreatDoor.mom
open Go.ChangeShapes Go.WideShapes Go.ChangeAt Go.RowKit Go.Lib Go.Proofs.YtbhdoocajfkfiaaGreatDoor.num Go.Proofs.YtbhdoocajfkfiaaGreatDoor.days Go.Proofs.YtbhdoocajfkfiaaGreatDoor.cal

/-- the reader's block -/
def RD (w : World) (B : Nat) (rest : List UInt8) (bad : Bool) : Prop := ∃ T, w.heap[B]? = some (.cells #[.string ⟨rest.toArray⟩, .bool bad] T (0, 0))
theorem RD.c0 {w : World} {B : Nat} {rest : List UInt8} {bad : Bool} (h : RD w B rest bad) : w.cell? ⟨B, 0, none⟩ = some (.string ⟨rest.toArray⟩) := by obtain ⟨T, h⟩ := h; simp [World.cell?, h]
theorem RD.c1 {w : World} {B : Nat} {rest : List UInt8} {bad : Bool} (h : RD w B rest bad) : w.cell? ⟨B, 1, none⟩ = some (.bool bad) := by obtain ⟨T, h⟩ := h; simp [World.cell?, h]
theorem RD.f0 {w : World} {B : Nat} {rest : List UInt8} {bad : Bool} (h : RD w B rest bad) : w.frozen? ⟨B, 0, none⟩ = false := by obtain ⟨T, h⟩ := h; simp [World.frozen?, h]
theorem RD.f1 {w : World} {B : Nat} {rest : List UInt8} {bad : Bool} (h : RD w B rest bad) : w.frozen? ⟨B, 1, none⟩ = false := by obtain ⟨T, h⟩ := h; simp [World.frozen?, h]
theorem RD.lt {w : World} {B : Nat} {rest : List UInt8} {bad : Bool} (h : RD w B rest bad) : B < w.heap.size := by obtain ⟨T, h⟩ := h; exact lt_of_block h
theorem RD.s0 {w : World} {B : Nat} {rest : List UInt8} {bad : Bool} (h : RD w B rest bad) (r2 : List UInt8) : RD (w.setCell ⟨B, 0, none⟩ (.string ⟨r2.toArray⟩)) B r2 bad := by
  obtain ⟨T, h⟩ := h
  have hlt := lt_of_block h
  have h' : w.heap[B] = .cells #[.string ⟨rest.toArray⟩, .bool bad] T (0, 0) := by simpa [Array.getElem?_eq_getElem hlt] using h
  refine ⟨T, ?_⟩
  show (w.heap.modify B _)[B]? = _
  rw [Array.getElem?_eq_getElem (by simpa using hlt), Array.getElem_modify_self, h']
  rfl
theorem RD.s1 {w : World} {B : Nat} {rest : List UInt8} {bad : Bool} (h : RD w B rest bad) (b2 : Bool) : RD (w.setCell ⟨B, 1, none⟩ (.bool b2)) B rest b2 := by
  obtain ⟨T, h⟩ := h
  have hlt := lt_of_block h
  have h' : w.heap[B] = .cells #[.string ⟨rest.toArray⟩, .bool bad] T (0, 0) := by simpa [Array.getElem?_eq_getElem hlt] using h
  refine ⟨T, ?_⟩
  show (w.heap.modify B _)[B]? = _
  rw [Array.getElem?_eq_getElem (by simpa using hlt), Array.getElem_modify_self, h']
  rfl
theorem RD.below {w w' : World} {B : Nat} {rest : List UInt8} {bad : Bool} (h : RD w B rest bad) (hb : Below w.heap.size w w') : RD w' B rest bad := by
  have hl := h.lt
  obtain ⟨T, h⟩ := h
  exact ⟨T, by rw [hb.block _ hl]; exact h⟩

/-- the reader, above what was there at first -/
structure Ro (w0 w : World) (B : Nat) (rest : List UInt8) (bad : Bool) : Prop where
  low : Below w0.heap.size w0 w
  above : w0.heap.size ≤ B
  rd : RD w B rest bad
  small : rest.length ≤ 1000000
theorem Ro.below {w0 w w' : World} {B : Nat} {rest : List UInt8} {bad : Bool} (h : Ro w0 w B rest bad) (hb : Below w.heap.size w w') : Ro w0 w' B rest bad :=
  ⟨below_trans h.low hb, h.above, h.rd.below hb, h.small⟩
theorem Ro.s0 {w0 w : World} {B : Nat} {rest : List UInt8} {bad : Bool} (h : Ro w0 w B rest bad) (r2 : List UInt8) (hl : r2.length ≤ 1000000) : Ro w0 (w.setCell ⟨B, 0, none⟩ (.string ⟨r2.toArray⟩)) B r2 bad :=
  ⟨h.low.setCell (p := ⟨B, 0, none⟩) h.above _, h.above, h.rd.s0 r2, hl⟩
theorem Ro.s1 {w0 w : World} {B : Nat} {rest : List UInt8} {bad : Bool} (h : Ro w0 w B rest bad) (b2 : Bool) : Ro w0 (w.setCell ⟨B, 1, none⟩ (.bool b2)) B rest b2 :=
  ⟨h.low.setCell (p := ⟨B, 1, none⟩) h.above _, h.above, h.rd.s1 b2, h.small⟩

set_option maxHeartbeats 800000 in
theorem must_any (w0 w : World) (B : Nat) (rest : List UInt8) (bad ok : Bool) (h : Ro w0 w B rest bad) :
    Calls Tryz.prog 254 #[.pointer (some ⟨B, 0, none⟩), .bool ok] w fun e w' => (∃ v, e = .returned v) ∧ Ro w0 w' B rest (bad || !ok) := by
  have c1 := h.rd.c1
  have f1 := h.rd.f1
  cases ok
  · have hs := h.s1 true
    have hb : (bad || !false) = true := by cases bad <;> rfl
    rw [hb]
    clear hb
    go_enter Tryz.func254, Tryz.ntmps254
    go_wp2_with fail
    go_end0
    exact ⟨⟨_, rfl⟩, hs⟩
  · have hb : (bad || !true) = bad := by cases bad <;> rfl
    rw [hb]
    clear hb
    go_enter Tryz.func254, Tryz.ntmps254
    go_wp2_with fail
    go_end0
    exact ⟨⟨_, rfl⟩, h⟩

theorem cutpre_any (l p : List UInt8) (w : World) :
    Calls Tryz.prog 197 #[.string ⟨l.toArray⟩, .string ⟨p.toArray⟩] w fun e w' => e = .returned (.tuple #[.string ⟨(Lib.trimPrefix l p).toArray⟩, .bool (Lib.hasPrefix l p)]) ∧ w = w' := by
  refine (Tryz.strings_CutPrefix ⟨l.toArray⟩ ⟨p.toArray⟩ w).mono ?_
  rintro e w' ⟨rfl, rfl⟩
  exact ⟨rfl, rfl⟩

set_option maxHeartbeats 800000 in
theorem sign_any (w0 w : World) (B : Nat) (rest : List UInt8) (bad : Bool) (p : List UInt8) (h : Ro w0 w B rest bad) :
    Calls Tryz.prog 251 #[.pointer (some ⟨B, 0, none⟩), .string ⟨p.toArray⟩] w fun e w' => (∃ v, e = .returned v) ∧ Ro w0 w' B (Lib.trimPrefix rest p) (bad || !(Lib.hasPrefix rest p)) := by
  have hc := cutpre_any rest p w
  have hl : (Lib.trimPrefix rest p).length ≤ 1000000 := by
    have := h.small
    unfold Lib.trimPrefix; split
    · simp; omega
    · exact this
  generalize Lib.trimPrefix rest p = r2 at *
  have c0 := h.rd.c0
  have c1 := h.rd.c1
  have f0 := h.rd.f0
  have f1 := h.rd.f1
  cases hp : Lib.hasPrefix rest p
  · rw [hp] at hc
    have hs1 := h.s1 true
    have hs := hs1.s0 r2 hl
    have g0 := hs1.rd.c0
    have k0 := hs1.rd.f0
    have hb : (bad || !false) = true := by cases bad <;> rfl
    rw [hb]
    clear hb hp
    go_enter Tryz.func251, Tryz.ntmps251
    go_wp2_with fail
    refine hc.mono ?_
    rintro e w' ⟨rfl, rfl⟩
    go_wp2_with fail
    go_end0
    exact ⟨⟨_, rfl⟩, hs⟩
  · rw [hp] at hc
    have hs := h.s0 r2 hl
    have hb : (bad || !true) = bad := by cases bad <;> rfl
    rw [hb]
    clear hb hp
    go_enter Tryz.func251, Tryz.ntmps251
    go_wp2_with fail
    refine hc.mono ?_
    rintro e w' ⟨rfl, rfl⟩
    go_wp2_with fail
    go_end0
    exact ⟨⟨_, rfl⟩, hs⟩
end Go.Proofs.YtbhdoocajfkfiaaGreatDoor.mom

namespace Go.Proofs.YtbhdoocajfkfiaaGreatDoor.mom
open Go.ChangeShapes Go.WideShapes Go.ChangeAt Go.RowKit Go.Lib Go.Proofs.YtbhdoocajfkfiaaGreatDoor.num Go.Proofs.YtbhdoocajfkfiaaGreatDoor.days Go.Proofs.YtbhdoocajfkfiaaGreatDoor.cal

/-- how many digits are read -/
def dN (most : Nat) (l : List UInt8) : Nat := min (cnt l) most
/-- what digits does -/
def digRel (least most : Nat) (rest : List UInt8) (bad : Bool) (v : Int) (r2 : List UInt8) (bad2 : Bool) : Prop :=
  int64 v ∧ ((dN most rest < least ∧ v = 0 ∧ r2 = rest ∧ bad2 = true) ∨
    (least ≤ dN most rest ∧ r2 = rest.drop (dN most rest) ∧ ((val (rest.take (dN most rest)) < 9223372036854775808 ∧ v = val (rest.take (dN most rest)) ∧ bad2 = bad) ∨ (9223372036854775808 ≤ val (rest.take (dN most rest)) ∧ bad2 = true))))

theorem dN_step (most : Nat) (l : List UInt8) (k : Nat) (c : UInt8) (r : List UInt8) (hk : k < most) (h : l.drop k = c :: r) : dN (most - k) (l.drop k) = if isDig c then 1 + dN (most - (k + 1)) (l.drop (k + 1)) else 0 := by
  have h2 : l.drop (k + 1) = r := by
    have := congrArg List.tail h
    rwa [List.tail_drop] at this
  unfold dN
  rw [h, h2, cnt]
  split <;> omega
theorem allDig_take (l : List UInt8) (n : Nat) (h : n ≤ cnt l) : allDig (l.take n) = true := by
  have := cnt_take l
  unfold allDig at *
  rw [List.all_eq_true] at *
  intro x hx
  apply this
  rw [show l.take n = (l.take (cnt l)).take n from by rw [List.take_take, Nat.min_eq_left h]] at hx
  exact List.mem_of_mem_take hx

set_option maxHeartbeats 3200000 in
set_option maxRecDepth 100000 in
theorem digits_any (w0 w : World) (B : Nat) (rest : List UInt8) (bad : Bool) (least most : Nat) (a b : Int) (ha : a = least) (hb : b = most) (hl : 1 ≤ least) (hl2 : least ≤ 10) (hm : most ≤ 1000000) (h : Ro w0 w B rest bad) (hE : GE w0) :
    Calls Tryz.prog 252 #[.pointer (some ⟨B, 0, none⟩), .int .i64 a, .int .i64 b] w fun e w' => ∃ v r2 bad2, e = .returned (.int .i64 v) ∧ Ro w0 w' B r2 bad2 ∧ digRel least most rest bad v r2 bad2 := by
  subst ha
  subst hb
  have hsm := h.small
  have c0 := h.rd.c0
  have hnle : dN most rest ≤ rest.length := by have := cnt_le rest; unfold dN; omega
  obtain ⟨N, hN⟩ : ∃ N, N = dN most rest := ⟨_, rfl⟩
  have HN0 : Hid (N = 0 + dN (most - 0) (rest.drop 0)) := Lib.hid (by rw [hN]; simp)
  go_enter Tryz.func252, Tryz.ntmps252
  rw [← hN] at hnle
  have HN := Lib.hid hN
  clear hN
  go_upto_block 0 with fail
  go_cut [7] (fun s7 wx => s7 = .int .i64 N ∧ wx = w)
  case first =>
    go_wp2_with fail
    go_loop [7] (fun s => ∃ k : Nat, s = .int .i64 k ∧ k ≤ rest.length ∧ k ≤ most ∧ Hid (N = k + dN (most - k) (rest.drop k))) (fun s => rest.length - (RowKit.intOf s).toNat)
    case atStart => exact ⟨0, rfl, by omega, by omega, HN0⟩
    case round =>
      obtain ⟨k, rfl, hk, hk2, hh⟩ := hrel
      clear HN0
      by_cases hlt : k < rest.length
      · by_cases hlm : k < most
        · obtain ⟨c, r, hd1, hd2, hidx⟩ := Go.Proofs.YtbhdoocajfkfiaaGreatDoor.num.byte_at rest k hlt
          have hx := hh.out
          rw [dN_step most rest k c r hlm hd1] at hx
          cases hdig : isDig c
          · rw [hdig, if_neg (by decide)] at hx
            have hno := isDig_no c hdig
            have HX : Hid (N = k) := Lib.hid hx
            clear hx hh hd1 hd2 hdig
            rcases hno with g | g
            · go_wp2_with fail
              go_meet
              exact ⟨by rw [HX.out], rfl⟩
            · go_wp2_with fail
              go_meet
              exact ⟨by rw [HX.out], rfl⟩
          · rw [hdig, if_pos rfl] at hx
            obtain ⟨g1, g2⟩ := (isDig_iff c).1 hdig
            have HX : Hid (N = (k + 1) + dN (most - (k + 1)) (rest.drop (k + 1))) := Lib.hid (by rw [hx]; omega)
            clear hx hh hd1 hd2 hdig
            go_wp2_with fail
            go_round
            case rel => exact ⟨k + 1, by go_num, by omega, by omega, HX⟩
            case measure => simp [RowKit.intOf]; omega
        · have HX : Hid (N = k) := Lib.hid (by rw [hh.out]; unfold dN; omega)
          clear hh
          go_wp2_with fail
          go_meet
          exact ⟨by rw [HX.out], rfl⟩
      · have HX : Hid (N = k) := Lib.hid (by rw [hh.out, List.drop_eq_nil_of_le (by omega)]; unfold dN; simp [cnt])
        clear hh
        go_wp2_with fail
        go_meet
        exact ⟨by rw [HX.out], rfl⟩
  case rest =>
  obtain ⟨rfl, rfl⟩ := hcut
  clear HN0
  by_cases hlt : N < least
  · have c1 := h.rd.c1
    have f1 := h.rd.f1
    have hs := h.s1 true
    have HR : digRel least most rest bad 0 rest true := ⟨⟨by decide, by decide⟩, .inl ⟨by rw [← HN.out]; exact hlt, rfl, rfl, rfl⟩⟩
    have HRR := Lib.hid HR
    clear HR
    go_wp2_with fail
    go_ret
    exact ⟨0, rest, true, rfl, hs, HRR.out⟩
  · have htl : (rest.take N).length = N := by rw [List.length_take]; omega
    have hda : allDig (rest.take N) = true := allDig_take rest N (by rw [HN.out]; unfold dN; omega)
    have hat := atoi_any (rest.take N) (by rw [htl]; omega) wc (hE.below h.low)
    have hav := atoi_val (rest.take N) (by omega) hda
    have hvl := Lib.hid (show ∀ v bad2, int64 v → ((val (rest.take N) < 9223372036854775808 ∧ v = val (rest.take N) ∧ bad2 = bad) ∨ (9223372036854775808 ≤ val (rest.take N) ∧ bad2 = true)) → digRel least most rest bad v (rest.drop N) bad2 from fun v bad2 h1 h2 => ⟨h1, .inr ⟨by rw [← HN.out]; omega, by rw [HN.out], by rw [← HN.out]; exact h2⟩⟩)
    have hdl : (rest.drop N).length ≤ 1000000 := by simp; omega
    generalize val (rest.take N) = x at *
    have HAV := Lib.hid hav
    clear hav hda htl
    go_wp2_with fail
    refine hat.mono ?_
    rintro e w2 ⟨hb2, ⟨v, hv, rfl⟩ | ⟨hv, n, M, hn64, rfl⟩⟩
    · have h2 := h.below hb2
      have c0' := h2.rd.c0
      have f0' := h2.rd.f0
      have c1' := h2.rd.c1
      have f1' := h2.rd.f1
      have hs := h2.s0 (rest.drop N) hdl
      have HX : Hid (digRel least most rest bad v (rest.drop N) bad) := Lib.hid (by
        rcases HAV.out with ⟨g1, g2⟩ | ⟨g1, g2⟩
        · rw [g2] at hv
          cases hv
          exact hvl.out _ _ ⟨by omega, by omega⟩ (.inl ⟨g1, rfl, rfl⟩)
        · exact absurd hv (g2 v))
      clear hat hv HAV hvl
      go_wp2_with fail
      go_ret
      exact ⟨v, _, bad, rfl, hs, HX.out⟩
    · have h2 := h.below hb2
      have c0' := h2.rd.c0
      have f0' := h2.rd.f0
      have c1' := h2.rd.c1
      have f1' := h2.rd.f1
      have hs1 := h2.s1 true
      have hs := hs1.s0 (rest.drop N) hdl
      have g0 := hs1.rd.c0
      have k0 := hs1.rd.f0
      have hge : 9223372036854775808 ≤ x := by
        rcases HAV.out with ⟨g1, g2⟩ | ⟨g1, g2⟩
        · exact absurd g2 (hv _)
        · exact g1
      have HX : Hid (int64 n → digRel least most rest bad n (rest.drop N) true) := Lib.hid (fun hn => hvl.out _ _ hn (.inr ⟨hge, rfl⟩))
      clear hat hv HAV hvl hge
      go_wp2_with fail
      go_ret
      exact ⟨n, _, true, rfl, hs, HX.out hn64⟩
end Go.Proofs.YtbhdoocajfkfiaaGreatDoor.mom
