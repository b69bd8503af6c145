/- A part of the proofs: lemmas and contracts. -/
import Derived.WalkSpells
import Derived.Test.YtkhlfggnjcbniaaGreatDoorP4
set_option maxHeartbeats 12800000
set_option maxRecDepth 1000000
namespace Go.Proofs.YtkhlfggnjcbniaaGreatDoor.mom
open Go.ChangeShapes Go.WideShapes Go.ChangeAt Go.RowKit Go.Lib num cal days

theorem at_byte (l : List UInt8) (i : Nat) (h : i < l.length) : ∃ c, l[i]? = some c ∧ ∀ h', (⟨l.toArray⟩ : ByteArray)[i]'h' = c :=
 ⟨l[i], List.getElem?_eq_getElem h, fun _ => rfl⟩
theorem rret_bool {a b : Bool} (h : a = b) : Ending.returned (.bool a) = .returned (.bool b) := by rw [h]
theorem rret_int {a b : Int} (h : a = b) : Ending.returned (.int .i64 a) = .returned (.int .i64 b) := by rw [h]

theorem rdigit_any (l : List UInt8) (a : Int) (k : Nat) (ha : a = k) (_hl : l.length ≤ 1000000000) (_hk : k ≤ 2000000000) (w : World) :
  Calls Tryz.prog 342 #[.string ⟨l.toArray⟩, .int .i64 a] w fun e w' => e = .returned (.bool (digR l k)) ∧ w = w' := by
 subst ha
 by_cases h : k < l.length
 ·obtain ⟨c, h1, h2⟩ := at_byte l k h
  have hc := c.toNat_lt
  have HV : Hid (digR l k = isDig c) := Lib.hid (by unfold digR; rw [h1])
  clear h1
  by_cases c1 : c.toNat < 48
  ·have HX : Hid (digR l k = false) := Lib.hid (by rw [HV.out, ← Bool.not_eq_true, isDig_iff]; omega)
   go_enter Tryz.func342, Tryz.ntmps342
   go_wp2_with fail
   go_ret
   exact ⟨rret_bool HX.out.symm, rfl⟩
  ·by_cases c2 : 57 < c.toNat
   ·have HX : Hid (digR l k = false) := Lib.hid (by rw [HV.out, ← Bool.not_eq_true, isDig_iff]; omega)
    go_enter Tryz.func342, Tryz.ntmps342
    go_wp2_with fail
    go_ret
    exact ⟨rret_bool (by rw [HX.out]; simp; omega), rfl⟩
   ·have HX : Hid (digR l k = true) := Lib.hid (by rw [HV.out, isDig_iff]; omega)
    go_enter Tryz.func342, Tryz.ntmps342
    go_wp2_with fail
    go_ret
    exact ⟨rret_bool (by rw [HX.out]; simp; omega), rfl⟩
 ·have HX : Hid (digR l k = false) := Lib.hid (by unfold digR; rw [List.getElem?_eq_none (by omega)])
  go_enter Tryz.func342, Tryz.ntmps342
  go_wp2_with fail
  go_ret
  exact ⟨rret_bool HX.out.symm, rfl⟩

theorem digR_byte (l : List UInt8) (k : Nat) (h : digR l k = true) : k < l.length ∧ ∃ c : UInt8, (∀ h', (⟨l.toArray⟩ : ByteArray)[k]'h' = c) ∧ dvR l k = c.toNat - 48 ∧ 48 ≤ c.toNat ∧ c.toNat ≤ 57 := by
 rcases Nat.lt_or_ge k l.length with g | g
 ·obtain ⟨c, h1, h2⟩ := at_byte l k g
  unfold digR at h
  rw [h1] at h
  have hd := (isDig_iff c).1 h
  refine ⟨g, c, h2, ?_, by omega, by omega⟩
  unfold dvR
  rw [h1]
  exact dv_eq c
 ·unfold digR at h
  rw [List.getElem?_eq_none g] at h
  cases h

theorem rtwo_any (l : List UInt8) (a : Int) (k : Nat) (ha : a = k) (hl : l.length ≤ 1000000000) (hk : k ≤ 1999999999) (w : World) :
  Calls Tryz.prog 318 #[.string ⟨l.toArray⟩, .int .i64 a] w fun e w' => e = .returned (.int .i64 (twoR l k)) ∧ Below w.heap.size w w' := by
 subst ha
 have g1 := fun w => rdigit_any l k k rfl hl (by omega) w
 have g2 := fun w => rdigit_any l (k + 1) (k + 1) rfl hl (by omega) w
 cases h1 : digR l k with
 | false =>
  have HV : Hid (twoR l k = -1) := Lib.hid (by unfold twoR; rw [h1]; rfl)
  rw [h1] at g1
  clear h1
  go_enter Tryz.func318, Tryz.ntmps318
  go_wp2_with fail
  refine (g1 _).mono ?_
  rintro e w' ⟨rfl, rfl⟩
  go_wp2_with fail
  go_ret
  exact ⟨rret_int HV.out.symm, Below.refl _ _⟩
 | true =>
  cases h2 : digR l (k + 1) with
  | false =>
   have HV : Hid (twoR l k = -1) := Lib.hid (by unfold twoR; rw [h1, h2]; rfl)
   rw [h1] at g1
   rw [h2] at g2
   clear h1 h2
   go_enter Tryz.func318, Tryz.ntmps318
   go_wp2_with fail
   refine (g1 _).mono ?_
   rintro e w' ⟨rfl, rfl⟩
   go_wp2_with fail
   refine (g2 _).mono ?_
   rintro e w' ⟨rfl, rfl⟩
   go_wp2_with fail
   go_ret
   exact ⟨rret_int HV.out.symm, Below.refl _ _⟩
  | true =>
   obtain ⟨l1, c, q1, v1, c1, c2⟩ := digR_byte l k h1
   obtain ⟨l2, d, q2, v2, d1, d2⟩ := digR_byte l (k + 1) h2
   have HV : Hid (twoR l k = (((c.toNat - 48) * 10 + (d.toNat - 48) : Nat) : Int)) := Lib.hid (by unfold twoR; rw [h1, h2, v1, v2]; rfl)
   rw [h1] at g1
   rw [h2] at g2
   clear h1 h2 v1 v2
   have hc := c.toNat_lt
   have hd := d.toNat_lt
   go_enter Tryz.func318, Tryz.ntmps318
   go_wp2_with fail
   refine (g1 _).mono ?_
   rintro e w' ⟨rfl, rfl⟩
   go_wp2_with fail
   refine (g2 _).mono ?_
   rintro e w' ⟨rfl, rfl⟩
   go_wp2_with fail
   go_region
   all_goals
    go_wp2_with fail
    go_ret
    exact ⟨rret_int (by rw [HV.out]; omega), (Below.refl _ _).drew⟩

theorem digR_lt (l : List UInt8) (n : Nat) (h : n < cnt l) : digR l n = true := by
 have hl := cnt_le l
 have ha := cnt_take l
 have e : l[n]? = some (l[n]'(by omega)) := List.getElem?_eq_getElem (by omega)
 unfold digR
 rw [e]
 unfold allDig at ha
 rw [List.all_eq_true] at ha
 apply ha
 rw [List.mem_take_iff_getElem]
 exact ⟨n, by omega, rfl⟩
theorem digR_cnt (l : List UInt8) : digR l (cnt l) = false := by
 rcases Nat.lt_or_ge (cnt l) l.length with g | g
 ·have e : l[cnt l]? = some (l[cnt l]'g) := List.getElem?_eq_getElem g
  unfold digR
  rw [e]
  exact cnt_next l _ _ (List.drop_eq_getElem_cons g)
 ·unfold digR; rw [List.getElem?_eq_none g]
theorem val_take_succ (l : List UInt8) (n : Nat) (h : digR l n = true) : val (l.take (n + 1)) = val (l.take n) * 10 + dvR l n := by
 obtain ⟨g, _⟩ := digR_byte l n h
 have e : l[n]? = some (l[n]'g) := List.getElem?_eq_getElem g
 unfold dvR
 rw [List.take_add_one, e]
 show val (l.take n ++ [l[n]]) = _
 rw [val_append]
 show _ = val (l.take n) * 10 + dv l[n]
 have : val [l[n]] = dv l[n] := by show valFrom (0 * 10 + dv l[n]) [] = _; show 0 * 10 + dv l[n] = _; omega
 rw [this]; rfl
def capY (y : Int) (v : Nat) : Prop := y = v ∨ (275760 < y ∧ 275760 < v)
theorem rret_ii {a b a' b' : Int} (h1 : a = a') (h2 : b = b') : Ending.returned (.tuple #[.int .i64 a, .int .i64 b]) = .returned (.tuple #[.int .i64 a', .int .i64 b']) := by rw [h1, h2]

theorem ryear2_any (l : List UInt8) (hl : l.length ≤ 1000000000) (w : World) :
  Calls Tryz.prog 316 #[.string ⟨l.toArray⟩] w fun e w' => e = .returned (.tuple #[.int .i64 ((yearR l).1 : Nat), .int .i64 ((yearR l).2 : Nat)]) ∧ Below w.heap.size w w' := by
 have HV : Hid (yearR l = if yOk (cnt l) (val (l.take (cnt l))) then (val (l.take (cnt l)), cnt l) else (0, 0)) := Lib.hid rfl
 have hcl := cnt_le l
 generalize yearR l = v at *
 go_enter Tryz.func316, Tryz.ntmps316
 go_wp2_with fail
 go_loopw [4, 5] (fun s4 s5 wr => ∃ (n : Nat) (y : Int), s4 = .int .i64 n ∧ s5 = .int .i64 y ∧ n ≤ cnt l ∧ 0 ≤ y ∧ y ≤ 2757699 ∧ Hid (capY y (val (l.take n))) ∧ Below w.heap.size w wr) (fun a _ => fun _ => (1000000001 - RowKit.intOf a).toNat)
 case atStart => exact ⟨0, 0, rfl, rfl, by omega, by omega, by omega, Lib.hid (Or.inl rfl), Below.refl _ _⟩
 case round =>
  obtain ⟨n, y, rfl, rfl, n1, y1, y2, hc, hB⟩ := hrel
  have hd := fun w => rdigit_any l n n rfl hl (by omega) w
  by_cases hn : n < cnt l
  ·have ht := digR_lt l n hn
   obtain ⟨k1, c, q1, v1, c1, c2⟩ := digR_byte l n ht
   have HS := Lib.hid (val_take_succ l n ht)
   rw [ht] at hd
   have hcn := c.toNat_lt
   have HD := Lib.hid v1
   clear ht v1
   by_cases hy : y ≤ 275760
   ·have HN : Hid (capY (10 * y + (c.toNat - 48)) (val (l.take (n + 1)))) := Lib.hid (by
     have a := hc.out
     have b := HS.out
     rw [HD.out] at b
     unfold capY at a ⊢
     omega)
    clear hc HS HD
    go_wp2_with fail
    refine (hd _).mono ?_
    rintro e w' ⟨rfl, rfl⟩
    go_wp2_with fail
    go_roundw
    case rel => exact ⟨n + 1, 10 * y + (c.toNat - 48), rfl, by first | rfl | (congr 1; omega), by omega, by omega, by omega, HN, hB⟩
    case measure => simp [RowKit.intOf]; omega
   ·have HN : Hid (capY y (val (l.take (n + 1)))) := Lib.hid (by
     have a := hc.out
     have b := HS.out
     unfold capY at a ⊢
     omega)
    clear hc HS HD
    go_wp2_with fail
    refine (hd _).mono ?_
    rintro e w' ⟨rfl, rfl⟩
    go_wp2_with fail
    go_roundw
    case rel => exact ⟨n + 1, y, rfl, rfl, by omega, by omega, by omega, HN, hB⟩
    case measure => simp [RowKit.intOf]; omega
  ·have en : n = cnt l := by omega
   have ht := digR_cnt l
   have hcap := hc.out
   have hv := HV.out
   rw [← en] at ht hv
   rw [ht] at hd
   unfold capY at hcap
   unfold yOk at hv
   by_cases ok : 4 ≤ n ∧ 1 ≤ y ∧ y ≤ 275760
   ·have HX : Hid (((v.1 : Nat) : Int) = y ∧ v.2 = n) := Lib.hid (by
     rw [if_pos (by simp only [Bool.and_eq_true, decide_eq_true_eq]; omega)] at hv
     rw [hv]
     dsimp only
     omega)
    clear hc ht hcap hv HV en
    obtain ⟨o1, o2, o3⟩ := ok
    go_wp2_with fail
    refine (hd _).mono ?_
    rintro e w' ⟨rfl, rfl⟩
    go_wp2_with fail
    go_ret2
    exact ⟨rret_ii HX.out.1.symm (by rw [HX.out.2]), hB⟩
   ·have HX : Hid (v = (0, 0)) := Lib.hid (by
     rw [if_neg (by simp only [Bool.and_eq_true, decide_eq_true_eq]; omega)] at hv
     exact hv)
    clear hc ht hcap hv HV en
    by_cases o1 : n < 4
    ·go_wp2_with fail
     refine (hd _).mono ?_
     rintro e w' ⟨rfl, rfl⟩
     go_wp2_with fail
     go_ret2
     exact ⟨rret_ii (by rw [HX.out]; rfl) (by rw [HX.out]; rfl), hB⟩
    by_cases o2 : y < 1
    ·go_wp2_with fail
     refine (hd _).mono ?_
     rintro e w' ⟨rfl, rfl⟩
     go_wp2_with fail
     go_ret2
     exact ⟨rret_ii (by rw [HX.out]; rfl) (by rw [HX.out]; rfl), hB⟩
    ·have o3 : 275760 < y := by omega
     go_wp2_with fail
     refine (hd _).mono ?_
     rintro e w' ⟨rfl, rfl⟩
     go_wp2_with fail
     go_ret2
     exact ⟨rret_ii (by rw [HX.out]; rfl) (by rw [HX.out]; rfl), hB⟩

def atR (l : List UInt8) (k : Nat) (t : List UInt8) : Bool := decide (k + t.length ≤ l.length) && decide ((l.drop k).take t.length = t)

theorem rat_any (l : List UInt8) (a : Int) (k : Nat) (t : List UInt8) (ha : a = k) (hl : l.length ≤ 1000000000) (ht : t.length ≤ 10) (hk : k ≤ 2000000000) (w : World) :
  Calls Tryz.prog 319 #[.string ⟨l.toArray⟩, .int .i64 a, .string ⟨t.toArray⟩] w fun e w' => e = .returned (.bool (atR l k t)) ∧ w = w' := by
 subst ha
 by_cases h : k + t.length ≤ l.length
 ·have HX : Hid (atR l k t = decide ((l.drop k).take t.length = t)) := Lib.hid (by unfold atR; rw [decide_eq_true h]; rfl)
  go_enter Tryz.func319, Tryz.ntmps319
  go_wp2_with fail
  go_ret
  exact ⟨rret_bool (by rw [HX.out, Bool.eq_iff_iff]; simp), rfl⟩
 ·have HX : Hid (atR l k t = false) := Lib.hid (by unfold atR; rw [decide_eq_false h]; rfl)
  go_enter Tryz.func319, Tryz.ntmps319
  go_wp2_with fail
  go_ret
  exact ⟨rret_bool HX.out.symm, rfl⟩

theorem atR_one (l : List UInt8) (k : Nat) (c : UInt8) : atR l k [c] = signR l k c := by
 unfold atR signR
 rcases Nat.lt_or_ge k l.length with g | g
 ·have e := List.drop_eq_getElem_cons g
  rw [List.getElem?_eq_getElem g, decide_eq_true (show k + [c].length ≤ l.length from g), Bool.true_and, Bool.eq_iff_iff]
  generalize l[k] = x at *
  generalize l.drop (k + 1) = r at e
  rw [e]
  simp
 ·rw [List.getElem?_eq_none g, decide_eq_false (by simp only [List.length_cons, List.length_nil]; omega)]
  rfl
theorem twoR_bound (l : List UInt8) (k : Nat) : -1 ≤ twoR l k ∧ twoR l k ≤ 99 := by
 unfold twoR
 split
 ·rename_i h
  rw [Bool.and_eq_true] at h
  obtain ⟨_, c, _, v1, c1, c2⟩ := digR_byte l k h.1
  obtain ⟨_, d, _, v2, d1, d2⟩ := digR_byte l (k + 1) h.2
  omega
 ·omega
theorem yearR_bound (l : List UInt8) : (yearR l).1 ≤ 275760 ∧ (yearR l).2 ≤ l.length := by
 have := cnt_le l
 unfold yearR
 split
 ·rename_i h
  unfold yOk at h
  simp only [Bool.and_eq_true, decide_eq_true_eq] at h
  dsimp only
  omega
 ·dsimp only; omega
theorem numE_bound (y m d : Int) : -800000 ≤ (numE y m d).1 ∧ (numE y m d).1 ≤ 200000000 ∧ ((numE y m d).2 = 0 ∨ (numE y m d).2 = 2) := by
 unfold numE
 split
 ·rename_i h
  obtain ⟨h1, h2, h3, h4, h5, h6⟩ := h
  have a := num_year y m d ⟨h3, h4, h5, h6⟩
  have b := newY_bound y h1 (by omega)
  have c := newY_bound (y + 1) (by omega) (by omega)
  dsimp only
  omega
 ·dsimp only; omega
def Tells (o : Option Int) (e : Ending) : Prop := ∃ (n : Int) (b : Bool), e = .returned (.tuple #[.int .i64 n, .bool b]) ∧ o = (if b then some n else none) ∧ -100000000000000000 ≤ n ∧ n ≤ 100000000000000000
theorem tells_no {o : Option Int} (h : o = none) : Tells o (.returned (.tuple #[.int .i64 0, .bool false])) := ⟨0, false, rfl, h, by omega, by omega⟩

theorem rday_any (l : List UInt8) (hl : l.length ≤ 1000000000) (w : World) :
  Calls Tryz.prog 317 #[.string ⟨l.toArray⟩] w fun e w' => Tells (dayR l) e ∧ Below w.heap.size w w' := by
 obtain ⟨v, hv⟩ : ∃ v, v = dayR l := ⟨_, rfl⟩
 rw [← hv]
 unfold dayR at hv
 have hy := ryear2_any l hl w
 obtain ⟨b1, b2⟩ := yearR_bound l
 generalize (yearR l).1 = y at *
 generalize (yearR l).2 = n at *
 by_cases h0 : n = 0
 ·subst h0
  have HV : Hid (v = none) := Lib.hid (by rw [hv, if_neg (fun g => g.1 rfl)])
  clear hv
  go_enter Tryz.func317, Tryz.ntmps317
  go_wp2_with fail
  refine hy.mono ?_
  rintro e w' ⟨rfl, hB⟩
  go_wp2_with fail
  go_ret2
  exact ⟨tells_no HV.out, hB⟩
 have hn0 : ((n : Int) == 0) = false := by simp; omega
 by_cases h6 : l.length = n + 6
 ·have hn6 : ((l.length : Int) != (n : Int) + 6) = false := by simp; omega
  have ha := fun w => rat_any l n n [45] rfl hl (by decide) (by omega) w
  rw [atR_one] at ha
  cases s1 : signR l n 45 with
  | false =>
   have HV : Hid (v = none) := Lib.hid (by rw [hv, if_neg (fun g => by rw [s1] at g; exact absurd g.2.2.1 (by decide))])
   rw [s1] at ha
   clear hv s1 h6
   go_enter Tryz.func317, Tryz.ntmps317
   go_wp2_with fail
   refine hy.mono ?_
   rintro e w' ⟨rfl, hB⟩
   go_wp2_with fail
   refine (ha _).mono ?_
   rintro e w' ⟨rfl, rfl⟩
   go_wp2_with fail
   go_ret2
   exact ⟨tells_no HV.out, hB⟩
  | true =>
   rw [s1] at ha
   have hb := fun w => rat_any l (n + 3) (n + 3) [45] rfl hl (by decide) (by omega) w
   rw [atR_one] at hb
   cases s2 : signR l (n + 3) 45 with
   | false =>
    have HV : Hid (v = none) := Lib.hid (by rw [hv, if_neg (fun g => by rw [s2] at g; exact absurd g.2.2.2 (by decide))])
    rw [s2] at hb
    clear hv s1 s2 h6
    go_enter Tryz.func317, Tryz.ntmps317
    go_wp2_with fail
    refine hy.mono ?_
    rintro e w' ⟨rfl, hB⟩
    go_wp2_with fail
    refine (ha _).mono ?_
    rintro e w' ⟨rfl, rfl⟩
    go_wp2_with fail
    refine (hb _).mono ?_
    rintro e w' ⟨rfl, rfl⟩
    go_wp2_with fail
    go_ret2
    exact ⟨tells_no HV.out, hB⟩
   | true =>
    rw [s2] at hb
    have t1 := fun w => rtwo_any l (n + 1) (n + 1) rfl hl (by omega) w
    have t2 := fun w => rtwo_any l (n + 4) (n + 4) rfl hl (by omega) w
    obtain ⟨p1, p2⟩ := twoR_bound l (n + 1)
    obtain ⟨p3, p4⟩ := twoR_bound l (n + 4)
    rw [if_pos ⟨h0, h6, s1, s2⟩] at hv
    generalize twoR l (n + 1) = m at *
    generalize twoR l (n + 4) = d at *
    have hN := fun w => rnumber_any y m d ⟨by omega, by omega⟩ ⟨by omega, by omega⟩ ⟨by omega, by omega⟩ w
    obtain ⟨q1, q2, q3⟩ := numE_bound y m d
    have HV : Hid (v = if (numE y m d).2 = 0 then some ((numE y m d).1 * 86400000) else none) := Lib.hid (by
     by_cases g : dOkI y m d
     ·have e : numE y m d = (numD y m d, 0) := by unfold numE; exact if_pos g
      rw [hv, if_pos g, e]; rfl
     ·have e : numE y m d = (0, 2) := by unfold numE; exact if_neg g
      rw [hv, if_neg g, e]; rfl)
    clear hv s1 s2 h6
    generalize (numE y m d).1 = k at *
    generalize (numE y m d).2 = er at *
    go_enter Tryz.func317, Tryz.ntmps317
    go_wp2_with fail
    refine hy.mono ?_
    rintro e w1 ⟨rfl, hB⟩
    go_wp2_with fail
    refine (ha _).mono ?_
    rintro e w' ⟨rfl, rfl⟩
    go_wp2_with fail
    refine (hb _).mono ?_
    rintro e w' ⟨rfl, rfl⟩
    go_wp2_with fail
    refine (t1 _).mono ?_
    rintro e w2 ⟨rfl, hB2⟩
    go_wp2_with fail
    refine (t2 _).mono ?_
    rintro e w3 ⟨rfl, hB3⟩
    go_wp2_with fail
    refine (hN _).mono ?_
    rintro e w' ⟨rfl, rfl⟩
    clear hy ha hb t1 t2 hN
    rcases q3 with rfl | rfl
    ·go_wp2_with fail
     go_ret2
     exact ⟨⟨k * 86400000, true, rfl, by rw [HV.out]; rfl, by omega, by omega⟩, below_trans (below_trans hB hB2) hB3⟩
    ·go_wp2_with fail
     go_ret2
     exact ⟨⟨k * 86400000, false, rfl, by rw [HV.out]; rfl, by omega, by omega⟩, below_trans (below_trans hB hB2) hB3⟩
 ·have hn6 : ((l.length : Int) != (n : Int) + 6) = true := by simp; omega
  have HV : Hid (v = none) := Lib.hid (by rw [hv, if_neg (fun g => h6 g.2.1)])
  clear hv h6
  go_enter Tryz.func317, Tryz.ntmps317
  go_wp2_with fail
  refine hy.mono ?_
  rintro e w' ⟨rfl, hB⟩
  go_wp2_with fail
  go_ret2
  exact ⟨tells_no HV.out, hB⟩

theorem twoR_drop (l : List UInt8) (p k : Nat) (h : p ≤ l.length) : twoR (l.drop p) k = twoR l (p + k) := by
 have e := twoR_at (l.take p) (l.drop p) k
 rw [List.take_append_drop, List.length_take, Nat.min_eq_left h] at e
 exact e.symm
theorem signR_drop (l : List UInt8) (p k : Nat) (c : UInt8) (h : p ≤ l.length) : signR (l.drop p) k c = signR l (p + k) c := by
 have e := signR_at (l.take p) (l.drop p) k c
 rw [List.take_append_drop, List.length_take, Nat.min_eq_left h] at e
 exact e.symm
theorem digR_drop (l : List UInt8) (p k : Nat) (h : p ≤ l.length) : digR (l.drop p) k = digR l (p + k) := by
 have e := digR_at (l.take p) (l.drop p) k
 rw [List.take_append_drop, List.length_take, Nat.min_eq_left h] at e
 exact e.symm
theorem dvR_drop (l : List UInt8) (p k : Nat) (h : p ≤ l.length) : dvR (l.drop p) k = dvR l (p + k) := by
 have e := dvR_at (l.take p) (l.drop p) k
 rw [List.take_append_drop, List.length_take, Nat.min_eq_left h] at e
 exact e.symm
theorem allDig_iff (l : List UInt8) : allDig l = true ↔ ∀ k, k < l.length → digR l k = true := by
 unfold allDig
 rw [List.all_eq_true]
 constructor
 ·intro h k hk
  unfold digR
  rw [List.getElem?_eq_getElem hk]
  exact h _ (List.getElem_mem hk)
 ·intro h c hc
  obtain ⟨k, hk, rfl⟩ := List.getElem_of_mem hc
  have := h k hk
  unfold digR at this
  rw [List.getElem?_eq_getElem hk] at this
  exact this

def clockL (len : Nat) (x1 : Bool) (h m : Int) (x2 : Bool) (s : Int) (x3 : Bool) (f : Option Int) : Option Int :=
 if len < 5 ∨ x1 = false then none
 else if h < 0 ∨ 23 < h ∨ m < 0 ∨ 59 < m then none
 else if len = 5 then some (h * 3600000 + m * 60000)
 else if x2 = false ∨ s < 0 ∨ 59 < s then none
 else if len = 8 then some (h * 3600000 + m * 60000 + s * 1000)
 else if x3 = false ∨ len < 10 ∨ 12 < len then none
 else f.map (fun a => h * 3600000 + m * 60000 + s * 1000 + a)
def fracR (l : List UInt8) : Option Int := if allDig (l.drop 9) = true then some ((val (l.drop 9) * 10 ^ (12 - l.length) : Nat) : Int) else none
theorem clockR_L (l : List UInt8) : clockR l = clockL l.length (signR l 2 58) (twoR l 0) (twoR l 3) (signR l 5 58) (twoR l 6) (signR l 8 46) (fracR l) := by
 unfold clockR clockL
 by_cases h1 : l.length < 5 ∨ signR l 2 58 = false
 ·rw [if_pos h1, if_pos h1]
 ·rw [if_neg h1, if_neg h1]
  have h5 : 5 ≤ l.length := by omega
  by_cases h2 : twoR l 0 < 0 ∨ 23 < twoR l 0 ∨ twoR l 3 < 0 ∨ 59 < twoR l 3
  ·rw [if_pos h2, if_pos h2]
  ·rw [if_neg h2, if_neg h2]
   unfold clockT
   rw [signR_drop l 5 0 58 h5, twoR_drop l 5 1 h5, signR_drop l 5 3 46 h5, List.length_drop, List.drop_drop]
   have k0 : (l.length - 5 = 0) ↔ l.length = 5 := by omega
   have k3 : (l.length - 5 = 3) ↔ l.length = 8 := by omega
   have k5 : (l.length - 5 < 5) ↔ l.length < 10 := by omega
   have k7 : (7 < l.length - 5) ↔ 12 < l.length := by omega
   have kp : 7 - (l.length - 5) = 12 - l.length := by omega
   simp only [k0, k3, k5, k7, kp]
   unfold fracR
   by_cases h3 : l.length = 5
   ·rw [if_pos h3, if_pos h3]
   ·rw [if_neg h3, if_neg h3]
    by_cases h4 : signR l 5 58 = false ∨ twoR l 6 < 0 ∨ 59 < twoR l 6
    ·rw [if_pos h4, if_pos h4]
    ·rw [if_neg h4, if_neg h4]
     by_cases h5 : l.length = 8
     ·rw [if_pos h5, if_pos h5]
     ·rw [if_neg h5, if_neg h5]
      by_cases h6 : signR l 8 46 = false ∨ l.length < 10 ∨ 12 < l.length
      ·rw [if_pos h6, if_pos h6]
      ·rw [if_neg h6, if_neg h6]
       by_cases h7 : allDig (l.drop 9) = true
       ·rw [if_pos h7, if_pos h7]; rfl
       ·rw [if_neg h7, if_neg h7]; rfl

def pv (l : List UInt8) (i : Nat) : Nat := val ((l.drop 9).take (i - 9)) * 10 ^ (12 - i)
theorem pv_9 (l : List UInt8) : pv l 9 = 0 := by unfold pv; simp [val_nil]
theorem pv_next (l : List UInt8) (i u : Nat) (h1 : 9 ≤ i) (h2 : i < 12) (hu : u = 10 ^ (11 - i)) (h3 : digR l i = true) : pv l (i + 1) = pv l i + dvR l i * u := by
 obtain ⟨g, _⟩ := digR_byte l i h3
 have e9 : 9 ≤ l.length := by omega
 have e : 9 + (i - 9) = i := by omega
 have hd := digR_drop l 9 (i - 9) e9
 have hv := dvR_drop l 9 (i - 9) e9
 rw [e] at hd hv
 unfold pv
 rw [show i + 1 - 9 = i - 9 + 1 from by omega, val_take_succ (l.drop 9) (i - 9) (by rw [hd]; exact h3), hv, hu, show 12 - (i + 1) = 11 - i from by omega, show 12 - i = (11 - i) + 1 from by omega, Nat.pow_succ, Nat.add_mul, Nat.mul_assoc, Nat.mul_comm 10]
theorem pv_end (l : List UInt8) (_h : 9 ≤ l.length) : pv l l.length = val (l.drop 9) * 10 ^ (12 - l.length) := by
 unfold pv
 rw [List.take_of_length_le (by simp)]
theorem frac_yes (l : List UInt8) (h : 9 ≤ l.length) (hd : ∀ k, 9 ≤ k → k < l.length → digR l k = true) : fracR l = some ((pv l l.length : Nat) : Int) := by
 unfold fracR
 rw [if_pos, pv_end l h]
 rw [allDig_iff]
 intro k hk
 rw [List.length_drop] at hk
 rw [digR_drop l 9 k h]
 exact hd (9 + k) (by omega) (by omega)
theorem frac_no (l : List UInt8) (i : Nat) (h1 : 9 ≤ i) (h2 : i < l.length) (hd : digR l i = false) : fracR l = none := by
 unfold fracR
 rw [if_neg]
 rw [allDig_iff]
 intro g
 have := g (i - 9) (by rw [List.length_drop]; omega)
 rw [digR_drop l 9 (i - 9) (by omega), show 9 + (i - 9) = i from by omega, hd] at this
 cases this

theorem tells_yes {o : Option Int} {n m : Int} (h : o = some n) (e : m = n) (h1 : -100000000000000000 ≤ n) (h2 : n ≤ 100000000000000000) : Tells o (.returned (.tuple #[.int .i64 m, .bool true])) := ⟨n, true, by rw [e], h, h1, h2⟩
def digsTo (l : List UInt8) (k : Nat) : Prop := ∀ j, 9 ≤ j → j < k → digR l j = true

theorem rclock_any (l : List UInt8) (hl : l.length ≤ 1000000000) (w : World) :
  Calls Tryz.prog 321 #[.string ⟨l.toArray⟩] w fun e w' => Tells (clockR l) e ∧ Below w.heap.size w w' := by
 rw [clockR_L]
 have ha := fun w => rat_any l 2 2 [58] rfl hl (by decide) (by decide) w
 have hb := fun w => rat_any l 5 5 [58] rfl hl (by decide) (by decide) w
 have hc := fun w => rat_any l 8 8 [46] rfl hl (by decide) (by decide) w
 rw [atR_one] at ha hb hc
 have t0 := fun w => rtwo_any l 0 0 rfl hl (by decide) w
 have t3 := fun w => rtwo_any l 3 3 rfl hl (by decide) w
 have t6 := fun w => rtwo_any l 6 6 rfl hl (by decide) w
 obtain ⟨p1, p2⟩ := twoR_bound l 0
 obtain ⟨p3, p4⟩ := twoR_bound l 3
 obtain ⟨p5, p6⟩ := twoR_bound l 6
 have HF : Hid (∃ f, f = fracR l) := Lib.hid ⟨_, rfl⟩
 obtain ⟨f, hf⟩ := HF.out
 rw [← hf]
 have HFR := Lib.hid hf
 clear hf HF
 generalize signR l 2 58 = x1 at *
 generalize signR l 5 58 = x2 at *
 generalize signR l 8 46 = x3 at *
 generalize twoR l 0 = h at *
 generalize twoR l 3 = m at *
 generalize twoR l 6 = s at *
 obtain ⟨v, hv⟩ : ∃ v, v = clockL l.length x1 h m x2 s x3 f := ⟨_, rfl⟩
 rw [← hv]
 unfold clockL at hv
 have HV := Lib.hid hv
 clear hv
 go_enter Tryz.func321, Tryz.ntmps321
 by_cases g5 : l.length < 5
 ·have HN : Hid (v = none) := Lib.hid (by rw [HV.out, if_pos (Or.inl g5)])
  go_wp2_with fail
  go_ret2
  exact ⟨tells_no HN.out, Below.refl _ _⟩
 go_wp2_with fail
 refine (ha _).mono ?_
 rintro e w' ⟨rfl, rfl⟩
 cases x1
 ·have HN : Hid (v = none) := Lib.hid (by rw [HV.out, if_pos (Or.inr rfl)])
  go_wp2_with fail
  go_ret2
  exact ⟨tells_no HN.out, Below.refl _ _⟩
 have HV1 := Lib.hid (HV.out.trans (if_neg (by simp; omega)))
 clear HV ha
 go_wp2_with fail
 refine (t0 _).mono ?_
 rintro e w1 ⟨rfl, hB1⟩
 go_wp2_with fail
 refine (t3 _).mono ?_
 rintro e w2 ⟨rfl, hB2⟩
 have hB := below_trans hB1 hB2
 clear hB1 hB2 t0 t3
 by_cases g : h < 0
 ·have HN : Hid (v = none) := Lib.hid (by rw [HV1.out, if_pos (by omega)])
  go_wp2_with fail
  go_ret2
  exact ⟨tells_no HN.out, hB⟩
 by_cases g : 23 < h
 ·have HN : Hid (v = none) := Lib.hid (by rw [HV1.out, if_pos (by omega)])
  go_wp2_with fail
  go_ret2
  exact ⟨tells_no HN.out, hB⟩
 by_cases g : m < 0
 ·have HN : Hid (v = none) := Lib.hid (by rw [HV1.out, if_pos (by omega)])
  go_wp2_with fail
  go_ret2
  exact ⟨tells_no HN.out, hB⟩
 by_cases g : 59 < m
 ·have HN : Hid (v = none) := Lib.hid (by rw [HV1.out, if_pos (by omega)])
  go_wp2_with fail
  go_ret2
  exact ⟨tells_no HN.out, hB⟩
 have HV2 := Lib.hid (HV1.out.trans (if_neg (by omega)))
 clear HV1
 by_cases e5 : l.length = 5
 ·have e5' : ((l.length : Int) == 5) = true := by simp; omega
  have HN := Lib.hid (HV2.out.trans (if_pos e5))
  clear e5
  go_wp2_with fail
  go_ret2
  exact ⟨tells_yes HN.out rfl (by omega) (by omega), hB⟩
 have e5' : ((l.length : Int) == 5) = false := by simp; omega
 have HV3 := Lib.hid (HV2.out.trans (if_neg e5))
 clear HV2 e5
 go_wp2_with fail
 refine (t6 _).mono ?_
 rintro e w3 ⟨rfl, hB3⟩
 have hB' := below_trans hB hB3
 clear hB hB3 t6
 go_wp2_with fail
 refine (hb _).mono ?_
 rintro e w' ⟨rfl, rfl⟩
 clear hb
 cases x2
 ·have HN : Hid (v = none) := Lib.hid (by rw [HV3.out, if_pos (Or.inl rfl)])
  go_wp2_with fail
  go_ret2
  exact ⟨tells_no HN.out, hB'⟩
 by_cases g : s < 0
 ·have HN : Hid (v = none) := Lib.hid (by rw [HV3.out, if_pos (by omega)])
  go_wp2_with fail
  go_ret2
  exact ⟨tells_no HN.out, hB'⟩
 by_cases g : 59 < s
 ·have HN : Hid (v = none) := Lib.hid (by rw [HV3.out, if_pos (by omega)])
  go_wp2_with fail
  go_ret2
  exact ⟨tells_no HN.out, hB'⟩
 have HV4 := Lib.hid (HV3.out.trans (if_neg (by simp; omega)))
 clear HV3
 by_cases e8 : l.length = 8
 ·have e8' : ((l.length : Int) == 8) = true := by simp; omega
  have HN := Lib.hid (HV4.out.trans (if_pos e8))
  clear e8
  go_wp2_with fail
  go_ret2
  exact ⟨tells_yes HN.out rfl (by omega) (by omega), hB'⟩
 have e8' : ((l.length : Int) == 8) = false := by simp; omega
 have HV5 := Lib.hid (HV4.out.trans (if_neg e8))
 clear HV4 e8
 go_wp2_with fail
 refine (hc _).mono ?_
 rintro e w' ⟨rfl, rfl⟩
 clear hc
 cases x3
 ·have HN : Hid (v = none) := Lib.hid (by rw [HV5.out, if_pos (Or.inl rfl)])
  go_wp2_with fail
  go_ret2
  exact ⟨tells_no HN.out, hB'⟩
 by_cases g10 : l.length < 10
 ·have HN : Hid (v = none) := Lib.hid (by rw [HV5.out, if_pos (Or.inr (Or.inl g10))])
  go_wp2_with fail
  go_ret2
  exact ⟨tells_no HN.out, hB'⟩
 by_cases g12 : 12 < l.length
 ·have HN : Hid (v = none) := Lib.hid (by rw [HV5.out, if_pos (Or.inr (Or.inr g12))])
  go_wp2_with fail
  go_ret2
  exact ⟨tells_no HN.out, hB'⟩
 have HV6 := Lib.hid (HV5.out.trans (if_neg (by simp; omega)))
 clear HV5
 go_wp2_with fail
 have g10' : 10 ≤ l.length := by omega
 have g12' : l.length ≤ 12 := by omega
 clear g5 g10 g12
 go_loopw [6, 8, 9] (fun s6 s8 s9 wr => ∃ (k p u : Nat), s9 = .int .i64 k ∧ s6 = .int .i64 (h * 3600000 + m * 60000 + s * 1000 + p) ∧ s8 = .int .i64 u ∧ p ≤ (k - 9) * 900 ∧ k ≤ l.length ∧ (k = 9 ∧ u = 100 ∨ k = 10 ∧ u = 10 ∨ k = 11 ∧ u = 1 ∨ k = 12 ∧ u = 0) ∧ Hid (p = pv l k ∧ digsTo l k) ∧ Below w.heap.size w wr) (fun _ _ s9 _ => (13 - intOf s9).toNat)
 case atStart => exact ⟨9, 0, 100, rfl, by first | rfl | (congr 1; omega), rfl, by omega, by omega, by omega, Lib.hid ⟨(pv_9 l).symm, fun j a b => by omega⟩, hB'⟩
 case round =>
  obtain ⟨k, p, u, rfl, rfl, rfl, hp, hk, hu, hh, hB⟩ := hrel
  have hd := fun w => rdigit_any l k k rfl hl (by omega) w
  by_cases hn : k < l.length
  ·cases hq : digR l k with
   | false =>
    have HN : Hid (v = none) := Lib.hid (by rw [HV6.out, HFR.out, frac_no l k (by omega) hn hq]; rfl)
    rw [hq] at hd
    clear hq hu
    go_wp2_with fail
    refine (hd _).mono ?_
    rintro e w' ⟨rfl, rfl⟩
    go_wp2_with fail
    go_ret2
    exact ⟨tells_no HN.out, hB⟩
   | true =>
    obtain ⟨k1, c, q1, v1, c1, c2⟩ := digR_byte l k hq
    have hcn := c.toNat_lt
    rw [hq] at hd
    rcases hu with ⟨rfl, rfl⟩ | ⟨rfl, rfl⟩ | ⟨rfl, rfl⟩ | ⟨rfl, rfl⟩
    ·have HP : Hid (p + (c.toNat - 48) * 100 = pv l (9 + 1) ∧ digsTo l (9 + 1)) := Lib.hid (by
      refine ⟨?_, fun j a b => ?_⟩
      ·rw [pv_next l 9 100 (by decide) (by decide) (by decide) hq, v1, hh.out.1]
      ·rcases Nat.lt_or_ge j 9 with g | g
       ·exact hh.out.2 j a g
       ·rw [show j = 9 from by omega]; exact hq)
     clear hq hh v1
     go_wp2_with fail
     refine (hd _).mono ?_
     rintro e w' ⟨rfl, rfl⟩
     go_wp2_with fail
     go_roundw
     case rel => exact ⟨10, p + (c.toNat - 48) * 100, 10, rfl, by first | rfl | (congr 1; omega), by first | rfl | (congr 1; omega), by omega, by omega, by omega, HP, hB⟩
     case measure => first | decide | (simp [RowKit.intOf]; done)
    ·have HP : Hid (p + (c.toNat - 48) * 10 = pv l (10 + 1) ∧ digsTo l (10 + 1)) := Lib.hid (by
      refine ⟨?_, fun j a b => ?_⟩
      ·rw [pv_next l 10 10 (by decide) (by decide) (by decide) hq, v1, hh.out.1]
      ·rcases Nat.lt_or_ge j 10 with g | g
       ·exact hh.out.2 j a g
       ·rw [show j = 10 from by omega]; exact hq)
     clear hq hh v1
     go_wp2_with fail
     refine (hd _).mono ?_
     rintro e w' ⟨rfl, rfl⟩
     go_wp2_with fail
     go_roundw
     case rel => exact ⟨11, p + (c.toNat - 48) * 10, 1, rfl, by first | rfl | (congr 1; omega), by first | rfl | (congr 1; omega), by omega, by omega, by omega, HP, hB⟩
     case measure => first | decide | (simp [RowKit.intOf]; done)
    ·have HP : Hid (p + (c.toNat - 48) * 1 = pv l (11 + 1) ∧ digsTo l (11 + 1)) := Lib.hid (by
      refine ⟨?_, fun j a b => ?_⟩
      ·rw [pv_next l 11 1 (by decide) (by decide) (by decide) hq, v1, hh.out.1]
      ·rcases Nat.lt_or_ge j 11 with g | g
       ·exact hh.out.2 j a g
       ·rw [show j = 11 from by omega]; exact hq)
     clear hq hh v1
     go_wp2_with fail
     refine (hd _).mono ?_
     rintro e w' ⟨rfl, rfl⟩
     go_wp2_with fail
     go_roundw
     case rel => exact ⟨12, p + (c.toNat - 48) * 1, 0, rfl, by first | rfl | (congr 1; omega), by first | rfl | (congr 1; omega), by omega, by omega, by omega, HP, hB⟩
     case measure => first | decide | (simp [RowKit.intOf]; done)
    ·omega
  ·have ek : k = l.length := by omega
   have HN : Hid (v = some (h * 3600000 + m * 60000 + s * 1000 + p)) := Lib.hid (by
    rw [HV6.out, HFR.out, frac_yes l (by omega) (fun j a b => hh.out.2 j a (by omega)), hh.out.1, ek]; rfl)
   have hpb : p ≤ 2700 := by omega
   clear hu hd ek hh
   go_wp2_with fail
   go_ret2
   exact ⟨tells_yes HN.out (by omega) (by omega) (by omega), hB⟩

theorem tells_ib {o : Option Int} {n m : Int} {b c : Bool} (h : o = if b then some n else none) (e : m = n) (g : c = b) (h1 : -100000000000000000 ≤ n) (h2 : n ≤ 100000000000000000) : Tells o (.returned (.tuple #[.int .i64 m, .bool c])) := ⟨n, b, by rw [e, g], h, h1, h2⟩

theorem atR_two (l : List UInt8) (k : Nat) (c d : UInt8) : atR l k [c, d] = (signR l k c && signR l (k + 1) d) := by
 unfold atR signR
 rcases Nat.lt_or_ge (k + 1) l.length with g | g
 ·have e := List.drop_eq_getElem_cons (show k < l.length by omega)
  have e2 := List.drop_eq_getElem_cons g
  rw [List.getElem?_eq_getElem g, List.getElem?_eq_getElem (show k < l.length by omega), decide_eq_true (show k + [c, d].length ≤ l.length from g), Bool.true_and, Bool.eq_iff_iff]
  generalize l[k] = x at *
  generalize l[k + 1] = y at *
  generalize l.drop (k + 1 + 1) = r at e2
  rw [e, e2]
  simp
 ·rw [List.getElem?_eq_none g, decide_eq_false (by simp only [List.length_cons, List.length_nil]; omega)]
  cases (l[k]? == some c) <;> rfl

theorem monthR_is (l : List UInt8) (y n : Nat) (m : Int) (s : Bool) (h1 : (yearR l).1 = y) (h2 : (yearR l).2 = n) (h3 : signR l n 45 = s) (h4 : twoR l (n + 1) = m) :
  monthR l = if (0 < n ∧ l.length = n + 3) ∧ s = true ∧ 1 ≤ m ∧ m ≤ 12 then some (((y : Int) - 1970) * 12 + m - 1) else none := by
 subst h1 h2 h3 h4
 unfold monthR
 by_cases g : (yearR l).2 > 0 ∧ l.length = (yearR l).2 + 3 ∧ signR l (yearR l).2 45 = true ∧ 1 ≤ twoR l ((yearR l).2 + 1) ∧ twoR l ((yearR l).2 + 1) ≤ 12
 ·rw [if_pos g, if_pos ⟨⟨g.1, g.2.1⟩, g.2.2⟩]
 ·rw [if_neg g, if_neg (fun k => g ⟨k.1.1, k.1.2, k.2⟩)]
theorem weekR_is (l : List UInt8) (y n : Nat) (s : Bool) (m : Int) (h1 : (yearR l).1 = y) (h2 : (yearR l).2 = n) (h3 : atR l n [45, 87] = s) (h4 : twoR l (n + 2) = m) :
  weekR l = if n ≠ 0 ∧ l.length = n + 4 ∧ s = true then (if (monE y m).2 = 0 then some ((monE y m).1 * 86400000) else none) else none := by
 subst h1 h2 h3 h4
 rw [atR_two]
 have hm : (if (monE (yearR l).1 (twoR l ((yearR l).2 + 2))).2 = 0 then some ((monE (yearR l).1 (twoR l ((yearR l).2 + 2))).1 * 86400000) else none) = (if wOkI (yearR l).1 (twoR l ((yearR l).2 + 2)) then some ((firstW (yearR l).1 + 7 * (twoR l ((yearR l).2 + 2) - 1)) * 86400000) else none) := by
  by_cases g : wOkI (yearR l).1 (twoR l ((yearR l).2 + 2))
  ·have e : monE (yearR l).1 (twoR l ((yearR l).2 + 2)) = (firstW (yearR l).1 + 7 * (twoR l ((yearR l).2 + 2) - 1), 0) := by unfold monE; exact if_pos g
   rw [e, if_pos rfl, if_pos g]
  ·have e : monE (yearR l).1 (twoR l ((yearR l).2 + 2)) = (0, 2) := by unfold monE; exact if_neg g
   rw [e, if_neg (by decide), if_neg g]
 rw [hm]
 unfold weekR
 by_cases g : (yearR l).2 ≠ 0 ∧ l.length = (yearR l).2 + 4 ∧ signR l (yearR l).2 45 = true ∧ signR l ((yearR l).2 + 1) 87 = true
 ·rw [if_pos g]
  exact (if_pos ⟨g.1, g.2.1, by rw [g.2.2.1, g.2.2.2]; rfl⟩).symm
 ·rw [if_neg g]
  refine (if_neg ?_).symm
  rintro ⟨a, b, c⟩
  rw [Bool.and_eq_true] at c
  exact g ⟨a, b, c⟩
theorem monE_bound (y m : Int) : -800000 ≤ (monE y m).1 ∧ (monE y m).1 ≤ 200000000 ∧ ((monE y m).2 = 0 ∨ (monE y m).2 = 2) := by
 unfold monE
 split
 ·rename_i h
  have a := firstW_near y
  have b := newY_bound y (by omega) (by omega)
  have c := weeksW_pos y
  dsimp only
  omega
 ·dsimp only; omega

def noMid (l : List UInt8) (k : Nat) : Prop := (l.take k).all (fun c => !isMid c) = true
theorem noMid_next (l : List UInt8) (k : Nat) (h : k < l.length) (hn : noMid l k) (hc : isMid l[k] = false) : noMid l (k + 1) := by
 unfold noMid at *
 rw [List.take_add_one, List.getElem?_eq_getElem h, List.all_append, hn]
 simp [hc]
theorem noMid_end (l : List UInt8) (hn : noMid l l.length) : localR l = none := by
 unfold noMid at hn
 rw [List.take_length] at hn
 unfold localR
 rcases midR_spec l with ⟨h, _⟩ | ⟨p, c, r, h1, h2, h3, h4⟩
 ·rw [h]
 ·exfalso
  rw [h2, List.all_append, List.all_cons, h3] at hn
  simp at hn
theorem noMid_at (l : List UInt8) (k : Nat) (h : k < l.length) (hn : noMid l k) (hc : isMid l[k] = true) : localR l = match dayR (l.take k), clockR (l.drop (k + 1)) with | some d, some t => some (d + t) | _, _ => none := by
 have e : l = l.take k ++ l[k] :: l.drop (k + 1) := by rw [← List.drop_eq_getElem_cons h, List.take_append_drop]
 have := midR_at (l.take k) l[k] (l.drop (k + 1)) hn hc
 rw [← e] at this
 unfold localR
 rw [this]
 rfl

theorem parseR1 (l : List UInt8) : parseR 1 l = dayR l := by unfold parseR; rw [if_pos rfl]
theorem parseR2 (l : List UInt8) : parseR 2 l = monthR l := by unfold parseR; rw [if_neg (by decide), if_pos rfl]
theorem parseR3 (l : List UInt8) : parseR 3 l = weekR l := by unfold parseR; rw [if_neg (by decide), if_neg (by decide), if_pos rfl]
theorem parseR4 (l : List UInt8) : parseR 4 l = clockR l := by unfold parseR; rw [if_neg (by decide), if_neg (by decide), if_neg (by decide), if_pos rfl]
theorem parseR5 (l : List UInt8) : parseR 5 l = localR l := by unfold parseR; rw [if_neg (by decide), if_neg (by decide), if_neg (by decide), if_neg (by decide)]

theorem rparse1 (l : List UInt8) (hl : l.length ≤ 1000000000) (w : World) :
  Calls Tryz.prog 278 #[.int .i64 1, .string ⟨l.toArray⟩] w fun e w' => Tells (dayR l) e ∧ Below w.heap.size w w' := by
 have hy := ryear2_any l hl w
 have hd := fun w => rday_any l hl w
 generalize dayR l = v at *
 generalize (yearR l).1 = y at *
 generalize (yearR l).2 = n at *
 go_enter Tryz.func278, Tryz.ntmps278
 go_wp2_with fail
 refine hy.mono ?_
 rintro e w1 ⟨rfl, hB⟩
 go_wp2_with fail
 refine (hd _).mono ?_
 rintro e w2 ⟨⟨k, b, rfl, hT, hk1, hk2⟩, hB2⟩
 have HT := Lib.hid hT
 clear hT hd hy
 go_wp2_with fail
 go_ret2
 exact ⟨⟨k, b, rfl, HT.out, hk1, hk2⟩, below_trans hB hB2⟩

theorem rparse4 (l : List UInt8) (hl : l.length ≤ 1000000000) (w : World) :
  Calls Tryz.prog 278 #[.int .i64 4, .string ⟨l.toArray⟩] w fun e w' => Tells (clockR l) e ∧ Below w.heap.size w w' := by
 have hy := ryear2_any l hl w
 have hd := fun w => rclock_any l hl w
 generalize clockR l = v at *
 generalize (yearR l).1 = y at *
 generalize (yearR l).2 = n at *
 go_enter Tryz.func278, Tryz.ntmps278
 go_wp2_with fail
 refine hy.mono ?_
 rintro e w1 ⟨rfl, hB⟩
 go_wp2_with fail
 refine (hd _).mono ?_
 rintro e w2 ⟨⟨k, b, rfl, hT, hk1, hk2⟩, hB2⟩
 have HT := Lib.hid hT
 clear hT hd hy
 go_wp2_with fail
 go_ret2
 exact ⟨⟨k, b, rfl, HT.out, hk1, hk2⟩, below_trans hB hB2⟩

theorem rparse2 (l : List UInt8) (hl : l.length ≤ 1000000000) (w : World) :
  Calls Tryz.prog 278 #[.int .i64 2, .string ⟨l.toArray⟩] w fun e w' => Tells (monthR l) e ∧ Below w.heap.size w w' := by
 have hy := ryear2_any l hl w
 obtain ⟨b1, b2⟩ := yearR_bound l
 obtain ⟨v, hv⟩ : ∃ v, v = monthR l := ⟨_, rfl⟩
 rw [← hv]
 rw [monthR_is l _ _ _ _ rfl rfl rfl rfl] at hv
 generalize (yearR l).1 = y at *
 generalize (yearR l).2 = n at *
 have ha := fun w => rat_any l n n [45] rfl hl (by decide) (by omega) w
 rw [atR_one] at ha
 have t1 := fun w => rtwo_any l (n + 1) (n + 1) rfl hl (by omega) w
 obtain ⟨p1, p2⟩ := twoR_bound l (n + 1)
 generalize twoR l (n + 1) = m at *
 generalize signR l n 45 = s at *
 have HV := Lib.hid hv
 clear hv
 go_enter Tryz.func278, Tryz.ntmps278
 go_wp2_with fail
 refine hy.mono ?_
 rintro e w1 ⟨rfl, hB⟩
 go_wp2_with fail
 refine (t1 _).mono ?_
 rintro e w2 ⟨rfl, hB2⟩
 have hB' := below_trans hB hB2
 clear hB hB2 hy t1
 by_cases n0 : (0 : Int) < n
 ·by_cases n3 : l.length = n + 3
  ·have n3' : ((l.length : Int) == (n : Int) + 3) = true := by simp; omega
   have HV1 : Hid (v = if s = true ∧ 1 ≤ m ∧ m ≤ 12 then some (((y : Int) - 1970) * 12 + m - 1) else none) := Lib.hid (by
    rw [HV.out]
    by_cases g : s = true ∧ 1 ≤ m ∧ m ≤ 12
    ·rw [if_pos ⟨⟨by omega, n3⟩, g⟩, if_pos g]
    ·rw [if_neg (fun k => g k.2), if_neg g])
   clear HV n3
   go_wp2_with fail
   refine (ha _).mono ?_
   rintro e w3 ⟨rfl, rfl⟩
   clear ha
   cases s
   ·have HN : Hid (v = none) := Lib.hid (by rw [HV1.out, if_neg (fun k => by cases k.1)])
    go_wp2_with fail
    go_ret2
    exact ⟨⟨_, false, rfl, HN.out, by omega, by omega⟩, hB'⟩
   ·by_cases m1 : 1 ≤ m
    ·by_cases m2 : m ≤ 12
     ·have HN : Hid (v = some (((y : Int) - 1970) * 12 + m - 1)) := Lib.hid (by rw [HV1.out, if_pos ⟨rfl, m1, m2⟩])
      go_wp2_with fail
      go_ret2
      exact ⟨tells_ib (n := ((y : Int) - 1970) * 12 + m - 1) (b := true) HN.out (by omega) (by first | rfl | (simp; omega)) (by omega) (by omega), hB'⟩
     ·have HN : Hid (v = none) := Lib.hid (by rw [HV1.out, if_neg (fun k => m2 k.2.2)])
      go_wp2_with fail
      go_ret2
      exact ⟨tells_ib (n := ((y : Int) - 1970) * 12 + m - 1) (b := false) HN.out (by omega) (by first | rfl | (simp; omega)) (by omega) (by omega), hB'⟩
    ·have HN : Hid (v = none) := Lib.hid (by rw [HV1.out, if_neg (fun k => m1 k.2.1)])
     go_wp2_with fail
     go_ret2
     exact ⟨tells_ib (n := ((y : Int) - 1970) * 12 + m - 1) (b := false) HN.out (by omega) (by first | rfl | (simp; omega)) (by omega) (by omega), hB'⟩
  ·have n3' : ((l.length : Int) == (n : Int) + 3) = false := by simp; omega
   have HN : Hid (v = none) := Lib.hid (by rw [HV.out, if_neg (fun k => n3 k.1.2)])
   clear n3
   go_wp2_with fail
   go_ret2
   exact ⟨tells_ib (n := ((y : Int) - 1970) * 12 + m - 1) (b := false) HN.out (by omega) (by first | rfl | (simp; omega)) (by omega) (by omega), hB'⟩
 ·have HN : Hid (v = none) := Lib.hid (by rw [HV.out, if_neg (fun k => n0 (by omega))])
  go_wp2_with fail
  go_ret2
  exact ⟨tells_ib (n := ((y : Int) - 1970) * 12 + m - 1) (b := false) HN.out (by omega) (by first | rfl | (simp; omega)) (by omega) (by omega), hB'⟩

theorem rparse3 (l : List UInt8) (hl : l.length ≤ 1000000000) (w : World) :
  Calls Tryz.prog 278 #[.int .i64 3, .string ⟨l.toArray⟩] w fun e w' => Tells (weekR l) e ∧ Below w.heap.size w w' := by
 have hy := ryear2_any l hl w
 obtain ⟨b1, b2⟩ := yearR_bound l
 obtain ⟨v, hv⟩ : ∃ v, v = weekR l := ⟨_, rfl⟩
 rw [← hv]
 rw [weekR_is l _ _ _ _ rfl rfl rfl rfl] at hv
 generalize (yearR l).1 = y at *
 generalize (yearR l).2 = n at *
 have ha := fun w => rat_any l n n [45, 87] rfl hl (by decide) (by omega) w
 have t1 := fun w => rtwo_any l (n + 2) (n + 2) rfl hl (by omega) w
 obtain ⟨p1, p2⟩ := twoR_bound l (n + 2)
 generalize twoR l (n + 2) = m at *
 generalize atR l n [45, 87] = s at *
 have hM := fun w => rmonday_any y m ⟨by omega, by omega⟩ ⟨by omega, by omega⟩ w
 obtain ⟨q1, q2, q3⟩ := monE_bound y m
 generalize (monE y m).1 = k at *
 generalize (monE y m).2 = er at *
 have HV := Lib.hid hv
 clear hv
 go_enter Tryz.func278, Tryz.ntmps278
 go_wp2_with fail
 refine hy.mono ?_
 rintro e w1 ⟨rfl, hB⟩
 clear hy
 by_cases n0 : n = 0
 ·have n0' : ((n : Int) == 0) = true := by simp; omega
  have HN : Hid (v = none) := Lib.hid (by rw [HV.out, if_neg (fun k => k.1 n0)])
  clear n0
  go_wp2_with fail
  go_ret2
  exact ⟨tells_no HN.out, hB⟩
 have n0' : ((n : Int) == 0) = false := by simp; omega
 by_cases n4 : l.length = n + 4
 ·have n4' : ((l.length : Int) != (n : Int) + 4) = false := by simp; omega
  have HV1 : Hid (v = if s = true then (if er = 0 then some (k * 86400000) else none) else none) := Lib.hid (by
   rw [HV.out]
   by_cases g : s = true
   ·rw [if_pos ⟨n0, n4, g⟩, if_pos g]
   ·rw [if_neg (fun k => g k.2.2), if_neg g])
  clear HV n4 n0
  go_wp2_with fail
  refine (ha _).mono ?_
  rintro e w3 ⟨rfl, rfl⟩
  clear ha
  cases s
  ·have HN : Hid (v = none) := Lib.hid (by rw [HV1.out, if_neg (by decide)])
   go_wp2_with fail
   go_ret2
   exact ⟨tells_no HN.out, hB⟩
  ·have HV2 := Lib.hid (HV1.out.trans (if_pos rfl))
   clear HV1
   go_wp2_with fail
   refine (t1 _).mono ?_
   rintro e w2 ⟨rfl, hB2⟩
   have hB' := below_trans hB hB2
   clear hB hB2 t1
   go_wp2_with fail
   refine (hM _).mono ?_
   rintro e w3 ⟨rfl, rfl⟩
   clear hM
   rcases q3 with rfl | rfl
   ·have HN := Lib.hid (HV2.out.trans (if_pos rfl))
    go_wp2_with fail
    go_ret2
    exact ⟨tells_yes HN.out (by omega) (by omega) (by omega), hB'⟩
   ·have HN := Lib.hid (HV2.out.trans (if_neg (by decide)))
    go_wp2_with fail
    go_ret2
    exact ⟨tells_ib (n := k * 86400000) (b := false) HN.out (by omega) rfl (by omega) (by omega), hB'⟩
 ·have n4' : ((l.length : Int) != (n : Int) + 4) = true := by simp; omega
  have HN : Hid (v = none) := Lib.hid (by rw [HV.out, if_neg (fun k => n4 k.2.1)])
  clear n4 n0
  go_wp2_with fail
  go_ret2
  exact ⟨tells_no HN.out, hB⟩

def TellsU (o : Option Int) (e : Ending) : Prop := ∃ (n : Int) (b : Bool), e = .returned (.tuple #[.int .i64 n, .bool b]) ∧ o = (if b then some n else none)
theorem Tells.u {o : Option Int} {e : Ending} (h : Tells o e) : TellsU o e := h.elim fun n h => h.elim fun b h => ⟨n, b, h.1, h.2.1⟩

theorem mid_yes (c : UInt8) (h : isMid c = true) : ((c.toNat : Int) == 84) = true ∨ (((c.toNat : Int) == 84) = false ∧ ((c.toNat : Int) == 32) = true) := by
 rcases (mid_iff c).1 h with rfl | rfl
 ·right; exact ⟨rfl, rfl⟩
 ·left; rfl
theorem mid_no (c : UInt8) (h : isMid c = false) : ((c.toNat : Int) == 84) = false ∧ ((c.toNat : Int) == 32) = false := by
 have g : ¬ (c = 32 ∨ c = 84) := fun k => by have := (mid_iff c).2 k; rw [h] at this; cases this
 constructor
 ·cases q : ((c.toNat : Int) == 84)
  ·rfl
  ·exact absurd (Or.inr (UInt8.toNat_inj.1 (by have := eq_of_beq q; show c.toNat = 84; omega))) g
 ·cases q : ((c.toNat : Int) == 32)
  ·rfl
  ·exact absurd (Or.inl (UInt8.toNat_inj.1 (by have := eq_of_beq q; show c.toNat = 32; omega))) g

theorem rparse5 (l : List UInt8) (hl : l.length ≤ 1000000000) (w : World) :
  Calls Tryz.prog 278 #[.int .i64 5, .string ⟨l.toArray⟩] w fun e w' => TellsU (localR l) e ∧ Below w.heap.size w w' := by
 have hy := ryear2_any l hl w
 obtain ⟨v, hv⟩ : ∃ v, v = localR l := ⟨_, rfl⟩
 rw [← hv]
 have HV := Lib.hid hv
 clear hv
 generalize (yearR l).1 = y at *
 generalize (yearR l).2 = n at *
 go_enter Tryz.func278, Tryz.ntmps278
 go_wp2_with fail
 refine hy.mono ?_
 rintro e w1 ⟨rfl, hB⟩
 clear hy
 go_wp2_with fail
 go_loopw [11] (fun s11 wr => ∃ (k : Nat), s11 = .int .i64 k ∧ k ≤ l.length ∧ Hid (noMid l k) ∧ Below w.heap.size w wr) (fun s11 _ => (1000000001 - intOf s11).toNat)
 case atStart => exact ⟨0, rfl, by omega, Lib.hid (by unfold noMid; rfl), hB⟩
 case round =>
  clear hB
  obtain ⟨k, rfl, hk, hn, hB⟩ := hrel
  by_cases hn' : k < l.length
  ·obtain ⟨c, h1, h2⟩ := at_byte l k hn'
   have hcn := c.toNat_lt
   have e1 : l[k] = c := by
    rw [List.getElem?_eq_getElem hn'] at h1
    exact Option.some.inj h1
   have hT := fun w => rday_any (l.take k) (by simp; omega) w
   have hD := fun w => rclock_any (l.drop (k + 1)) (by simp; omega) w
   cases hm : isMid c with
   | true =>
    have HX : Hid (v = match dayR (l.take k), clockR (l.drop (k + 1)) with | some d, some t => some (d + t) | _, _ => none) := Lib.hid (by rw [HV.out]; exact noMid_at l k hn' hn.out (by rw [e1]; exact hm))
    generalize dayR (l.take k) = o1 at *
    generalize clockR (l.drop (k + 1)) = o2 at *
    have hmm := mid_yes c hm
    clear hn e1 h1 hm HV
    rcases hmm with m1 | ⟨m1, m2⟩
    all_goals
     go_wp2_with fail
     refine (hT _).mono ?_
     rintro e w2 ⟨⟨d, b, rfl, hx, d1, d2⟩, hB2⟩
     go_wp2_with fail
     refine (hD _).mono ?_
     rintro e w3 ⟨⟨t, bt, rfl, hx2, t1, t2⟩, hB3⟩
     have HY : Hid (v = if (b && bt) then some (d + t) else none) := Lib.hid (by
      rw [HX.out, hx, hx2]
      cases b <;> cases bt <;> rfl)
     clear hx hx2 HX hT hD
     have hBB := below_trans (below_trans hB hB2) hB3
     clear hB hB2 hB3
     cases b
     ·go_wp2_with fail
      go_ret2
      exact ⟨⟨_, false, rfl, HY.out⟩, hBB⟩
     ·go_wp2_with fail
      go_ret2
      exact ⟨⟨d + t, bt, by congr 3, HY.out⟩, hBB⟩
   | false =>
    have HX : Hid (noMid l (k + 1)) := Lib.hid (noMid_next l k hn' hn.out (by rw [e1]; exact hm))
    obtain ⟨m1, m2⟩ := mid_no c hm
    clear hn e1 h1 hm hT hD
    go_wp2_with fail
    go_roundw
    case rel => exact ⟨k + 1, rfl, by omega, HX, hB⟩
    case measure => simp [intOf]; omega
  ·have ek : k = l.length := by omega
   have HN : Hid (v = none) := Lib.hid (by rw [HV.out]; exact noMid_end l (by rw [← ek]; exact hn.out))
   clear ek hn
   go_wp2_with fail
   go_ret2
   exact ⟨(tells_no HN.out).u, hB⟩

theorem rparse_any (kind : Int) (h1 : 1 ≤ kind) (h2 : kind ≤ 5) (l : List UInt8) (hl : l.length ≤ 1000000000) (w : World) :
  Calls Tryz.prog 278 #[.int .i64 kind, .string ⟨l.toArray⟩] w fun e w' => TellsU (parseR kind l) e ∧ Below w.heap.size w w' := by
 have hk : kind = 1 ∨ kind = 2 ∨ kind = 3 ∨ kind = 4 ∨ kind = 5 := by omega
 rcases hk with rfl | rfl | rfl | rfl | rfl
 ·rw [parseR1]; exact (rparse1 l hl w).mono fun _ _ h => ⟨h.1.u, h.2⟩
 ·rw [parseR2]; exact (rparse2 l hl w).mono fun _ _ h => ⟨h.1.u, h.2⟩
 ·rw [parseR3]; exact (rparse3 l hl w).mono fun _ _ h => ⟨h.1.u, h.2⟩
 ·rw [parseR4]; exact (rparse4 l hl w).mono fun _ _ h => ⟨h.1.u, h.2⟩
 ·rw [parseR5]; exact rparse5 l hl w

theorem rParse_any (kind : Int) (hk : int64 kind) (l : List UInt8) (hl : l.length ≤ 1000000000) (w : World) :
  Calls Tryz.prog 207 #[.int .i64 kind, .string ⟨l.toArray⟩] w fun e w' => e = .returned (.tuple #[.int .i64 (parseM kind l).1, .int .i64 (parseM kind l).2]) ∧ Below w.heap.size w w' := by
 obtain ⟨v, hv⟩ : ∃ v, v = parseM kind l := ⟨_, rfl⟩
 rw [← hv]
 unfold parseM at hv
 obtain ⟨k1, k2⟩ := hk
 by_cases h1 : kind < 1
 ·rw [if_pos (Or.inl h1)] at hv
  have HV := Lib.hid hv
  clear hv
  go_enter Tryz.func207, Tryz.ntmps207
  go_wp2_with fail
  go_ret2
  exact ⟨rret_ii (by rw [HV.out]) (by rw [HV.out]), Below.refl _ _⟩
 by_cases h2 : 5 < kind
 ·rw [if_pos (Or.inr h2)] at hv
  have HV := Lib.hid hv
  clear hv
  go_enter Tryz.func207, Tryz.ntmps207
  go_wp2_with fail
  go_ret2
  exact ⟨rret_ii (by rw [HV.out]) (by rw [HV.out]), Below.refl _ _⟩
 rw [if_neg (by omega), ← parseR_eq kind l (by omega) (by omega)] at hv
 have hp := rparse_any kind (by omega) (by omega) l hl w
 generalize parseR kind l = o at *
 have HV := Lib.hid hv
 clear hv
 go_enter Tryz.func207, Tryz.ntmps207
 go_wp2_with fail
 refine hp.mono ?_
 rintro e w2 ⟨⟨k, b, rfl, hT⟩, hB⟩
 cases b
 ·have HN : Hid (v = (0, 1)) := Lib.hid (by rw [HV.out, hT]; rfl)
  clear hT hp
  go_wp2_with fail
  go_ret2
  exact ⟨rret_ii (by rw [HN.out]) (by rw [HN.out]), hB⟩
 ·have HN : Hid (v = (k, 0)) := Lib.hid (by rw [HV.out, hT]; rfl)
  clear hT hp
  go_wp2_with fail
  go_ret2
  exact ⟨rret_ii (by rw [HN.out]) (by rw [HN.out]), hB⟩
end Go.Proofs.YtkhlfggnjcbniaaGreatDoor.mom
