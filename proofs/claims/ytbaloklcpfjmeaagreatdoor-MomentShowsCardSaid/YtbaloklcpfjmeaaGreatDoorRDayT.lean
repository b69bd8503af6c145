/- The contract of the reference's day. -/
import Derived.Test.YtbaloklcpfjmeaaGreatDoorRAt
namespace Go.Proofs.YtbaloklcpfjmeaaGreatDoor.mom
open Go.ChangeShapes Go.WideShapes Go.ChangeAt Go.RowKit Go.Lib Go.Proofs.YtbaloklcpfjmeaaGreatDoor.num Go.Proofs.YtbaloklcpfjmeaaGreatDoor.cal Go.Proofs.YtbaloklcpfjmeaaGreatDoor.days

theorem atR_one (l : List UInt8) (k : Nat) (c : UInt8) : atR l k [c] = signR l k c := by
  unfold atR signR
  rcases Nat.lt_or_ge k l.length with g | g
  · have e := List.drop_eq_getElem_cons g
    rw [List.getElem?_eq_getElem g, decide_eq_true (show k + [c].length ≤ l.length from g), Bool.true_and, Bool.eq_iff_iff]
    generalize l[k] = x at *
    generalize l.drop (k + 1) = r at e
    rw [e]
    simp
  · rw [List.getElem?_eq_none g, decide_eq_false (by simp only [List.length_cons, List.length_nil]; omega)]
    rfl
theorem twoR_bound (l : List UInt8) (k : Nat) : -1 ≤ twoR l k ∧ twoR l k ≤ 99 := by
  unfold twoR
  split
  · rename_i h
    rw [Bool.and_eq_true] at h
    obtain ⟨_, c, _, v1, c1, c2⟩ := digR_byte l k h.1
    obtain ⟨_, d, _, v2, d1, d2⟩ := digR_byte l (k + 1) h.2
    omega
  · omega
theorem yearR_bound (l : List UInt8) : (yearR l).1 ≤ 275760 ∧ (yearR l).2 ≤ l.length := by
  have := cnt_le l
  unfold yearR
  split
  · rename_i h
    unfold yOk at h
    simp only [Bool.and_eq_true, decide_eq_true_eq] at h
    dsimp only
    omega
  · dsimp only; omega
theorem numE_bound (y m d : Int) : -800000 ≤ (numE y m d).1 ∧ (numE y m d).1 ≤ 200000000 ∧ ((numE y m d).2 = 0 ∨ (numE y m d).2 = 2) := by
  unfold numE
  split
  · rename_i h
    obtain ⟨h1, h2, h3, h4, h5, h6⟩ := h
    have a := num_year y m d ⟨h3, h4, h5, h6⟩
    have b := newY_bound y h1 (by omega)
    have c := newY_bound (y + 1) (by omega) (by omega)
    dsimp only
    omega
  · dsimp only; omega
theorem rret_ib {a a' : Int} {b b' : Bool} (h1 : a = a') (h2 : b = b') : Ending.returned (.tuple #[.int .i64 a, .bool b]) = .returned (.tuple #[.int .i64 a', .bool b']) := by rw [h1, h2]

/-- what such a function answers -/
def Tells (o : Option Int) (e : Ending) : Prop := ∃ (n : Int) (b : Bool), e = .returned (.tuple #[.int .i64 n, .bool b]) ∧ o = (if b then some n else none) ∧ -100000000000000000 ≤ n ∧ n ≤ 100000000000000000
theorem tells_no {o : Option Int} (h : o = none) : Tells o (.returned (.tuple #[.int .i64 0, .bool false])) := ⟨0, false, rfl, h, by omega, by omega⟩

set_option maxHeartbeats 1600000 in
set_option maxRecDepth 100000 in
theorem rday_any (l : List UInt8) (hl : l.length ≤ 1000000000) (w : World) :
    Calls Tryz.prog 37 #[.string ⟨l.toArray⟩] w fun e w' => Tells (dayR l) e ∧ Below w.heap.size w w' := by
  obtain ⟨v, hv⟩ : ∃ v, v = dayR l := ⟨_, rfl⟩
  rw [← hv]
  unfold dayR at hv
  have hy := ryear2_any l hl w
  obtain ⟨b1, b2⟩ := yearR_bound l
  generalize (yearR l).1 = y at *
  generalize (yearR l).2 = n at *
  by_cases h0 : n = 0
  · subst h0
    have HV : Hid (v = none) := Lib.hid (by rw [hv, if_neg (fun g => g.1 rfl)])
    clear hv
    go_enter Tryz.func37, Tryz.ntmps37
    go_wp2_with fail
    refine hy.mono ?_
    rintro e w' ⟨rfl, hB⟩
    go_wp2_with fail
    go_ret2
    exact ⟨tells_no HV.out, hB⟩
  have hn0 : ((n : Int) == 0) = false := by simp; omega
  by_cases h6 : l.length = n + 6
  · have hn6 : ((l.length : Int) != (n : Int) + 6) = false := by simp; omega
    have ha := fun w => rat_any l n n [45] rfl hl (by decide) (by omega) w
    rw [atR_one] at ha
    cases s1 : signR l n 45 with
    | false =>
      have HV : Hid (v = none) := Lib.hid (by rw [hv, if_neg (fun g => by rw [s1] at g; exact absurd g.2.2.1 (by decide))])
      rw [s1] at ha
      clear hv s1 h6
      go_enter Tryz.func37, Tryz.ntmps37
      go_wp2_with fail
      refine hy.mono ?_
      rintro e w' ⟨rfl, hB⟩
      go_wp2_with fail
      refine (ha _).mono ?_
      rintro e w' ⟨rfl, rfl⟩
      go_wp2_with fail
      go_ret2
      exact ⟨tells_no HV.out, hB⟩
    | true =>
      rw [s1] at ha
      have hb := fun w => rat_any l (n + 3) (n + 3) [45] rfl hl (by decide) (by omega) w
      rw [atR_one] at hb
      cases s2 : signR l (n + 3) 45 with
      | false =>
        have HV : Hid (v = none) := Lib.hid (by rw [hv, if_neg (fun g => by rw [s2] at g; exact absurd g.2.2.2 (by decide))])
        rw [s2] at hb
        clear hv s1 s2 h6
        go_enter Tryz.func37, Tryz.ntmps37
        go_wp2_with fail
        refine hy.mono ?_
        rintro e w' ⟨rfl, hB⟩
        go_wp2_with fail
        refine (ha _).mono ?_
        rintro e w' ⟨rfl, rfl⟩
        go_wp2_with fail
        refine (hb _).mono ?_
        rintro e w' ⟨rfl, rfl⟩
        go_wp2_with fail
        go_ret2
        exact ⟨tells_no HV.out, hB⟩
      | true =>
        rw [s2] at hb
        have t1 := fun w => rtwo_any l (n + 1) (n + 1) rfl hl (by omega) w
        have t2 := fun w => rtwo_any l (n + 4) (n + 4) rfl hl (by omega) w
        obtain ⟨p1, p2⟩ := twoR_bound l (n + 1)
        obtain ⟨p3, p4⟩ := twoR_bound l (n + 4)
        rw [if_pos ⟨h0, h6, s1, s2⟩] at hv
        generalize twoR l (n + 1) = m at *
        generalize twoR l (n + 4) = d at *
        have hN := fun w => rnumber_any y m d ⟨by omega, by omega⟩ ⟨by omega, by omega⟩ ⟨by omega, by omega⟩ w
        obtain ⟨q1, q2, q3⟩ := numE_bound y m d
        have HV : Hid (v = if (numE y m d).2 = 0 then some ((numE y m d).1 * 86400000) else none) := Lib.hid (by
          by_cases g : dOkI y m d
          · have e : numE y m d = (numD y m d, 0) := by unfold numE; exact if_pos g
            rw [hv, if_pos g, e]; rfl
          · have e : numE y m d = (0, 2) := by unfold numE; exact if_neg g
            rw [hv, if_neg g, e]; rfl)
        clear hv s1 s2 h6
        generalize (numE y m d).1 = k at *
        generalize (numE y m d).2 = er at *
        go_enter Tryz.func37, Tryz.ntmps37
        go_wp2_with fail
        refine hy.mono ?_
        rintro e w1 ⟨rfl, hB⟩
        go_wp2_with fail
        refine (ha _).mono ?_
        rintro e w' ⟨rfl, rfl⟩
        go_wp2_with fail
        refine (hb _).mono ?_
        rintro e w' ⟨rfl, rfl⟩
        go_wp2_with fail
        refine (t1 _).mono ?_
        rintro e w2 ⟨rfl, hB2⟩
        go_wp2_with fail
        refine (t2 _).mono ?_
        rintro e w3 ⟨rfl, hB3⟩
        go_wp2_with fail
        refine (hN _).mono ?_
        rintro e w' ⟨rfl, rfl⟩
        clear hy ha hb t1 t2 hN
        rcases q3 with rfl | rfl
        · go_wp2_with fail
          go_ret2
          exact ⟨⟨k * 86400000, true, rfl, by rw [HV.out]; rfl, by omega, by omega⟩, below_trans (below_trans hB hB2) hB3⟩
        · go_wp2_with fail
          go_ret2
          exact ⟨⟨k * 86400000, false, rfl, by rw [HV.out]; rfl, by omega, by omega⟩, below_trans (below_trans hB hB2) hB3⟩
  · have hn6 : ((l.length : Int) != (n : Int) + 6) = true := by simp; omega
    have HV : Hid (v = none) := Lib.hid (by rw [hv, if_neg (fun g => h6 g.2.1)])
    clear hv h6
    go_enter Tryz.func37, Tryz.ntmps37
    go_wp2_with fail
    refine hy.mono ?_
    rintro e w' ⟨rfl, hB⟩
    go_wp2_with fail
    go_ret2
    exact ⟨tells_no HV.out, hB⟩
end Go.Proofs.YtbaloklcpfjmeaaGreatDoor.mom
