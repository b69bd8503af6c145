/- The laws NumberParses, NumberBack, NumberNormal, walked by the contracts of Parse, Show and the reference's. -/
import Derived.Test.YtbndlpmhbocbjaaDoorParse
import Derived.Test.YtbndlpmhbocbjaaDoorRefParse
import Derived.Test.YtbndlpmhbocbjaaDoorShow
import Derived.Test.YtbndlpmhbocbjaaDoorBackPure
import Derived.OpenShut
namespace Go.Proofs.YtbndlpmhbocbjaaDoor.num
open Go.ChangeShapes Go.WideShapes Go.ChangeAt Go.RowKit Go.Lib

set_option maxHeartbeats 400000 in
theorem wakes_any (w : World) (hG : G w) (hE : GE w) :
    Calls Tryd.prog 9 #[] w fun e w' => e = .returned (.bool true) ∧ Below w.heap.size w w' := by
  have h1 := parse_any [45, 46, 53] (by decide) w hG hE
  have e1 : parseS [45, 46, 53] = (-500000, 0) := by decide +kernel
  rw [e1] at h1
  go_enter Tryd.func9, Tryd.ntmps9
  go_wp2_with fail
  refine h1.mono ?_
  rintro e w1 ⟨rfl, hB1⟩
  clear h1
  go_wp2_with fail
  go_ret
  exact ⟨rfl, hB1⟩

theorem parse_bd (l : List UInt8) : -1000000000000000000 ≤ (parseS l).1 ∧ (parseS l).1 ≤ 1000000000000000000 ∧ 0 ≤ (parseS l).2 ∧ (parseS l).2 ≤ 2 := by
  by_cases h : (parseS l).2 = 0
  · have := (normal l h).1; omega
  · have h1 : (parseS l).1 = 0 := by
      rcases parseT_err (negB l) (unsigned l) with g | g
      · exact absurd g h
      · exact g
    rw [h1]
    refine ⟨by decide, by decide, ?_⟩
    unfold parseS
    rw [parse_form]
    split
    · simp
    · rcases fin_err (negB l) (str.cut1 46 (unsigned l)).1 (str.cut1 46 (unsigned l)).2.1 with g | g
      · rw [g]; simp
      · rw [g]; simp

set_option maxHeartbeats 800000 in
theorem parses_walk (l : List UInt8) (hl : (⟨l.toArray⟩ : ByteArray).size ≤ maxLen) (w : World) (hG : G w) (hE : GE w) :
    Calls Tryd.prog 4 #[.string ⟨l.toArray⟩] w fun e w' => e = .returned (.bool true) ∧ Below w.heap.size w w' := by
  rw [bsize] at hl
  unfold maxLen at hl
  go_enter Tryd.func4, Tryd.ntmps4
  go_wp2_with fail
  refine (wakes_any w hG hE).mono ?_
  rintro e w1 ⟨rfl, hB1⟩
  by_cases hlen : 16384 < l.length
  · go_wp2_with fail
    go_ret
    exact ⟨rfl, hB1⟩
  · have hc1 := parse_any l (by omega) w1 (hG.below hB1) (hE.below hB1)
    have hc2 := fun W => refparse_any l W (by omega)
    have hbd := parse_bd l
    generalize (parseS l).1 = n at *
    generalize (parseS l).2 = k at *
    go_wp2_with fail
    refine hc1.mono ?_
    rintro e w2 ⟨rfl, hB2⟩
    go_wp2_with fail
    refine (hc2 _).mono ?_
    rintro e w3 ⟨rfl, rfl⟩
    clear hc1 hc2
    have hB := below_trans hB1 hB2
    go_wp2_with fail
    go_ret
    exact ⟨rfl, hB⟩

set_option maxHeartbeats 800000 in
theorem back_walk (a0 : Int) (w0 : (Lit.int .i64 a0).wf = true) (w : World) (hG : G w) (hE : GE w) :
    Calls Tryd.prog 5 #[.int .i64 a0] w fun e w' => e = .returned (.bool true) ∧ Below w.heap.size w w' := by
  have b0 := bounds_i64 w0
  have hsl : (showS a0).length ≤ 100000000 := by
    have h1 := show_len a0 (decDigits (a0.natAbs / 1000000)) (frL 6 (a0.natAbs % 1000000)) (decide (a0 < 0)) (frL_val _ (Nat.mod_lt _ (by decide))).1 (dec_dig _).1 (frL_val _ (Nat.mod_lt _ (by decide))).2.2.1 (by
      rw [(dec_dig _).2, (frL_val _ (Nat.mod_lt _ (by decide))).2.2.2]
      have e : a0.natAbs / 1000000 * 1000000 + a0.natAbs % 1000000 = a0.natAbs := by omega
      rw [e, sgn_val a0 _ rfl])
    have h2 := nDigits_le (a0.natAbs / 1000000) (by omega)
    rw [← decDigits_length] at h2
    have h3 := (frL_val (a0.natAbs % 1000000) (Nat.mod_lt _ (by decide))).2.2.1
    split at h1 <;> split at h1 <;> omega
  have hps := parse_show a0
  generalize hx : showS a0 = x at *
  have hc1 := fun W hGW => show_any a0 b0.1 b0.2 W hGW
  rw [hx] at hc1
  have hc2 := fun W hGW hEW => parse_any x (by omega) W hGW hEW
  rw [hps] at hc2
  clear hps hx
  go_enter Tryd.func5, Tryd.ntmps5
  go_wp2_with fail
  refine (hc1 w hG).mono ?_
  rintro e w1 ⟨rfl, hB1⟩
  have hG1 := hG.below hB1
  have hE1 := hE.below hB1
  by_cases hb : a0.natAbs ≤ 1000000000000000000
  · rw [if_pos hb] at hc2
    have b1 : -1000000000000000000 ≤ a0 := by omega
    have b2 : a0 ≤ 1000000000000000000 := by omega
    clear hb
    go_wp2_with fail
    refine (hc2 w1 hG1 hE1).mono ?_
    rintro e w2 ⟨rfl, hB2⟩
    clear hc1 hc2
    go_wp2_with fail
    refine (wakes_any w2 (hG1.below hB2) (hE1.below hB2)).mono ?_
    rintro e w3 ⟨rfl, hB3⟩
    have hB := below_trans (below_trans hB1 hB2) hB3
    go_wp2_with fail
    go_ret
    exact ⟨rfl, hB⟩
  · rw [if_neg hb] at hc2
    by_cases hn : a0 < 0
    · have b1 : a0 < -1000000000000000000 := by omega
      clear hb
      go_wp2_with fail
      refine (hc2 w1 hG1 hE1).mono ?_
      rintro e w2 ⟨rfl, hB2⟩
      clear hc1 hc2
      go_wp2_with fail
      refine (wakes_any w2 (hG1.below hB2) (hE1.below hB2)).mono ?_
      rintro e w3 ⟨rfl, hB3⟩
      have hB := below_trans (below_trans hB1 hB2) hB3
      go_wp2_with fail
      go_ret
      exact ⟨rfl, hB⟩
    · have b1 : 1000000000000000000 < a0 := by omega
      clear hb
      go_wp2_with fail
      refine (hc2 w1 hG1 hE1).mono ?_
      rintro e w2 ⟨rfl, hB2⟩
      clear hc1 hc2
      go_wp2_with fail
      refine (wakes_any w2 (hG1.below hB2) (hE1.below hB2)).mono ?_
      rintro e w3 ⟨rfl, hB3⟩
      have hB := below_trans (below_trans hB1 hB2) hB3
      go_wp2_with fail
      go_ret
      exact ⟨rfl, hB⟩

set_option maxHeartbeats 800000 in
theorem normal_walk (l : List UInt8) (hl : (⟨l.toArray⟩ : ByteArray).size ≤ maxLen) (w : World) (hG : G w) (hE : GE w) :
    Calls Tryd.prog 6 #[.string ⟨l.toArray⟩] w fun e w' => e = .returned (.bool true) ∧ Below w.heap.size w w' := by
  rw [bsize] at hl
  unfold maxLen at hl
  go_enter Tryd.func6, Tryd.ntmps6
  go_wp2_with fail
  refine (wakes_any w hG hE).mono ?_
  rintro e w1 ⟨rfl, hB1⟩
  by_cases hlen : 16384 < l.length
  · go_wp2_with fail
    go_ret
    exact ⟨rfl, hB1⟩
  · have hG1 := hG.below hB1
    have hE1 := hE.below hB1
    have hc1 := parse_any l (by omega) w1 hG1 hE1
    have hbd := parse_bd l
    have hzero : (parseS l).2 = 0 ∨ (parseS l).1 = 0 := parseT_err (negB l) (unsigned l)
    have hnm := normal l
    generalize (parseS l).1 = n at *
    generalize (parseS l).2 = k at *
    by_cases hk : k = 0
    · subst hk
      obtain ⟨h1, h2⟩ := hnm rfl
      have hc2 := fun W hGW => show_any n (by omega) (by omega) W hGW
      have hps := parse_show n
      rw [if_pos h1] at hps
      generalize showS n = x at *
      have hc3 := fun W hGW hEW => parse_any x (by omega) W hGW hEW
      rw [hps] at hc3
      clear hps hzero hnm
      go_wp2_with fail
      refine hc1.mono ?_
      rintro e w2 ⟨rfl, hB2⟩
      have hG2 := hG1.below hB2
      have hE2 := hE1.below hB2
      go_wp2_with fail
      refine (hc2 w2 hG2).mono ?_
      rintro e w3 ⟨rfl, hB3⟩
      go_wp2_with fail
      refine (hc3 w3 (hG2.below hB3) (hE2.below hB3)).mono ?_
      rintro e w4 ⟨rfl, hB4⟩
      clear hc1 hc2 hc3
      have hB := below_trans (below_trans (below_trans hB1 hB2) hB3) hB4
      go_wp2_with fail
      go_ret
      exact ⟨ret_bool (decide_eq_true (by omega)), hB⟩
    · have hn0 : n = 0 := by
        rcases hzero with g | g
        · exact absurd g hk
        · exact g
      subst hn0
      have t1 : ((k : Int) != 0) = true := by simp; omega
      clear hzero hnm
      go_wp2_with fail
      refine hc1.mono ?_
      rintro e w2 ⟨rfl, hB2⟩
      clear hc1
      have hB := below_trans hB1 hB2
      go_wp2_with fail
      go_ret
      exact ⟨rfl, hB⟩
end Go.Proofs.YtbndlpmhbocbjaaDoor.num
