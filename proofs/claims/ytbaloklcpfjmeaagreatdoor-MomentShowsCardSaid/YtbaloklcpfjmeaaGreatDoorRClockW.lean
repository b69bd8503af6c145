/- The contract of the reference's clock. -/
import Derived.Test.YtbaloklcpfjmeaaGreatDoorRClock
namespace Go.Proofs.YtbaloklcpfjmeaaGreatDoor.mom
open Go.ChangeShapes Go.WideShapes Go.ChangeAt Go.RowKit Go.Lib Go.Proofs.YtbaloklcpfjmeaaGreatDoor.num Go.Proofs.YtbaloklcpfjmeaaGreatDoor.cal Go.Proofs.YtbaloklcpfjmeaaGreatDoor.days

theorem tells_yes {o : Option Int} {n m : Int} (h : o = some n) (e : m = n) (h1 : -100000000000000000 ≤ n) (h2 : n ≤ 100000000000000000) : Tells o (.returned (.tuple #[.int .i64 m, .bool true])) := ⟨n, true, by rw [e], h, h1, h2⟩
def digsTo (l : List UInt8) (k : Nat) : Prop := ∀ j, 9 ≤ j → j < k → digR l j = true

set_option maxHeartbeats 3200000 in
set_option maxRecDepth 100000 in
theorem rclock_any (l : List UInt8) (hl : l.length ≤ 1000000000) (w : World) :
    Calls Tryz.prog 41 #[.string ⟨l.toArray⟩] w fun e w' => Tells (clockR l) e ∧ Below w.heap.size w w' := by
  rw [clockR_L]
  have ha := fun w => rat_any l 2 2 [58] rfl hl (by decide) (by decide) w
  have hb := fun w => rat_any l 5 5 [58] rfl hl (by decide) (by decide) w
  have hc := fun w => rat_any l 8 8 [46] rfl hl (by decide) (by decide) w
  rw [atR_one] at ha hb hc
  have t0 := fun w => rtwo_any l 0 0 rfl hl (by decide) w
  have t3 := fun w => rtwo_any l 3 3 rfl hl (by decide) w
  have t6 := fun w => rtwo_any l 6 6 rfl hl (by decide) w
  obtain ⟨p1, p2⟩ := twoR_bound l 0
  obtain ⟨p3, p4⟩ := twoR_bound l 3
  obtain ⟨p5, p6⟩ := twoR_bound l 6
  have HF : Hid (∃ f, f = fracR l) := Lib.hid ⟨_, rfl⟩
  obtain ⟨f, hf⟩ := HF.out
  rw [← hf]
  have HFR := Lib.hid hf
  clear hf HF
  generalize signR l 2 58 = x1 at *
  generalize signR l 5 58 = x2 at *
  generalize signR l 8 46 = x3 at *
  generalize twoR l 0 = h at *
  generalize twoR l 3 = m at *
  generalize twoR l 6 = s at *
  obtain ⟨v, hv⟩ : ∃ v, v = clockL l.length x1 h m x2 s x3 f := ⟨_, rfl⟩
  rw [← hv]
  unfold clockL at hv
  have HV := Lib.hid hv
  clear hv
  go_enter Tryz.func41, Tryz.ntmps41
  by_cases g5 : l.length < 5
  · have HN : Hid (v = none) := Lib.hid (by rw [HV.out, if_pos (Or.inl g5)])
    go_wp2_with fail
    go_ret2
    exact ⟨tells_no HN.out, Below.refl _ _⟩
  go_wp2_with fail
  refine (ha _).mono ?_
  rintro e w' ⟨rfl, rfl⟩
  cases x1
  · have HN : Hid (v = none) := Lib.hid (by rw [HV.out, if_pos (Or.inr rfl)])
    go_wp2_with fail
    go_ret2
    exact ⟨tells_no HN.out, Below.refl _ _⟩
  have HV1 := Lib.hid (HV.out.trans (if_neg (by simp; omega)))
  clear HV ha
  go_wp2_with fail
  refine (t0 _).mono ?_
  rintro e w1 ⟨rfl, hB1⟩
  go_wp2_with fail
  refine (t3 _).mono ?_
  rintro e w2 ⟨rfl, hB2⟩
  have hB := below_trans hB1 hB2
  clear hB1 hB2 t0 t3
  by_cases g : h < 0
  · have HN : Hid (v = none) := Lib.hid (by rw [HV1.out, if_pos (by omega)])
    go_wp2_with fail
    go_ret2
    exact ⟨tells_no HN.out, hB⟩
  by_cases g : 23 < h
  · have HN : Hid (v = none) := Lib.hid (by rw [HV1.out, if_pos (by omega)])
    go_wp2_with fail
    go_ret2
    exact ⟨tells_no HN.out, hB⟩
  by_cases g : m < 0
  · have HN : Hid (v = none) := Lib.hid (by rw [HV1.out, if_pos (by omega)])
    go_wp2_with fail
    go_ret2
    exact ⟨tells_no HN.out, hB⟩
  by_cases g : 59 < m
  · have HN : Hid (v = none) := Lib.hid (by rw [HV1.out, if_pos (by omega)])
    go_wp2_with fail
    go_ret2
    exact ⟨tells_no HN.out, hB⟩
  have HV2 := Lib.hid (HV1.out.trans (if_neg (by omega)))
  clear HV1
  by_cases e5 : l.length = 5
  · have e5' : ((l.length : Int) == 5) = true := by simp; omega
    have HN := Lib.hid (HV2.out.trans (if_pos e5))
    clear e5
    go_wp2_with fail
    go_ret2
    exact ⟨tells_yes HN.out rfl (by omega) (by omega), hB⟩
  have e5' : ((l.length : Int) == 5) = false := by simp; omega
  have HV3 := Lib.hid (HV2.out.trans (if_neg e5))
  clear HV2 e5
  go_wp2_with fail
  refine (t6 _).mono ?_
  rintro e w3 ⟨rfl, hB3⟩
  have hB' := below_trans hB hB3
  clear hB hB3 t6
  go_wp2_with fail
  refine (hb _).mono ?_
  rintro e w' ⟨rfl, rfl⟩
  clear hb
  cases x2
  · have HN : Hid (v = none) := Lib.hid (by rw [HV3.out, if_pos (Or.inl rfl)])
    go_wp2_with fail
    go_ret2
    exact ⟨tells_no HN.out, hB'⟩
  by_cases g : s < 0
  · have HN : Hid (v = none) := Lib.hid (by rw [HV3.out, if_pos (by omega)])
    go_wp2_with fail
    go_ret2
    exact ⟨tells_no HN.out, hB'⟩
  by_cases g : 59 < s
  · have HN : Hid (v = none) := Lib.hid (by rw [HV3.out, if_pos (by omega)])
    go_wp2_with fail
    go_ret2
    exact ⟨tells_no HN.out, hB'⟩
  have HV4 := Lib.hid (HV3.out.trans (if_neg (by simp; omega)))
  clear HV3
  by_cases e8 : l.length = 8
  · have e8' : ((l.length : Int) == 8) = true := by simp; omega
    have HN := Lib.hid (HV4.out.trans (if_pos e8))
    clear e8
    go_wp2_with fail
    go_ret2
    exact ⟨tells_yes HN.out rfl (by omega) (by omega), hB'⟩
  have e8' : ((l.length : Int) == 8) = false := by simp; omega
  have HV5 := Lib.hid (HV4.out.trans (if_neg e8))
  clear HV4 e8
  go_wp2_with fail
  refine (hc _).mono ?_
  rintro e w' ⟨rfl, rfl⟩
  clear hc
  cases x3
  · have HN : Hid (v = none) := Lib.hid (by rw [HV5.out, if_pos (Or.inl rfl)])
    go_wp2_with fail
    go_ret2
    exact ⟨tells_no HN.out, hB'⟩
  by_cases g10 : l.length < 10
  · have HN : Hid (v = none) := Lib.hid (by rw [HV5.out, if_pos (Or.inr (Or.inl g10))])
    go_wp2_with fail
    go_ret2
    exact ⟨tells_no HN.out, hB'⟩
  by_cases g12 : 12 < l.length
  · have HN : Hid (v = none) := Lib.hid (by rw [HV5.out, if_pos (Or.inr (Or.inr g12))])
    go_wp2_with fail
    go_ret2
    exact ⟨tells_no HN.out, hB'⟩
  have HV6 := Lib.hid (HV5.out.trans (if_neg (by simp; omega)))
  clear HV5
  go_wp2_with fail
  have g10' : 10 ≤ l.length := by omega
  have g12' : l.length ≤ 12 := by omega
  clear g5 g10 g12
  go_loopw [6, 8, 9] (fun s6 s8 s9 wr => ∃ (k p u : Nat), s9 = .int .i64 k ∧ s6 = .int .i64 (h * 3600000 + m * 60000 + s * 1000 + p) ∧ s8 = .int .i64 u ∧ p ≤ (k - 9) * 900 ∧ k ≤ l.length ∧ (k = 9 ∧ u = 100 ∨ k = 10 ∧ u = 10 ∨ k = 11 ∧ u = 1 ∨ k = 12 ∧ u = 0) ∧ Hid (p = pv l k ∧ digsTo l k) ∧ Below w.heap.size w wr) (fun _ _ s9 _ => (13 - intOf s9).toNat)
  case atStart => exact ⟨9, 0, 100, rfl, by first | rfl | (congr 1; omega), rfl, by omega, by omega, by omega, Lib.hid ⟨(pv_9 l).symm, fun j a b => by omega⟩, hB'⟩
  case round =>
    obtain ⟨k, p, u, rfl, rfl, rfl, hp, hk, hu, hh, hB⟩ := hrel
    have hd := fun w => rdigit_any l k k rfl hl (by omega) w
    by_cases hn : k < l.length
    · cases hq : digR l k with
      | false =>
        have HN : Hid (v = none) := Lib.hid (by rw [HV6.out, HFR.out, frac_no l k (by omega) hn hq]; rfl)
        rw [hq] at hd
        clear hq hu
        go_wp2_with fail
        refine (hd _).mono ?_
        rintro e w' ⟨rfl, rfl⟩
        go_wp2_with fail
        go_ret2
        exact ⟨tells_no HN.out, hB⟩
      | true =>
        obtain ⟨k1, c, q1, v1, c1, c2⟩ := digR_byte l k hq
        have hcn := c.toNat_lt
        rw [hq] at hd
        rcases hu with ⟨rfl, rfl⟩ | ⟨rfl, rfl⟩ | ⟨rfl, rfl⟩ | ⟨rfl, rfl⟩
        · have HP : Hid (p + (c.toNat - 48) * 100 = pv l (9 + 1) ∧ digsTo l (9 + 1)) := Lib.hid (by
            refine ⟨?_, fun j a b => ?_⟩
            · rw [pv_next l 9 100 (by decide) (by decide) (by decide) hq, v1, hh.out.1]
            · rcases Nat.lt_or_ge j 9 with g | g
              · exact hh.out.2 j a g
              · rw [show j = 9 from by omega]; exact hq)
          clear hq hh v1
          go_wp2_with fail
          refine (hd _).mono ?_
          rintro e w' ⟨rfl, rfl⟩
          go_wp2_with fail
          go_roundw
          case rel => exact ⟨10, p + (c.toNat - 48) * 100, 10, rfl, by first | rfl | (congr 1; omega), by first | rfl | (congr 1; omega), by omega, by omega, by omega, HP, hB⟩
          case measure => simp [RowKit.intOf]
        · have HP : Hid (p + (c.toNat - 48) * 10 = pv l (10 + 1) ∧ digsTo l (10 + 1)) := Lib.hid (by
            refine ⟨?_, fun j a b => ?_⟩
            · rw [pv_next l 10 10 (by decide) (by decide) (by decide) hq, v1, hh.out.1]
            · rcases Nat.lt_or_ge j 10 with g | g
              · exact hh.out.2 j a g
              · rw [show j = 10 from by omega]; exact hq)
          clear hq hh v1
          go_wp2_with fail
          refine (hd _).mono ?_
          rintro e w' ⟨rfl, rfl⟩
          go_wp2_with fail
          go_roundw
          case rel => exact ⟨11, p + (c.toNat - 48) * 10, 1, rfl, by first | rfl | (congr 1; omega), by first | rfl | (congr 1; omega), by omega, by omega, by omega, HP, hB⟩
          case measure => simp [RowKit.intOf]
        · have HP : Hid (p + (c.toNat - 48) * 1 = pv l (11 + 1) ∧ digsTo l (11 + 1)) := Lib.hid (by
            refine ⟨?_, fun j a b => ?_⟩
            · rw [pv_next l 11 1 (by decide) (by decide) (by decide) hq, v1, hh.out.1]
            · rcases Nat.lt_or_ge j 11 with g | g
              · exact hh.out.2 j a g
              · rw [show j = 11 from by omega]; exact hq)
          clear hq hh v1
          go_wp2_with fail
          refine (hd _).mono ?_
          rintro e w' ⟨rfl, rfl⟩
          go_wp2_with fail
          go_roundw
          case rel => exact ⟨12, p + (c.toNat - 48) * 1, 0, rfl, by first | rfl | (congr 1; omega), by first | rfl | (congr 1; omega), by omega, by omega, by omega, HP, hB⟩
          case measure => simp [RowKit.intOf]
        · omega
    · have ek : k = l.length := by omega
      have HN : Hid (v = some (h * 3600000 + m * 60000 + s * 1000 + p)) := Lib.hid (by
        rw [HV6.out, HFR.out, frac_yes l (by omega) (fun j a b => hh.out.2 j a (by omega)), hh.out.1, ek]; rfl)
      have hpb : p ≤ 2700 := by omega
      clear hu hd ek hh
      go_wp2_with fail
      go_ret2
      exact ⟨tells_yes HN.out (by omega) (by omega) (by omega), hB⟩
end Go.Proofs.YtbaloklcpfjmeaaGreatDoor.mom
