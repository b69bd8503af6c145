/- The contracts of the reader's year, date, month, week. -/
import Derived.Test.YtfmelhpegcpbiaaGreatDoorZSteps3
namespace Go.Proofs.YtfmelhpegcpbiaaGreatDoor.mom
open Go.ChangeShapes Go.WideShapes Go.ChangeAt Go.RowKit Go.Lib Go.Proofs.YtfmelhpegcpbiaaGreatDoor.num Go.Proofs.YtfmelhpegcpbiaaGreatDoor.days Go.Proofs.YtfmelhpegcpbiaaGreatDoor.cal

/-- what a reader's method says -/
def StepPost (F : List UInt8 → Option (Int × List UInt8)) (w0 : World) (B : Nat) (rest : List UInt8) (bad : Bool) (e : Ending) (w' : World) : Prop :=
  ∃ v r2 bad2, e = .returned (.int .i64 v) ∧ Ro w0 w' B r2 bad2 ∧ stepRel F rest bad v r2 bad2

/-- .. and between which bounds -/
def StepPostB (F : List UInt8 → Option (Int × List UInt8)) (lo hi : Int) (w0 : World) (B : Nat) (rest : List UInt8) (bad : Bool) (e : Ending) (w' : World) : Prop :=
  ∃ v r2 bad2, e = .returned (.int .i64 v) ∧ Ro w0 w' B r2 bad2 ∧ stepRel F rest bad v r2 bad2 ∧ lo ≤ v ∧ v ≤ hi

set_option maxHeartbeats 1600000 in
set_option maxRecDepth 100000 in
theorem year_any (w0 w : World) (B : Nat) (rest : List UInt8) (bad : Bool) (h : Ro w0 w B rest bad) (hE : GE w0) :
    Calls Tryz.prog 122 #[.pointer (some ⟨B, 0, none⟩)] w (StepPost yearI w0 B rest bad) := by
  unfold StepPost
  have c0 := h.rd.c0
  have hsm := h.small
  have hd := digits_any w0 w B rest bad 4 rest.length 4 rest.length rfl rfl (by decide) (by decide) hsm h hE
  go_enter Tryz.func122, Tryz.ntmps122
  go_wp2_with fail
  refine hd.mono ?_
  rintro e w1 ⟨v, r1, b1, rfl, h1, hr⟩
  clear hd c0
  have hs := dig_year rest r1 bad b1 v hr
  have HS := Lib.hid hs
  obtain ⟨v1, v2⟩ := hr.1
  clear hs hr
  by_cases g1 : 1 ≤ v
  · by_cases g2 : v ≤ 275760
    · have hm := must_any w0 w1 B r1 b1 true h1
      have HT : Hid (stepRel yearI rest bad v r1 (b1 || !true)) := Lib.hid (by have := HS.out; rwa [decide_eq_true g1, decide_eq_true g2] at this)
      clear HS
      go_wp2_with fail
      refine hm.mono ?_
      rintro e w2 ⟨⟨u, rfl⟩, h2⟩
      go_wp2_with fail
      go_ret
      exact ⟨v, r1, _, rfl, h2, HT.out⟩
    · have hm := must_any w0 w1 B r1 b1 false h1
      have e2 : decide (v ≤ 275760) = false := decide_eq_false g2
      have HT : Hid (stepRel yearI rest bad v r1 (b1 || !false)) := Lib.hid (by have := HS.out; rwa [decide_eq_true g1, decide_eq_false g2] at this)
      clear HS
      go_wp2_with fail
      refine hm.mono ?_
      rintro e w2 ⟨⟨u, rfl⟩, h2⟩
      go_wp2_with fail
      go_ret
      exact ⟨v, r1, _, rfl, h2, HT.out⟩
  · have hm := must_any w0 w1 B r1 b1 false h1
    have HT : Hid (stepRel yearI rest bad v r1 (b1 || !false)) := Lib.hid (by have := HS.out; rwa [decide_eq_false g1, Bool.false_and] at this)
    clear HS
    go_wp2_with fail
    refine hm.mono ?_
    rintro e w2 ⟨⟨u, rfl⟩, h2⟩
    go_wp2_with fail
    go_ret
    exact ⟨v, r1, _, rfl, h2, HT.out⟩

theorem two_any (w0 w : World) (B : Nat) (rest : List UInt8) (bad : Bool) (h : Ro w0 w B rest bad) (hE : GE w0) :
    Calls Tryz.prog 124 #[.pointer (some ⟨B, 0, none⟩), .int .i64 2, .int .i64 2] w fun e w' => ∃ v r2 bad2, e = .returned (.int .i64 v) ∧ Ro w0 w' B r2 bad2 ∧ (0 ≤ v ∧ v ≤ 999) ∧ stepRel twoI rest bad v r2 bad2 := by
  refine (digits_any w0 w B rest bad 2 2 2 2 rfl rfl (by decide) (by decide) (by decide) h hE).mono ?_
  rintro e w' ⟨v, r2, b2, he, hr, hd⟩
  exact ⟨v, r2, b2, he, hr, dig2_small rest r2 bad b2 v 2 2 (by decide) hd, dig_two rest r2 bad b2 v hd⟩
theorem sign1 (c : UInt8) (w0 w : World) (B : Nat) (rest : List UInt8) (bad : Bool) (h : Ro w0 w B rest bad) :
    Calls Tryz.prog 123 #[.pointer (some ⟨B, 0, none⟩), .string ⟨#[c]⟩] w fun e w' => (∃ v, e = .returned v) ∧ Ro w0 w' B (Lib.trimPrefix rest [c]) (bad || !(Lib.hasPrefix rest [c])) := sign_any w0 w B rest bad [c] h
theorem sign2 (c d : UInt8) (w0 w : World) (B : Nat) (rest : List UInt8) (bad : Bool) (h : Ro w0 w B rest bad) :
    Calls Tryz.prog 123 #[.pointer (some ⟨B, 0, none⟩), .string ⟨#[c, d]⟩] w fun e w' => (∃ v, e = .returned v) ∧ Ro w0 w' B (Lib.trimPrefix rest [c, d]) (bad || !(Lib.hasPrefix rest [c, d])) := sign_any w0 w B rest bad [c, d] h

theorem numE_ways (y m d : Int) : ((numE y m d).2 = 0 ∧ -800000 ≤ (numE y m d).1 ∧ (numE y m d).1 ≤ 200000000) ∨ ((numE y m d).2 = 2 ∧ (numE y m d).1 = 0) := by
  unfold numE
  split
  · left
    rename_i g
    obtain ⟨g1, g2, g3, g4, g5, g6⟩ := g
    have hy := num_year y m d ⟨g3, g4, g5, g6⟩
    have := newY_bound y g1 (by omega)
    have := newY_bound (y + 1) (by omega) (by omega)
    exact ⟨rfl, by show _ ≤ numD y m d; omega, by show numD y m d ≤ _; omega⟩
  · right; exact ⟨rfl, rfl⟩
theorem monE_ways (y k : Int) : ((monE y k).2 = 0 ∧ -800000 ≤ (monE y k).1 ∧ (monE y k).1 ≤ 200000000) ∨ ((monE y k).2 = 2 ∧ (monE y k).1 = 0) := by
  unfold monE
  split
  · left
    rename_i g
    have := firstW_bound y (by omega) (by omega)
    have := weeksW_pos y
    exact ⟨rfl, by show _ ≤ firstW y + 7 * (k - 1); omega, by show firstW y + 7 * (k - 1) ≤ _; omega⟩
  · right; exact ⟨rfl, rfl⟩

set_option maxHeartbeats 1600000 in
set_option maxRecDepth 100000 in
theorem date_r (w0 w : World) (B : Nat) (rest : List UInt8) (bad : Bool) (h : Ro w0 w B rest bad) (hE : GE w0) :
    Calls Tryz.prog 80 #[.pointer (some ⟨B, 0, none⟩)] w (StepPostB dateP (-100000000000000000) 100000000000000000 w0 B rest bad) := by
  unfold StepPostB
  have hy := year_any w0 w B rest bad h hE
  unfold StepPost at hy
  go_enter Tryz.func80, Tryz.ntmps80
  go_wp2_with fail
  refine hy.mono ?_
  rintro e w1 ⟨y, r1, b1, rfl, h1, k1⟩
  have K1 := Lib.hid k1
  have hyi := k1.1
  clear hy k1
  go_wp2_with fail
  refine (sign1 45 w0 w1 B r1 b1 h1).mono ?_
  rintro e w2 ⟨⟨u2, rfl⟩, h2⟩
  go_wp2_with fail
  refine (two_any w0 w2 B _ _ h2 hE).mono ?_
  rintro e w3 ⟨m, r3, b3, rfl, h3, hm, k3⟩
  have K3 := Lib.hid k3
  clear k3
  go_wp2_with fail
  refine (sign1 45 w0 w3 B r3 b3 h3).mono ?_
  rintro e w4 ⟨⟨u4, rfl⟩, h4⟩
  go_wp2_with fail
  refine (two_any w0 w4 B _ _ h4 hE).mono ?_
  rintro e w5 ⟨d, r5, b5, rfl, h5, hd, k5⟩
  have K5 := Lib.hid k5
  clear k5
  have hn := number_any y m d hyi ⟨by omega, by omega⟩ ⟨by omega, by omega⟩ w5
  have HC : Hid (stepRel dateP rest bad ((numE y m d).1 * 86400000) r5 (b5 || !(decide ((numE y m d).2 = 0)))) := Lib.hid (date_comp rest r1 r3 r5 bad b1 b3 b5 y m d K1.out K3.out K5.out)
  have hw := numE_ways y m d
  generalize numE y m d = ne at *
  obtain ⟨n, ee⟩ := ne
  dsimp only at hn hw
  clear K1 K3 K5 hm hd hyi h1 h2 h3 h4
  rcases hw with ⟨rfl, n1, n2⟩ | ⟨rfl, rfl⟩
  · have hmu := must_any w0 w5 B r5 b5 true h5
    go_wp2_with fail
    refine hn.mono ?_
    rintro e w6 ⟨rfl, rfl⟩
    go_wp2_with fail
    refine hmu.mono ?_
    rintro e w7 ⟨⟨u7, rfl⟩, h7⟩
    go_wp2_with fail
    go_ret
    exact ⟨_, r5, _, rfl, h7, HC.out, by omega, by omega⟩
  · have hmu := must_any w0 w5 B r5 b5 false h5
    go_wp2_with fail
    refine hn.mono ?_
    rintro e w6 ⟨rfl, rfl⟩
    go_wp2_with fail
    refine hmu.mono ?_
    rintro e w7 ⟨⟨u7, rfl⟩, h7⟩
    go_wp2_with fail
    go_ret
    exact ⟨_, r5, _, rfl, h7, HC.out, by omega, by omega⟩

set_option maxHeartbeats 1600000 in
set_option maxRecDepth 100000 in
theorem week_r (w0 w : World) (B : Nat) (rest : List UInt8) (bad : Bool) (h : Ro w0 w B rest bad) (hE : GE w0) :
    Calls Tryz.prog 82 #[.pointer (some ⟨B, 0, none⟩)] w (StepPost weekP w0 B rest bad) := by
  unfold StepPost
  have hy := year_any w0 w B rest bad h hE
  unfold StepPost at hy
  go_enter Tryz.func82, Tryz.ntmps82
  go_wp2_with fail
  refine hy.mono ?_
  rintro e w1 ⟨y, r1, b1, rfl, h1, k1⟩
  have K1 := Lib.hid k1
  have hyi := k1.1
  clear hy k1
  go_wp2_with fail
  refine (sign2 45 87 w0 w1 B r1 b1 h1).mono ?_
  rintro e w2 ⟨⟨u2, rfl⟩, h2⟩
  go_wp2_with fail
  refine (two_any w0 w2 B _ _ h2 hE).mono ?_
  rintro e w5 ⟨d, r5, b5, rfl, h5, hd, k5⟩
  have K5 := Lib.hid k5
  clear k5
  have hn := monday_any y d hyi ⟨by omega, by omega⟩ w5
  have HC : Hid (stepRel weekP rest bad ((monE y d).1 * 86400000) r5 (b5 || !(decide ((monE y d).2 = 0)))) := Lib.hid (week_comp rest r1 r5 bad b1 b5 y d K1.out K5.out)
  have hw := monE_ways y d
  generalize monE y d = ne at *
  obtain ⟨n, ee⟩ := ne
  dsimp only at hn hw
  clear K1 K5 hd hyi h1 h2
  rcases hw with ⟨rfl, n1, n2⟩ | ⟨rfl, rfl⟩
  · have hmu := must_any w0 w5 B r5 b5 true h5
    go_wp2_with fail
    refine hn.mono ?_
    rintro e w6 ⟨rfl, rfl⟩
    go_wp2_with fail
    refine hmu.mono ?_
    rintro e w7 ⟨⟨u7, rfl⟩, h7⟩
    go_wp2_with fail
    go_ret
    exact ⟨_, r5, _, rfl, h7, HC.out⟩
  · have hmu := must_any w0 w5 B r5 b5 false h5
    go_wp2_with fail
    refine hn.mono ?_
    rintro e w6 ⟨rfl, rfl⟩
    go_wp2_with fail
    refine hmu.mono ?_
    rintro e w7 ⟨⟨u7, rfl⟩, h7⟩
    go_wp2_with fail
    go_ret
    exact ⟨_, r5, _, rfl, h7, HC.out⟩

theorem wrap_int64 (n : Int) : int64 (wrap64 n) := by
  unfold int64 wrap64
  omega

set_option maxHeartbeats 1600000 in
set_option maxRecDepth 100000 in
theorem month_r (w0 w : World) (B : Nat) (rest : List UInt8) (bad : Bool) (h : Ro w0 w B rest bad) (hE : GE w0) :
    Calls Tryz.prog 81 #[.pointer (some ⟨B, 0, none⟩)] w (StepPost monthP w0 B rest bad) := by
  unfold StepPost
  have hy := year_any w0 w B rest bad h hE
  unfold StepPost at hy
  go_enter Tryz.func81, Tryz.ntmps81
  go_wp2_with fail
  refine hy.mono ?_
  rintro e w1 ⟨y, r1, b1, rfl, h1, k1⟩
  have K1 := Lib.hid k1
  have hyi := k1.1
  clear hy k1
  go_wp2_with fail
  refine (sign1 45 w0 w1 B r1 b1 h1).mono ?_
  rintro e w2 ⟨⟨u2, rfl⟩, h2⟩
  go_wp2_with fail
  refine (two_any w0 w2 B _ _ h2 hE).mono ?_
  rintro e w3 ⟨m, r3, b3, rfl, h3, hm, k3⟩
  have K3 := Lib.hid k3
  clear k3
  obtain ⟨m1, m2⟩ := hm
  have HC : Hid (∀ v, int64 v → (1 ≤ y → y ≤ 275760 → 0 ≤ m → m < 100 → v = 12 * (y - 1970) + m - 1) → stepRel monthP rest bad v r3 (b3 || !(decide (1 ≤ m) && decide (m ≤ 12)))) := Lib.hid (fun v a b => month_comp rest r1 r3 bad b1 b3 y m v K1.out K3.out a b)
  clear K1 K3 h1 h2
  by_cases hyy : 1 ≤ y ∧ y ≤ 275760
  · obtain ⟨y1, y2⟩ := hyy
    have HC2 : Hid (stepRel monthP rest bad (12 * (y - 1970) + m - 1) r3 (b3 || !(decide (1 ≤ m) && decide (m ≤ 12)))) := Lib.hid (HC.out _ ⟨by omega, by omega⟩ (fun _ _ _ _ => rfl))
    clear HC hyi
    by_cases g1 : 1 ≤ m
    · by_cases g2 : m ≤ 12
      · rw [decide_eq_true g1, decide_eq_true g2] at HC2
        have hmu := must_any w0 w3 B r3 b3 true h3
        go_wp2_with fail
        refine hmu.mono ?_
        rintro e w7 ⟨⟨u7, rfl⟩, h7⟩
        go_wp2_with fail
        go_ret
        exact ⟨_, r3, _, rfl, h7, HC2.out⟩
      · rw [decide_eq_true g1, decide_eq_false g2] at HC2
        have e2 : decide (m ≤ 12) = false := decide_eq_false g2
        have hmu := must_any w0 w3 B r3 b3 false h3
        go_wp2_with fail
        refine hmu.mono ?_
        rintro e w7 ⟨⟨u7, rfl⟩, h7⟩
        go_wp2_with fail
        go_ret
        exact ⟨_, r3, _, rfl, h7, HC2.out⟩
    · rw [decide_eq_false g1, Bool.false_and] at HC2
      have hmu := must_any w0 w3 B r3 b3 false h3
      go_wp2_with fail
      refine hmu.mono ?_
      rintro e w7 ⟨⟨u7, rfl⟩, h7⟩
      go_wp2_with fail
      go_ret
      exact ⟨_, r3, _, rfl, h7, HC2.out⟩
  · have HC2 : Hid (∀ v, int64 v → stepRel monthP rest bad v r3 (b3 || !(decide (1 ≤ m) && decide (m ≤ 12)))) := Lib.hid (fun v a => HC.out v a (fun b c => absurd ⟨b, c⟩ hyy))
    obtain ⟨y1, y2⟩ := hyi
    clear HC hyy
    by_cases g1 : 1 ≤ m
    · by_cases g2 : m ≤ 12
      · rw [decide_eq_true g1, decide_eq_true g2] at HC2
        have hmu := must_any w0 w3 B r3 b3 true h3
        go_wp2_with fail
        refine hmu.mono ?_
        rintro e w7 ⟨⟨u7, rfl⟩, h7⟩
        go_wp2_with fail
        go_ret
        exact ⟨_, r3, _, rfl, h7, HC2.out _ (wrap_int64 _)⟩
      · rw [decide_eq_true g1, decide_eq_false g2] at HC2
        have e2 : decide (m ≤ 12) = false := decide_eq_false g2
        have hmu := must_any w0 w3 B r3 b3 false h3
        go_wp2_with fail
        refine hmu.mono ?_
        rintro e w7 ⟨⟨u7, rfl⟩, h7⟩
        go_wp2_with fail
        go_ret
        exact ⟨_, r3, _, rfl, h7, HC2.out _ (wrap_int64 _)⟩
    · rw [decide_eq_false g1, Bool.false_and] at HC2
      have hmu := must_any w0 w3 B r3 b3 false h3
      go_wp2_with fail
      refine hmu.mono ?_
      rintro e w7 ⟨⟨u7, rfl⟩, h7⟩
      go_wp2_with fail
      go_ret
      exact ⟨_, r3, _, rfl, h7, HC2.out _ (wrap_int64 _)⟩
end Go.Proofs.YtfmelhpegcpbiaaGreatDoor.mom
