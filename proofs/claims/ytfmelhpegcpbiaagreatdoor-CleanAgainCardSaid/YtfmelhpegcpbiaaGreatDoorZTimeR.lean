/- The contracts of the reader's time and local. -/
import Derived.Test.YtfmelhpegcpbiaaGreatDoorZWalksR
namespace Go.Proofs.YtfmelhpegcpbiaaGreatDoor.mom
open Go.ChangeShapes Go.WideShapes Go.ChangeAt Go.RowKit Go.Lib Go.Proofs.YtfmelhpegcpbiaaGreatDoor.num Go.Proofs.YtfmelhpegcpbiaaGreatDoor.days Go.Proofs.YtfmelhpegcpbiaaGreatDoor.cal

theorem haspre_any (l p : List UInt8) (w : World) :
    Calls Tryz.prog 128 #[.string ⟨l.toArray⟩, .string ⟨p.toArray⟩] w fun e w' => e = .returned (.bool (Lib.hasPrefix l p)) ∧ w = w' := by
  refine (Tryz.strings_HasPrefix ⟨l.toArray⟩ ⟨p.toArray⟩ w).mono ?_
  rintro e w' ⟨rfl, rfl⟩
  exact ⟨rfl, rfl⟩
theorem haspre1 (l : List UInt8) (c : UInt8) (w : World) :
    Calls Tryz.prog 128 #[.string ⟨l.toArray⟩, .string ⟨#[c]⟩] w fun e w' => e = .returned (.bool (Lib.hasPrefix l [c])) ∧ w = w' := haspre_any l [c] w

set_option maxHeartbeats 3200000 in
set_option maxRecDepth 100000 in
theorem time_r (w0 w : World) (B : Nat) (rest : List UInt8) (bad : Bool) (h : Ro w0 w B rest bad) (hE : GE w0) :
    Calls Tryz.prog 83 #[.pointer (some ⟨B, 0, none⟩)] w (StepPostB timeP 0 10000000000 w0 B rest bad) := by
  unfold StepPostB
  go_enter Tryz.func83, Tryz.ntmps83
  go_wp2_with fail
  refine (two_any w0 w B _ _ h hE).mono ?_
  rintro e w1 ⟨hh, r1, b1, rfl, h1, hm1, k1⟩
  have K1 := Lib.hid k1
  clear k1
  go_wp2_with fail
  refine (sign1 58 w0 w1 B r1 b1 h1).mono ?_
  rintro e w2 ⟨⟨u2, rfl⟩, h2⟩
  go_wp2_with fail
  refine (two_any w0 w2 B _ _ h2 hE).mono ?_
  rintro e w3 ⟨m, r3, b3, rfl, h3, hm3, k3⟩
  have HC : Hid (stepRel timeH rest bad ((hh * 60 + m) * 60000) r3 (b3 || !(decide (hh < 24) && decide (m < 60)))) := Lib.hid (timeH_comp rest r1 r3 bad b1 b3 hh m hm1 hm3 K1.out k3)
  clear k3 K1
  have HM : Hid (∀ w' , Ro w0 w' B r3 (b3 || !(decide (hh < 24) && decide (m < 60))) → Ro w0 w' B r3 (b3 || !(decide (hh < 24) && decide (m < 60)))) := Lib.hid (fun _ h => h)
  obtain ⟨b4, hb4⟩ : ∃ b4, b4 = (b3 || !(decide (hh < 24) && decide (m < 60))) := ⟨_, rfl⟩
  rw [← hb4] at HC
  have HB4 := Lib.hid hb4
  clear hb4 HM h1 h2
  obtain ⟨hh1, hh2⟩ := hm1
  obtain ⟨m1, m2⟩ := hm3
  go_upto_region 4 with fail
  go_cut [] (fun wx => Ro w0 wx B r3 b4)
  case first =>
    by_cases g1 : hh < 24
    · by_cases g2 : m < 60
      · have hmu := must_any w0 w3 B r3 b3 true h3
        have e2 : decide (m < 60) = true := decide_eq_true g2
        have HE : Hid (b4 = (b3 || !true)) := Lib.hid (by rw [HB4.out, decide_eq_true g1, e2]; rfl)
        go_wp2_with fail
        refine hmu.mono ?_
        rintro e w7 ⟨⟨u7, rfl⟩, h7⟩
        go_wp2_with fail
        go_meet
        rw [HE.out]; exact h7
      · have hmu := must_any w0 w3 B r3 b3 false h3
        have e2 : decide (m < 60) = false := decide_eq_false g2
        have HE : Hid (b4 = (b3 || !false)) := Lib.hid (by rw [HB4.out, decide_eq_true g1, e2]; rfl)
        go_wp2_with fail
        refine hmu.mono ?_
        rintro e w7 ⟨⟨u7, rfl⟩, h7⟩
        go_wp2_with fail
        go_meet
        rw [HE.out]; exact h7
    · have hmu := must_any w0 w3 B r3 b3 false h3
      have HE : Hid (b4 = (b3 || !false)) := Lib.hid (by rw [HB4.out, decide_eq_false g1, Bool.false_and])
      go_wp2_with fail
      refine hmu.mono ?_
      rintro e w7 ⟨⟨u7, rfl⟩, h7⟩
      go_wp2_with fail
      go_meet
      rw [HE.out]; exact h7
  case rest =>
  have h4 := hcut
  clear hcut h3 HB4
  have hp := haspre1 r3 58 wc
  have c0 := h4.rd.c0
  have hpre := pre1 58 r3
  cases hA : Lib.hasPrefix r3 [58]
  · rw [hA] at hp hpre
    have hne : r3.head? ≠ some 58 := by
      intro g; have := hpre.1; rw [g] at this; simp at this
    have HF : Hid (stepRel timeP rest bad ((hh * 60 + m) * 60000) r3 b4) := Lib.hid (time_A rest r3 bad b4 _ HC.out hne)
    clear hpre hne hA HC
    go_wp2_with fail
    refine hp.mono ?_
    rintro e w4 ⟨rfl, rfl⟩
    go_wp2_with fail
    go_ret
    exact ⟨_, r3, b4, rfl, h4, HF.out, by omega, by omega⟩
  · rw [hA] at hp hpre
    obtain ⟨t, ht⟩ : ∃ t, r3 = 58 :: t := by
      cases r3 with
      | nil => have := hpre.1; simp at this
      | cons a q => have := hpre.1; simp at this; exact ⟨q, by rw [this]⟩
    subst ht
    obtain ⟨s1, s2⟩ := sg_cons 58 t
    have hsg := sign1 58 w0 wc B (58 :: t) b4 h4
    rw [s1, s2] at hsg
    have eb : (b4 || !true) = b4 := by cases b4 <;> rfl
    rw [eb] at hsg
    clear hpre hA s1 s2 eb
    go_wp2_with fail
    refine hp.mono ?_
    rintro e w4 ⟨rfl, rfl⟩
    clear hp c0
    go_wp2_with fail
    refine hsg.mono ?_
    rintro e w5 ⟨⟨u5, rfl⟩, h5⟩
    clear hsg h4
    go_wp2_with fail
    refine (two_any w0 w5 B _ _ h5 hE).mono ?_
    rintro e w6 ⟨s, r5, b5, rfl, h6, hs, k6⟩
    have HS : Hid (stepRel secH t b4 s r5 (b5 || !(decide (s < 60)))) := Lib.hid (secH_comp t r5 b4 b5 s k6)
    clear k6 h5
    obtain ⟨s1, s2⟩ := hs
    have hmu := must_any w0 w6 B r5 b5 (decide (s < 60)) h6
    generalize (b5 || !(decide (s < 60))) = b6 at *
    go_wp2_with fail
    refine hmu.mono ?_
    rintro e w7 ⟨⟨u7, rfl⟩, h7⟩
    clear hmu h6
    have hp := haspre1 r5 46 w7
    have c0 := h7.rd.c0
    have hpre := pre1 46 r5
    cases hA : Lib.hasPrefix r5 [46]
    · rw [hA] at hp hpre
      have hne : r5.head? ≠ some 46 := by
        intro g; have := hpre.1; rw [g] at this; simp at this
      have HF : Hid (stepRel timeP rest bad ((hh * 60 + m) * 60000 + 1000 * s) r5 b6) := Lib.hid (time_B rest (58 :: t) t r5 bad b4 b6 _ s HC.out rfl HS.out hne ⟨by omega, by omega⟩)
      clear hpre hne hA HC HS
      go_wp2_with fail
      refine hp.mono ?_
      rintro e w4 ⟨rfl, rfl⟩
      go_wp2_with fail
      go_ret
      exact ⟨_, r5, b6, rfl, h7, HF.out, by omega, by omega⟩
    · rw [hA] at hp hpre
      obtain ⟨u, hu⟩ : ∃ u, r5 = 46 :: u := by
        cases r5 with
        | nil => have := hpre.1; simp at this
        | cons a q => have := hpre.1; simp at this; exact ⟨q, by rw [this]⟩
      subst hu
      obtain ⟨p1, p2⟩ := sg_cons 46 u
      have hsg := sign1 46 w0 w7 B (46 :: u) b6 h7
      rw [p1, p2] at hsg
      have eb : (b6 || !true) = b6 := by cases b6 <;> rfl
      rw [eb] at hsg
      clear hpre hA p1 p2 eb
      go_wp2_with fail
      refine hp.mono ?_
      rintro e w4 ⟨rfl, rfl⟩
      clear hp c0
      go_wp2_with fail
      refine hsg.mono ?_
      rintro e w8 ⟨⟨u8, rfl⟩, h8⟩
      clear hsg h7
      have c0 := h8.rd.c0
      have hus := h8.small
      have hdg := digits_any w0 w8 B u b6 1 3 1 3 rfl rfl (by decide) (by decide) (by decide) h8 hE
      go_wp2_with fail
      refine hdg.mono ?_
      rintro e w9 ⟨p, r7, b7, rfl, h9, hd⟩
      have hp := dig2_small u r7 b6 b7 p 1 3 (by decide) hd
      obtain ⟨q1, q2, q3⟩ := dig_thou u r7 b6 b7 p hd
      have c0' := h9.rd.c0
      clear hdg c0 hd h8
      obtain ⟨x, hx⟩ : ∃ x, x = u.length - r7.length := ⟨_, rfl⟩
      have hxe : (u.length : Int) - r7.length = x := by omega
      rw [← hx] at q2 q3
      have HX := Lib.hid hx
      have hpb : ∀ k, k ≤ 3 → 0 ≤ p * 10 ^ k ∧ p * 10 ^ k ≤ 999000 := by
        intro k hk
        have : k = 0 ∨ k = 1 ∨ k = 2 ∨ k = 3 := by omega
        rcases this with rfl | rfl | rfl | rfl <;> simp <;> omega
      have hpx := hpb (3 - x) (by omega)
      have HF : Hid (stepRel timeP rest bad ((hh * 60 + m) * 60000 + 1000 * s + p * 10 ^ (3 - x)) r7 b7) := Lib.hid (time_C rest (58 :: t) t (46 :: u) u r7 bad b4 b6 b7 _ s _ HC.out rfl HS.out rfl q3 ⟨by omega, by omega⟩)
      have HPB := Lib.hid hpb
      clear q3 hpb HC HS hx
      go_wp2_with fail
      go_loopw [8, 9] (fun s8 s9 wr => ∃ (k : Nat) (q : Int), s8 = .int .i64 q ∧ s9 = .int .i64 k ∧ x ≤ k ∧ k ≤ 3 ∧ 0 ≤ q ∧ q ≤ 999000 ∧ Hid (q * 10 ^ (3 - k) = p * 10 ^ (3 - x)) ∧ wr = w9) (fun _ s _ => 3 - (RowKit.intOf s).toNat)
      case atStart => exact ⟨x, p, rfl, by go_num, by omega, by omega, by omega, by omega, Lib.hid rfl, rfl⟩
      case round =>
        obtain ⟨k, q, rfl, rfl, hk1, hk2, hq1, hq2, hq, rfl⟩ := hrel
        by_cases hlt : k < 3
        · have hq' : q * 10 * 10 ^ (3 - (k + 1)) = p * 10 ^ (3 - x) := by
            rw [← hq.out]
            have : k = 0 ∨ k = 1 ∨ k = 2 := by omega
            rcases this with rfl | rfl | rfl <;> simp <;> omega
          have hb : 0 ≤ q * 10 ∧ q * 10 ≤ 999000 := by
            have h1 := HPB.out (3 - x) (by omega)
            rw [← hq'] at h1
            have : k = 0 ∨ k = 1 ∨ k = 2 := by omega
            rcases this with rfl | rfl | rfl <;> simp at h1 <;> omega
          have HQ := Lib.hid hq'
          obtain ⟨hb1, hb2⟩ := hb
          clear hq hq'
          go_wp2_with fail
          go_roundw
          case rel => exact ⟨k + 1, q * 10, rfl, by go_num, by omega, by omega, hb1, hb2, HQ, by first | rfl | trivial⟩
          case measure => simp [RowKit.intOf]; omega
        · have HE : Hid (q = p * 10 ^ (3 - x)) := Lib.hid (by
            rw [← hq.out, show 3 - k = 0 from by omega]; simp)
          have hqq : 0 ≤ q ∧ q ≤ 999000 := ⟨hq1, hq2⟩
          clear hq
          go_wp2_with fail
          go_ret
          exact ⟨_, r7, b7, rfl, h9, by rw [HE.out]; exact HF.out, by omega, by omega⟩

set_option maxHeartbeats 1600000 in
set_option maxRecDepth 100000 in
theorem local_r (w0 w : World) (B : Nat) (rest : List UInt8) (bad : Bool) (h : Ro w0 w B rest bad) (hE : GE w0) :
    Calls Tryz.prog 84 #[.pointer (some ⟨B, 0, none⟩)] w (StepPost localP w0 B rest bad) := by
  unfold StepPost
  have hd := date_r w0 w B rest bad h hE
  unfold StepPostB at hd
  have ht := fun w r b h => time_r w0 w B r b h hE
  unfold StepPostB at ht
  go_enter Tryz.func84, Tryz.ntmps84
  go_wp2_with fail
  refine hd.mono ?_
  rintro e w1 ⟨d, r1, b1, rfl, h1, k1, d1, d2⟩
  have K1 := Lib.hid k1
  clear hd k1
  have hp := haspre1 r1 32 w1
  have c0 := h1.rd.c0
  have hpre := pre1 32 r1
  cases hA : Lib.hasPrefix r1 [32]
  · rw [hA] at hp hpre
    have hsg := sign1 84 w0 w1 B r1 b1 h1
    have HM : Hid ((∃ c, isMid c = true ∧ r1 = c :: Lib.trimPrefix r1 [84] ∧ (b1 || !(Lib.hasPrefix r1 [84])) = b1) ∨ ((∀ c q, r1 = c :: q → isMid c = false) ∧ (b1 || !(Lib.hasPrefix r1 [84])) = true)) := Lib.hid (by
      cases hB : Lib.hasPrefix r1 [84]
      · right
        refine ⟨fun c q e => ?_, by cases b1 <;> rfl⟩
        subst e
        obtain ⟨g1, _⟩ := pre1 84 (c :: q)
        rw [hB] at g1
        have n1 : ¬ c = 84 := by intro e; rw [e] at g1; simp at g1
        have n2 : ¬ c = 32 := by intro e; have := hpre.1; rw [e] at this; simp at this
        unfold isMid
        simp [n1, n2]
      · left
        have e : (b1 || !true) = b1 := by cases b1 <;> rfl
        obtain ⟨_, g2⟩ := sg_false (c := 84) (r := r1) (bad := false) (by rw [hB]; rfl)
        exact ⟨84, rfl, g2, e⟩)
    clear hpre hA
    go_wp2_with fail
    refine hp.mono ?_
    rintro e w2 ⟨rfl, rfl⟩
    clear hp c0
    go_wp2_with fail
    refine hsg.mono ?_
    rintro e w3 ⟨⟨u3, rfl⟩, h3⟩
    clear hsg
    generalize (b1 || !(Lib.hasPrefix r1 [84])) = b2 at *
    generalize Lib.trimPrefix r1 [84] = r2 at *
    go_wp2_with fail
    refine (ht w3 r2 b2 h3).mono ?_
    rintro e w4 ⟨t, r3, b3, rfl, h4, k4, t1, t2⟩
    have HF : Hid (stepRel localP rest bad (d + t) r3 b3) := Lib.hid (local_comp rest r1 r2 r3 bad b1 b2 b3 d t (d + t) K1.out HM.out k4 ⟨by omega, by omega⟩ (fun _ => rfl))
    clear k4
    go_wp2_with fail
    go_ret
    exact ⟨_, r3, b3, rfl, h4, HF.out⟩
  · rw [hA] at hp hpre
    have hsg := sign1 32 w0 w1 B r1 b1 h1
    have HM : Hid ((∃ c, isMid c = true ∧ r1 = c :: Lib.trimPrefix r1 [32] ∧ (b1 || !(Lib.hasPrefix r1 [32])) = b1) ∨ ((∀ c q, r1 = c :: q → isMid c = false) ∧ (b1 || !(Lib.hasPrefix r1 [32])) = true)) := Lib.hid (by
      left
      rw [hA]
      have e : (b1 || !true) = b1 := by cases b1 <;> rfl
      obtain ⟨_, g2⟩ := sg_false (c := 32) (r := r1) (bad := false) (by rw [hA]; rfl)
      exact ⟨32, rfl, g2, e⟩)
    clear hpre hA
    go_wp2_with fail
    refine hp.mono ?_
    rintro e w2 ⟨rfl, rfl⟩
    clear hp c0
    go_wp2_with fail
    refine hsg.mono ?_
    rintro e w3 ⟨⟨u3, rfl⟩, h3⟩
    clear hsg
    generalize (b1 || !(Lib.hasPrefix r1 [32])) = b2 at *
    generalize Lib.trimPrefix r1 [32] = r2 at *
    go_wp2_with fail
    refine (ht w3 r2 b2 h3).mono ?_
    rintro e w4 ⟨t, r3, b3, rfl, h4, k4, t1, t2⟩
    have HF : Hid (stepRel localP rest bad (d + t) r3 b3) := Lib.hid (local_comp rest r1 r2 r3 bad b1 b2 b3 d t (d + t) K1.out HM.out k4 ⟨by omega, by omega⟩ (fun _ => rfl))
    clear k4
    go_wp2_with fail
    go_ret
    exact ⟨_, r3, b3, rfl, h4, HF.out⟩
end Go.Proofs.YtfmelhpegcpbiaaGreatDoor.mom
