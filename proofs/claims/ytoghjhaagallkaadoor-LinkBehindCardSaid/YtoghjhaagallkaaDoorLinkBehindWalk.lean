/- LinkBehind: the walk. -/
import Derived.Test.YtoghjhaagallkaaDoorWakes8
import Derived.Test.YtoghjhaagallkaaDoorRFine
namespace Go.Proofs.YtoghjhaagallkaaDoor.link
open Go.ChangeShapes Go.WideShapes Go.ChangeAt Go.RowKit Go.Lib

theorem hasB_mem (l : List UInt8) (c : UInt8) : hasB l c = true ↔ c ∈ l := by rw [hasB_contains]; simp
theorem hasB_no (l : List UInt8) (c : UInt8) (h : hasB l c = false) : c ∉ l := by
  intro g; rw [(hasB_mem l c).2 g] at h; cases h

set_option maxHeartbeats 1600000 in
set_option maxRecDepth 100000 in
theorem behind_walk (s : List UInt8) (hs : (⟨s.toArray⟩ : ByteArray).size ≤ maxLen) (m : List UInt8) (hm : (⟨m.toArray⟩ : ByteArray).size ≤ maxLen) (w : World) (hG : G w) (hE : GE w) (hU : GU w) :
    Calls Tryd.prog 7 #[.string ⟨s.toArray⟩, .string ⟨m.toArray⟩] w fun e w' => e = .returned (.bool true) ∧ Below w.heap.size w w' := by
  rw [bsize] at hs hm
  unfold maxLen at hs hm
  go_enter Tryd.func7, Tryd.ntmps7
  go_wp2_with fail
  refine (wakes_any w hG hE hU).mono ?_
  rintro e w2 ⟨rfl, B02⟩
  go_wp2_with fail
  by_cases l1 : (8192 : Int) < s.length
  · have K1 := long_any s w2
    rw [decide_eq_true l1] at K1
    refine K1.mono ?_
    rintro e w' ⟨rfl, rfl⟩
    clear K1
    go_wp2_with fail
    go_ret
    exact ⟨rfl, B02⟩
  · have K1 := long_any s w2
    rw [decide_eq_false l1] at K1
    refine K1.mono ?_
    rintro e w' ⟨rfl, rfl⟩
    clear K1
    go_wp2_with fail
    by_cases l2 : (8192 : Int) < m.length
    · have K2 := long_any m w2
      rw [decide_eq_true l2] at K2
      refine K2.mono ?_
      rintro e w' ⟨rfl, rfl⟩
      clear K2
      go_wp2_with fail
      go_ret
      exact ⟨rfl, B02⟩
    · have K2 := long_any m w2
      rw [decide_eq_false l2] at K2
      refine K2.mono ?_
      rintro e w' ⟨rfl, rfl⟩
      clear K2
      go_wp2_with fail
      have hsl : s.length ≤ 8192 := by omega
      have hml : m.length ≤ 8192 := by omega
      have A1 := fun wx (hG : G wx) (hE : GE wx) (hU : GU wx) => abs_any s (by omega) wx hG hE hU
      have A2 := fun wx (hG : G wx) (hE : GE wx) (hU : GU wx) => abs_any (s ++ 35 :: m) (by simp; omega) wx hG hE hU
      have A3 := fun wx (hG : G wx) (hE : GE wx) (hU : GU wx) => abs_any (s ++ 63 :: m) (by simp; omega) wx hG hE hU
      have R1 := fun wx => rfine_any m (by omega) wx
      have HH : Hid (hasB s 35 = false → absS (s ++ 35 :: m) = (absS s && fineS m)) := Lib.hid (fun g => abs_hash s m (hasB_no _ _ g))
      have HA : Hid (hasB s 35 = false → hasB s 63 = false → hasB m 35 = false → absS (s ++ 63 :: m) = (absS s && fineS m)) := Lib.hid (fun g1 g2 g3 => abs_ask s m (hasB_no _ _ g1) (hasB_no _ _ g2) (hasB_no _ _ g3))
      generalize absS s = q at *
      generalize absS (s ++ 35 :: m) = q2 at *
      generalize absS (s ++ 63 :: m) = q3 at *
      generalize fineS m = f at *
      go_loop [5, 6, 20] (fun s5 s6 x => ∃ (k : Nat) (h a : Bool), s5 = .bool h ∧ s6 = .bool a ∧ x = .int .i64 k ∧ k ≤ s.length ∧ Hid (hasB s 35 = (h || hasB (s.drop k) 35)) ∧ Hid (hasB s 63 = (a || hasB (s.drop k) 63))) (fun _ _ x => s.length - (RowKit.intOf x).toNat)
      case atStart => exact ⟨0, false, false, rfl, rfl, rfl, by omega, Lib.hid rfl, Lib.hid rfl⟩
      case round =>
        obtain ⟨k, h, a, rfl, rfl, rfl, hk, hh, ha⟩ := hrel
        by_cases hlt : k < s.length
        · obtain ⟨c, rest, hd1, hd2, hidx⟩ := byte_at s k hlt
          have h1 := hh.out
          have h2 := ha.out
          rw [hd1, hasB, ← hd2] at h1 h2
          have t35 : ((c.toNat : Int) == 35) = (c == 35) := byteq c 35 35 rfl
          have t63 : ((c.toNat : Int) == 63) = (c == 63) := byteq c 63 63 rfl
          rw [← t35] at h1
          rw [← t63] at h2
          clear t35 t63 hh ha hd1 hd2 HH HA
          generalize g35 : ((c.toNat : Int) == 35) = x35 at h1
          generalize g63 : ((c.toNat : Int) == 63) = x63 at h2
          have H1 := Lib.hid h1
          have H2 := Lib.hid h2
          clear h1 h2
          cases h
          · cases a
            · go_wp2_with fail
              go_round
              case rel => exact ⟨k + 1, x35, x63, rfl, rfl, by go_num, by omega, Lib.hid (by rw [H1.out]; rfl), Lib.hid (by rw [H2.out]; rfl)⟩
              case measure => simp [RowKit.intOf]; omega
            · go_wp2_with fail
              go_round
              case rel => exact ⟨k + 1, x35, true, rfl, rfl, by go_num, by omega, Lib.hid (by rw [H1.out]; rfl), Lib.hid (by rw [H2.out]; rfl)⟩
              case measure => simp [RowKit.intOf]; omega
          · cases a
            · go_wp2_with fail
              go_round
              case rel => exact ⟨k + 1, true, x63, rfl, rfl, by go_num, by omega, Lib.hid (by rw [H1.out]; rfl), Lib.hid (by rw [H2.out]; rfl)⟩
              case measure => simp [RowKit.intOf]; omega
            · go_wp2_with fail
              go_round
              case rel => exact ⟨k + 1, true, true, rfl, rfl, by go_num, by omega, Lib.hid (by rw [H1.out]; rfl), Lib.hid (by rw [H2.out]; rfl)⟩
              case measure => simp [RowKit.intOf]; omega
        · have h1 := hh.out
          have h2 := ha.out
          rw [List.drop_eq_nil_of_le (by omega)] at h1 h2
          rw [hasB, Bool.or_false] at h1 h2
          rw [h1, h2] at HA
          rw [h1] at HH
          clear h1 h2 hh ha
          cases h
          · have H2 : Hid (q2 = (q && f)) := Lib.hid (HH.out rfl)
            clear HH
            go_wp2_with fail
            refine (A1 w2 (hG.below B02) (hE.below B02) (hU.below B02)).mono ?_
            rintro e w3 ⟨rfl, B3⟩
            have B03 := below_trans B02 B3
            go_wp2_with fail
            refine (A2 w3 (hG.below B03) (hE.below B03) (hU.below B03)).mono ?_
            rintro e w4 ⟨rfl, B4⟩
            have B04 := below_trans B03 B4
            clear A1 A2 B3 B4 B03
            have HQ : Hid (q = false ∨ (q = true ∧ q2 = f)) := Lib.hid (by
              cases q
              · exact Or.inl rfl
              · exact Or.inr ⟨rfl, by rw [H2.out]; rfl⟩)
            have HQ2 : Hid (q = false → q2 = false) := Lib.hid (fun g => by rw [H2.out, g]; rfl)
            clear H2
            rcases HQ.out with g | ⟨g, g2⟩
            · obtain rfl := HQ2.out g
              subst g
              have HA' : Hid (a = false → hasB m 35 = false → q3 = false) := Lib.hid (fun g1 g2 => HA.out (by first | rfl | trivial) g1 g2)
              clear HQ HQ2 HA
              go_wp2_with fail
              go_loop [6, 54] (fun s6 x => ∃ (k : Nat) (a' : Bool), s6 = .bool a' ∧ x = .int .i64 k ∧ k ≤ m.length ∧ Hid ((a || hasB m 35) = (a' || hasB (m.drop k) 35))) (fun _ x => m.length - (RowKit.intOf x).toNat)
              case atStart => exact ⟨0, a, rfl, rfl, by omega, Lib.hid rfl⟩
              case round =>
                obtain ⟨i, b, rfl, rfl, hi, hz⟩ := hrel
                by_cases hil : i < m.length
                · obtain ⟨c, rest, hd1, hd2, hidx⟩ := byte_at m i hil
                  have h1 := hz.out
                  rw [hd1, hasB, ← hd2] at h1
                  have t35 : ((c.toNat : Int) == 35) = (c == 35) := byteq c 35 35 rfl
                  rw [← t35] at h1
                  clear t35 hz hd1 hd2
                  generalize g35 : ((c.toNat : Int) == 35) = x35 at h1
                  have H1 := Lib.hid h1
                  clear h1
                  cases b
                  · go_wp2_with fail
                    go_round
                    case rel => exact ⟨i + 1, x35, rfl, by go_num, by omega, Lib.hid (by rw [H1.out]; rfl)⟩
                    case measure => simp [RowKit.intOf]; omega
                  · go_wp2_with fail
                    go_round
                    case rel => exact ⟨i + 1, true, rfl, by go_num, by omega, Lib.hid (by rw [H1.out]; rfl)⟩
                    case measure => simp [RowKit.intOf]; omega
                · have h1 := hz.out
                  rw [List.drop_eq_nil_of_le (by omega), hasB, Bool.or_false] at h1
                  have H1 := Lib.hid h1
                  clear h1 hz
                  cases b
                  · have hz : a = false ∧ hasB m 35 = false := by simpa using H1.out
                    clear H1
                    obtain rfl : q3 = false := HA'.out hz.1 hz.2
                    clear hz HA'
                    go_wp2_with fail
                    refine (A3 w4 (hG.below B04) (hE.below B04) (hU.below B04)).mono ?_
                    rintro e w6 ⟨rfl, B6⟩
                    go_wp2_with fail
                    go_ret
                    exact ⟨rfl, below_trans B04 B6⟩
                  · go_wp2_with fail
                    go_ret
                    exact ⟨rfl, B04⟩
            · subst g2
              subst g
              have HA' : Hid (a = false → hasB m 35 = false → q3 = q2) := Lib.hid (fun g1 g2 => by have := HA.out (by first | rfl | trivial) g1 g2; rw [this]; cases q2 <;> rfl)
              clear HQ HQ2 HA
              go_wp2_with fail
              refine (R1 w4).mono ?_
              rintro e w5 ⟨rfl, rfl⟩
              have hbb : (q2 != q2) = false := by cases q2 <;> rfl
              go_wp2_with fail
              clear hbb
              go_loop [6, 54] (fun s6 x => ∃ (k : Nat) (a' : Bool), s6 = .bool a' ∧ x = .int .i64 k ∧ k ≤ m.length ∧ Hid ((a || hasB m 35) = (a' || hasB (m.drop k) 35))) (fun _ x => m.length - (RowKit.intOf x).toNat)
              case atStart => exact ⟨0, a, rfl, rfl, by omega, Lib.hid rfl⟩
              case round =>
                obtain ⟨i, b, rfl, rfl, hi, hz⟩ := hrel
                by_cases hil : i < m.length
                · obtain ⟨c, rest, hd1, hd2, hidx⟩ := byte_at m i hil
                  have h1 := hz.out
                  rw [hd1, hasB, ← hd2] at h1
                  have t35 : ((c.toNat : Int) == 35) = (c == 35) := byteq c 35 35 rfl
                  rw [← t35] at h1
                  clear t35 hz hd1 hd2
                  generalize g35 : ((c.toNat : Int) == 35) = x35 at h1
                  have H1 := Lib.hid h1
                  clear h1
                  cases b
                  · go_wp2_with fail
                    go_round
                    case rel => exact ⟨i + 1, x35, rfl, by go_num, by omega, Lib.hid (by rw [H1.out]; rfl)⟩
                    case measure => simp [RowKit.intOf]; omega
                  · go_wp2_with fail
                    go_round
                    case rel => exact ⟨i + 1, true, rfl, by go_num, by omega, Lib.hid (by rw [H1.out]; rfl)⟩
                    case measure => simp [RowKit.intOf]; omega
                · have h1 := hz.out
                  rw [List.drop_eq_nil_of_le (by omega), hasB, Bool.or_false] at h1
                  have H1 := Lib.hid h1
                  clear h1 hz
                  cases b
                  · have hz : a = false ∧ hasB m 35 = false := by simpa using H1.out
                    clear H1
                    obtain rfl : q3 = q2 := HA'.out hz.1 hz.2
                    clear hz HA'
                    go_wp2_with fail
                    refine (A3 w4 (hG.below B04) (hE.below B04) (hU.below B04)).mono ?_
                    rintro e w6 ⟨rfl, B6⟩
                    go_wp2_with fail
                    refine (R1 w6).mono ?_
                    rintro e w7 ⟨rfl, rfl⟩
                    cases q3
                    · go_wp2_with fail
                      go_ret
                      exact ⟨rfl, below_trans B04 B6⟩
                    · go_wp2_with fail
                      go_ret
                      exact ⟨rfl, below_trans B04 B6⟩
                  · go_wp2_with fail
                    go_ret
                    exact ⟨rfl, B04⟩
          · go_wp2_with fail
            go_ret
            exact ⟨rfl, B02⟩
end Go.Proofs.YtoghjhaagallkaaDoor.link
