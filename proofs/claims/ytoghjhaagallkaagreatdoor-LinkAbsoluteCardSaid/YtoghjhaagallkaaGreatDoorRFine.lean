/- The contract of the reference's Fine. -/
import Derived.Test.YtoghjhaagallkaaGreatDoorHexes
import Derived.Test.YtoghjhaagallkaaGreatDoorValid
import Derived.WalkSpells
namespace Go.Proofs.YtoghjhaagallkaaGreatDoor.link
open Go.ChangeShapes Go.WideShapes Go.ChangeAt Go.RowKit Go.Lib

theorem at_two (l : List UInt8) (k : Nat) (a b c : UInt8) (r : List UInt8) (h : l.drop k = c :: a :: b :: r) :
    (∀ h', (⟨l.toArray⟩ : ByteArray)[k + 1]'h' = a) ∧ (∀ h', (⟨l.toArray⟩ : ByteArray)[k + 2]'h' = b) ∧ l.drop (k + 3) = r := by
  have e : ∀ j, l[k + j]? = (c :: a :: b :: r)[j]? := fun j => by rw [← h, List.getElem?_drop]
  refine ⟨fun h' => ?_, fun h' => ?_, ?_⟩
  · show l[k + 1]'(by rw [← bsize]; exact h') = a
    exact Option.some.inj (by rw [← List.getElem?_eq_getElem, e]; rfl)
  · show l[k + 2]'(by rw [← bsize]; exact h') = b
    exact Option.some.inj (by rw [← List.getElem?_eq_getElem, e]; rfl)
  · rw [← List.drop_drop, h]; rfl

theorem hexOk_lt (c : UInt8) : hexOk c = !decide (hexN c.toNat < 0) := by
  unfold hexOk
  generalize hexN c.toNat = n
  by_cases h : 0 ≤ n
  · rw [decide_eq_true h, decide_eq_false (by omega)]; rfl
  · rw [decide_eq_false h, decide_eq_true (by omega)]; rfl

set_option maxHeartbeats 1600000 in
set_option maxRecDepth 100000 in
theorem rfine_any (l : List UInt8) (hl : l.length ≤ 1000000000) (w : World) :
    Calls Tryz.prog 18 #[.string ⟨l.toArray⟩] w fun e w' => e = .returned (.bool (fineS l)) ∧ w = w' := by
  have hv := Go.Proofs.YtoghjhaagallkaaGreatDoor.utf.rvalid_any l hl w
  obtain ⟨v, hvv⟩ : ∃ v, v = fineS l := ⟨_, rfl⟩
  rw [← hvv]
  unfold fineS at hvv
  cases hd : validD l
  · rw [hd] at hv hvv
    have H := Lib.hid hvv
    clear hvv hd
    go_enter Tryz.func18, Tryz.ntmps18
    go_wp2_with fail
    refine hv.mono ?_
    rintro e w' ⟨rfl, rfl⟩
    go_wp2_with fail
    go_ret
    exact ⟨ret_bool H.out.symm, rfl⟩
  · rw [hd] at hv hvv
    have H : Hid (v = fineB l) := Lib.hid hvv
    clear hvv hd
    go_enter Tryz.func18, Tryz.ntmps18
    go_wp2_with fail
    refine hv.mono ?_
    rintro e w' ⟨rfl, rfl⟩
    clear hv
    go_wp2_with fail
    go_loop [3] (fun s => ∃ k : Nat, s = .int .i64 k ∧ k ≤ l.length ∧ Hid (v = fineB (l.drop k))) (fun s => l.length - (RowKit.intOf s).toNat)
    case atStart => exact ⟨0, rfl, by omega, H⟩
    case round =>
      obtain ⟨k, rfl, hk, hh⟩ := hrel
      by_cases hlt : k < l.length
      · obtain ⟨c, rest, hd1, hd2, hidx⟩ := byte_at l k hlt
        have hx := hh.out
        rw [hd1] at hx
        have hrl : rest.length = l.length - (k + 1) := by rw [← hd2, List.length_drop]
        by_cases h37 : c = 37
        · subst h37
          by_cases h2 : k + 2 < l.length
          · obtain ⟨a, rest1, rfl⟩ : ∃ a r, rest = a :: r := by
              cases rest with
              | nil => simp at hrl; omega
              | cons a r => exact ⟨a, r, rfl⟩
            obtain ⟨b, r, rfl⟩ : ∃ a r, rest1 = a :: r := by
              cases rest1 with
              | nil => simp at hrl; omega
              | cons a r => exact ⟨a, r, rfl⟩
            obtain ⟨i1, i2, h3⟩ := at_two l k a b 37 r hd1
            rw [fine_pct3, ← h3, hexOk_lt, hexOk_lt] at hx
            have ca := digit_any a w
            have cb := digit_any b w
            generalize hexN a.toNat = na at *
            generalize hexN b.toNat = nb at *
            by_cases ha : na < 0
            · have HX : Hid (v = false) := Lib.hid (by rw [hx]; simp [ha])
              clear hx hd1 hd2 hh hrl h3
              go_wp2_with fail
              refine ca.mono ?_
              rintro e w' ⟨rfl, rfl⟩
              go_wp2_with fail
              go_ret
              exact ⟨ret_bool HX.out.symm, rfl⟩
            · by_cases hb : nb < 0
              · have HX : Hid (v = false) := Lib.hid (by rw [hx]; simp [hb])
                clear hx hd1 hd2 hh hrl h3
                go_wp2_with fail
                refine ca.mono ?_
                rintro e w' ⟨rfl, rfl⟩
                go_wp2_with fail
                refine cb.mono ?_
                rintro e w' ⟨rfl, rfl⟩
                go_wp2_with fail
                go_ret
                exact ⟨ret_bool HX.out.symm, rfl⟩
              · have HX : Hid (v = fineB (l.drop (k + 3))) := Lib.hid (by rw [hx]; simp [ha, hb])
                clear hx hd1 hd2 hh hrl h3
                go_wp2_with fail
                refine ca.mono ?_
                rintro e w' ⟨rfl, rfl⟩
                go_wp2_with fail
                refine cb.mono ?_
                rintro e w' ⟨rfl, rfl⟩
                go_wp2_with fail
                go_round
                case rel => exact ⟨k + 3, by go_num, by omega, HX⟩
                case measure => simp [RowKit.intOf]; omega
          · have HX : Hid (v = false) := Lib.hid (by
              rw [hx, fine_pct]
              match rest, hrl with
              | [], _ => rfl
              | [_], _ => rfl
              | a :: b :: r, hrl => simp at hrl; omega)
            clear hx hd1 hd2 hh hrl
            go_wp2_with fail
            go_ret
            exact ⟨ret_bool HX.out.symm, rfl⟩
        · have h37b : ((c.toNat : Int) == 37) = false := by
            simp only [beq_eq_false_iff_ne, ne_eq]
            intro g
            exact h37 (UInt8.toNat_inj.1 (by simp; omega))
          rw [fine_cons c rest h37] at hx
          have hlt8 := c.toNat_lt
          by_cases h128 : 128 ≤ c.toNat
          · have HX : Hid (v = fineB (l.drop (k + 1))) := Lib.hid (by rw [hx, hd2]; simp [okB, h128])
            clear hx hd1 hd2 hh hrl
            go_wp2_with fail
            go_round
            case rel => exact ⟨k + 1, by go_num, by omega, HX⟩
            case measure => simp [RowKit.intOf]; omega
          · have hp := rplain_any c w
            have hin := in_any c refSet (by decide) w
            rw [refSet_has] at hin
            cases hpc : plainB c
            · have HX : Hid (v = (amongB sets c && fineB (l.drop (k + 1)))) := Lib.hid (by rw [hx, hd2]; simp [okB, hpc, h128])
              rw [hpc] at hp
              clear hx hd1 hd2 hh hrl hpc
              generalize amongB sets c = q at *
              cases q
              · have HY : Hid (v = false) := Lib.hid (by rw [HX.out]; rfl)
                go_wp2_with fail
                refine hp.mono ?_
                rintro e w' ⟨rfl, rfl⟩
                go_wp2_with fail
                refine hin.mono ?_
                rintro e w' ⟨rfl, rfl⟩
                go_wp2_with fail
                go_ret
                exact ⟨ret_bool HY.out.symm, rfl⟩
              · have HY : Hid (v = fineB (l.drop (k + 1))) := Lib.hid (by rw [HX.out]; rfl)
                go_wp2_with fail
                refine hp.mono ?_
                rintro e w' ⟨rfl, rfl⟩
                go_wp2_with fail
                refine hin.mono ?_
                rintro e w' ⟨rfl, rfl⟩
                go_wp2_with fail
                go_round
                case rel => exact ⟨k + 1, by go_num, by omega, HY⟩
                case measure => simp [RowKit.intOf]; omega
            · have HX : Hid (v = fineB (l.drop (k + 1))) := Lib.hid (by rw [hx, hd2]; simp [okB, hpc])
              rw [hpc] at hp
              clear hx hd1 hd2 hh hrl hpc
              go_wp2_with fail
              refine hp.mono ?_
              rintro e w' ⟨rfl, rfl⟩
              go_wp2_with fail
              go_round
              case rel => exact ⟨k + 1, by go_num, by omega, HX⟩
              case measure => simp [RowKit.intOf]; omega
      · have HX : Hid (v = true) := Lib.hid (by rw [hh.out, List.drop_eq_nil_of_le (by omega)]; rfl)
        go_wp2_with fail
        go_ret
        exact ⟨ret_bool HX.out.symm, rfl⟩
end Go.Proofs.YtoghjhaagallkaaGreatDoor.link
