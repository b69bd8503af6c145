/- A part of the proofs: lemmas and contracts. -/
import Derived.Test.YtkhlfggnjcbniaaGreatDoorP8
set_option maxHeartbeats 12800000
set_option maxRecDepth 1000000
namespace Go.Proofs.YtkhlfggnjcbniaaGreatDoor.link
open Go.ChangeShapes Go.WideShapes Go.ChangeAt Go.RowKit Go.Lib

def markB (c : UInt8) : Bool := hasB [43, 45, 46] c
def sch : Bool → List UInt8 → Option Nat
 | _, [] => none
 | first, c :: r => if c = 58 then (if first then none else some 0)
  else if (plainB c || markB c) && (!first || (plainB c && !digC c)) then (sch false r).map (· + 1) else none
def schT (l : List UInt8) (o : Option Nat) : List UInt8 := match o with | none => [] | some n => lowS (l.take n)

theorem sch_colon (first : Bool) (r : List UInt8) : sch first (58 :: r) = if first then none else some 0 := by rw [sch, if_pos rfl]
theorem sch_cons (first : Bool) (c : UInt8) (r : List UInt8) (h : c ≠ 58) : sch first (c :: r) = if (plainB c || markB c) && (!first || (plainB c && !digC c)) then (sch false r).map (· + 1) else none := by rw [sch, if_neg h]

theorem ret_sch (a : List UInt8) (b : Bool) (a' : List UInt8) (b' : Bool) (h : a = a') (g : b = b') : Ending.returned (.tuple #[.string ⟨a.toArray⟩, .bool b]) = .returned (.tuple #[.string ⟨a'.toArray⟩, .bool b']) := by rw [h, g]

theorem rscheme_any (l : List UInt8) (hl : l.length ≤ 1000000000) (w : World) :
    Calls Tryz.prog 193 #[.string ⟨l.toArray⟩] w fun e w' => e = .returned (.tuple #[.string ⟨(schT l (sch true l)).toArray⟩, .bool (sch true l).isSome]) ∧ Below w.heap.size w w' := by
  obtain ⟨v, hv⟩ : ∃ v, v = sch true l := ⟨_, rfl⟩
  rw [← hv]
  have HV : Hid (v = (sch true (l.drop 0)).map (· + 0)) := Lib.hid (by rw [hv]; simp)
  clear hv
  go_enter Tryz.func193, Tryz.ntmps193
  go_wp2_with fail
  go_loop [4] (fun s => ∃ k : Nat, s = .int .i64 k ∧ k ≤ l.length ∧ Hid (v = (sch (k == 0) (l.drop k)).map (· + k))) (fun s => l.length - (RowKit.intOf s).toNat)
  case atStart => exact ⟨0, rfl, by omega, HV⟩
  case round =>
    obtain ⟨k, rfl, hk, hh⟩ := hrel
    by_cases hlt : k < l.length
    · obtain ⟨c, rest, hd1, hd2, hidx⟩ := byte_at l k hlt
      have hx := hh.out
      rw [hd1] at hx
      have hlt8 := c.toNat_lt
      by_cases h58 : c = 58
      · subst h58
        rw [sch_colon] at hx
        clear hd1 hd2 hh
        by_cases hk0 : k = 0
        · subst hk0
          have HX : Hid (v = none) := Lib.hid (by rw [hx]; rfl)
          clear hx
          go_wp2_with fail
          go_ret2
          exact ⟨ret_sch _ _ _ _ (by rw [HX.out]; rfl) (by rw [HX.out]; rfl), Below.refl _ _⟩
        · have t0 : ((k : Int) == 0) = false := by simp; omega
          have t1 : ((k : Int) == l.length) = false := by simp; omega
          have HX : Hid (v = some k) := Lib.hid (by rw [hx, show (k == 0) = false from by simp [hk0]]; simp)
          have hlow := rlower_any (l.take k) (by rw [List.length_take]; omega) w
          clear hx
          go_wp2_with fail
          refine hlow.mono ?_
          rintro e w' ⟨rfl, hB⟩
          clear hlow
          go_wp2_with fail
          go_ret2
          exact ⟨ret_sch _ _ _ _ (by rw [HX.out]; rfl) (by rw [HX.out]; rfl), hB⟩
      · have h58b : ((c.toNat : Int) == 58) = false := by
          simp only [beq_eq_false_iff_ne, ne_eq]
          intro g
          exact h58 (UInt8.toNat_inj.1 (by simp; omega))
        rw [sch_cons _ c rest h58] at hx
        have hp := rplain_any c w
        have hin := in_any c [43, 45, 46] (by decide) w
        unfold markB at hx
        have hw := dig_ways c
        generalize plainB c = p at *
        generalize hasB [43, 45, 46] c = q at *
        generalize digC c = dg at *
        have HX : Hid (v = if (p || q) && (!(k == 0) || (p && !dg)) then (sch false (l.drop (k + 1))).map (· + (k + 1)) else none) := Lib.hid (by
          rw [hx, ← hd2]
          split
          · rw [Option.map_map]; congr 1; funext n; simp; omega
          · rfl)
        clear hx hd1 hd2 hh
        by_cases hk0 : k = 0
        · subst hk0
          have HY : Hid (v = if (p && !dg) then (sch (0 + 1 == 0) (l.drop (0 + 1))).map (· + (0 + 1)) else none) := Lib.hid (by rw [HX.out]; cases p <;> cases q <;> cases dg <;> rfl)
          clear HX
          rcases hw with ⟨g1, rfl⟩ | ⟨g1, g2, rfl⟩ | ⟨g1, rfl⟩
          all_goals
            cases p
            · have HZ : Hid (v = none) := Lib.hid (by rw [HY.out]; rfl)
              clear HY
              go_wp2_with fail
              refine hp.mono ?_
              rintro e w' ⟨rfl, rfl⟩
              go_wp2_with fail
              refine hin.mono ?_
              rintro e w' ⟨rfl, rfl⟩
              cases q
              · go_wp2_with fail
                go_ret2
                exact ⟨ret_sch _ _ _ _ (by rw [HZ.out]; rfl) (by rw [HZ.out]; rfl), Below.refl _ _⟩
              · go_wp2_with fail
                all_goals first | (refine hp.mono ?_; rintro e w' ⟨rfl, rfl⟩; go_wp2_with fail) | skip
                all_goals
                  go_ret2
                  exact ⟨ret_sch _ _ _ _ (by rw [HZ.out]; rfl) (by rw [HZ.out]; rfl), Below.refl _ _⟩
            · have HZ := Lib.hid HY.out
              simp only [Bool.not_true, Bool.not_false, Bool.and_true, Bool.and_false, if_true, Bool.false_eq_true, if_false] at HZ
              clear HY
              go_wp2_with fail
              refine hp.mono ?_
              rintro e w' ⟨rfl, rfl⟩
              go_wp2_with fail
              all_goals first | (refine hp.mono ?_; rintro e w' ⟨rfl, rfl⟩; go_wp2_with fail) | skip
              first
              | (go_ret2
                 exact ⟨ret_sch _ _ _ _ (by rw [HZ.out]; rfl) (by rw [HZ.out]; rfl), Below.refl _ _⟩)
              | (go_round
                 case rel => exact ⟨0 + 1, by go_num, by omega, HZ⟩
                 case measure => simp [RowKit.intOf]; omega)
        · have t0 : ((k : Int) == 0) = false := by simp; omega
          have HY : Hid (v = if (p || q) then (sch false (l.drop (k + 1))).map (· + (k + 1)) else none) := Lib.hid (by rw [HX.out, show (k == 0) = false from by simp [hk0]]; simp)
          clear HX
          rcases hw with ⟨g1, g⟩ | ⟨g1, g2, g⟩ | ⟨g1, g⟩
          all_goals
            clear g
            cases p
            · cases q
              · have HZ : Hid (v = none) := Lib.hid (by rw [HY.out]; rfl)
                clear HY
                go_wp2_with fail
                refine hp.mono ?_
                rintro e w' ⟨rfl, rfl⟩
                go_wp2_with fail
                refine hin.mono ?_
                rintro e w' ⟨rfl, rfl⟩
                go_wp2_with fail
                go_ret2
                exact ⟨ret_sch _ _ _ _ (by rw [HZ.out]; rfl) (by rw [HZ.out]; rfl), Below.refl _ _⟩
              · have HZ : Hid (v = (sch (k + 1 == 0) (l.drop (k + 1))).map (· + (k + 1))) := Lib.hid (by rw [HY.out]; rfl)
                clear HY
                go_wp2_with fail
                refine hp.mono ?_
                rintro e w' ⟨rfl, rfl⟩
                go_wp2_with fail
                refine hin.mono ?_
                rintro e w' ⟨rfl, rfl⟩
                go_wp2_with fail
                go_round
                case rel => exact ⟨k + 1, by go_num, by omega, HZ⟩
                case measure => simp [RowKit.intOf]; omega
            · have HZ : Hid (v = (sch (k + 1 == 0) (l.drop (k + 1))).map (· + (k + 1))) := Lib.hid (by rw [HY.out]; rfl)
              clear HY
              go_wp2_with fail
              refine hp.mono ?_
              rintro e w' ⟨rfl, rfl⟩
              go_wp2_with fail
              go_round
              case rel => exact ⟨k + 1, by go_num, by omega, HZ⟩
              case measure => simp [RowKit.intOf]; omega
    · have HX : Hid (v = none) := Lib.hid (by rw [hh.out, List.drop_eq_nil_of_le (by omega)]; cases (k == 0) <;> rfl)
      obtain rfl : k = l.length := by omega
      clear hh
      go_wp2_with fail
      all_goals
        go_ret2
        exact ⟨ret_sch _ _ _ _ (by rw [HX.out]; rfl) (by rw [HX.out]; rfl), Below.refl _ _⟩
end Go.Proofs.YtkhlfggnjcbniaaGreatDoor.link
