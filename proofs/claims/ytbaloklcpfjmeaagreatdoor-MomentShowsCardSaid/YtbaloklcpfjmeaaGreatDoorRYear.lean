/- The contract of the reference's year. -/
import Derived.Test.YtbaloklcpfjmeaaGreatDoorRDig
namespace Go.Proofs.YtbaloklcpfjmeaaGreatDoor.mom
open Go.ChangeShapes Go.WideShapes Go.ChangeAt Go.RowKit Go.Lib Go.Proofs.YtbaloklcpfjmeaaGreatDoor.num Go.Proofs.YtbaloklcpfjmeaaGreatDoor.cal Go.Proofs.YtbaloklcpfjmeaaGreatDoor.days

theorem digR_lt (l : List UInt8) (n : Nat) (h : n < cnt l) : digR l n = true := by
  have hl := cnt_le l
  have ha := cnt_take l
  have e : l[n]? = some (l[n]'(by omega)) := List.getElem?_eq_getElem (by omega)
  unfold digR
  rw [e]
  unfold allDig at ha
  rw [List.all_eq_true] at ha
  apply ha
  rw [List.mem_take_iff_getElem]
  exact ⟨n, by omega, rfl⟩
theorem digR_cnt (l : List UInt8) : digR l (cnt l) = false := by
  rcases Nat.lt_or_ge (cnt l) l.length with g | g
  · have e : l[cnt l]? = some (l[cnt l]'g) := List.getElem?_eq_getElem g
    unfold digR
    rw [e]
    exact cnt_next l _ _ (List.drop_eq_getElem_cons g)
  · unfold digR; rw [List.getElem?_eq_none g]
theorem val_take_succ (l : List UInt8) (n : Nat) (h : digR l n = true) : val (l.take (n + 1)) = val (l.take n) * 10 + dvR l n := by
  obtain ⟨g, _⟩ := digR_byte l n h
  have e : l[n]? = some (l[n]'g) := List.getElem?_eq_getElem g
  unfold dvR
  rw [List.take_add_one, e]
  show val (l.take n ++ [l[n]]) = _
  rw [val_append]
  show _ = val (l.take n) * 10 + dv l[n]
  have : val [l[n]] = dv l[n] := by show valFrom (0 * 10 + dv l[n]) [] = _; show 0 * 10 + dv l[n] = _; omega
  rw [this]; rfl
def capY (y : Int) (v : Nat) : Prop := y = v ∨ (275760 < y ∧ 275760 < v)
theorem rret_ii {a b a' b' : Int} (h1 : a = a') (h2 : b = b') : Ending.returned (.tuple #[.int .i64 a, .int .i64 b]) = .returned (.tuple #[.int .i64 a', .int .i64 b']) := by rw [h1, h2]

set_option maxHeartbeats 1600000 in
set_option maxRecDepth 100000 in
theorem ryear2_any (l : List UInt8) (hl : l.length ≤ 1000000000) (w : World) :
    Calls Tryz.prog 36 #[.string ⟨l.toArray⟩] w fun e w' => e = .returned (.tuple #[.int .i64 ((yearR l).1 : Nat), .int .i64 ((yearR l).2 : Nat)]) ∧ Below w.heap.size w w' := by
  have HV : Hid (yearR l = if yOk (cnt l) (val (l.take (cnt l))) then (val (l.take (cnt l)), cnt l) else (0, 0)) := Lib.hid rfl
  have hcl := cnt_le l
  generalize yearR l = v at *
  go_enter Tryz.func36, Tryz.ntmps36
  go_wp2_with fail
  go_loopw [4, 5] (fun s4 s5 wr => ∃ (n : Nat) (y : Int), s4 = .int .i64 n ∧ s5 = .int .i64 y ∧ n ≤ cnt l ∧ 0 ≤ y ∧ y ≤ 2757699 ∧ Hid (capY y (val (l.take n))) ∧ Below w.heap.size w wr) (fun a _ => fun _ => (1000000001 - RowKit.intOf a).toNat)
  case atStart => exact ⟨0, 0, rfl, rfl, by omega, by omega, by omega, Lib.hid (Or.inl rfl), Below.refl _ _⟩
  case round =>
    obtain ⟨n, y, rfl, rfl, n1, y1, y2, hc, hB⟩ := hrel
    have hd := fun w => rdigit_any l n n rfl hl (by omega) w
    by_cases hn : n < cnt l
    · have ht := digR_lt l n hn
      obtain ⟨k1, c, q1, v1, c1, c2⟩ := digR_byte l n ht
      have HS := Lib.hid (val_take_succ l n ht)
      rw [ht] at hd
      have hcn := c.toNat_lt
      have HD := Lib.hid v1
      clear ht v1
      by_cases hy : y ≤ 275760
      · have HN : Hid (capY (10 * y + (c.toNat - 48)) (val (l.take (n + 1)))) := Lib.hid (by
          have a := hc.out
          have b := HS.out
          rw [HD.out] at b
          unfold capY at a ⊢
          omega)
        clear hc HS HD
        go_wp2_with fail
        refine (hd _).mono ?_
        rintro e w' ⟨rfl, rfl⟩
        go_wp2_with fail
        go_roundw
        case rel => exact ⟨n + 1, 10 * y + (c.toNat - 48), rfl, by first | rfl | (congr 1; omega), by omega, by omega, by omega, HN, hB⟩
        case measure => simp [RowKit.intOf]; omega
      · have HN : Hid (capY y (val (l.take (n + 1)))) := Lib.hid (by
          have a := hc.out
          have b := HS.out
          unfold capY at a ⊢
          omega)
        clear hc HS HD
        go_wp2_with fail
        refine (hd _).mono ?_
        rintro e w' ⟨rfl, rfl⟩
        go_wp2_with fail
        go_roundw
        case rel => exact ⟨n + 1, y, rfl, rfl, by omega, by omega, by omega, HN, hB⟩
        case measure => simp [RowKit.intOf]; omega
    · have en : n = cnt l := by omega
      have ht := digR_cnt l
      have hcap := hc.out
      have hv := HV.out
      rw [← en] at ht hv
      rw [ht] at hd
      unfold capY at hcap
      unfold yOk at hv
      by_cases ok : 4 ≤ n ∧ 1 ≤ y ∧ y ≤ 275760
      · have HX : Hid (((v.1 : Nat) : Int) = y ∧ v.2 = n) := Lib.hid (by
          rw [if_pos (by simp only [Bool.and_eq_true, decide_eq_true_eq]; omega)] at hv
          rw [hv]
          dsimp only
          omega)
        clear hc ht hcap hv HV en
        obtain ⟨o1, o2, o3⟩ := ok
        go_wp2_with fail
        refine (hd _).mono ?_
        rintro e w' ⟨rfl, rfl⟩
        go_wp2_with fail
        go_ret2
        exact ⟨rret_ii HX.out.1.symm (by rw [HX.out.2]), hB⟩
      · have HX : Hid (v = (0, 0)) := Lib.hid (by
          rw [if_neg (by simp only [Bool.and_eq_true, decide_eq_true_eq]; omega)] at hv
          exact hv)
        clear hc ht hcap hv HV en
        by_cases o1 : n < 4
        · go_wp2_with fail
          refine (hd _).mono ?_
          rintro e w' ⟨rfl, rfl⟩
          go_wp2_with fail
          go_ret2
          exact ⟨rret_ii (by rw [HX.out]; rfl) (by rw [HX.out]; rfl), hB⟩
        by_cases o2 : y < 1
        · go_wp2_with fail
          refine (hd _).mono ?_
          rintro e w' ⟨rfl, rfl⟩
          go_wp2_with fail
          go_ret2
          exact ⟨rret_ii (by rw [HX.out]; rfl) (by rw [HX.out]; rfl), hB⟩
        · have o3 : 275760 < y := by omega
          go_wp2_with fail
          refine (hd _).mono ?_
          rintro e w' ⟨rfl, rfl⟩
          go_wp2_with fail
          go_ret2
          exact ⟨rret_ii (by rw [HX.out]; rfl) (by rw [HX.out]; rfl), hB⟩
end Go.Proofs.YtbaloklcpfjmeaaGreatDoor.mom
