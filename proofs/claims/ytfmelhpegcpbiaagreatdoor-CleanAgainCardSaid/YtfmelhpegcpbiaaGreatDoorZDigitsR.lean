/- The contract of the reader's digits. -/
import Derived.Test.YtfmelhpegcpbiaaGreatDoorZReader
import Derived.Deep.CutBlock
namespace Go.Proofs.YtfmelhpegcpbiaaGreatDoor.mom
open Go.ChangeShapes Go.WideShapes Go.ChangeAt Go.RowKit Go.Lib Go.Proofs.YtfmelhpegcpbiaaGreatDoor.num Go.Proofs.YtfmelhpegcpbiaaGreatDoor.days Go.Proofs.YtfmelhpegcpbiaaGreatDoor.cal

/-- how many digits are read -/
def dN (most : Nat) (l : List UInt8) : Nat := min (cnt l) most
/-- what digits does -/
def digRel (least most : Nat) (rest : List UInt8) (bad : Bool) (v : Int) (r2 : List UInt8) (bad2 : Bool) : Prop :=
  int64 v ∧ ((dN most rest < least ∧ v = 0 ∧ r2 = rest ∧ bad2 = true) ∨
    (least ≤ dN most rest ∧ r2 = rest.drop (dN most rest) ∧ ((val (rest.take (dN most rest)) < 9223372036854775808 ∧ v = val (rest.take (dN most rest)) ∧ bad2 = bad) ∨ (9223372036854775808 ≤ val (rest.take (dN most rest)) ∧ bad2 = true))))

theorem dN_step (most : Nat) (l : List UInt8) (k : Nat) (c : UInt8) (r : List UInt8) (hk : k < most) (h : l.drop k = c :: r) : dN (most - k) (l.drop k) = if isDig c then 1 + dN (most - (k + 1)) (l.drop (k + 1)) else 0 := by
  have h2 : l.drop (k + 1) = r := by
    have := congrArg List.tail h
    rwa [List.tail_drop] at this
  unfold dN
  rw [h, h2, cnt]
  split <;> omega
theorem allDig_take (l : List UInt8) (n : Nat) (h : n ≤ cnt l) : allDig (l.take n) = true := by
  have := cnt_take l
  unfold allDig at *
  rw [List.all_eq_true] at *
  intro x hx
  apply this
  rw [show l.take n = (l.take (cnt l)).take n from by rw [List.take_take, Nat.min_eq_left h]] at hx
  exact List.mem_of_mem_take hx

set_option maxHeartbeats 3200000 in
set_option maxRecDepth 100000 in
theorem digits_any (w0 w : World) (B : Nat) (rest : List UInt8) (bad : Bool) (least most : Nat) (a b : Int) (ha : a = least) (hb : b = most) (hl : 1 ≤ least) (hl2 : least ≤ 10) (hm : most ≤ 1000000) (h : Ro w0 w B rest bad) (hE : GE w0) :
    Calls Tryz.prog 124 #[.pointer (some ⟨B, 0, none⟩), .int .i64 a, .int .i64 b] w fun e w' => ∃ v r2 bad2, e = .returned (.int .i64 v) ∧ Ro w0 w' B r2 bad2 ∧ digRel least most rest bad v r2 bad2 := by
  subst ha
  subst hb
  have hsm := h.small
  have c0 := h.rd.c0
  have hnle : dN most rest ≤ rest.length := by have := cnt_le rest; unfold dN; omega
  obtain ⟨N, hN⟩ : ∃ N, N = dN most rest := ⟨_, rfl⟩
  have HN0 : Hid (N = 0 + dN (most - 0) (rest.drop 0)) := Lib.hid (by rw [hN]; simp)
  go_enter Tryz.func124, Tryz.ntmps124
  rw [← hN] at hnle
  have HN := Lib.hid hN
  clear hN
  go_upto_block 0 with fail
  go_cut [7] (fun s7 wx => s7 = .int .i64 N ∧ wx = w)
  case first =>
    go_wp2_with fail
    go_loop [7] (fun s => ∃ k : Nat, s = .int .i64 k ∧ k ≤ rest.length ∧ k ≤ most ∧ Hid (N = k + dN (most - k) (rest.drop k))) (fun s => rest.length - (RowKit.intOf s).toNat)
    case atStart => exact ⟨0, rfl, by omega, by omega, HN0⟩
    case round =>
      obtain ⟨k, rfl, hk, hk2, hh⟩ := hrel
      clear HN0
      by_cases hlt : k < rest.length
      · by_cases hlm : k < most
        · obtain ⟨c, r, hd1, hd2, hidx⟩ := Go.Proofs.YtfmelhpegcpbiaaGreatDoor.num.byte_at rest k hlt
          have hx := hh.out
          rw [dN_step most rest k c r hlm hd1] at hx
          cases hdig : isDig c
          · rw [hdig, if_neg (by decide)] at hx
            have hno := isDig_no c hdig
            have HX : Hid (N = k) := Lib.hid hx
            clear hx hh hd1 hd2 hdig
            rcases hno with g | g
            · go_wp2_with fail
              go_meet
              exact ⟨by rw [HX.out], rfl⟩
            · go_wp2_with fail
              go_meet
              exact ⟨by rw [HX.out], rfl⟩
          · rw [hdig, if_pos rfl] at hx
            obtain ⟨g1, g2⟩ := (isDig_iff c).1 hdig
            have HX : Hid (N = (k + 1) + dN (most - (k + 1)) (rest.drop (k + 1))) := Lib.hid (by rw [hx]; omega)
            clear hx hh hd1 hd2 hdig
            go_wp2_with fail
            go_round
            case rel => exact ⟨k + 1, by go_num, by omega, by omega, HX⟩
            case measure => simp [RowKit.intOf]; omega
        · have HX : Hid (N = k) := Lib.hid (by rw [hh.out]; unfold dN; omega)
          clear hh
          go_wp2_with fail
          go_meet
          exact ⟨by rw [HX.out], rfl⟩
      · have HX : Hid (N = k) := Lib.hid (by rw [hh.out, List.drop_eq_nil_of_le (by omega)]; unfold dN; simp [cnt])
        clear hh
        go_wp2_with fail
        go_meet
        exact ⟨by rw [HX.out], rfl⟩
  case rest =>
  obtain ⟨rfl, rfl⟩ := hcut
  clear HN0
  by_cases hlt : N < least
  · have c1 := h.rd.c1
    have f1 := h.rd.f1
    have hs := h.s1 true
    have HR : digRel least most rest bad 0 rest true := ⟨⟨by decide, by decide⟩, .inl ⟨by rw [← HN.out]; exact hlt, rfl, rfl, rfl⟩⟩
    have HRR := Lib.hid HR
    clear HR
    go_wp2_with fail
    go_ret
    exact ⟨0, rest, true, rfl, hs, HRR.out⟩
  · have htl : (rest.take N).length = N := by rw [List.length_take]; omega
    have hda : allDig (rest.take N) = true := allDig_take rest N (by rw [HN.out]; unfold dN; omega)
    have hat := atoi_any (rest.take N) (by rw [htl]; omega) wc (hE.below h.low)
    have hav := atoi_val (rest.take N) (by omega) hda
    have hvl := Lib.hid (show ∀ v bad2, int64 v → ((val (rest.take N) < 9223372036854775808 ∧ v = val (rest.take N) ∧ bad2 = bad) ∨ (9223372036854775808 ≤ val (rest.take N) ∧ bad2 = true)) → digRel least most rest bad v (rest.drop N) bad2 from fun v bad2 h1 h2 => ⟨h1, .inr ⟨by rw [← HN.out]; omega, by rw [HN.out], by rw [← HN.out]; exact h2⟩⟩)
    have hdl : (rest.drop N).length ≤ 1000000 := by simp; omega
    generalize val (rest.take N) = x at *
    have HAV := Lib.hid hav
    clear hav hda htl
    go_wp2_with fail
    refine hat.mono ?_
    rintro e w2 ⟨hb2, ⟨v, hv, rfl⟩ | ⟨hv, n, M, hn64, rfl⟩⟩
    · have h2 := h.below hb2
      have c0' := h2.rd.c0
      have f0' := h2.rd.f0
      have c1' := h2.rd.c1
      have f1' := h2.rd.f1
      have hs := h2.s0 (rest.drop N) hdl
      have HX : Hid (digRel least most rest bad v (rest.drop N) bad) := Lib.hid (by
        rcases HAV.out with ⟨g1, g2⟩ | ⟨g1, g2⟩
        · rw [g2] at hv
          cases hv
          exact hvl.out _ _ ⟨by omega, by omega⟩ (.inl ⟨g1, rfl, rfl⟩)
        · exact absurd hv (g2 v))
      clear hat hv HAV hvl
      go_wp2_with fail
      go_ret
      exact ⟨v, _, bad, rfl, hs, HX.out⟩
    · have h2 := h.below hb2
      have c0' := h2.rd.c0
      have f0' := h2.rd.f0
      have c1' := h2.rd.c1
      have f1' := h2.rd.f1
      have hs1 := h2.s1 true
      have hs := hs1.s0 (rest.drop N) hdl
      have g0 := hs1.rd.c0
      have k0 := hs1.rd.f0
      have hge : 9223372036854775808 ≤ x := by
        rcases HAV.out with ⟨g1, g2⟩ | ⟨g1, g2⟩
        · exact absurd g2 (hv _)
        · exact g1
      have HX : Hid (int64 n → digRel least most rest bad n (rest.drop N) true) := Lib.hid (fun hn => hvl.out _ _ hn (.inr ⟨hge, rfl⟩))
      clear hat hv HAV hvl hge
      go_wp2_with fail
      go_ret
      exact ⟨n, _, true, rfl, hs, HX.out hn64⟩
end Go.Proofs.YtfmelhpegcpbiaaGreatDoor.mom
