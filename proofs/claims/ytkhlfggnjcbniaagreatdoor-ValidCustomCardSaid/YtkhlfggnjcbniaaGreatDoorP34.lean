/- A part of the proofs: lemmas and contracts. -/
import Derived.Test.YtkhlfggnjcbniaaGreatDoorP32
set_option maxHeartbeats 12800000
set_option maxRecDepth 1000000
namespace Go.Proofs.YtkhlfggnjcbniaaGreatDoor.link
open Go.ChangeShapes Go.WideShapes Go.ChangeAt Go.RowKit Go.Lib

theorem take2 (l : List UInt8) (k : Nat) (a b c : UInt8) (r : List UInt8) (h : l.drop k = c :: a :: b :: r) : (l.drop (k + 1)).take 2 = [a, b] := by
 have h1 : l.drop (k + 1) = a :: b :: r := by
  have := congrArg List.tail h
  rwa [List.tail_drop] at this
 rw [h1]; rfl

theorem hexes2 (a b : UInt8) : hexesB [a, b] = (hexOk a && hexOk b) := by simp [hexesB]

theorem among_fresh (c : UInt8) (w : World) (t : TypeId) :
  Calls Tryz.prog 229 #[.int .u8 c.toNat, .slice (some ⟨w.heap.size, 0, none⟩) 2 2] (w.alloc (.cells #[.string ⟨#[33, 36, 38, 39, 40, 41, 42, 43, 44, 59, 61]⟩, .string ⟨#[45, 46, 47, 58, 63, 64, 95, 126]⟩] t)) fun e w' => e = .returned (.bool (amongB sets c)) ∧ (w.alloc (.cells #[.string ⟨#[33, 36, 38, 39, 40, 41, 42, 43, 44, 59, 61]⟩, .string ⟨#[45, 46, 47, 58, 63, 64, 95, 126]⟩] t)) = w' :=
 among_any c sets w.heap.size 2 _ (by decide) (by
  intro j hj
  have hj2 : j < 2 := hj
  match j, hj2 with
  | 0, _ => simp [sets]
  | 1, _ => simp [sets]) (by decide)

theorem fine_any (l : List UInt8) (hl : l.length ≤ 1000000000) (w : World) (hU : GU w) :
  Calls Tryz.prog 158 #[.string ⟨l.toArray⟩] w fun e w' => e = .returned (.bool (fineS l)) ∧ Below w.heap.size w w' := by
 have hv := Go.Proofs.YtkhlfggnjcbniaaGreatDoor.utf.tvalid_any l hl w hU
 obtain ⟨v, hvv⟩ : ∃ v, v = fineS l := ⟨_, rfl⟩
 rw [← hvv]
 unfold fineS at hvv
 cases hd : validD l
 ·rw [hd] at hv hvv
  have H := Lib.hid hvv
  clear hvv hd
  go_enter Tryz.func158, Tryz.ntmps158
  go_wp2_with fail
  refine hv.mono ?_
  rintro e w' ⟨rfl, hB⟩
  go_wp2_with fail
  go_ret
  exact ⟨ret_bool H.out.symm, hB⟩
 ·rw [hd] at hv hvv
  have H : Hid (v = fineB l) := Lib.hid hvv
  clear hvv hd
  go_enter Tryz.func158, Tryz.ntmps158
  go_wp2_with fail
  refine hv.mono ?_
  rintro e w' ⟨rfl, hB⟩
  go_wp2_with fail
  go_loopw [3] (fun s wr => ∃ k : Nat, s = .int .i64 k ∧ k ≤ l.length ∧ Hid (v = fineB (l.drop k)) ∧ Below w.heap.size w wr) (fun s _ => l.length - (RowKit.intOf s).toNat)
  case atStart => exact ⟨0, rfl, by omega, H, hB⟩
  case round =>
   obtain ⟨k, rfl, hk, hh, hb⟩ := hrel
   by_cases hlt : k < l.length
   ·obtain ⟨c, rest, hd1, hd2, hidx⟩ := byte_at l k hlt
    have hx := hh.out
    rw [hd1] at hx
    have hrl : rest.length = l.length - (k + 1) := by rw [← hd2, List.length_drop]
    by_cases h37 : c = 37
    ·subst h37
     rw [fine_pct] at hx
     by_cases h2 : k + 2 < l.length
     ·obtain ⟨a, rest1, rfl⟩ : ∃ a r, rest = a :: r := by
       cases rest with
       | nil => simp at hrl; omega
       | cons a r => exact ⟨a, r, rfl⟩
      obtain ⟨b, r, rfl⟩ : ∃ a r, rest1 = a :: r := by
       cases rest1 with
       | nil => simp at hrl; omega
       | cons a r => exact ⟨a, r, rfl⟩
      have hsl := take2 l k a b 37 r hd1
      have hcall : Calls Tryz.prog 232 #[.string ⟨((l.drop (k + 1)).take 2).toArray⟩] wr fun e w' => e = .returned (.bool (hexOk a && hexOk b)) ∧ Below wr.heap.size wr w' := by
       rw [hsl, ← hexes2]; exact hexes_any [a, b] (by simp) wr
      rw [hex2, ← hd2] at hx
      generalize (hexOk a && hexOk b) = q at *
      have HS := Lib.hid hd1
      have HX := Lib.hid hx
      clear hx hd1 hd2 hh hrl
      clear hsl
      go_wp2_with fail
      refine hcall.mono ?_
      rintro e w2 ⟨rfl, hb2⟩
      clear hcall
      have hB2 := below_trans hb hb2
      cases q
      ·have HY : Hid (v = false) := Lib.hid (by rw [HX.out]; rfl)
       go_wp2_with fail
       go_ret
       exact ⟨ret_bool HY.out.symm, hB2⟩
      ·have HY : Hid (v = fineB (l.drop (k + 1))) := Lib.hid (by rw [HX.out]; rfl)
       go_wp2_with fail
       go_roundw
       case rel => exact ⟨k + 1, by go_num, by omega, HY, hB2⟩
       case measure => simp [RowKit.intOf]; omega
     ·have HX : Hid (v = false) := Lib.hid (by
       rw [hx]
       match rest, hrl with
       | [], _ => rfl
       | [_], _ => rfl
       | a :: b :: r, hrl => simp at hrl; omega)
      clear hx hd1 hd2 hh hrl
      go_wp2_with fail
      go_ret
      exact ⟨ret_bool HX.out.symm, hb⟩
    ·have h37b : ((c.toNat : Int) == 37) = false := by
      simp only [beq_eq_false_iff_ne, ne_eq]
      intro g
      exact h37 (UInt8.toNat_inj.1 (by simp; omega))
     rw [fine_cons c rest h37] at hx
     have hlt8 := c.toNat_lt
     by_cases h128 : 128 ≤ c.toNat
     ·have HX : Hid (v = fineB (l.drop (k + 1))) := Lib.hid (by rw [hx, hd2]; simp [okB, h128])
      clear hx hd1 hd2 hh hrl
      go_wp2_with fail
      go_roundw
      case rel => exact ⟨k + 1, by go_num, by omega, HX, hb⟩
      case measure => simp [RowKit.intOf]; omega
     ·have hp := plain_any c wr
      cases hpc : plainB c
      ·have HX : Hid (v = (amongB sets c && fineB (l.drop (k + 1)))) := Lib.hid (by rw [hx, hd2]; simp [okB, hpc, h128])
       rw [hpc] at hp
       clear hx hd1 hd2 hh hrl hpc
       go_wp2_with fail
       refine hp.mono ?_
       rintro e w' ⟨rfl, rfl⟩
       go_wp2_with fail
       refine (among_fresh c wr _).mono ?_
       rintro e w' ⟨rfl, rfl⟩
       have hB2 := hb.alloc (by simpa using hb.size) (.cells #[.string ⟨#[33, 36, 38, 39, 40, 41, 42, 43, 44, 59, 61]⟩, .string ⟨#[45, 46, 47, 58, 63, 64, 95, 126]⟩] 9)
       generalize amongB sets c = q at *
       cases q
       ·have HY : Hid (v = false) := Lib.hid (by rw [HX.out]; rfl)
        go_wp2_with fail
        go_ret
        exact ⟨ret_bool HY.out.symm, by assumption⟩
       ·have HY : Hid (v = fineB (l.drop (k + 1))) := Lib.hid (by rw [HX.out]; rfl)
        go_wp2_with fail
        go_roundw
        case rel => exact ⟨k + 1, by go_num, by omega, HY, by assumption⟩
        case measure => simp [RowKit.intOf]; omega
      ·have HX : Hid (v = fineB (l.drop (k + 1))) := Lib.hid (by rw [hx, hd2]; simp [okB, hpc])
       rw [hpc] at hp
       clear hx hd1 hd2 hh hrl hpc
       go_wp2_with fail
       refine hp.mono ?_
       rintro e w' ⟨rfl, rfl⟩
       go_wp2_with fail
       go_roundw
       case rel => exact ⟨k + 1, by go_num, by omega, HX, hb⟩
       case measure => simp [RowKit.intOf]; omega
   ·have HX : Hid (v = true) := Lib.hid (by rw [hh.out, List.drop_eq_nil_of_le (by omega)]; rfl)
    go_wp2_with fail
    go_ret
    exact ⟨ret_bool HX.out.symm, hb⟩
end Go.Proofs.YtkhlfggnjcbniaaGreatDoor.link
