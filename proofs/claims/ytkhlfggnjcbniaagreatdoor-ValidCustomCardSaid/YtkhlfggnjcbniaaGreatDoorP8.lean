/- A part of the proofs: lemmas and contracts. -/
import Derived.Test.YtkhlfggnjcbniaaGreatDoorShelf
import Derived.Test.YtkhlfggnjcbniaaGreatDoorP1
set_option maxHeartbeats 12800000
set_option maxRecDepth 1000000
namespace Go.Proofs.YtkhlfggnjcbniaaGreatDoor.num
open Go.ChangeShapes Go.WideShapes Go.ChangeAt Go.RowKit Go.Lib

def top63 : Nat := 9223372036854775807

def uint63 (v : Nat) : Value := if v ≤ top63 then .tuple #[.int .u64 v, .nilIface] else .tuple #[.int .u64 9223372036854775807, .iface 191 (.int .i64 1)]

theorem val_take_le (l : List UInt8) (k : Nat) : val (l.take k) ≤ val l := by
 have h : val l = valFrom (val (l.take k)) (l.drop k) := by
  unfold val; rw [← valFrom_append, List.take_append_drop]
 rw [h]; exact valFrom_ge _ _
theorem val_snoc (l : List UInt8) (c : UInt8) : val (l ++ [c]) = val l * 10 + dv c := by
 unfold val; rw [valFrom_append]; rfl

theorem iparse63_any (l : List UInt8) (hne : l ≠ []) (hd : allDig l = true) (hmax : l.length ≤ 1000000000) (w : World) :
  Calls Tryz.prog 300 #[.string ⟨l.toArray⟩, .int .i64 10, .int .i64 63] w fun e w' => e = .returned (uint63 (val l)) ∧ Below w.heap.size w w' := by
 have hl1 : 1 ≤ l.length := by
  cases l with
  | nil => exact absurd rfl hne
  | cons a b => simp
 have hemp : (l == []) = false := by cases l with
  | nil => exact absurd rfl hne
  | cons a b => rfl
 have hcv := Lib.run_convert_string_bytes (P := Tryz.prog) w 9 106 5 ⟨l.toArray⟩ (u := .string) Tryz.underlying9 Tryz.underlying106 Tryz.underlying5
 have hBl := Lib.bytesWorld_below w 5 ⟨l.toArray⟩
 have hB : ∀ j, j < l.length → (Lib.bytesWorld w 5 ⟨l.toArray⟩).cell? ⟨w.heap.size, j, none⟩ = some (.int .u8 (l.getD j 0).toNat) := fun j hj => Lib.bytesWorld_cell w 5 ⟨l.toArray⟩ j hj
 obtain ⟨W1, hW1⟩ : ∃ W1, W1 = Lib.bytesWorld w 5 ⟨l.toArray⟩ := ⟨_, rfl⟩
 rw [← hW1] at hcv hB hBl
 clear hW1
 have hmv : IntKind.u64.wrap (IntKind.u64.wrap 9223372036854775808 - 1) = 9223372036854775807 := by
  rw [IntKind.wrap_u64, IntKind.wrap_u64]
  decide
 have HD := Lib.hid hd
 have HBL := Lib.hid hBl
 have HBB := Lib.hid hB
 clear hd hBl hB hne
 go_enter Tryz.func300, Tryz.ntmps300
 go_wp2
 go_loop [12, 13, 101] (fun vu vn vi => ∃ (k : Nat) (a : Int), vu = .bool false ∧ vn = .int .u64 a ∧ vi = .int .i64 k ∧ k ≤ l.length ∧ 0 ≤ a ∧ a ≤ 9223372036854775807 ∧ Hid (a = (val (l.take k) : Int)))
  (fun _ _ vi => l.length - (RowKit.intOf vi).toNat)
 case atStart => exact ⟨0, 0, rfl, rfl, rfl, by omega, by omega, by omega, Lib.hid rfl⟩
 case round =>
  obtain ⟨k, a, rfl, rfl, rfl, hk, a0, a1, ha⟩ := hrel
  by_cases hkn : k < l.length
  ·obtain ⟨c, rest, h1, h2, _⟩ := byte_at l k hkn
   have hc := HBB.out k hkn
   have hget : l.getD k 0 = c := by
    have := List.drop_eq_getElem_cons hkn
    rw [h1] at this
    simp [List.getD, List.getElem?_eq_getElem hkn, (List.cons.inj this).1]
   rw [hget] at hc
   have hdig := (isDig_iff c).1 (dig_all l k c rest h1 HD.out)
   obtain ⟨hd0, hd1⟩ := hdig
   have hv := val_snoc (l.take k) c
   rw [← take_snoc' l k c rest h1, dv_eq] at hv
   have hle := val_take_le l (k + 1)
   have HV := Lib.hid (And.intro hv hle)
   clear hget h1 h2 hv hle
   by_cases hcut : 1844674407370955162 ≤ a
   ·have HF : Hid (uint63 (val l) = .tuple #[.int .u64 9223372036854775807, .iface 191 (.int .i64 1)]) := Lib.hid (by
     unfold uint63
     rw [if_neg]
     have e1 := HV.out.1; have e2 := HV.out.2; have e3 := ha.out
     unfold top63; omega)
    go_wp2
    go_ret2
    exact ⟨by rw [HF.out]; rfl, HBL.out⟩
   ·by_cases hov : 9223372036854775807 < a * 10 + ((c.toNat : Int) - 48)
    ·have HF : Hid (uint63 (val l) = .tuple #[.int .u64 9223372036854775807, .iface 191 (.int .i64 1)]) := Lib.hid (by
      unfold uint63
      rw [if_neg]
      have e1 := HV.out.1; have e2 := HV.out.2; have e3 := ha.out
      unfold top63; omega)
     by_cases hw : a * 10 + ((c.toNat : Int) - 48) ≤ 18446744073709551615
     ·go_wp2
      go_ret2
      exact ⟨by rw [HF.out]; rfl, HBL.out⟩
     ·have hwr : IntKind.u64.wrap (a * 10 + ((c.toNat : Int) - 48)) < a * 10 := by
       rw [IntKind.wrap_u64]; omega
      go_wp2
      go_ret2
      exact ⟨by rw [HF.out]; rfl, HBL.out⟩
    ·have HN : Hid (a * 10 + ((c.toNat : Int) - 48) = (val (l.take (k + 1)) : Int)) := Lib.hid (by
      have e1 := HV.out.1; have e3 := ha.out
      omega)
     go_wp2
     go_round
     case rel => exact ⟨k + 1, a * 10 + ((c.toNat : Int) - 48), rfl, rfl, by go_num, by omega, by omega, by omega, HN⟩
     case measure => simp [RowKit.intOf]; omega
  ·have HF : Hid (uint63 (val l) = .tuple #[.int .u64 a, .nilIface]) := Lib.hid (by
    have e3 := ha.out
    rw [List.take_of_length_le (by omega)] at e3
    unfold uint63
    rw [if_pos (by unfold top63; omega), e3])
   go_wp2
   go_ret2
   exact ⟨by rw [HF.out]; rfl, HBL.out⟩

theorem parse63_ok (l : List UInt8) (hne : l ≠ []) (hd : allDig l = true) (hmax : l.length ≤ 1000000000) (hv : val l ≤ top63) (w : World) :
  Calls Tryz.prog 261 #[.string ⟨l.toArray⟩, .int .i64 10, .int .i64 63] w fun e w' => e = .returned (.tuple #[.int .u64 (val l), .nilIface]) ∧ Below w.heap.size w w' := by
 have hI := iparse63_any l hne hd hmax w
 unfold uint63 at hI
 rw [if_pos hv] at hI
 go_enter Tryz.func261, Tryz.ntmps261
 go_wp2_with (go_at_call 300; refine hI.mono ?_; rintro e w' ⟨rfl, hB⟩)
 go_ret2
 exact ⟨rfl, hB⟩

theorem parse63_range (l : List UInt8) (hne : l ≠ []) (hd : allDig l = true) (hmax : l.length ≤ 1000000000) (hv : ¬ val l ≤ top63) (w : World) (hE : GE w) :
  Calls Tryz.prog 261 #[.string ⟨l.toArray⟩, .int .i64 10, .int .i64 63] w fun e w' => (∃ N, e = .returned (.tuple #[.int .u64 9223372036854775807, .iface 194 (.pointer (some ⟨N, 0, none⟩))])) ∧ Below w.heap.size w w' := by
 have hI := iparse63_any l hne hd hmax w
 unfold uint63 at hI
 rw [if_neg hv] at hI
 go_enter Tryz.func261, Tryz.ntmps261
 go_wp2_with (go_at_call 300; refine hI.mono ?_; rintro e w1 ⟨rfl, hB⟩)
 obtain ⟨ev, hev, hev2⟩ := (hE.below hB).er
 have hT : Calls Tryz.prog 180 #[.string ⟨#[80, 97, 114, 115, 101, 85, 105, 110, 116]⟩, .string ⟨l.toArray⟩, .int .i64 10, .int .i64 63, .iface 191 (.int .i64 1)] w1 fun e w' => ∃ N, e = .returned (.iface 194 (.pointer (some ⟨N, 0, none⟩))) ∧ w1.heap.size ≤ N ∧ w'.heap[N]? = some (.cells #[.string ⟨#[80, 97, 114, 115, 101, 85, 105, 110, 116]⟩, .string ⟨l.toArray⟩, ev] 236 (0, 0)) ∧ Below w1.heap.size w1 w' :=
  AnyPu.strconv_toError_range (P := Tryz.prog) (ρ := Tryz.laysPu14_ren) { Tryz.laysPu14 with } ⟨#[80, 97, 114, 115, 101, 85, 105, 110, 116]⟩ ⟨l.toArray⟩ 10 63 ev w1 (by rw [bsize]; omega) hev hev2
 go_at_call 180
 refine hT.mono ?_
 rintro e w2 ⟨N, rfl, _, _, hB2⟩
 clear hT hI
 go_wp2
 go_ret2
 exact ⟨⟨N, rfl⟩, below_trans hB hB2⟩
end Go.Proofs.YtkhlfggnjcbniaaGreatDoor.num
