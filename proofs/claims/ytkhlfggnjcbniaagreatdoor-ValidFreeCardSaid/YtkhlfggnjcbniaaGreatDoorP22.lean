/- A part of the proofs: lemmas and contracts. -/
import Derived.Test.YtkhlfggnjcbniaaGreatDoorP21
set_option maxHeartbeats 12800000
set_option maxRecDepth 1000000
namespace Go.Proofs.YtkhlfggnjcbniaaGreatDoor.mail
open Go.ChangeShapes Go.WideShapes Go.ChangeAt Go.RowKit Go.Lib str link cln

def listB (l : List UInt8) : Bool := decide (l = []) || (spl 44 [] l).all (fun x => addrB (stripB x))

theorem mlist_any (l : List UInt8) (hl : l.length ≤ 1000000) (w : World) (hG : G w) :
  Calls Tryz.prog 87 #[.string ⟨l.toArray⟩] w fun e w' => e = .returned (.bool (listB l)) ∧ Below w.heap.size w w' := by
 obtain ⟨v, hv⟩ : ∃ v, v = listB l := ⟨_, rfl⟩
 rw [← hv]
 unfold listB at hv
 by_cases h0 : l = []
 ·subst h0
  have H : Hid (v = true) := Lib.hid (by rw [hv]; rfl)
  clear hv
  go_enter Tryz.func87, Tryz.ntmps87
  go_wp2_with fail
  go_ret
  exact ⟨ret_bool H.out.symm, Below.refl _ _⟩
 have hemp : l.isEmpty = false := by simp [h0]
 rw [decide_eq_false h0, Bool.false_or] at hv
 have hsp := split_row l 44 hl w hG
 have hsm := spl_small 44 l []
 have hspn : (spl 44 [] l).length ≤ 1000001 := by rw [spl_len]; have := List.count_le_length (a := (44 : UInt8)) (l := l); omega
 generalize spl 44 [] l = ls at *
 have HSt := Lib.hid (fun w' x (hx : x ∈ ls) => strip_any x (by have := hsm x hx; simp at this; omega) w')
 have HAd := Lib.hid (fun w' (h : Below w.heap.size w w') x (hx : x ∈ ls) => maddr_any (stripB x) (by have := hsm x hx; simp at this; have := stripB_le x; omega) w' (hG.below h))
 have HV := Lib.hid hv
 clear hv hsm h0
 go_enter Tryz.func87, Tryz.ntmps87
 go_wp2_with fail
 refine hsp.mono ?_
 rintro e w1 ⟨b, cap, rfl, hs, hb1, hcap⟩
 have HS := Lib.hid hs
 clear hsp hs
 go_wp2_with fail
 go_loopw [10] (fun s wr => ∃ k : Nat, s = .int .i64 k ∧ k ≤ ls.length ∧ Hid (v = (ls.drop k).all (fun x => addrB (stripB x))) ∧ Below w1.heap.size w1 wr) (fun s _ => ls.length - (RowKit.intOf s).toNat)
 case atStart => exact ⟨0, rfl, by omega, HV, Below.refl _ _⟩
 case round =>
  obtain ⟨k, rfl, hk, hx, hbr⟩ := hrel
  have hb0r := below_trans hb1 hbr
  by_cases hlt : k < ls.length
  ·have hcell := cell_below hbr (HS.out k hlt)
   have hy := hx.out
   rw [List.drop_eq_getElem_cons hlt, List.all_cons] at hy
   have hst := HSt.out wr ls[k] (List.getElem_mem hlt)
   have HAd2 := Lib.hid (fun w' h => HAd.out w' h ls[k] (List.getElem_mem hlt))
   generalize ls[k] = x at *
   obtain ⟨y, hyy⟩ : ∃ y, y = addrB (stripB x) := ⟨_, rfl⟩
   rw [← hyy] at HAd2 hy
   generalize stripB x = z at *
   clear hyy hx
   have HY := Lib.hid hy
   clear hy
   go_wp2_with fail
   refine hst.mono ?_
   rintro e w3 ⟨rfl, hb3⟩
   have had := HAd2.out w3 (below_trans hb0r hb3)
   clear hst
   go_wp2_with fail
   refine had.mono ?_
   rintro e w4 ⟨rfl, hb4⟩
   have hbr4 := below_trans (below_trans hbr hb3) hb4
   clear had
   cases y
   ·have HZ : Hid (v = false) := Lib.hid HY.out
    clear HY
    go_wp2_with fail
    go_ret
    exact ⟨ret_bool HZ.out.symm, below_trans hb1 hbr4⟩
   ·have HZ : Hid (v = (ls.drop (k + 1)).all (fun x => addrB (stripB x))) := Lib.hid HY.out
    clear HY
    go_wp2_with fail
    go_roundw
    case rel => exact ⟨k + 1, by go_num, by omega, HZ, hbr4⟩
    case measure => simp [RowKit.intOf]; omega
  ·have hy := hx.out
   rw [List.drop_eq_nil_of_le (by omega)] at hy
   have HY : Hid (v = true) := Lib.hid hy
   clear hx hy
   go_wp2_with fail
   go_ret
   exact ⟨ret_bool HY.out.symm, hb0r⟩

theorem rmlist_any (l : List UInt8) (hl : l.length ≤ 1000000) (w : World) :
  Calls Tryz.prog 107 #[.string ⟨l.toArray⟩] w fun e w' => e = .returned (.bool (listB l)) ∧ Below w.heap.size w w' := by
 obtain ⟨v, hv⟩ : ∃ v, v = listB l := ⟨_, rfl⟩
 rw [← hv]
 unfold listB at hv
 by_cases h0 : l = []
 ·subst h0
  have H : Hid (v = true) := Lib.hid (by rw [hv]; rfl)
  clear hv
  go_enter Tryz.func107, Tryz.ntmps107
  go_wp2_with fail
  go_ret
  exact ⟨ret_bool H.out.symm, Below.refl _ _⟩
 have hz : ((l.length : Int) == 0) = false := by simp [h0]
 rw [decide_eq_false h0, Bool.false_or] at hv
 have hsp := rsplit_row l 44 hl w
 have hsm := spl_small 44 l []
 have hspn : (spl 44 [] l).length ≤ 1000001 := by rw [spl_len]; have := List.count_le_length (a := (44 : UInt8)) (l := l); omega
 generalize spl 44 [] l = ls at *
 have HSt := Lib.hid (fun w' x (hx : x ∈ ls) => rstrip_any x (by have := hsm x hx; simp at this; omega) w')
 have HAd := Lib.hid (fun w' x (hx : x ∈ ls) => raddr_any (stripB x) (by have := hsm x hx; simp at this; have := stripB_le x; omega) w')
 have HV := Lib.hid hv
 clear hv hsm h0
 go_enter Tryz.func107, Tryz.ntmps107
 go_wp2_with fail
 refine hsp.mono ?_
 rintro e w1 ⟨b, cap, rfl, hs, hb1⟩
 have HS := Lib.hid hs
 clear hsp hs
 go_wp2_with fail
 go_loopw [4] (fun s wr => ∃ k : Nat, s = .int .i64 k ∧ k ≤ ls.length ∧ Hid (v = (ls.drop k).all (fun x => addrB (stripB x))) ∧ Below w1.heap.size w1 wr) (fun s _ => ls.length - (RowKit.intOf s).toNat)
 case atStart => exact ⟨0, rfl, by omega, HV, Below.refl _ _⟩
 case round =>
  obtain ⟨k, rfl, hk, hx, hbr⟩ := hrel
  have hb0r := below_trans hb1 hbr
  by_cases hlt : k < ls.length
  ·have hcell := cell_below hbr (HS.out k hlt)
   have hy := hx.out
   rw [List.drop_eq_getElem_cons hlt, List.all_cons] at hy
   have hst := HSt.out wr ls[k] (List.getElem_mem hlt)
   have had := HAd.out wr ls[k] (List.getElem_mem hlt)
   generalize ls[k] = x at *
   obtain ⟨y, hyy⟩ : ∃ y, y = addrB (stripB x) := ⟨_, rfl⟩
   rw [← hyy] at had hy
   generalize stripB x = z at *
   clear hyy hx
   have HY := Lib.hid hy
   clear hy
   go_wp2_with fail
   refine hst.mono ?_
   rintro e w3 ⟨rfl, rfl⟩
   clear hst
   go_wp2_with fail
   refine had.mono ?_
   rintro e w4 ⟨rfl, hb4⟩
   have hbr4 := below_trans hbr hb4
   clear had
   cases y
   ·have HZ : Hid (v = false) := Lib.hid HY.out
    clear HY
    go_wp2_with fail
    go_ret
    exact ⟨ret_bool HZ.out.symm, below_trans hb1 hbr4⟩
   ·have HZ : Hid (v = (ls.drop (k + 1)).all (fun x => addrB (stripB x))) := Lib.hid HY.out
    clear HY
    go_wp2_with fail
    go_roundw
    case rel => exact ⟨k + 1, by go_num, by omega, HZ, hbr4⟩
    case measure => simp [RowKit.intOf]; omega
  ·have hy := hx.out
   rw [List.drop_eq_nil_of_le (by omega)] at hy
   have HY : Hid (v = true) := Lib.hid hy
   clear hx hy
   go_wp2_with fail
   go_ret
   exact ⟨ret_bool HY.out.symm, hb0r⟩
end Go.Proofs.YtkhlfggnjcbniaaGreatDoor.mail
