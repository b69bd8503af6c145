/- A part of the proofs: lemmas and contracts. -/
import Derived.Test.YtkhlfggnjcbniaaGreatDoorP35
import Derived.Test.YtkhlfggnjcbniaaGreatDoorP36
set_option maxHeartbeats 12800000
set_option maxRecDepth 1000000
namespace Go.Proofs.YtkhlfggnjcbniaaGreatDoor.mail
open Go.ChangeShapes Go.WideShapes Go.ChangeAt Go.RowKit Go.Lib str link cln

def listB (l : List UInt8) : Bool := decide (l = []) || (spl 44 [] l).all (fun x => addrB (stripB x))

theorem mlist_any (l : List UInt8) (hl : l.length ≤ 1000000) (w : World) (hG : G w) :
  Calls Tryz.prog 87 #[.string ⟨l.toArray⟩] w fun e w' => e = .returned (.bool (listB l)) ∧ Below w.heap.size w w' := by
 obtain ⟨v, hv⟩ : ∃ v, v = listB l := ⟨_, rfl⟩
 rw [← hv]
 unfold listB at hv
 by_cases h0 : l = []
 ·subst h0
  have H : Hid (v = true) := Lib.hid (by rw [hv]; rfl)
  clear hv
  go_enter Tryz.func87, Tryz.ntmps87
  go_wp2_with fail
  go_ret
  exact ⟨ret_bool H.out.symm, Below.refl _ _⟩
 have hemp : l.isEmpty = false := by simp [h0]
 rw [decide_eq_false h0, Bool.false_or] at hv
 have hsp := split_row l 44 hl w hG
 have hsm := spl_small 44 l []
 have hspn : (spl 44 [] l).length ≤ 1000001 := by rw [spl_len]; have := List.count_le_length (a := (44 : UInt8)) (l := l); omega
 generalize spl 44 [] l = ls at *
 have HSt := Lib.hid (fun w' x (hx : x ∈ ls) => strip_any x (by have := hsm x hx; simp at this; omega) w')
 have HAd := Lib.hid (fun w' (h : Below w.heap.size w w') x (hx : x ∈ ls) => maddr_any (stripB x) (by have := hsm x hx; simp at this; have := stripB_le x; omega) w' (hG.below h))
 have HV := Lib.hid hv
 clear hv hsm h0
 go_enter Tryz.func87, Tryz.ntmps87
 go_wp2_with fail
 refine hsp.mono ?_
 rintro e w1 ⟨b, cap, rfl, hs, hb1, hcap⟩
 have HS := Lib.hid hs
 clear hsp hs
 go_wp2_with fail
 go_loopw [10] (fun s wr => ∃ k : Nat, s = .int .i64 k ∧ k ≤ ls.length ∧ Hid (v = (ls.drop k).all (fun x => addrB (stripB x))) ∧ Below w1.heap.size w1 wr) (fun s _ => ls.length - (RowKit.intOf s).toNat)
 case atStart => exact ⟨0, rfl, by omega, HV, Below.refl _ _⟩
 case round =>
  obtain ⟨k, rfl, hk, hx, hbr⟩ := hrel
  have hb0r := below_trans hb1 hbr
  by_cases hlt : k < ls.length
  ·have hcell := cell_below hbr (HS.out k hlt)
   have hy := hx.out
   rw [List.drop_eq_getElem_cons hlt, List.all_cons] at hy
   have hst := HSt.out wr ls[k] (List.getElem_mem hlt)
   have HAd2 := Lib.hid (fun w' h => HAd.out w' h ls[k] (List.getElem_mem hlt))
   generalize ls[k] = x at *
   obtain ⟨y, hyy⟩ : ∃ y, y = addrB (stripB x) := ⟨_, rfl⟩
   rw [← hyy] at HAd2 hy
   generalize stripB x = z at *
   clear hyy hx
   have HY := Lib.hid hy
   clear hy
   go_wp2_with fail
   refine hst.mono ?_
   rintro e w3 ⟨rfl, hb3⟩
   have had := HAd2.out w3 (below_trans hb0r hb3)
   clear hst
   go_wp2_with fail
   refine had.mono ?_
   rintro e w4 ⟨rfl, hb4⟩
   have hbr4 := below_trans (below_trans hbr hb3) hb4
   clear had
   cases y
   ·have HZ : Hid (v = false) := Lib.hid HY.out
    clear HY
    go_wp2_with fail
    go_ret
    exact ⟨ret_bool HZ.out.symm, below_trans hb1 hbr4⟩
   ·have HZ : Hid (v = (ls.drop (k + 1)).all (fun x => addrB (stripB x))) := Lib.hid HY.out
    clear HY
    go_wp2_with fail
    go_roundw
    case rel => exact ⟨k + 1, by go_num, by omega, HZ, hbr4⟩
    case measure => simp [RowKit.intOf]; omega
  ·have hy := hx.out
   rw [List.drop_eq_nil_of_le (by omega)] at hy
   have HY : Hid (v = true) := Lib.hid hy
   clear hx hy
   go_wp2_with fail
   go_ret
   exact ⟨ret_bool HY.out.symm, hb0r⟩

end Go.Proofs.YtkhlfggnjcbniaaGreatDoor.mail
namespace Go.Proofs.YtkhlfggnjcbniaaGreatDoor.doc
open Go.ChangeShapes Go.WideShapes Go.ChangeAt Go.RowKit Go.Lib atr link ctl

def misB (kd : Int) (a : List Attr) (s : List UInt8) : Bool := if kd = 5 then !absS s else if kd = 6 then (if hasA nMultiple a then !mail.listB s else !mail.addrB s) else false
theorem mistyped_any (n : Nd) (va vk : Value) (kd : Int) (s : List UInt8) (hs : kd = 5 ∨ kd = 6 → s.length ≤ 1000000) (hn : n.attrs.length ≤ 140737488355328) (w : World) (hA : AttrsAt w va n.attrs) (hK : IntsAt w vk n.kids) (hG : G w) (hE : GE w) (hU : GU w) :
  Calls Tryz.prog 40 #[nodeV n va vk, .int .i64 kd, .string ⟨s.toArray⟩] w (RetB (misB kd n.attrs s) w) := by
 have HM : Hid (misB kd n.attrs s = if kd = 5 then !absS s else if kd = 6 then (if hasA nMultiple n.attrs then !mail.listB s else !mail.addrB s) else false) := Lib.hid rfl
 have HAb := Lib.hid (fun (g : kd = 5) w' (h : Below w.heap.size w w') => abs_any s (hs (.inl g)) w' (hG.below h) (hE.below h) (hU.below h))
 have HLi := Lib.hid (fun (g : kd = 6) w' (h : Below w.heap.size w w') => mail.mlist_any s (hs (.inr g)) w' (hG.below h))
 have HAd := Lib.hid (fun (g : kd = 6) w' (h : Below w.heap.size w w') => mail.maddr_any s (hs (.inr g)) w' (hG.below h))
 have HHas := Lib.hid (fun w' (h : Below w.heap.size w w') => vhas_any n va vk nMultiple hn w' (hA.below h) (hK.below h))
 obtain ⟨oa, cap, rfl⟩ := AttrsAt.lenN hA
 obtain ⟨ka, kc, rfl⟩ := RowAt.lenN hK
 unfold nodeV at HHas ⊢
 generalize misB kd n.attrs s = res at *
 generalize absS s = qa at *
 generalize mail.listB s = ql at *
 generalize mail.addrB s = qd at *
 generalize hasA nMultiple n.attrs = qm at *
 unfold nMultiple at HHas
 clear hA hK hG hE hU
 by_cases g5 : kd = 5
 ·subst g5
  have HX : Hid (res = !qa) := Lib.hid (by rw [HM.out, if_pos rfl])
  clear HM HLi HAd HHas
  go_enter Tryz.func40, Tryz.ntmps40
  go_wp2_with fail
  refine (HAb.out (by first | rfl | trivial) _ ((Below.refl _ w).alloc (Nat.le_refl _) _)).mono ?_
  rintro e w1 ⟨rfl, hb1⟩
  go_wp2_with fail
  go_ret
  exact ⟨ret_bool HX.out.symm, ((Below.refl _ w).alloc (Nat.le_refl _) _).trans (hb1.mono (by simp))⟩
 have b5 : (kd == 5) = false := by simpa using g5
 by_cases g6 : kd = 6
 case neg =>
  have b6 : (kd == 6) = false := by simpa using g6
  have HX : Hid (res = false) := Lib.hid (by rw [HM.out, if_neg g5, if_neg g6])
  clear HM HLi HAd HHas HAb g5 g6
  go_enter Tryz.func40, Tryz.ntmps40
  go_wp2_with fail
  go_ret
  exact ⟨ret_bool HX.out.symm, (Below.refl _ w).alloc (Nat.le_refl _) _⟩
 subst g6
 have HX : Hid (res = if qm then !ql else !qd) := Lib.hid (by rw [HM.out, if_neg g5, if_pos rfl])
 have hb0 : ∀ o, Below w.heap.size w (w.alloc o) := fun o => (Below.refl _ w).alloc (Nat.le_refl _) _
 clear HM HAb g5
 go_enter Tryz.func40, Tryz.ntmps40
 go_wp2_with fail
 refine (HHas.out _ (hb0 _)).mono ?_
 rintro e w1 ⟨rfl, hb1⟩
 have hb01 := (hb0 _).trans (hb1.mono (by simp))
 cases qm
 ·go_wp2_with fail
  refine (HAd.out (by first | rfl | trivial) _ hb01).mono ?_
  rintro e w2 ⟨rfl, hb2⟩
  go_wp2_with fail
  go_ret
  exact ⟨ret_bool (by rw [HX.out]; rfl), below_trans hb01 hb2⟩
 ·go_wp2_with fail
  refine (HLi.out (by first | rfl | trivial) _ hb01).mono ?_
  rintro e w2 ⟨rfl, hb2⟩
  go_wp2_with fail
  go_ret
  exact ⟨ret_bool (by rw [HX.out]; rfl), below_trans hb01 hb2⟩
end Go.Proofs.YtkhlfggnjcbniaaGreatDoor.doc
namespace Go.Proofs.YtkhlfggnjcbniaaGreatDoor.doc
open Go.ChangeShapes Go.WideShapes Go.ChangeAt Go.RowKit Go.Lib atr link

def lenS (q : Bool) (s : List UInt8) : Int := if q = true ∧ s.length ≤ 6 ∧ digsB s = true then (valN 0 s : Nat) else -1
theorem lenS_ok (q : Bool) (s : List UInt8) (h : q = true ∧ s.length ≤ 6 ∧ digsB s = true) : lenS q s = (valN 0 s : Nat) := if_pos h
theorem lenS_no (q : Bool) (s : List UInt8) (h : ¬ (q = true ∧ s.length ≤ 6 ∧ digsB s = true)) : lenS q s = -1 := if_neg h
theorem valN_small : ∀ (l : List UInt8) (n k : Nat), digsA l = true → l.length ≤ k → k ≤ 6 → n < 10 ^ (6 - k) → valN n l = decV n l := by
 intro l
 induction l with
 | nil => intro n k _ _ _ _; rfl
 | cons c r ih =>
  intro n k hd hk h6 hn
  rw [digsA, Bool.and_eq_true] at hd
  have hc : c.toNat ≤ 57 := by
   rcases dig_ways c with ⟨_, h⟩ | ⟨_, h, _⟩ | ⟨_, h⟩
   ·rw [h] at hd; cases hd.1
   ·exact h
   ·rw [h] at hd; cases hd.1
  rw [List.length_cons] at hk
  obtain ⟨m, rfl⟩ : ∃ m, k = m + 1 := ⟨k - 1, by omega⟩
  have hp : 10 ^ (6 - m) = 10 * 10 ^ (6 - (m + 1)) := by
   rw [show 6 - m = (6 - (m + 1)) + 1 from by omega, Nat.pow_succ]; omega
  have h5 : 10 ^ (6 - (m + 1)) ≤ 100000 := by
   have : 6 - (m + 1) ≤ 5 := by omega
   calc 10 ^ (6 - (m + 1)) ≤ 10 ^ 5 := Nat.pow_le_pow_right (by decide) this
    _ = 100000 := by decide
  rw [valN, decV_cons, if_pos (by omega)]
  refine ih _ m hd.2 (by omega) (by omega) ?_
  rw [hp]; omega

theorem vlength_any (n : Nd) (va vk : Value) (kd : Int) (nm : List UInt8) (q : Bool) (happ : ∀ w, Calls Tryz.prog 72 #[.int .i64 kd, .string ⟨nm.toArray⟩] w fun e w' => e = .returned (.bool q) ∧ w = w')
  (hn : n.attrs.length ≤ 140737488355328) (hs : ((fval nm n.attrs).getD []).length ≤ 1000000) (w : World) (hA : AttrsAt w va n.attrs) (hK : IntsAt w vk n.kids) (hE : GE w) :
  Calls Tryz.prog 42 #[nodeV n va vk, .int .i64 kd, .string ⟨nm.toArray⟩] w (RetI (lenS q ((fval nm n.attrs).getD [])) w) := by
 have HAt := Lib.hid (fun w' (h : Below w.heap.size w w') => vattr_any n va vk nm hn w' (hA.below h) (hK.below h))
 generalize (fval nm n.attrs).getD [] = s at *
 have HTr := Lib.hid (fun w' => trim_dig s (by omega) w')
 have HAo := Lib.hid (fun w' (h : Below w.heap.size w w') => atoi_any s (by omega) w' (hE.below h))
 have hdt := digs_trim s
 have HOk := Lib.hid (lenS_ok q s)
 have HNo := Lib.hid (lenS_no q s)
 have HVal := Lib.hid (fun (h : digsB s = true) (h6 : s.length ≤ 6) => (by
  have hd : digsA s = true := by unfold digsB at h; rw [Bool.and_eq_true] at h; exact h.2
  have e := valN_small s 0 6 hd h6 (Nat.le_refl _) (by decide)
  rw [e]
  rcases atoi_dec s h with ⟨_, h2⟩ | ⟨h1, _⟩
  ·exact h2
  ·have h3 := decV_small s 0 hd
   have h4 : 10 ^ s.length ≤ 10 ^ 6 := Nat.pow_le_pow_right (by decide) h6
   rw [Nat.zero_add, Nat.one_mul] at h3
   have h5 : 10 ^ 6 = 1000000 := by decide
   omega : atoiAll s = .ok ((valN 0 s : Nat) : Int)))
 obtain ⟨aa, ac, rfl⟩ := AttrsAt.lenN hA
 obtain ⟨ka, kc, rfl⟩ := RowAt.lenN hK
 unfold nodeV at HAt ⊢
 generalize lenS q s = res at *
 obtain ⟨ds, hds⟩ : ∃ d, d = digsB s := ⟨_, rfl⟩
 rw [← hds] at hdt HOk HNo HVal
 generalize valN 0 s = vn at *
 generalize trimS s digS = tr at *
 have hb0 : ∀ o, Below w.heap.size w (w.alloc o) := fun o => (Below.refl _ w).alloc (Nat.le_refl _) _
 have HDT : Hid (ds = (!(s == []) && (tr == []))) := Lib.hid hdt
 clear hA hK hE hdt hds
 go_enter Tryz.func42, Tryz.ntmps42
 go_wp2_with fail
 refine (HAt.out _ (hb0 _)).mono ?_
 rintro e w1 ⟨rfl, hb1⟩
 have hb01 := (hb0 _).trans (hb1.mono (by simp))
 clear HAt hb1
 go_wp2_with fail
 refine (happ _).mono ?_
 rintro e w2 ⟨rfl, rfl⟩
 clear happ
 cases q
 ·have HX : Hid (res = -1) := Lib.hid (HNo.out (fun h => by cases h.1))
  clear HOk HNo HVal HAo HTr
  go_wp2_with fail
  go_ret
  exact ⟨ret_int HX.out.symm, hb01⟩
 by_cases hs0 : s = []
 ·subst hs0
  have HX : Hid (res = -1) := Lib.hid (HNo.out (fun h => by have := HDT.out; rw [h.2.2] at this; cases this))
  clear HOk HNo HVal HAo HTr HDT
  go_wp2_with fail
  go_ret
  exact ⟨ret_int HX.out.symm, hb01⟩
 have hemp : s.isEmpty = false := by simp [hs0]
 by_cases h6 : s.length ≤ 6
 case neg =>
  have h6' : (6 : Int) < (s.length : Int) := by omega
  have HX : Hid (res = -1) := Lib.hid (HNo.out (fun h => h6 h.2.1))
  clear HOk HNo HVal HAo HTr HDT h6 hs0
  go_wp2_with fail
  go_ret
  exact ⟨ret_int HX.out.symm, hb01⟩
 have h6' : ¬ (6 : Int) < (s.length : Int) := by omega
 have htr := fun w => HTr.out w
 have hsb : (s == []) = false := by simpa using hs0
 cases tr with
 | cons x y =>
  have HX : Hid (res = -1) := Lib.hid (HNo.out (fun h => by have := HDT.out; rw [h.2.2, hsb] at this; cases this))
  clear HOk HNo HVal HAo HDT hsb hs0
  go_wp2_with fail
  refine (htr _).mono ?_
  rintro e w3 ⟨rfl, hb3⟩
  go_wp2_with fail
  go_ret
  exact ⟨ret_int HX.out.symm, below_trans hb01 hb3⟩
 | nil =>
  have hdsT : ds = true := by rw [HDT.out, hsb]; rfl
  have HX : Hid (res = (vn : Int)) := Lib.hid (HOk.out ⟨rfl, h6, hdsT⟩)
  have HAt2 := Lib.hid (HVal.out hdsT h6)
  clear HOk HNo HVal HDT hsb hs0 hdsT
  go_wp2_with fail
  refine (htr _).mono ?_
  rintro e w3 ⟨rfl, hb3⟩
  have hao := HAo.out w3 (below_trans hb01 hb3)
  go_wp2_with fail
  refine hao.mono ?_
  rintro e w4 ⟨hb4, ⟨v4, e4, rfl⟩ | ⟨hno, _⟩⟩
  ·have hv4 : v4 = (vn : Int) := by rw [HAt2.out] at e4; injection e4 with e4; exact e4.symm
   subst hv4
   clear hao htr e4
   go_wp2_with fail
   go_ret
   exact ⟨ret_int HX.out.symm, below_trans (below_trans hb01 hb3) hb4⟩
  ·exact absurd HAt2.out (hno _)

end Go.Proofs.YtkhlfggnjcbniaaGreatDoor.doc
