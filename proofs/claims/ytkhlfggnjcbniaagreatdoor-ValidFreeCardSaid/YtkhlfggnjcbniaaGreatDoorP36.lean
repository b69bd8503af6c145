/- A part of the proofs: lemmas and contracts. -/
import Derived.Test.YtkhlfggnjcbniaaGreatDoorP22
import Derived.Test.YtkhlfggnjcbniaaGreatDoorP23
import Derived.Test.YtkhlfggnjcbniaaGreatDoorP35
set_option maxHeartbeats 12800000
set_option maxRecDepth 1000000
namespace Go.Proofs.YtkhlfggnjcbniaaGreatDoor.doc
open Go.ChangeShapes Go.WideShapes Go.ChangeAt Go.RowKit Go.Lib atr link ctl

def misB (kd : Int) (a : List Attr) (s : List UInt8) : Bool := if kd = 5 then !absS s else if kd = 6 then (if hasA nMultiple a then !mail.listB s else !mail.addrB s) else false
theorem mistyped_any (n : Nd) (va vk : Value) (kd : Int) (s : List UInt8) (hs : kd = 5 ∨ kd = 6 → s.length ≤ 1000000) (hn : n.attrs.length ≤ 140737488355328) (w : World) (hA : AttrsAt w va n.attrs) (hK : IntsAt w vk n.kids) (hG : G w) (hE : GE w) (hU : GU w) :
  Calls Tryz.prog 40 #[nodeV n va vk, .int .i64 kd, .string ⟨s.toArray⟩] w (RetB (misB kd n.attrs s) w) := by
 have HM : Hid (misB kd n.attrs s = if kd = 5 then !absS s else if kd = 6 then (if hasA nMultiple n.attrs then !mail.listB s else !mail.addrB s) else false) := Lib.hid rfl
 have HAb := Lib.hid (fun (g : kd = 5) w' (h : Below w.heap.size w w') => abs_any s (hs (.inl g)) w' (hG.below h) (hE.below h) (hU.below h))
 have HLi := Lib.hid (fun (g : kd = 6) w' (h : Below w.heap.size w w') => mail.mlist_any s (hs (.inr g)) w' (hG.below h))
 have HAd := Lib.hid (fun (g : kd = 6) w' (h : Below w.heap.size w w') => mail.maddr_any s (hs (.inr g)) w' (hG.below h))
 have HHas := Lib.hid (fun w' (h : Below w.heap.size w w') => vhas_any n va vk nMultiple hn w' (hA.below h) (hK.below h))
 obtain ⟨oa, cap, rfl⟩ := AttrsAt.lenN hA
 obtain ⟨ka, kc, rfl⟩ := RowAt.lenN hK
 unfold nodeV at HHas ⊢
 generalize misB kd n.attrs s = res at *
 generalize absS s = qa at *
 generalize mail.listB s = ql at *
 generalize mail.addrB s = qd at *
 generalize hasA nMultiple n.attrs = qm at *
 unfold nMultiple at HHas
 clear hA hK hG hE hU
 by_cases g5 : kd = 5
 ·subst g5
  have HX : Hid (res = !qa) := Lib.hid (by rw [HM.out, if_pos rfl])
  clear HM HLi HAd HHas
  go_enter Tryz.func40, Tryz.ntmps40
  go_wp2_with fail
  refine (HAb.out (by first | rfl | trivial) _ ((Below.refl _ w).alloc (Nat.le_refl _) _)).mono ?_
  rintro e w1 ⟨rfl, hb1⟩
  go_wp2_with fail
  go_ret
  exact ⟨ret_bool HX.out.symm, ((Below.refl _ w).alloc (Nat.le_refl _) _).trans (hb1.mono (by simp))⟩
 have b5 : (kd == 5) = false := by simpa using g5
 by_cases g6 : kd = 6
 case neg =>
  have b6 : (kd == 6) = false := by simpa using g6
  have HX : Hid (res = false) := Lib.hid (by rw [HM.out, if_neg g5, if_neg g6])
  clear HM HLi HAd HHas HAb g5 g6
  go_enter Tryz.func40, Tryz.ntmps40
  go_wp2_with fail
  go_ret
  exact ⟨ret_bool HX.out.symm, (Below.refl _ w).alloc (Nat.le_refl _) _⟩
 subst g6
 have HX : Hid (res = if qm then !ql else !qd) := Lib.hid (by rw [HM.out, if_neg g5, if_pos rfl])
 have hb0 : ∀ o, Below w.heap.size w (w.alloc o) := fun o => (Below.refl _ w).alloc (Nat.le_refl _) _
 clear HM HAb g5
 go_enter Tryz.func40, Tryz.ntmps40
 go_wp2_with fail
 refine (HHas.out _ (hb0 _)).mono ?_
 rintro e w1 ⟨rfl, hb1⟩
 have hb01 := (hb0 _).trans (hb1.mono (by simp))
 cases qm
 ·go_wp2_with fail
  refine (HAd.out (by first | rfl | trivial) _ hb01).mono ?_
  rintro e w2 ⟨rfl, hb2⟩
  go_wp2_with fail
  go_ret
  exact ⟨ret_bool (by rw [HX.out]; rfl), below_trans hb01 hb2⟩
 ·go_wp2_with fail
  refine (HLi.out (by first | rfl | trivial) _ hb01).mono ?_
  rintro e w2 ⟨rfl, hb2⟩
  go_wp2_with fail
  go_ret
  exact ⟨ret_bool (by rw [HX.out]; rfl), below_trans hb01 hb2⟩
end Go.Proofs.YtkhlfggnjcbniaaGreatDoor.doc
namespace Go.Proofs.YtkhlfggnjcbniaaGreatDoor.doc
open Go.ChangeShapes Go.WideShapes Go.ChangeAt Go.RowKit Go.Lib atr link

def lenS (q : Bool) (s : List UInt8) : Int := if q = true ∧ s.length ≤ 6 ∧ digsB s = true then (valN 0 s : Nat) else -1
theorem lenS_ok (q : Bool) (s : List UInt8) (h : q = true ∧ s.length ≤ 6 ∧ digsB s = true) : lenS q s = (valN 0 s : Nat) := if_pos h
theorem lenS_no (q : Bool) (s : List UInt8) (h : ¬ (q = true ∧ s.length ≤ 6 ∧ digsB s = true)) : lenS q s = -1 := if_neg h
theorem valN_small : ∀ (l : List UInt8) (n k : Nat), digsA l = true → l.length ≤ k → k ≤ 6 → n < 10 ^ (6 - k) → valN n l = decV n l := by
 intro l
 induction l with
 | nil => intro n k _ _ _ _; rfl
 | cons c r ih =>
  intro n k hd hk h6 hn
  rw [digsA, Bool.and_eq_true] at hd
  have hc : c.toNat ≤ 57 := by
   rcases dig_ways c with ⟨_, h⟩ | ⟨_, h, _⟩ | ⟨_, h⟩
   ·rw [h] at hd; cases hd.1
   ·exact h
   ·rw [h] at hd; cases hd.1
  rw [List.length_cons] at hk
  obtain ⟨m, rfl⟩ : ∃ m, k = m + 1 := ⟨k - 1, by omega⟩
  have hp : 10 ^ (6 - m) = 10 * 10 ^ (6 - (m + 1)) := by
   rw [show 6 - m = (6 - (m + 1)) + 1 from by omega, Nat.pow_succ]; omega
  have h5 : 10 ^ (6 - (m + 1)) ≤ 100000 := by
   have : 6 - (m + 1) ≤ 5 := by omega
   calc 10 ^ (6 - (m + 1)) ≤ 10 ^ 5 := Nat.pow_le_pow_right (by decide) this
    _ = 100000 := by decide
  rw [valN, decV_cons, if_pos (by omega)]
  refine ih _ m hd.2 (by omega) (by omega) ?_
  rw [hp]; omega

theorem vlength_any (n : Nd) (va vk : Value) (kd : Int) (nm : List UInt8) (q : Bool) (happ : ∀ w, Calls Tryz.prog 72 #[.int .i64 kd, .string ⟨nm.toArray⟩] w fun e w' => e = .returned (.bool q) ∧ w = w')
  (hn : n.attrs.length ≤ 140737488355328) (hs : ((fval nm n.attrs).getD []).length ≤ 1000000) (w : World) (hA : AttrsAt w va n.attrs) (hK : IntsAt w vk n.kids) (hE : GE w) :
  Calls Tryz.prog 42 #[nodeV n va vk, .int .i64 kd, .string ⟨nm.toArray⟩] w (RetI (lenS q ((fval nm n.attrs).getD [])) w) := by
 have HAt := Lib.hid (fun w' (h : Below w.heap.size w w') => vattr_any n va vk nm hn w' (hA.below h) (hK.below h))
 generalize (fval nm n.attrs).getD [] = s at *
 have HTr := Lib.hid (fun w' => trim_dig s (by omega) w')
 have HAo := Lib.hid (fun w' (h : Below w.heap.size w w') => atoi_any s (by omega) w' (hE.below h))
 have hdt := digs_trim s
 have HOk := Lib.hid (lenS_ok q s)
 have HNo := Lib.hid (lenS_no q s)
 have HVal := Lib.hid (fun (h : digsB s = true) (h6 : s.length ≤ 6) => (by
  have hd : digsA s = true := by unfold digsB at h; rw [Bool.and_eq_true] at h; exact h.2
  have e := valN_small s 0 6 hd h6 (Nat.le_refl _) (by decide)
  rw [e]
  rcases atoi_dec s h with ⟨_, h2⟩ | ⟨h1, _⟩
  ·exact h2
  ·have h3 := decV_small s 0 hd
   have h4 : 10 ^ s.length ≤ 10 ^ 6 := Nat.pow_le_pow_right (by decide) h6
   rw [Nat.zero_add, Nat.one_mul] at h3
   have h5 : 10 ^ 6 = 1000000 := by decide
   omega : atoiAll s = .ok ((valN 0 s : Nat) : Int)))
 obtain ⟨aa, ac, rfl⟩ := AttrsAt.lenN hA
 obtain ⟨ka, kc, rfl⟩ := RowAt.lenN hK
 unfold nodeV at HAt ⊢
 generalize lenS q s = res at *
 obtain ⟨ds, hds⟩ : ∃ d, d = digsB s := ⟨_, rfl⟩
 rw [← hds] at hdt HOk HNo HVal
 generalize valN 0 s = vn at *
 generalize trimS s digS = tr at *
 have hb0 : ∀ o, Below w.heap.size w (w.alloc o) := fun o => (Below.refl _ w).alloc (Nat.le_refl _) _
 have HDT : Hid (ds = (!(s == []) && (tr == []))) := Lib.hid hdt
 clear hA hK hE hdt hds
 go_enter Tryz.func42, Tryz.ntmps42
 go_wp2_with fail
 refine (HAt.out _ (hb0 _)).mono ?_
 rintro e w1 ⟨rfl, hb1⟩
 have hb01 := (hb0 _).trans (hb1.mono (by simp))
 clear HAt hb1
 go_wp2_with fail
 refine (happ _).mono ?_
 rintro e w2 ⟨rfl, rfl⟩
 clear happ
 cases q
 ·have HX : Hid (res = -1) := Lib.hid (HNo.out (fun h => by cases h.1))
  clear HOk HNo HVal HAo HTr
  go_wp2_with fail
  go_ret
  exact ⟨ret_int HX.out.symm, hb01⟩
 by_cases hs0 : s = []
 ·subst hs0
  have HX : Hid (res = -1) := Lib.hid (HNo.out (fun h => by have := HDT.out; rw [h.2.2] at this; cases this))
  clear HOk HNo HVal HAo HTr HDT
  go_wp2_with fail
  go_ret
  exact ⟨ret_int HX.out.symm, hb01⟩
 have hemp : s.isEmpty = false := by simp [hs0]
 by_cases h6 : s.length ≤ 6
 case neg =>
  have h6' : (6 : Int) < (s.length : Int) := by omega
  have HX : Hid (res = -1) := Lib.hid (HNo.out (fun h => h6 h.2.1))
  clear HOk HNo HVal HAo HTr HDT h6 hs0
  go_wp2_with fail
  go_ret
  exact ⟨ret_int HX.out.symm, hb01⟩
 have h6' : ¬ (6 : Int) < (s.length : Int) := by omega
 have htr := fun w => HTr.out w
 have hsb : (s == []) = false := by simpa using hs0
 cases tr with
 | cons x y =>
  have HX : Hid (res = -1) := Lib.hid (HNo.out (fun h => by have := HDT.out; rw [h.2.2, hsb] at this; cases this))
  clear HOk HNo HVal HAo HDT hsb hs0
  go_wp2_with fail
  refine (htr _).mono ?_
  rintro e w3 ⟨rfl, hb3⟩
  go_wp2_with fail
  go_ret
  exact ⟨ret_int HX.out.symm, below_trans hb01 hb3⟩
 | nil =>
  have hdsT : ds = true := by rw [HDT.out, hsb]; rfl
  have HX : Hid (res = (vn : Int)) := Lib.hid (HOk.out ⟨rfl, h6, hdsT⟩)
  have HAt2 := Lib.hid (HVal.out hdsT h6)
  clear HOk HNo HVal HDT hsb hs0 hdsT
  go_wp2_with fail
  refine (htr _).mono ?_
  rintro e w3 ⟨rfl, hb3⟩
  have hao := HAo.out w3 (below_trans hb01 hb3)
  go_wp2_with fail
  refine hao.mono ?_
  rintro e w4 ⟨hb4, ⟨v4, e4, rfl⟩ | ⟨hno, _⟩⟩
  ·have hv4 : v4 = (vn : Int) := by rw [HAt2.out] at e4; injection e4 with e4; exact e4.symm
   subst hv4
   clear hao htr e4
   go_wp2_with fail
   go_ret
   exact ⟨ret_int HX.out.symm, below_trans (below_trans hb01 hb3) hb4⟩
  ·exact absurd HAt2.out (hno _)

theorem rlength_any (n : Nd) (hN : NFine n) (va vk : Value) (nm : List UInt8) (q : Bool) (happ : ∀ w, Calls Tryz.prog 75 #[.int .i64 (kindP n.name n.attrs), .string ⟨nm.toArray⟩] w fun e w' => e = .returned (.bool q) ∧ w = w')
  (hs : ((fval nm n.attrs).getD []).length ≤ 1000000) (w : World) (hA : AttrsAt w va n.attrs) (hK : IntsAt w vk n.kids) :
  Calls Tryz.prog 50 #[nodeV n va vk, .string ⟨nm.toArray⟩] w (RetI (lenS q ((fval nm n.attrs).getD [])) w) := by
 have HAt := Lib.hid (fun w' (h : Below w.heap.size w w') => by
  have := rattrN_any va n.attrs nm hN.attrs w' (hA.below h)
  rwa [show attrS nm n.attrs = (fval nm n.attrs).getD [] from rfl] at this)
 have HOf := Lib.hid (fun w' (h : Below w.heap.size w w') => rof_any n va vk hN w' (hA.below h) (hK.below h))
 generalize attrB nm n.attrs = qb at *
 generalize (fval nm n.attrs).getD [] = s at *
 have HDg := Lib.hid (fun w' => rdigs_any s (by omega) w')
 have HVa := Lib.hid (fun (h : digsB s = true) w' => rvalue_any s (by omega) (by unfold digsB at h; rw [Bool.and_eq_true] at h; exact h.2) w')
 have HOk := Lib.hid (lenS_ok q s)
 have HNo := Lib.hid (lenS_no q s)
 obtain ⟨aa, ac, rfl⟩ := AttrsAt.lenN hA
 obtain ⟨ka, kc, rfl⟩ := RowAt.lenN hK
 unfold nodeV at HOf ⊢
 generalize lenS q s = res at *
 generalize digsB s = ds at *
 generalize valN 0 s = vn at *
 generalize kindP n.name n.attrs = kd at *
 have hb0 : ∀ o, Below w.heap.size w (w.alloc o) := fun o => (Below.refl _ w).alloc (Nat.le_refl _) _
 clear hA hK hN
 go_enter Tryz.func50, Tryz.ntmps50
 go_wp2_with fail
 refine (HAt.out _ (hb0 _)).mono ?_
 rintro e w1 ⟨rfl, rfl⟩
 clear HAt
 go_wp2_with fail
 refine (HOf.out _ (hb0 _)).mono ?_
 rintro e w2 ⟨rfl, hb2⟩
 have hb02 := (hb0 _).trans (hb2.mono (by simp))
 clear HOf hb2
 go_wp2_with fail
 refine (happ _).mono ?_
 rintro e w3 ⟨rfl, rfl⟩
 clear happ
 cases q
 ·have HX : Hid (res = -1) := Lib.hid (HNo.out (fun h => by cases h.1))
  clear HOk HNo HVa HDg
  go_wp2_with fail
  go_ret
  exact ⟨ret_int HX.out.symm, hb02⟩
 by_cases h6 : s.length ≤ 6
 case neg =>
  have h6' : (6 : Int) < (s.length : Int) := by omega
  have HX : Hid (res = -1) := Lib.hid (HNo.out (fun h => h6 h.2.1))
  clear HOk HNo HVa HDg h6
  go_wp2_with fail
  go_ret
  exact ⟨ret_int HX.out.symm, hb02⟩
 have h6' : ¬ (6 : Int) < (s.length : Int) := by omega
 cases ds
 ·have HX : Hid (res = -1) := Lib.hid (HNo.out (fun h => by cases h.2.2))
  clear HOk HNo HVa h6
  go_wp2_with fail
  refine (HDg.out _).mono ?_
  rintro e w4 ⟨rfl, rfl⟩
  go_wp2_with fail
  go_ret
  exact ⟨ret_int HX.out.symm, hb02⟩
 ·have HX : Hid (res = (vn : Int)) := Lib.hid (HOk.out ⟨rfl, h6, rfl⟩)
  clear HOk HNo h6
  go_wp2_with fail
  refine (HDg.out _).mono ?_
  rintro e w4 ⟨rfl, rfl⟩
  go_wp2_with fail
  refine (HVa.out trivial _).mono ?_
  rintro e w5 ⟨rfl, rfl⟩
  go_wp2_with fail
  go_ret
  exact ⟨ret_int HX.out.symm, hb02⟩
end Go.Proofs.YtkhlfggnjcbniaaGreatDoor.doc
