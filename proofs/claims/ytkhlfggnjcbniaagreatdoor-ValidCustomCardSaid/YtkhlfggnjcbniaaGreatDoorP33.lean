/- A part of the proofs: lemmas and contracts. -/
import Derived.Test.YtkhlfggnjcbniaaGreatDoorP32
set_option maxHeartbeats 12800000
set_option maxRecDepth 1000000
namespace Go.Proofs.YtkhlfggnjcbniaaGreatDoor.mail
open Go.ChangeShapes Go.WideShapes Go.ChangeAt Go.RowKit Go.Lib str link

theorem mplain_any (c : UInt8) (w : World) :
  Calls Tryz.prog 242 #[.int .u8 c.toNat] w fun e w' => e = .returned (.bool (plainB c)) ∧ w = w' := by
 have hw := plain_ways c.toNat
 unfold plainB
 have hc := c.toNat_lt
 generalize c.toNat = n at *
 rcases hw with ⟨h1, h⟩ | ⟨h1, h2, h⟩ | ⟨h1, h2, h⟩ | ⟨h1, h2, h⟩ | ⟨h1, h2, h⟩ | ⟨h1, h2, h⟩ | ⟨h1, h⟩
 all_goals
  have H := Lib.hid h
  clear h
  go_enter Tryz.func242, Tryz.ntmps242
  go_wp2_with fail
  go_ret
  exact ⟨ret_bool (Eq.trans (by first | rfl | (simp; omega)) H.out.symm), rfl⟩

theorem mall_any (l sg : List UInt8) (hl : l.length ≤ 1000000) (w : World) :
  Calls Tryz.prog 165 #[.string ⟨l.toArray⟩, .string ⟨sg.toArray⟩] w fun e w' => e = .returned (.bool (allS sg l)) ∧ w = w' := by
 obtain ⟨v, hv⟩ : ∃ v, v = allS sg l := ⟨_, rfl⟩
 rw [← hv]
 have HV := Lib.hid hv
 clear hv
 go_enter Tryz.func165, Tryz.ntmps165
 go_wp2_with fail
 go_loop [8] (fun s => ∃ k : Nat, s = .int .i64 k ∧ k ≤ l.length ∧ Hid (v = allS sg (l.drop k))) (fun s => l.length - (RowKit.intOf s).toNat)
 case atStart => exact ⟨0, rfl, by omega, HV⟩
 case round =>
  obtain ⟨k, rfl, hk, hh⟩ := hrel
  by_cases hlt : k < l.length
  ·obtain ⟨b, rest, h1, h2, h3⟩ := link.byte_at l k hlt
   have hx := hh.out
   rw [h1, show allS sg (b :: rest) = (okS sg b && allS sg rest) from rfl, ← h2] at hx
   unfold okS at hx
   have hp := mplain_any b w
   have hcall := idx_call sg b w
   cases hpb : plainB b
   ·rw [hpb] at hp hx
    rcases index_has sg b with ⟨g1, g2⟩ | ⟨g1, g2⟩
    ·have g1' : ¬ indexByte sg b < 0 := by omega
     have H : Hid (v = allS sg (l.drop (k + 1))) := Lib.hid (by rw [hx, g2]; rfl)
     generalize indexByte sg b = i at *
     clear hx hh h1 h2 hpb g1 g2
     go_wp2_with fail
     refine hp.mono ?_
     rintro e w' ⟨rfl, rfl⟩
     go_wp2_with fail
     refine hcall.mono ?_
     rintro e w' ⟨rfl, rfl⟩
     go_wp2_with fail
     go_round
     case rel => exact ⟨k + 1, by go_num, by omega, H⟩
     case measure => simp [RowKit.intOf]; omega
    ·have H : Hid (v = false) := Lib.hid (by rw [hx, g2]; rfl)
     rw [g1] at hcall
     clear hx hh h1 h2 hpb g1 g2
     go_wp2_with fail
     refine hp.mono ?_
     rintro e w' ⟨rfl, rfl⟩
     go_wp2_with fail
     refine hcall.mono ?_
     rintro e w' ⟨rfl, rfl⟩
     go_wp2_with fail
     go_ret
     exact ⟨ret_bool H.out.symm, rfl⟩
   ·rw [hpb] at hp hx
    have H : Hid (v = allS sg (l.drop (k + 1))) := Lib.hid (by rw [hx]; rfl)
    clear hx hh h1 h2 hpb hcall
    go_wp2_with fail
    refine hp.mono ?_
    rintro e w' ⟨rfl, rfl⟩
    go_wp2_with fail
    go_round
    case rel => exact ⟨k + 1, by go_num, by omega, H⟩
    case measure => simp [RowKit.intOf]; omega
  ·have hx := hh.out
   rw [List.drop_eq_nil_of_le (by omega)] at hx
   have H : Hid (v = true) := Lib.hid hx
   clear hx hh
   go_wp2_with fail
   go_ret
   exact ⟨ret_bool H.out.symm, rfl⟩

theorem mlabel_any (l : List UInt8) (hl : l.length ≤ 1000000) (w : World) :
  Calls Tryz.prog 166 #[.string ⟨l.toArray⟩] w fun e w' => e = .returned (.bool (labB l)) ∧ w = w' := by
 have ha := mall_any l [45] hl w
 obtain ⟨v, hv⟩ : ∃ v, v = labB l := ⟨_, rfl⟩
 rw [← hv]
 by_cases h0 : l = []
 ·subst h0
  have H : Hid (v = false) := Lib.hid hv
  clear hv ha
  go_enter Tryz.func166, Tryz.ntmps166
  go_wp2_with fail
  go_ret
  exact ⟨ret_bool H.out.symm, rfl⟩
 have hpos : 0 < l.length := List.length_pos_iff.2 h0
 have hemp : l.isEmpty = false := by simp [h0]
 by_cases h63 : l.length ≤ 63
 case neg =>
  have H : Hid (v = false) := Lib.hid (by rw [hv]; unfold labB; rw [decide_eq_false h63]; simp)
  have hn : ¬ (l.length : Int) ≤ 63 := by omega
  clear hv ha h0
  go_enter Tryz.func166, Tryz.ntmps166
  go_wp2_with fail
  go_ret
  exact ⟨ret_bool H.out.symm, rfl⟩
 rw [lab_prog l hpos h63] at hv
 have hn : (l.length : Int) ≤ 63 := by omega
 obtain ⟨q, hq⟩ : ∃ q, q = allS [45] l := ⟨_, rfl⟩
 rw [← hq] at hv ha
 have i0 : ∀ h', (⟨l.toArray⟩ : ByteArray)[0]'h' = l[0]'hpos := fun _ => rfl
 have i1 : ∀ h', (⟨l.toArray⟩ : ByteArray)[l.length - 1]'h' = l[l.length - 1]'(by omega) := fun _ => rfl
 have b0 : (((l[0]'hpos).toNat : Int) == 45) = (l[0]'hpos == 45) := byteq _ 45 45 rfl
 have b1 : (((l[l.length - 1]'(by omega)).toNat : Int) == 45) = (l[l.length - 1]'(by omega) == 45) := byteq _ 45 45 rfl
 generalize l[0]'hpos = c0 at *
 generalize l[l.length - 1]'(by omega) = c1 at *
 clear hq h0
 cases q
 ·have H : Hid (v = false) := Lib.hid (by rw [hv]; rfl)
  clear hv b0 b1
  go_enter Tryz.func166, Tryz.ntmps166
  go_wp2_with fail
  refine ha.mono ?_
  rintro e w' ⟨rfl, rfl⟩
  go_wp2_with fail
  go_ret
  exact ⟨ret_bool H.out.symm, rfl⟩
 cases g0 : (c0 == 45)
 ·rw [g0] at b0 hv
  have b0' : ((c0.toNat : Int) != 45) = true := by unfold bne; rw [b0]; rfl
  cases g1 : (c1 == 45)
  ·rw [g1] at b1 hv
   have b1' : ((c1.toNat : Int) != 45) = true := by unfold bne; rw [b1]; rfl
   have H : Hid (v = true) := Lib.hid (by rw [hv]; rfl)
   clear hv b0 b1 g0 g1
   go_enter Tryz.func166, Tryz.ntmps166
   go_wp2_with fail
   refine ha.mono ?_
   rintro e w' ⟨rfl, rfl⟩
   go_wp2_with fail
   go_ret
   exact ⟨ret_bool H.out.symm, rfl⟩
  ·rw [g1] at b1 hv
   have b1' : ((c1.toNat : Int) != 45) = false := by unfold bne; rw [b1]; rfl
   have H : Hid (v = false) := Lib.hid (by rw [hv]; rfl)
   clear hv b0 b1 g0 g1
   go_enter Tryz.func166, Tryz.ntmps166
   go_wp2_with fail
   refine ha.mono ?_
   rintro e w' ⟨rfl, rfl⟩
   go_wp2_with fail
   go_ret
   exact ⟨ret_bool H.out.symm, rfl⟩
 ·rw [g0] at b0 hv
  have b0' : ((c0.toNat : Int) != 45) = false := by unfold bne; rw [b0]; rfl
  have H : Hid (v = false) := Lib.hid (by rw [hv]; rfl)
  clear hv b0 b1 g0
  go_enter Tryz.func166, Tryz.ntmps166
  go_wp2_with fail
  refine ha.mono ?_
  rintro e w' ⟨rfl, rfl⟩
  go_wp2_with fail
  go_ret
  exact ⟨ret_bool H.out.symm, rfl⟩

theorem maddr_any (l : List UInt8) (hl : l.length ≤ 1000000) (w : World) (hG : G w) :
  Calls Tryz.prog 88 #[.string ⟨l.toArray⟩] w fun e w' => e = .returned (.bool (addrB l)) ∧ Below w.heap.size w w' := by
 obtain ⟨v, hv⟩ : ∃ v, v = addrB l := ⟨_, rfl⟩
 rw [← hv]
 unfold addrB at hv
 rw [addr_cut, Bool.false_or] at hv
 have hc := cut_any l 64 (by omega) w hG
 have hsz : (cut1 64 l).1.length ≤ l.length ∧ (cut1 64 l).2.1.length ≤ l.length := by
  rcases cut1_index 64 l with ⟨_, h⟩ | ⟨i, _, h⟩
  ·rw [h]; simp
  ·rw [h]; simp; omega
 generalize (cut1 64 l).1 = us at *
 generalize (cut1 64 l).2.1 = ho at *
 generalize (cut1 64 l).2.2 = ok at *
 obtain ⟨hu, hh⟩ := hsz
 have HAl := Lib.hid (fun w' => mall_any us userS (by omega) w')
 have HSp := Lib.hid (fun w' hG => split_row ho 46 (by omega) w' hG)
 have hsm := spl_small 46 ho []
 have hps := spl_pos 46 ho []
 have hspn : (spl 46 [] ho).length ≤ 1000001 := by rw [spl_len]; have := List.count_le_length (a := (46 : UInt8)) (l := ho); omega
 generalize spl 46 [] ho = ls at *
 have HLb := Lib.hid (fun w' x (hx : x ∈ ls) => mlabel_any x (by have := hsm x hx; simp at this; omega) w')
 obtain ⟨qa, hqa⟩ : ∃ q, q = allS userS us := ⟨_, rfl⟩
 rw [← hqa] at HAl hv
 have HV : Hid (v = (ok && !us.isEmpty && qa && ls.all labB)) := Lib.hid hv
 have HGB := Lib.hid (fun w' (h : Below w.heap.size w w') => hG.below h)
 have hem : us.isEmpty = true ∨ us.isEmpty = false := by cases us.isEmpty <;> simp
 unfold userS at HAl
 clear hqa hv hG hsm
 go_enter Tryz.func88, Tryz.ntmps88
 go_wp2_with fail
 refine hc.mono ?_
 rintro e w1 ⟨rfl, hb1⟩
 clear hc
 go_upto_region 2 with fail
 go_cut [24] (fun s24 wx => ∃ q, s24 = .bool q ∧ Hid (q = !(ok && !us.isEmpty && qa)) ∧ wx = w1)
 case first =>
  cases ok
  ·go_wp2_with fail
   go_meet
   exact ⟨_, rfl, Lib.hid rfl, rfl⟩
  rcases hem with g | g
  ·have HQ : Hid (true = !(true && !us.isEmpty && qa)) := Lib.hid (by rw [g]; rfl)
   go_wp2_with fail
   go_meet
   exact ⟨_, rfl, HQ, rfl⟩
  ·have HQ : Hid ((!qa) = !(true && !us.isEmpty && qa)) := Lib.hid (by rw [g]; rfl)
   go_wp2_with fail
   refine (HAl.out _).mono ?_
   rintro e w2 ⟨rfl, rfl⟩
   go_wp2_with fail
   go_meet
   exact ⟨_, rfl, HQ, rfl⟩
 case rest =>
 obtain ⟨q, rfl, hq, hwc⟩ := hcut
 subst hwc
 clear hem HAl
 cases q
 case true =>
  have HX : Hid (v = false) := Lib.hid (by
   have := hq.out
   rw [HV.out]
   generalize (ok && !us.isEmpty && qa) = z at *
   cases z
   ·rfl
   ·cases this)
  clear hq HV
  go_wp2_with fail
  go_ret
  exact ⟨ret_bool HX.out.symm, hb1⟩
 have HX : Hid (v = ls.all labB) := Lib.hid (by
   have := hq.out
   rw [HV.out]
   generalize (ok && !us.isEmpty && qa) = z at *
   cases z
   ·cases this
   ·rfl)
 have hsp := HSp.out _ (HGB.out _ hb1)
 clear hq HV HSp HGB
 go_wp2_with fail
 refine hsp.mono ?_
 rintro e w2 ⟨b, cap, rfl, hs, hb2, hcap⟩
 have HS := Lib.hid hs
 have hb02 := below_trans hb1 hb2
 clear hsp hs
 go_wp2_with fail
 go_loop [28] (fun s => ∃ k : Nat, s = .int .i64 k ∧ k ≤ ls.length ∧ Hid (v = (ls.drop k).all labB)) (fun s => ls.length - (RowKit.intOf s).toNat)
 case atStart => exact ⟨0, rfl, by omega, HX⟩
 case round =>
  obtain ⟨k, rfl, hk, hx⟩ := hrel
  by_cases hlt : k < ls.length
  ·have hcell := HS.out k hlt
   have hy := hx.out
   rw [List.drop_eq_getElem_cons hlt, List.all_cons] at hy
   have hla := HLb.out w2 ls[k] (List.getElem_mem hlt)
   generalize ls[k] = x at *
   obtain ⟨y, hyy⟩ : ∃ y, y = labB x := ⟨_, rfl⟩
   rw [← hyy] at hla hy
   clear hyy hx
   cases y
   ·have HY : Hid (v = false) := Lib.hid hy
    clear hy
    go_wp2_with fail
    refine hla.mono ?_
    rintro e w3 ⟨rfl, rfl⟩
    go_wp2_with fail
    go_ret
    exact ⟨ret_bool HY.out.symm, hb02⟩
   ·have HY : Hid (v = (ls.drop (k + 1)).all labB) := Lib.hid hy
    clear hy
    go_wp2_with fail
    refine hla.mono ?_
    rintro e w3 ⟨rfl, rfl⟩
    go_wp2_with fail
    go_round
    case rel => exact ⟨k + 1, by go_num, by omega, HY⟩
    case measure => simp [RowKit.intOf]; omega
  ·have hy := hx.out
   rw [List.drop_eq_nil_of_le (by omega)] at hy
   have HY : Hid (v = true) := Lib.hid hy
   clear hx hy
   go_wp2_with fail
   go_ret
   exact ⟨ret_bool HY.out.symm, hb02⟩

end Go.Proofs.YtkhlfggnjcbniaaGreatDoor.mail
namespace Go.Proofs.YtkhlfggnjcbniaaGreatDoor.link
open Go.ChangeShapes Go.WideShapes Go.ChangeAt Go.RowKit Go.Lib str

def grpOk (g : List UInt8) : Bool := decide (g.length ≤ 4) && hexesB g
def grpL (ls : List (List UInt8)) (n : Nat) : Option Nat := if ls.all grpOk then some n else none
def grpN (l : List UInt8) : Option Nat := if l = [] then some 0 else grpL (spl 58 [] l) (spl 58 [] l).length
theorem grpL_cons (g : List UInt8) (r : List (List UInt8)) (n : Nat) : grpL (g :: r) n = if grpOk g then grpL r n else none := by
 unfold grpL
 rw [List.all_cons]
 cases grpOk g <;> cases r.all grpOk <;> rfl
theorem ret_ib (a : Int) (b : Bool) (a' : Int) (b' : Bool) (h : a = a') (g : b = b') : Ending.returned (.tuple #[.int .i64 a, .bool b]) = .returned (.tuple #[.int .i64 a', .bool b']) := by rw [h, g]

theorem groups_any (l : List UInt8) (hl : l.length ≤ 1000000) (w : World) (hG : G w) :
  Calls Tryz.prog 289 #[.string ⟨l.toArray⟩] w fun e w' => e = .returned (.tuple #[.int .i64 ((grpN l).getD 0 : Nat), .bool (grpN l).isSome]) ∧ Below w.heap.size w w' := by
 obtain ⟨v, hv⟩ : ∃ v, v = grpN l := ⟨_, rfl⟩
 rw [← hv]
 have hs := split_row l 58 hl w hG
 have hsm := spl_small 58 l []
 have hps := spl_pos 58 l []
 have hspn : (spl 58 [] l).length ≤ 1000001 := by rw [spl_len]; have := List.count_le_length (a := (58 : UInt8)) (l := l); omega
 by_cases he : l = []
 ·subst he
  have HV : Hid (v = some 0) := Lib.hid (by rw [hv]; rfl)
  clear hv hs hsm hps
  go_enter Tryz.func289, Tryz.ntmps289
  go_wp2_with fail
  go_ret2
  exact ⟨ret_ib _ _ _ _ (by rw [HV.out]; rfl) (by rw [HV.out]; rfl), Below.refl _ _⟩
 ·unfold grpN at hv
  rw [if_neg he] at hv
  have hemp : l.isEmpty = false := by simp [he]
  generalize spl 58 [] l = ls at *
  have HV := Lib.hid hv
  have HS := Lib.hid (show ∀ x ∈ ls, x.length ≤ 1000000 from fun x hx => by have := hsm x hx; simp at this; omega)
  clear hv hsm
  go_enter Tryz.func289, Tryz.ntmps289
  go_wp2_with fail
  refine hs.mono ?_
  rintro e w1 ⟨b, cap, rfl, hst, hb1, _⟩
  clear hs
  have HST := Lib.hid hst
  have hbl := hst.lt hps
  clear hst
  go_wp2_with fail
  go_loopw [13] (fun s wr => ∃ k : Nat, s = .int .i64 k ∧ k ≤ ls.length ∧ Hid (v = grpL (ls.drop k) ls.length) ∧ Below w1.heap.size w1 wr) (fun s _ => ls.length - (RowKit.intOf s).toNat)
  case atStart => exact ⟨0, rfl, by omega, HV, Below.refl _ _⟩
  case round =>
   obtain ⟨k, rfl, hk, hh, hb⟩ := hrel
   by_cases hlt : k < ls.length
   ·have hcell := (HST.out.under hbl hb) k hlt
    have hx := hh.out
    have hgs := HS.out ls[k] (List.getElem_mem hlt)
    rw [List.drop_eq_getElem_cons hlt, grpL_cons] at hx
    generalize ls[k] = g at *
    unfold grpOk at hx
    have hcall := hexes_any g (by omega) wr
    by_cases h4 : g.length ≤ 4
    ·rw [decide_eq_true h4, Bool.true_and] at hx
     generalize hexesB g = q at *
     have HX := Lib.hid hx
     clear hx hh hgs
     go_wp2_with fail
     refine hcall.mono ?_
     rintro e w2 ⟨rfl, hb2⟩
     have hb3 := below_trans hb hb2
     clear hcall
     cases q
     ·have HY : Hid (v = none) := Lib.hid (by rw [HX.out]; rfl)
      go_wp2_with fail
      go_ret2
      exact ⟨ret_ib _ _ _ _ (by rw [HY.out]; rfl) (by rw [HY.out]; rfl), below_trans hb1 hb3⟩
     ·have HY : Hid (v = grpL (ls.drop (k + 1)) ls.length) := Lib.hid (by rw [HX.out]; rfl)
      go_wp2_with fail
      go_roundw
      case rel => exact ⟨k + 1, by go_num, by omega, HY, hb3⟩
      case measure => simp [RowKit.intOf]; omega
    ·rw [decide_eq_false h4, Bool.false_and] at hx
     have HY : Hid (v = none) := Lib.hid (by rw [hx]; rfl)
     clear hx hh hgs hcall
     go_wp2_with fail
     go_ret2
     exact ⟨ret_ib _ _ _ _ (by rw [HY.out]; rfl) (by rw [HY.out]; rfl), below_trans hb1 hb⟩
   ·have HY : Hid (v = some ls.length) := Lib.hid (by rw [hh.out, List.drop_eq_nil_of_le (by omega)]; rfl)
    clear hh
    go_wp2_with fail
    go_ret2
    exact ⟨ret_ib _ _ _ _ (by rw [HY.out]; rfl) (by rw [HY.out]; rfl), below_trans hb1 hb⟩


def dc : List UInt8 → Option Nat
 | [] => none
 | c :: r => if c = 58 ∧ r.head? = some 58 then some 0 else (dc r).map (· + 1)
def six2 (a b : Option Nat) : Bool := match a, b with | some a, some b => decide (a + b < 8) | _, _ => false
def sixD (l : List UInt8) (o : Option Nat) : Bool := match o with
 | some k => six2 (grpN (l.take k)) (grpN (l.drop (k + 2)))
 | none => grpN l == some 8
def sixS (l : List UInt8) : Bool := sixD l (dc l)

theorem dc_index (l : List UInt8) : index l [58, 58] = match dc l with | some k => (k : Int) | none => -1 := by
 induction l with
 | nil => rfl
 | cons c r ih =>
  rw [index, dc]
  have e : [58, 58].isPrefixOf (c :: r) = true ↔ (c = 58 ∧ r.head? = some 58) := by
   cases r with
   | nil => simp [List.isPrefixOf]
   | cons d t =>
    simp [List.isPrefixOf]
    constructor
    ·rintro ⟨h1, h2⟩; exact ⟨h1.symm, h2.symm⟩
    ·rintro ⟨h1, h2⟩; exact ⟨h1.symm, h2.symm⟩
  by_cases h : c = 58 ∧ r.head? = some 58
  ·rw [if_pos h, if_pos (e.2 h)]; rfl
  ·rw [if_neg h, if_neg (fun g => h (e.1 g)), ih]
   cases dc r with
   | none => rfl
   | some k =>
    have : ((k : Int) == -1) = false := by simp
    simp only [this]
    simp

theorem dc_cut (l : List UInt8) : Lib.cut l [58, 58] = match dc l with | some k => (l.take k, l.drop (k + 2), true) | none => (l, [], false) := by
 unfold Lib.cut
 rw [dc_index]
 cases dc l with
 | none => rfl
 | some k =>
  simp only []
  rw [if_pos (by omega)]
  simp

theorem cut2_any (l : List UInt8) (hl : l.length ≤ 1000000000) (w : World) (hG : G w) :
  Calls Tryz.prog 157 #[.string ⟨l.toArray⟩, .string ⟨#[58, 58]⟩] w fun e w' => e = .returned (.tuple #[.string ⟨(Lib.cut l [58, 58]).1.toArray⟩, .string ⟨(Lib.cut l [58, 58]).2.1.toArray⟩, .bool (Lib.cut l [58, 58]).2.2]) ∧ Below w.heap.size w w' := by
 obtain ⟨m, hm⟩ := hG.ml
 have := Tryz.strings_Cut ⟨l.toArray⟩ ⟨#[58, 58]⟩ m w (by rw [bsize]; omega) hm
 exact this.mono fun e w' ⟨he, n, hw⟩ => ⟨he, by rw [hw]; exact below_drewN (Below.refl _ _) n⟩

theorem grpN_le (l : List UInt8) (n : Nat) (h : grpN l = some n) : n ≤ l.length + 1 := by
 unfold grpN at h
 split at h
 ·cases h; omega
 ·unfold grpL at h
  split at h
  ·cases h; rw [spl_len]; have := List.count_le_length (a := (58 : UInt8)) (l := l); omega
  ·cases h

theorem six_any (l : List UInt8) (hl : l.length ≤ 1000000) (w : World) (hG : G w) :
  Calls Tryz.prog 239 #[.string ⟨l.toArray⟩] w fun e w' => e = .returned (.bool (sixS l)) ∧ Below w.heap.size w w' := by
 obtain ⟨v, hv⟩ : ∃ v, v = sixS l := ⟨_, rfl⟩
 rw [← hv]
 have hcut := cut2_any l (by omega) w hG
 have he := dc_cut l
 unfold sixS sixD at hv
 have hl1 : (Lib.cut l [58, 58]).1.length ≤ 1000000 := by
  rw [he]; cases dc l <;> simp <;> omega
 have hl2 : (Lib.cut l [58, 58]).2.1.length ≤ 1000000 := by
  rw [he]; cases dc l <;> simp <;> omega
 obtain ⟨a, b, ok, hc⟩ : ∃ a b ok, Lib.cut l [58, 58] = (a, b, ok) := ⟨_, _, _, rfl⟩
 have hvv : v = if ok = true then six2 (grpN a) (grpN b) else (grpN a == some 8) := by
  rw [hv]
  rw [he] at hc
  cases h : dc l with
  | none => rw [h] at hc; cases hc; rfl
  | some k => rw [h] at hc; cases hc; rfl
 rw [hc] at hcut hl1 hl2
 clear hv he hc
 dsimp only at hcut hl1 hl2
 have ga := fun w h => groups_any a hl1 w h
 have gb := fun w h => groups_any b hl2 w h
 have na := grpN_le a
 have nb := grpN_le b
 generalize grpN a = p at *
 generalize grpN b = q at *
 have HV := Lib.hid hvv
 clear hvv
 cases p with
 | none =>
  have HY : Hid (v = false) := Lib.hid (by rw [HV.out]; cases ok <;> rfl)
  go_enter Tryz.func239, Tryz.ntmps239
  go_wp2_with fail
  refine hcut.mono ?_
  rintro e w1 ⟨rfl, hb1⟩
  have G1 := hG.below hb1
  go_wp2_with fail
  refine (ga w1 G1).mono ?_
  rintro e w2 ⟨rfl, hb2⟩
  have G2 := G1.below hb2
  have hb2' := below_trans hb1 hb2
  go_wp2_with fail
  refine (gb w2 G2).mono ?_
  rintro e w3 ⟨rfl, hb3⟩
  have hb3' := below_trans hb2' hb3
  clear hcut ga gb hb1 hb2 hb2' hb3
  cases ok
  ·go_wp2_with fail
   go_ret
   exact ⟨ret_bool HY.out.symm, hb3'⟩
  ·go_wp2_with fail
   go_ret
   exact ⟨ret_bool HY.out.symm, hb3'⟩
 | some n =>
  have hn := na n rfl
  go_enter Tryz.func239, Tryz.ntmps239
  go_wp2_with fail
  refine hcut.mono ?_
  rintro e w1 ⟨rfl, hb1⟩
  have G1 := hG.below hb1
  go_wp2_with fail
  refine (ga w1 G1).mono ?_
  rintro e w2 ⟨rfl, hb2⟩
  have G2 := G1.below hb2
  have hb2' := below_trans hb1 hb2
  go_wp2_with fail
  refine (gb w2 G2).mono ?_
  rintro e w3 ⟨rfl, hb3⟩
  have hb3' := below_trans hb2' hb3
  clear hcut ga gb hb1 hb2 hb2' hb3 na
  cases ok
  ·have HY : Hid (v = ((n : Int) == 8)) := Lib.hid (by
    rw [HV.out]
    show (some n == some 8) = _
    by_cases h : n = 8
    ·subst h; rfl
    ·have h1 : ((n : Int) == 8) = false := by simp; omega
     rw [h1]; simp [h])
   go_wp2_with fail
   go_ret
   exact ⟨ret_bool HY.out.symm, hb3'⟩
  ·cases q with
   | none =>
    have HY : Hid (v = false) := Lib.hid (by rw [HV.out]; rfl)
    go_wp2_with fail
    go_ret
    exact ⟨ret_bool HY.out.symm, hb3'⟩
   | some m =>
    have hm := nb m rfl
    have HY : Hid (v = decide (n + m < 8)) := Lib.hid (by rw [HV.out]; rfl)
    go_wp2_with fail
    go_ret
    exact ⟨ret_bool (by rw [HY.out]; first | rfl | (simp; omega)), hb3'⟩


def octOk (l : List UInt8) : Bool := digsB l && decide (l.length ≤ 3) && decide (valN 0 l ≤ 255)
def fourS (ls : List (List UInt8)) : Bool := decide (ls.length = 4) && ls.all octOk

theorem oct_ok (x : List UInt8) (v : Int) (h : atoiAll x = .ok v) : octOk x = (digsB x && decide (x.length ≤ 3) && decide (v ≤ 255)) := by
 unfold octOk
 cases hd : digsB x
 ·rfl
 ·rcases atoi_bound x hd 255 (by decide) with ⟨u, h1, _, h2⟩ | ⟨h1, _⟩
  ·rw [h] at h1
   cases h1
   congr 1
   rw [decide_eq_decide]
   constructor <;> intro g <;> omega
  ·exact absurd h (h1 v)
theorem oct_no (x : List UInt8) (h : ∀ v, atoiAll x ≠ .ok v) : octOk x = false := by
 unfold octOk
 cases hd : digsB x
 ·rfl
 ·rcases atoi_bound x hd 255 (by decide) with ⟨u, h1, _, h2⟩ | ⟨_, h2⟩
  ·exact absurd h1 (h u)
  ·rw [decide_eq_false (by omega : ¬ valN 0 x ≤ 255), Bool.and_false]

theorem four_any (ls : List (List UInt8)) (b cap : Nat) (hn : ls.length ≤ 1000001) (hsm : ∀ x ∈ ls, x.length ≤ 1000000) (hpos : 0 < ls.length) (w : World) (hst : StrAt w b ls) (hE : GE w) :
  Calls Tryz.prog 240 #[.slice (some ⟨b, 0, none⟩) ls.length cap] w fun e w' => e = .returned (.bool (fourS ls)) ∧ Below w.heap.size w w' := by
 obtain ⟨v, hv⟩ : ∃ v, v = fourS ls := ⟨_, rfl⟩
 rw [← hv]
 unfold fourS at hv
 have HS := Lib.hid hsm
 have HST := Lib.hid hst
 have hbl := hst.lt hpos
 clear hsm hst
 by_cases h4 : ls.length = 4
 ·rw [decide_eq_true h4, Bool.true_and] at hv
  have hneq : ((ls.length : Int) != 4) = false := by simp; omega
  have HV := Lib.hid hv
  have hlen : ls.length ≤ 4 := by omega
  have HL := Lib.hid h4
  clear hv h4
  go_enter Tryz.func240, Tryz.ntmps240
  go_wp2_with fail
  go_loopw [12] (fun s wr => ∃ k : Nat, s = .int .i64 k ∧ k ≤ ls.length ∧ Hid (v = (ls.drop k).all octOk) ∧ Below w.heap.size w wr) (fun s _ => ls.length - (RowKit.intOf s).toNat)
  case atStart => exact ⟨0, rfl, by omega, HV, Below.refl _ _⟩
  case round =>
   obtain ⟨k, rfl, hk, hh, hb⟩ := hrel
   by_cases hlt : k < ls.length
   ·have hcell := (HST.out.under hbl hb) k hlt
    have hx := hh.out
    have hgs := HS.out ls[k] (List.getElem_mem hlt)
    rw [List.drop_eq_getElem_cons hlt, List.all_cons] at hx
    generalize ls[k] = g at *
    have hat := atoi_any g (by omega) wr (hE.below hb)
    have hok := oct_ok g
    have hno := oct_no g
    have hdg := fun w => digs_any g (by omega) w
    generalize octOk g = q at *
    generalize digsB g = d at *
    have HX := Lib.hid hx
    have HO := Lib.hid hok
    have HN := Lib.hid hno
    clear hx hh hgs hok hno
    go_wp2_with fail
    refine hat.mono ?_
    rintro e w2 ⟨hb2, ⟨u, hu, rfl⟩ | ⟨hno, n, N, rfl⟩⟩
    ·have HU : Hid (q = (d && decide (g.length ≤ 3) && decide (u ≤ 255))) := Lib.hid (HO.out u hu)
     clear hu hat
     have hb3 := below_trans hb hb2
     go_wp2_with fail
     refine (hdg w2).mono ?_
     rintro e w3 ⟨rfl, hb4⟩
     have hb5 := below_trans hb3 hb4
     clear hdg hb2 hb3 hb4
     cases d
     ·have HY : Hid (v = false) := Lib.hid (by rw [HX.out, HU.out]; rfl)
      go_wp2_with fail
      go_ret
      exact ⟨ret_bool HY.out.symm, hb5⟩
     ·by_cases h3 : g.length ≤ 3
      ·by_cases h255 : u ≤ 255
       ·have HY : Hid (v = (ls.drop (k + 1)).all octOk) := Lib.hid (by rw [HX.out, HU.out, decide_eq_true h3, decide_eq_true h255]; rfl)
        go_wp2_with fail
        go_roundw
        case rel => exact ⟨k + 1, by go_num, by omega, HY, hb5⟩
        case measure => simp [RowKit.intOf]; omega
       ·have HY : Hid (v = false) := Lib.hid (by rw [HX.out, HU.out, decide_eq_true h3, decide_eq_false h255]; rfl)
        go_wp2_with fail
        go_ret
        exact ⟨ret_bool HY.out.symm, hb5⟩
      ·have HY : Hid (v = false) := Lib.hid (by rw [HX.out, HU.out, decide_eq_false h3]; rfl)
       go_wp2_with fail
       go_ret
       exact ⟨ret_bool HY.out.symm, hb5⟩
    ·have HY : Hid (v = false) := Lib.hid (by rw [HX.out, HN.out hno]; rfl)
     clear hno hat
     have hb3 := below_trans hb hb2
     go_wp2_with fail
     refine (hdg w2).mono ?_
     rintro e w3 ⟨rfl, hb4⟩
     have hb5 := below_trans hb3 hb4
     clear hdg hb2 hb3 hb4
     cases d
     ·go_wp2_with fail
      go_ret
      exact ⟨ret_bool HY.out.symm, hb5⟩
     ·by_cases h3 : g.length ≤ 3
      ·go_wp2_with fail
       go_ret
       exact ⟨ret_bool HY.out.symm, hb5⟩
      ·go_wp2_with fail
       go_ret
       exact ⟨ret_bool HY.out.symm, hb5⟩
   ·have HY : Hid (v = true) := Lib.hid (by rw [hh.out, List.drop_eq_nil_of_le (by omega)]; rfl)
    clear hh
    go_wp2_with fail
    go_ret
    exact ⟨ret_bool HY.out.symm, hb⟩
 ·have hneq : ((ls.length : Int) != 4) = true := by simp; omega
  have HY : Hid (v = false) := Lib.hid (by rw [hv, decide_eq_false h4]; rfl)
  clear hv
  go_enter Tryz.func240, Tryz.ntmps240
  go_wp2_with fail
  go_ret
  exact ⟨ret_bool HY.out.symm, Below.refl _ _⟩

def hostC (c : UInt8) : Bool := decide (128 ≤ c.toNat) || plainB c || (c == 45) || (c == 95)
def labOk (x : List UInt8) : Bool := !(x == []) && x.all hostC
def lastN (ls : List (List UInt8)) : Nat := if 1 < ls.length ∧ ls[ls.length - 1]? = some [] then ls.length - 1 else ls.length
def tailOk (ls ms : List (List UInt8)) : Bool := !digsB (ms.getD (ms.length - 1) []) || (decide (ls.length = ms.length) && fourS ls)
def hostL (ls : List (List UInt8)) : Bool := (ls.take (lastN ls)).all labOk && tailOk ls (ls.take (lastN ls))
def brackS (t : List UInt8) : Bool := (t.getLast? == some 93) && sixS t.dropLast
def hostS (s : List UInt8) : Bool := if s.head? = some 91 then brackS s.tail else validD s && hostL (spl 46 [] s)

theorem cutpre_any (l : List UInt8) (c : UInt8) (w : World) :
  Calls Tryz.prog 159 #[.string ⟨l.toArray⟩, .string ⟨#[c]⟩] w fun e w' => e = .returned (.tuple #[.string ⟨(if l.head? = some c then l.tail else l).toArray⟩, .bool (l.head? == some c)]) ∧ w = w' := by
 refine (Tryz.strings_CutPrefix ⟨l.toArray⟩ ⟨#[c]⟩ w).mono ?_
 rintro e w' ⟨rfl, rfl⟩
 refine ⟨?_, rfl⟩
 have e1 : (⟨l.toArray⟩ : ByteArray).data.toList = l := rfl
 have e2 : (⟨#[c]⟩ : ByteArray).data.toList = [c] := rfl
 rw [e1, e2]
 have h : Lib.hasPrefix l [c] = (l.head? == some c) := by
  unfold Lib.hasPrefix
  cases l with
  | nil => rfl
  | cons a r => simp [List.isPrefixOf, Bool.beq_comm]
 unfold Lib.trimPrefix
 rw [h]
 by_cases g : l.head? = some c
 ·rw [if_pos g, if_pos (by simpa using g)]; simp
 ·rw [if_neg g, if_neg (by simpa using g)]

theorem cutsuf_any (l : List UInt8) (c : UInt8) (hl : l.length ≤ 1000000000) (w : World) :
  Calls Tryz.prog 238 #[.string ⟨l.toArray⟩, .string ⟨#[c]⟩] w fun e w' => e = .returned (.tuple #[.string ⟨(if l.getLast? = some c then l.dropLast else l).toArray⟩, .bool (l.getLast? == some c)]) ∧ w = w' := by
 refine (Tryz.strings_CutSuffix ⟨l.toArray⟩ ⟨#[c]⟩ w (by rw [bsize]; omega)).mono ?_
 rintro e w' ⟨rfl, rfl⟩
 refine ⟨?_, rfl⟩
 have e1 : (⟨l.toArray⟩ : ByteArray).data.toList = l := rfl
 have e2 : (⟨#[c]⟩ : ByteArray).data.toList = [c] := rfl
 rw [e1, e2]
 have h : Lib.hasSuffix l [c] = (l.getLast? == some c) := by
  unfold Lib.hasSuffix List.isSuffixOf
  rw [← List.head?_reverse]
  cases l.reverse with
  | nil => rfl
  | cons a r => simp [List.isPrefixOf, Bool.beq_comm]
 unfold Lib.trimSuffix
 rw [h]
 by_cases g : l.getLast? = some c
 ·rw [if_pos g, if_pos (by simpa using g)]; simp [List.dropLast_eq_take]
 ·rw [if_neg g, if_neg (by simpa using g)]

theorem StrAt.take {w : World} {b : Nat} {ls : List (List UInt8)} (h : StrAt w b ls) (n : Nat) : StrAt w b (ls.take n) := by
 intro j hj
 have hj2 : j < ls.length := by rw [List.length_take] at hj; omega
 rw [h j hj2]
 simp

theorem hostC_ways (c : UInt8) : (128 ≤ c.toNat ∧ hostC c = true) ∨ (c.toNat < 128 ∧ plainB c = true ∧ hostC c = true) ∨ (c.toNat < 128 ∧ plainB c = false ∧ c = 45 ∧ hostC c = true) ∨ (c.toNat < 128 ∧ plainB c = false ∧ c = 95 ∧ hostC c = true) ∨ (c.toNat < 128 ∧ plainB c = false ∧ c ≠ 45 ∧ c ≠ 95 ∧ hostC c = false) := by
 unfold hostC
 by_cases h : 128 ≤ c.toNat
 ·left; refine ⟨h, ?_⟩; rw [decide_eq_true h]; rfl
 ·rw [decide_eq_false h]
  right
  cases hp : plainB c
  ·right
   by_cases h1 : c = 45
   ·left; exact ⟨by omega, rfl, h1, by simp [h1]⟩
   ·right
    by_cases h2 : c = 95
    ·left; exact ⟨by omega, rfl, h2, by simp [h2]⟩
    ·right; exact ⟨by omega, rfl, h1, h2, by simp [h1, h2]⟩
  ·left; exact ⟨by omega, rfl, rfl⟩

theorem lastN_ways (ls : List (List UInt8)) (hpos : 0 < ls.length) : (ls.length = 1 ∧ lastN ls = ls.length) ∨ (∃ y, 1 < ls.length ∧ ls[ls.length - 1]? = some y ∧ ((y = [] ∧ lastN ls = ls.length - 1) ∨ (y ≠ [] ∧ lastN ls = ls.length))) := by
 unfold lastN
 by_cases h : ls.length = 1
 ·left; refine ⟨h, ?_⟩; rw [if_neg (by omega)]
 ·right
  have hlt : ls.length - 1 < ls.length := by omega
  refine ⟨ls[ls.length - 1], by omega, by rw [List.getElem?_eq_getElem], ?_⟩
  by_cases g : ls[ls.length - 1] = []
  ·left; refine ⟨g, ?_⟩; rw [if_pos ⟨by omega, by rw [List.getElem?_eq_getElem hlt, g]⟩]
  ·right; refine ⟨g, ?_⟩; rw [if_neg]; rintro ⟨_, h2⟩; rw [List.getElem?_eq_getElem hlt] at h2; exact g (Option.some.inj h2)

theorem lastN_bounds (ls : List (List UInt8)) (hpos : 0 < ls.length) : 0 < lastN ls ∧ lastN ls ≤ ls.length := by
 unfold lastN; split <;> omega

theorem host_brack (t : List UInt8) (hl : t.length ≤ 1000000) (w : World) (hG : G w) :
  Calls Tryz.prog 162 #[.string ⟨(91 :: t).toArray⟩] w fun e w' => e = .returned (.bool (brackS t)) ∧ Below w.heap.size w w' := by
 obtain ⟨v, hv⟩ : ∃ v, v = brackS t := ⟨_, rfl⟩
 rw [← hv]
 unfold brackS at hv
 have hp := cutpre_any (91 :: t) 91 w
 have e1 : (if (91 :: t).head? = some 91 then (91 :: t).tail else (91 :: t)) = t := rfl
 have e2 : ((91 :: t).head? == some (91 : UInt8)) = true := rfl
 rw [e1, e2] at hp
 have hs := cutsuf_any t 93 (by omega) w
 have h6 := six_any t.dropLast (by simp; omega) w hG
 obtain ⟨l, hlx⟩ : ∃ l, l = 91 :: t := ⟨_, rfl⟩
 rw [← hlx] at hp ⊢
 clear e1 e2 hlx
 by_cases g : t.getLast? = some 93
 ·have eb : (t.getLast? == some 93) = true := by simpa using g
  rw [eb, Bool.true_and] at hv
  rw [if_pos g, eb] at hs
  clear eb g
  generalize t.dropLast = d at *
  generalize sixS d = q at *
  have HV := Lib.hid hv
  clear hv
  go_enter Tryz.func162, Tryz.ntmps162
  go_wp2_with fail
  refine hp.mono ?_
  rintro e w' ⟨rfl, rfl⟩
  go_wp2_with fail
  refine hs.mono ?_
  rintro e w' ⟨rfl, rfl⟩
  go_wp2_with fail
  refine h6.mono ?_
  rintro e w' ⟨rfl, hb⟩
  go_wp2_with fail
  go_ret
  exact ⟨ret_bool HV.out.symm, hb⟩
 ·have eb : (t.getLast? == some 93) = false := by simpa using g
  rw [eb, Bool.false_and] at hv
  rw [if_neg g, eb] at hs
  clear eb g
  have HV := Lib.hid hv
  clear hv h6
  go_enter Tryz.func162, Tryz.ntmps162
  go_wp2_with fail
  refine hp.mono ?_
  rintro e w' ⟨rfl, rfl⟩
  go_wp2_with fail
  refine hs.mono ?_
  rintro e w' ⟨rfl, rfl⟩
  go_wp2_with fail
  go_ret
  exact ⟨ret_bool HV.out.symm, Below.refl _ _⟩

def labGo (x : List UInt8) (t : Bool) : Bool := x.all hostC && t
theorem labGo_cons (c : UInt8) (r : List UInt8) (t : Bool) : labGo (c :: r) t = (hostC c && labGo r t) := by unfold labGo; rw [List.all_cons, Bool.and_assoc]
def labs (ms : List (List UInt8)) (z : Bool) : Bool := ms.all labOk && z
theorem labs_cons (x : List UInt8) (r : List (List UInt8)) (z : Bool) : labs (x :: r) z = (!(x == []) && labGo x (labs r z)) := by
 unfold labs labGo labOk; rw [List.all_cons, Bool.and_assoc, Bool.and_assoc]

theorem host_plain (l : List UInt8) (h91 : l.head? ≠ some 91) (hl : l.length ≤ 1000000) (w : World) (hG : G w) (hE : GE w) (hU : GU w) :
  Calls Tryz.prog 162 #[.string ⟨l.toArray⟩] w fun e w' => e = .returned (.bool (validD l && hostL (spl 46 [] l))) ∧ Below w.heap.size w w' := by
 obtain ⟨v, hv⟩ : ∃ v, v = (validD l && hostL (spl 46 [] l)) := ⟨_, rfl⟩
 rw [← hv]
 have hp := cutpre_any l 91 w
 have eb : (l.head? == some 91) = false := by simpa using h91
 rw [if_neg h91, eb] at hp
 clear eb h91
 have hva := Go.Proofs.YtkhlfggnjcbniaaGreatDoor.utf.tvalid_any l (by omega) w hU
 have hs := fun w => split_row l 46 hl w
 have hsm := spl_small 46 l []
 have hps := spl_pos 46 l []
 have hspn : (spl 46 [] l).length ≤ 1000001 := by rw [spl_len]; have := List.count_le_length (a := (46 : UInt8)) (l := l); omega
 generalize spl 46 [] l = ls at *
 have HS := Lib.hid (show ∀ x ∈ ls, x.length ≤ 1000000 from fun x hx => by have := hsm x hx; simp at this; omega)
 clear hsm
 cases hvd : validD l
 ·rw [hvd] at hva hv
  have HY : Hid (v = false) := Lib.hid hv
  clear hv hvd hs
  go_enter Tryz.func162, Tryz.ntmps162
  go_wp2_with fail
  refine hp.mono ?_
  rintro e w' ⟨rfl, rfl⟩
  go_wp2_with fail
  refine hva.mono ?_
  rintro e w' ⟨rfl, hb⟩
  go_wp2_with fail
  go_ret
  exact ⟨ret_bool HY.out.symm, hb⟩
 ·rw [hvd, Bool.true_and] at hv
  rw [hvd] at hva
  have hways := lastN_ways ls hps
  have hbounds := lastN_bounds ls hps
  unfold hostL at hv
  have hml : (ls.take (lastN ls)).length = lastN ls := by rw [List.length_take]; omega
  have HMM : Hid (∀ x ∈ ls.take (lastN ls), x ∈ ls) := Lib.hid (fun x hx => List.mem_of_mem_take hx)
  have HMA : Hid (∀ w b, StrAt w b ls → StrAt w b (ls.take (lastN ls))) := Lib.hid (fun w b h => h.take _)
  generalize ls.take (lastN ls) = ms at *
  have HV : Hid (v = labs ms (tailOk ls ms)) := Lib.hid hv
  have HW := Lib.hid hways
  clear hv hvd hways
  go_enter Tryz.func162, Tryz.ntmps162
  go_wp2_with fail
  refine hp.mono ?_
  rintro e w' ⟨rfl, rfl⟩
  go_wp2_with fail
  refine hva.mono ?_
  rintro e w1 ⟨rfl, hb1⟩
  have G1 := hG.below hb1
  have E1 := hE.below hb1
  clear hp hva
  go_wp2_with fail
  refine (hs w1 G1).mono ?_
  rintro e w2 ⟨b, cap, rfl, hst, hb2, hcap⟩
  have hb12 := below_trans hb1 hb2
  have G2 := G1.below hb2
  have E2 := E1.below hb2
  clear hs
  have HST := Lib.hid hst
  have hbl := hst.lt hps
  clear hst hb1 hb2 G1 E1
  have hcl : ∀ y, ls[ls.length - 1]? = some y → w2.cell? ⟨b, ls.length - 1, none⟩ = some (.string ⟨y.toArray⟩) := by
   intro y hy
   have hj : ls.length - 1 < ls.length := by omega
   rw [List.getElem?_eq_getElem hj] at hy
   rw [HST.out _ hj, Option.some.inj hy]
  have HCL := Lib.hid hcl
  clear hcl
  go_upto_region 10 with fail
  go_cut [45] (fun s45 wx => s45 = .bool (decide (ms.length < ls.length)) ∧ wx = w2)
  case first =>
   rcases HW.out with ⟨g1, g2⟩ | ⟨y, g1, gy, ⟨g2, g3⟩ | ⟨g2, g3⟩⟩
   ·have hnot : ¬ (1 : Int) < ls.length := by omega
    have HD : Hid (decide (ms.length < ls.length) = false) := Lib.hid (decide_eq_false (by omega))
    clear g1 g2 hml hbounds
    go_wp2_with fail
    go_meet
    exact ⟨by rw [HD.out], rfl⟩
   ·subst g2
    have hcell := HCL.out _ gy
    have hlt1 : (1 : Int) < ls.length := by omega
    have HD : Hid (decide (ms.length < ls.length) = true) := Lib.hid (decide_eq_true (by omega))
    clear g3 gy hml hbounds
    go_wp2_with fail
    go_meet
    exact ⟨by rw [HD.out], rfl⟩
   ·have hcell := HCL.out _ gy
    have hne : y.isEmpty = false := by simp [g2]
    have HD : Hid (decide (ms.length < ls.length) = false) := Lib.hid (decide_eq_false (by omega))
    have hlt1 : (1 : Int) < ls.length := by omega
    clear g3 gy hml hbounds
    go_wp2_with fail
    go_meet
    exact ⟨by rw [HD.out], rfl⟩
  case rest =>
   obtain ⟨rfl, rfl⟩ := hcut
   have hw : (ms.length < ls.length ∧ ms.length = ls.length - 1) ∨ ms.length = ls.length := by
    rcases HW.out with ⟨g1, g2⟩ | ⟨y, g1, gy, ⟨g2, g3⟩ | ⟨g2, g3⟩⟩ <;> omega
   have hmp : 0 < ms.length := by omega
   have hmle : ms.length ≤ ls.length := by omega
   have hln : 1 ≤ ls.length := hps
   have HML := Lib.hid hml
   have HWW := Lib.hid hw
   clear hml hbounds hw HW
   go_upto_if 45 with fail
   go_cut [6] (fun s6 wx => s6 = .slice (some ⟨b, 0, none⟩) ms.length cap ∧ wx = wc)
   case first =>
    rcases HWW.out with ⟨g1, g2⟩ | g2
    ·rw [decide_eq_true g1]
     have HG := Lib.hid g2
     clear g2
     go_wp2_with fail
     go_meet
     exact ⟨by rw [HG.out], rfl⟩
    ·rw [decide_eq_false (by omega : ¬ ms.length < ls.length)]
     have HG := Lib.hid g2
     clear g2
     go_wp2_with fail
     go_meet
     exact ⟨by rw [HG.out], rfl⟩
   case rest =>
    obtain ⟨rfl, rfl⟩ := hcut
    go_wp2_with fail
    have HSM : Hid (StrAt wc b ms) := Lib.hid (HMA.out _ _ HST.out)
    go_loopw [52] (fun s wr => ∃ k : Nat, s = .int .i64 k ∧ k ≤ ms.length ∧ Hid (v = labs (ms.drop k) (tailOk ls ms)) ∧ wr = wc) (fun s _ => ms.length - (RowKit.intOf s).toNat)
    case atStart => exact ⟨0, rfl, by omega, HV, rfl⟩
    case round =>
     obtain ⟨k, rfl, hk, hh, rfl⟩ := hrel
     by_cases hlt : k < ms.length
     ·have hcell := HSM.out k hlt
      have hx := hh.out
      have hgs := HS.out ms[k] (HMM.out _ (List.getElem_mem hlt))
      rw [List.drop_eq_getElem_cons hlt, labs_cons] at hx
      generalize ms[k] = x at *
      obtain ⟨z, hz⟩ : ∃ z, z = labs (ms.drop (k + 1)) (tailOk ls ms) := ⟨_, rfl⟩
      rw [← hz] at hx
      have HZ := Lib.hid hz
      clear hz hh
      by_cases hxe : x = []
      ·subst hxe
       have HY : Hid (v = false) := Lib.hid hx
       clear hx
       go_wp2_with fail
       go_ret
       exact ⟨ret_bool HY.out.symm, hb12⟩
      ·have hemp : x.isEmpty = false := by simp [hxe]
       have HX : Hid (v = labGo x z) := Lib.hid (by
        rw [hx, show (x == []) = false from by simp [hxe]]; rfl)
       clear hx hxe
       go_wp2_with fail
       go_loop [60] (fun s => ∃ j : Nat, s = .int .i64 j ∧ j ≤ x.length ∧ Hid (v = labGo (x.drop j) z)) (fun s => x.length - (RowKit.intOf s).toNat)
       case atStart => exact ⟨0, rfl, by omega, HX⟩
       case round =>
        obtain ⟨j, rfl, hj, hh⟩ := hrel
        by_cases hjl : j < x.length
        ·obtain ⟨c, rest, hd1, hd2, hidx⟩ := byte_at x j hjl
         have hx := hh.out
         rw [hd1, labGo_cons, ← hd2] at hx
         have hcall := plain_any c wr
         have hlt8 := c.toNat_lt
         have t45 : ((c.toNat : Int) == 45) = (c == 45) := byteq c 45 45 rfl
         have t95 : ((c.toNat : Int) == 95) = (c == 95) := byteq c 95 95 rfl
         rcases hostC_ways c with ⟨g1, g2⟩ | ⟨g1, g2, g3⟩ | ⟨g1, g2, g3, g4⟩ | ⟨g1, g2, g3, g4⟩ | ⟨g1, g2, g3, g4, g5⟩
         ·have HY : Hid (v = labGo (x.drop (j + 1)) z) := Lib.hid (by rw [hx, g2]; rfl)
          clear hx hd1 hd2 hh t45 t95 g2 hcall
          go_wp2_with fail
          go_round
          case rel => exact ⟨j + 1, by go_num, by omega, HY⟩
          case measure => simp [RowKit.intOf]; omega
         ·have HY : Hid (v = labGo (x.drop (j + 1)) z) := Lib.hid (by rw [hx, g3]; rfl)
          rw [g2] at hcall
          clear hx hd1 hd2 hh t45 t95 g2 g3
          go_wp2_with fail
          refine hcall.mono ?_
          rintro e w' ⟨rfl, rfl⟩
          go_wp2_with fail
          go_round
          case rel => exact ⟨j + 1, by go_num, by omega, HY⟩
          case measure => simp [RowKit.intOf]; omega
         ·have HY : Hid (v = labGo (x.drop (j + 1)) z) := Lib.hid (by rw [hx, g4]; rfl)
          rw [g2] at hcall
          clear hx hd1 hd2 hh t45 t95 g2 g4
          subst g3
          go_wp2_with fail
          refine hcall.mono ?_
          rintro e w' ⟨rfl, rfl⟩
          go_wp2_with fail
          go_round
          case rel => exact ⟨j + 1, by go_num, by omega, HY⟩
          case measure => simp [RowKit.intOf]; omega
         ·have HY : Hid (v = labGo (x.drop (j + 1)) z) := Lib.hid (by rw [hx, g4]; rfl)
          rw [g2] at hcall
          clear hx hd1 hd2 hh t45 t95 g2 g4
          subst g3
          go_wp2_with fail
          refine hcall.mono ?_
          rintro e w' ⟨rfl, rfl⟩
          go_wp2_with fail
          go_round
          case rel => exact ⟨j + 1, by go_num, by omega, HY⟩
          case measure => simp [RowKit.intOf]; omega
         ·have HY : Hid (v = false) := Lib.hid (by rw [hx, g5]; rfl)
          rw [g2] at hcall
          have u45 : ((c.toNat : Int) != 45) = true := by rw [bne, t45]; simpa using g3
          have u95 : ((c.toNat : Int) != 95) = true := by rw [bne, t95]; simpa using g4
          clear hx hd1 hd2 hh t45 t95 g2 g3 g4 g5
          go_wp2_with fail
          refine hcall.mono ?_
          rintro e w' ⟨rfl, rfl⟩
          go_wp2_with fail
          go_ret
          exact ⟨ret_bool HY.out.symm, hb12⟩
        ·have HY : Hid (v = labs (ms.drop (k + 1)) (tailOk ls ms)) := Lib.hid (by rw [hh.out, List.drop_eq_nil_of_le (by omega)]; exact HZ.out)
         clear hh
         go_wp2_with fail
         go_roundw
         case rel => exact ⟨k + 1, by go_num, by omega, HY, by first | rfl | trivial⟩
         case measure => simp [RowKit.intOf]; omega
     ·have hj : ms.length - 1 < ms.length := by omega
      have hx : v = tailOk ls ms := by rw [hh.out, List.drop_eq_nil_of_le (by omega)]; rfl
      have hcell := HSM.out _ hj
      have hgs := HS.out ms[ms.length - 1] (HMM.out _ (List.getElem_mem hj))
      unfold tailOk at hx
      rw [List.getD_eq_getElem?_getD, List.getElem?_eq_getElem hj, Option.getD_some] at hx
      generalize ms[ms.length - 1] = y at *
      have hdg := digs_any y (by omega) wr
      have hfo := fun w h1 h2 => four_any ls b cap hspn HS.out hps w h1 h2
      generalize fourS ls = f at *
      generalize digsB y = d at *
      have HX := Lib.hid hx
      clear hx hh HV
      cases d
      ·have HY : Hid (v = true) := Lib.hid HX.out
       go_wp2_with fail
       refine hdg.mono ?_
       rintro e w3 ⟨rfl, hb3⟩
       clear hdg hfo
       go_wp2_with fail
       go_ret
       exact ⟨ret_bool HY.out.symm, below_trans hb12 hb3⟩
      ·by_cases hle : ls.length = ms.length
       ·have HY : Hid (v = f) := Lib.hid (by rw [HX.out, decide_eq_true hle]; rfl)
        have hte : ((ls.length : Int) == ms.length) = true := by simp; omega
        have HLE := Lib.hid hle
        clear hle
        go_wp2_with fail
        refine hdg.mono ?_
        rintro e w3 ⟨rfl, hb3⟩
        have hfo' := hfo w3 (HST.out.below hb3) (E2.below hb3)
        clear hdg hfo
        go_wp2_with fail
        refine hfo'.mono ?_
        rintro e w4 ⟨rfl, hb4⟩
        go_wp2_with fail
        go_ret
        exact ⟨ret_bool HY.out.symm, below_trans hb12 (below_trans hb3 hb4)⟩
       ·have HY : Hid (v = false) := Lib.hid (by rw [HX.out, decide_eq_false hle]; rfl)
        have hte : ((ls.length : Int) == ms.length) = false := by simp; omega
        clear hle
        go_wp2_with fail
        refine hdg.mono ?_
        rintro e w3 ⟨rfl, hb3⟩
        clear hdg hfo
        go_wp2_with fail
        go_ret
        exact ⟨ret_bool HY.out.symm, below_trans hb12 hb3⟩

theorem host_any (l : List UInt8) (hl : l.length ≤ 1000000) (w : World) (hG : G w) (hE : GE w) (hU : GU w) :
  Calls Tryz.prog 162 #[.string ⟨l.toArray⟩] w fun e w' => e = .returned (.bool (hostS l)) ∧ Below w.heap.size w w' := by
 unfold hostS
 by_cases h : l.head? = some 91
 ·rw [if_pos h]
  cases l with
  | nil => cases h
  | cons a t =>
   cases h
   exact host_brack t (by simp at hl; omega) w hG
 ·rw [if_neg h]
  exact host_plain l h hl w hG hE hU
end Go.Proofs.YtkhlfggnjcbniaaGreatDoor.link
