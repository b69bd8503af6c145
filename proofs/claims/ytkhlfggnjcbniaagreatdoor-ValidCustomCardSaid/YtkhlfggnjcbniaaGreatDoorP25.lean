/- A part of the proofs: lemmas and contracts. -/
import Derived.Test.YtkhlfggnjcbniaaGreatDoorP12
import Derived.Test.YtkhlfggnjcbniaaGreatDoorP18
import Derived.Test.YtkhlfggnjcbniaaGreatDoorP19
import Derived.Test.YtkhlfggnjcbniaaGreatDoorP24
set_option maxHeartbeats 12800000
set_option maxRecDepth 1000000
namespace Go.Proofs.YtkhlfggnjcbniaaGreatDoor.doc
open Go.ChangeShapes Go.WideShapes Go.ChangeAt Go.RowKit Go.Lib atr link

def idB (l : List Nd) (s : List UInt8) (k : Int) : Bool := hasA nId (nd l k).attrs && ((fval nId (nd l k).attrs).getD [] == s)
def namP (l : List Nd) (s : List UInt8) : Int := if s = [] then -1 else ((ordP l 0).find? (idB l s)).getD (-1)
theorem nam_at (l : List Nd) (s : List UInt8) (hs : s ≠ []) (os : List Int) (hos : os = ordP l 0) (i : Nat) (h : i < os.length) (hb : idB l s os[i] = true) (hn : ∀ j (hj : j < i), idB l s (os[j]'(by omega)) = false) : namP l s = os[i] := by
 subst hos
 unfold namP
 rw [if_neg hs]
 have : (ordP l 0).find? (idB l s) = some (ordP l 0)[i] := by
  rcases pidx_ways (idB l s) (ordP l 0) with ⟨m, hm, h1, h2, h3, h4, _⟩ | ⟨_, h2, _⟩
  ·have : m = i := by
    rcases Nat.lt_trichotomy m i with g | g | g
    ·have := hn m g; rw [h2] at this; cases this
    ·exact g
    ·have := h3 i g; rw [hb] at this; cases this
   subst this; exact h4
  ·have := h2 i h; rw [hb] at this; cases this
 rw [this]; rfl
theorem nam_none (l : List Nd) (s : List UInt8) (os : List Int) (hos : os = ordP l 0) (hn : ∀ j (h : j < os.length), idB l s os[j] = false) : namP l s = -1 := by
 subst hos
 unfold namP
 by_cases hs : s = []
 ·rw [if_pos hs]
 ·rw [if_neg hs]
  rcases pidx_ways (idB l s) (ordP l 0) with ⟨m, hm, h1, h2, _⟩ | ⟨_, _, h3, _⟩
  ·have := hn m hm; rw [h2] at this; cases this
  ·rw [h3]; rfl
theorem nam_in {l : List Nd} (h : Rt l) (s : List UInt8) : namP l s = -1 ∨ inR l (namP l s) := by
 unfold namP
 by_cases hs : s = []
 ·rw [if_pos hs]; exact .inl rfl
 ·rw [if_neg hs]
  cases hf : (ordP l 0).find? (idB l s) with
  | none => exact .inl rfl
  | some x =>
   have := List.mem_of_find?_eq_some hf
   exact .inr (ord_in h 0 ⟨by decide, by have := h.some1; omega⟩ x this).1
theorem named18_any (v : Value) (l : List Nd) (hL : LFine l) (hR : rightB l = true) (s : List UInt8) (w : World) (hA : NodesAt w v l) :
  Calls Tryz.prog 216 #[v, .string ⟨s.toArray⟩] w fun e w' => e = .returned (.int .i64 (namP l s)) ∧ Below w.heap.size w w' := by
 have hRt := right_rt l hR
 have hf := hRt.few
 have h1 := hRt.some1
 have hlen := hL.len
 by_cases hs0 : s = []
 ·have hemp : s.isEmpty = true := by simp [hs0]
  have HX : Hid (namP l s = -1) := Lib.hid (by unfold namP; rw [if_pos hs0])
  rw [HX.out]
  obtain ⟨oa, cap, rfl⟩ := NodesAt.lenN hA
  clear hA hL hR hRt hs0
  go_enter Tryz.func216, Tryz.ntmps216
  go_wp2_with fail
  go_ret
  exact ⟨rfl, Below.refl _ _⟩
 have hemp : s.isEmpty = false := by simp [hs0]
 have hri := right_any v l hL w hA
 rw [hR] at hri
 have h0in : inR l 0 := ⟨by decide, by omega⟩
 obtain ⟨b, off, cap, rfl, hb⟩ := nodes_addr hA (by omega)
 have HOr := Lib.hid (fun w' (h : Below w.heap.size w w') => torder_any _ l hR 0 (by omega) w' (hA.below h))
 have HN := Lib.hid (fun w' (h : Below w.heap.size w w') j hj => nodes_get (hA.below h) j hj)
 have HFi := Lib.hid (fun w' (j : Nat) (hj : j < l.length) va (h : AttrsAt w' va (nd l (j : Int)).attrs) => tfind_any va (nd l (j : Int)).attrs nId (hL.nd _ (by omega) (by omega)).attrs w' h)
 have HIn := Lib.hid (fun x (hx : x ∈ ordP l 0) => (ord_in hRt 0 h0in x hx).1)
 have HLe := ord_le hRt 0 h0in
 obtain ⟨os, hos⟩ : ∃ os, os = ordP l 0 := ⟨_, rfl⟩
 have HAt := Lib.hid (nam_at l s hs0 os hos)
 have HNo := Lib.hid (nam_none l s os hos)
 obtain ⟨res, hres⟩ : ∃ r, r = namP l s := ⟨_, rfl⟩
 rw [← hres] at HAt HNo ⊢
 have HId : Hid (∀ k, idB l s k = (hasA nId (nd l k).attrs && ((fval nId (nd l k).attrs).getD [] == s))) := Lib.hid (fun k => rfl)
 have HOr2 := Lib.hid (fun w' h => by have := HOr.out w' h; rwa [show ((0 : Nat) : Int) = 0 from rfl, ← hos] at this)
 rw [← hos] at HIn HLe
 clear hres hRt hR hL hA h0in HOr hos hs0
 go_enter Tryz.func216, Tryz.ntmps216
 go_wp2_with fail
 refine hri.mono ?_
 rintro e w1 ⟨rfl, hb1⟩
 have hor := HOr2.out w1 hb1
 clear hri
 go_wp2_with fail
 refine hor.mono ?_
 rintro e w2 ⟨v2, rfl, ho2, hb2⟩
 have hb02 := below_trans hb1 hb2
 have HI := Lib.hid ho2.ints
 obtain ⟨oo, oc, rfl⟩ := RowAt.lenN ho2.ints
 clear hor ho2
 go_wp2_with fail
 go_loopw [6, 7, 18] (fun _ _ s18 wr => ∃ i : Nat, s18 = .int .i64 i ∧ i ≤ os.length ∧ Hid (∀ j (hj : j < i) (h : j < os.length), idB l s os[j] = false) ∧ Below w2.heap.size w2 wr) (fun _ _ s18 _ => os.length - (RowKit.intOf s18).toNat)
 case atStart => exact ⟨0, rfl, by omega, Lib.hid (fun j hj => absurd hj (Nat.not_lt_zero _)), Below.refl _ _⟩
 case round =>
  obtain ⟨i, rfl, hi, hno, hbw⟩ := hrel
  have hb0r := below_trans hb02 hbw
  by_cases hlt : i < os.length
  case neg =>
   have HX : Hid (res = -1) := Lib.hid (HNo.out (fun j h => hno.out j (by omega) h))
   clear hno
   go_wp2_with fail
   go_ret
   exact ⟨ret_int HX.out.symm, hb0r⟩
  obtain ⟨kb, ko, kcap, e, hkb⟩ := IntsAt.addr HI.out (by omega)
  cases e
  have e0 := cell_below hbw (IntsAt.cellAt HI.out i hlt)
  have hin := HIn.out os[i] (List.getElem_mem hlt)
  obtain ⟨cn, hcn⟩ : ∃ cn : Nat, os[i] = (cn : Int) := ⟨os[i].toNat, by have := hin.1; omega⟩
  have hcl : cn < l.length := by have := hin.2; omega
  have hcl' : (cn : Int) < (l.length : Int) := by omega
  have hc0 : (0 : Int) ≤ (cn : Int) := by omega
  have HHit := Lib.hid (fun (hh : idB l s (cn : Int) = true) => HAt.out i hlt (by rw [hcn]; exact hh) (fun j hj => hno.out j hj (by omega)))
  have HMis := Lib.hid (fun (hh : idB l s (cn : Int) = false) => (fun j (hj : j < i + 1) (h : j < os.length) => by
   rcases Nat.lt_or_ge j i with g | g
   ·exact hno.out j g h
   ·have : j = i := by omega
    subst this; rw [hcn]; exact hh : ∀ j (hj : j < i + 1) (h : j < os.length), idB l s os[j] = false))
  have HEq : Hid (os[i] = (cn : Int)) := Lib.hid hcn
  rw [hcn] at e0
  obtain ⟨va, vk, hn⟩ := HN.out wr hb0r cn hcl
  have c2 := hn.c2
  have HAtt := Lib.hid hn.attrs
  have hfi := HFi.out wr cn hcl va hn.attrs
  obtain ⟨aa, ac, rfl⟩ := AttrsAt.lenN hn.attrs
  have HW := Lib.hid (fint_ways nId (nd l (cn : Int)).attrs)
  have HIc := Lib.hid (HId.out (cn : Int))
  clear hin hcn hno hn
  generalize fint nId (nd l (cn : Int)).attrs = fi at *
  go_wp2_with fail
  refine hfi.mono ?_
  rintro e w3 ⟨rfl, hb3⟩
  have hb03 := below_trans hbw hb3
  have c2 := cell_below hb3 c2
  clear hfi e0
  rcases HW.out with ⟨j, hj, g1, g2, g3, g4⟩ | ⟨g1, g2, g3⟩
  ·subst g1
   obtain ⟨gb, go, gc, e, hgb, hcell⟩ := attr_cell HAtt.out j hj
   cases e
   have hcell := cell_below hb3 hcell
   have HB : Hid (idB l s (cn : Int) = ((nd l (cn : Int)).attrs[j].2 == s)) := Lib.hid (by rw [HIc.out]; unfold hasA; rw [g4]; rfl)
   have hj' : (j : Int) < ((nd l (cn : Int)).attrs.length : Int) := by omega
   clear g2 g3 g4 HW HIc
   generalize (nd l (cn : Int)).attrs[j].2 = y at *
   generalize (nd l (cn : Int)).attrs.length = al at *
   cases hys : (y == s)
   ·have HN2 := Lib.hid (HMis.out (by rw [HB.out, hys]))
    go_wp2_with fail
    go_roundw
    case rel => exact ⟨i + 1, by go_num, by omega, HN2, hb03⟩
    case measure => simp [RowKit.intOf]; omega
   ·have HX : Hid (res = (cn : Int)) := Lib.hid (by rw [HHit.out (by rw [HB.out, hys]), HEq.out])
    go_wp2_with fail
    go_ret
    exact ⟨ret_int HX.out.symm, below_trans hb02 hb03⟩
  ·subst g1
   have HN2 := Lib.hid (HMis.out (by rw [HIc.out]; unfold hasA; rw [g3]; rfl))
   clear g2 g3 HW HIc
   generalize (nd l (cn : Int)).attrs.length = al at *
   go_wp2_with fail
   go_roundw
   case rel => exact ⟨i + 1, by go_num, by omega, HN2, hb03⟩
   case measure => simp [RowKit.intOf]; omega

def ownsB (k : Int) : Bool := listedP k || k == 20
def fnamP (l : List Nd) (k : Int) : Int := namP l ((fval nForm (nd l k).attrs).getD [])
def formP (l : List Nd) (k : Int) : Int :=
 if ownsB (kN l k) = false then -1
 else if (hasA nForm (nd l k).attrs && decide (topP l k = 0)) = true then (if kO l (fnamP l k) = 30 then fnamP l k else -1)
 else nearP l k nForm
theorem form_no (l : List Nd) (k : Int) (h : ownsB (kN l k) = false) : formP l k = -1 := if_pos h
theorem form_nam (l : List Nd) (k : Int) (h : ownsB (kN l k) = true) (g : (hasA nForm (nd l k).attrs && decide (topP l k = 0)) = true) : formP l k = if kO l (fnamP l k) = 30 then fnamP l k else -1 := by
 unfold formP; rw [if_neg (by rw [h]; exact Bool.noConfusion), if_pos g]
theorem form_up (l : List Nd) (k : Int) (h : ownsB (kN l k) = true) (g : (hasA nForm (nd l k).attrs && decide (topP l k = 0)) = false) : formP l k = nearP l k nForm := by
 unfold formP; rw [if_neg (by rw [h]; exact Bool.noConfusion), if_neg (by rw [g]; exact Bool.noConfusion)]
theorem oform_any (v : Value) (l : List Nd) (hL : LFine l) (hR : rightB l = true) (k : Nat) (hk : k < l.length) (w : World) (hA : NodesAt w v l) :
  Calls Tryz.prog 128 #[v, .int .i64 k] w fun e w' => e = .returned (.int .i64 (formP l (k : Int))) ∧ Below w.heap.size w w' := by
 have hRt := right_rt l hR
 have hkd := okind_any v l hL (k : Int) w hA
 rw [kO_in l (k : Int) (by omega) (by omega)] at hkd
 have HAtt := Lib.hid (fun w' (h : Below w.heap.size w w') => tattr_any v l hL hR k hk nForm w' (hA.below h))
 have HTop := Lib.hid (fun w' (h : Below w.heap.size w w') => top_any v l hL hR k hk w' (hA.below h))
 have HNam := Lib.hid (fun w' (h : Below w.heap.size w w') => named18_any v l hL hR ((fval nForm (nd l (k : Int)).attrs).getD []) w' (hA.below h))
 have HKf := Lib.hid (fun w' (h : Below w.heap.size w w') => okind_any v l hL (fnamP l (k : Int)) w' (hA.below h))
 have HUp := Lib.hid (fun w' (h : Below w.heap.size w w') => up_any v l hL hR k hk nForm w' (hA.below h))
 have HFn : Hid (namP l ((fval nForm (nd l (k : Int)).attrs).getD []) = fnamP l (k : Int)) := Lib.hid rfl
 rw [HFn.out] at HNam
 have F1 := Lib.hid (form_no l (k : Int))
 have F2 := Lib.hid (form_nam l (k : Int))
 have F3 := Lib.hid (form_up l (k : Int))
 have hls := fun w => listed_any (kN l (k : Int)) w
 have HOw : Hid (ownsB (kN l (k : Int)) = (listedP (kN l (k : Int)) || kN l (k : Int) == 20)) := Lib.hid rfl
 obtain ⟨oa, cap, rfl⟩ := NodesAt.lenN hA
 generalize formP l (k : Int) = res at *
 generalize (fval nForm (nd l (k : Int)).attrs).getD [] = s at *
 generalize hasA nForm (nd l (k : Int)).attrs = ha at *
 generalize fnamP l (k : Int) = fn at *
 generalize kO l fn = kf at *
 generalize topP l (k : Int) = tp at *
 generalize nearP l (k : Int) nForm = up at *
 generalize kN l (k : Int) = kd at *
 obtain ⟨lb, hlb⟩ : ∃ q, q = listedP kd := ⟨_, rfl⟩
 rw [← hlb] at hls HOw
 generalize ownsB kd = ow at *
 clear hRt hR hL hA HFn hlb
 go_enter Tryz.func128, Tryz.ntmps128
 go_wp2_with fail
 refine hkd.mono ?_
 rintro e w1 ⟨rfl, hb1⟩
 clear hkd
 go_upto_region 2 with fail
 go_cut [18] (fun s18 wx => ∃ q, s18 = .bool q ∧ Hid (q = !ow) ∧ wx = w1)
 case first =>
  cases lb
  ·by_cases g : kd = 20
   ·have gb : (kd != 20) = false := by simp [g]
    have HQ : Hid (false = !ow) := Lib.hid (by rw [HOw.out, g]; rfl)
    clear g
    go_wp2_with fail
    refine (hls w1).mono ?_
    rintro e w2 ⟨rfl, rfl⟩
    go_wp2_with fail
    go_meet
    exact ⟨_, rfl, HQ, rfl⟩
   ·have gb : (kd != 20) = true := by simpa using g
    have HQ : Hid (true = !ow) := Lib.hid (by rw [HOw.out, show (kd == 20) = false from by simpa using g]; rfl)
    clear g
    go_wp2_with fail
    refine (hls w1).mono ?_
    rintro e w2 ⟨rfl, rfl⟩
    go_wp2_with fail
    go_meet
    exact ⟨_, rfl, HQ, rfl⟩
  ·have HQ : Hid (false = !ow) := Lib.hid (by rw [HOw.out]; rfl)
   go_wp2_with fail
   refine (hls w1).mono ?_
   rintro e w2 ⟨rfl, rfl⟩
   go_wp2_with fail
   go_meet
   exact ⟨_, rfl, HQ, rfl⟩
 case rest =>
 obtain ⟨q, rfl, hq, hwc⟩ := hcut
 subst hwc
 clear hls HOw
 cases q
 case true =>
  have HX := Lib.hid (F1.out (not_inj hq.out))
  clear hq F1 F2 F3
  go_wp2_with fail
  go_ret
  exact ⟨ret_int HX.out.symm, hb1⟩
 have HO : Hid (ow = true) := Lib.hid (not_inj hq.out)
 have HF2 := Lib.hid (F2.out HO.out)
 have HF3 := Lib.hid (F3.out HO.out)
 have hat := HAtt.out _ hb1
 clear hq F1 F2 F3 HO HAtt
 go_wp2_with fail
 refine hat.mono ?_
 rintro e w2 ⟨rfl, hb2⟩
 have hb02 := below_trans hb1 hb2
 have htp := HTop.out w2 hb02
 clear hat hb2
 go_upto_region 5 with fail
 go_cut [31] (fun s31 wx => ∃ q, s31 = .bool q ∧ Hid (q = (ha && decide (tp = 0))) ∧ Below w.heap.size w wx)
 case first =>
  cases ha
  ·go_wp2_with fail
   go_meet
   exact ⟨_, rfl, Lib.hid rfl, hb02⟩
  ·by_cases g : tp = 0
   ·have gb : (tp == 0) = true := by simpa using g
    have HQ : Hid (true = (true && decide (tp = 0))) := Lib.hid (by rw [decide_eq_true g]; rfl)
    clear g
    go_wp2_with fail
    refine htp.mono ?_
    rintro e w3 ⟨rfl, hb3⟩
    go_wp2_with fail
    go_meet
    exact ⟨_, rfl, HQ, below_trans hb02 hb3⟩
   ·have gb : (tp == 0) = false := by simpa using g
    have HQ : Hid (false = (true && decide (tp = 0))) := Lib.hid (by rw [decide_eq_false g]; rfl)
    clear g
    go_wp2_with fail
    refine htp.mono ?_
    rintro e w3 ⟨rfl, hb3⟩
    go_wp2_with fail
    go_meet
    exact ⟨_, rfl, HQ, below_trans hb02 hb3⟩
 case rest =>
 obtain ⟨q, rfl, hq, hbc⟩ := hcut
 clear htp
 cases q
 case false =>
  have HX := Lib.hid (HF3.out hq.out.symm)
  have hup := HUp.out _ hbc
  clear hq HF2 HF3
  go_wp2_with fail
  refine hup.mono ?_
  rintro e w3 ⟨rfl, hb3⟩
  go_wp2_with fail
  go_ret
  exact ⟨ret_int HX.out.symm, below_trans hbc hb3⟩
 have HX := Lib.hid (HF2.out hq.out.symm)
 have hnm := HNam.out _ hbc
 clear hq HF2 HF3
 go_wp2_with fail
 refine hnm.mono ?_
 rintro e w3 ⟨rfl, hb3⟩
 have hb03 := below_trans hbc hb3
 have hkf := HKf.out w3 hb03
 clear hnm hb3
 by_cases g : kf = 30
 ·have gb : (kf != 30) = false := by simp [g]
  have HX2 : Hid (res = fn) := Lib.hid (by rw [HX.out, if_pos g])
  clear g HX
  go_wp2_with fail
  refine hkf.mono ?_
  rintro e w4 ⟨rfl, hb4⟩
  go_wp2_with fail
  go_ret
  exact ⟨ret_int HX2.out.symm, below_trans hb03 hb4⟩
 ·have gb : (kf != 30) = true := by simpa using g
  have HX2 : Hid (res = -1) := Lib.hid (by rw [HX.out, if_neg g])
  clear g HX
  go_wp2_with fail
  refine hkf.mono ?_
  rintro e w4 ⟨rfl, hb4⟩
  go_wp2_with fail
  go_ret
  exact ⟨ret_int HX2.out.symm, below_trans hb03 hb4⟩
theorem oForm_any (v : Value) (l : List Nd) (hL : LFine l) (hR : rightB l = true) (k : Nat) (hk : k < l.length) (w : World) (hA : NodesAt w v l) :
  Calls Tryz.prog 60 #[v, .int .i64 k] w fun e w' => e = .returned (.int .i64 (formP l (k : Int))) ∧ Below w.heap.size w w' := by
 have hri := right_any v l hL w hA
 rw [hR] at hri
 have HF := Lib.hid (fun w' (h : Below w.heap.size w w') => oform_any v l hL hR k hk w' (hA.below h))
 obtain ⟨oa, cap, rfl⟩ := NodesAt.lenN hA
 generalize formP l (k : Int) = res at *
 clear hA hL hR
 go_enter Tryz.func60, Tryz.ntmps60
 go_wp2_with fail
 refine hri.mono ?_
 rintro e w1 ⟨rfl, hb1⟩
 have hf := HF.out w1 hb1
 clear hri
 go_wp2_with fail
 refine hf.mono ?_
 rintro e w2 ⟨rfl, hb2⟩
 go_wp2_with fail
 go_ret
 exact ⟨rfl, below_trans hb1 hb2⟩
end Go.Proofs.YtkhlfggnjcbniaaGreatDoor.doc
namespace Go.Proofs.YtkhlfggnjcbniaaGreatDoor.doc
open atr link

abbrev Key := List UInt8 × Int × Int × Int
def nmP (l : List Nd) (k : Int) : List UInt8 := (fval nNameA (nd l k).attrs).getD []
def radB (l : List Nd) (k : Int) : Bool := kN l k == 17
def keyP (l : List Nd) (k : Int) : Key := if nmP l k = [] then ([], -2, 0, k) else (nmP l k, formP l k, topP l k, -1)
def withP (l : List Nd) (κ : Key) (i : Int) : List Int := (ordP l i).filter (fun k => radB l k && decide (keyP l k = κ))
def membP (l : List Nd) (k : Int) : List Int := if (0 ≤ k ∧ k < (l.length : Int)) ∧ radB l k = true then withP l (keyP l k) (topP l k) else []

theorem ord_top {l : List Nd} (h : Rt l) : ∀ i, inR l i → ∀ x ∈ ordP l i, topP l x = topP l i := by
 refine by_depth h (fun i => ∀ x ∈ ordP l i, topP l x = topP l i) ?_
 intro k hk ih x hx
 rw [ord_eq h k hk] at hx
 rcases List.mem_cons.1 hx with rfl | hx
 ·rfl
 ·obtain ⟨c, hc, hx⟩ := List.mem_flatMap.1 hx
  obtain ⟨c1, c2⟩ := h.kid k c hk hc
  rw [ih c hc x hx, top_eq h c c1, c2, if_neg (by have := hk.1; omega)]
theorem top_root {l : List Nd} (h : Rt l) (i : Int) (hi : inR l i) (hp : (nd l i).parent < 0) : topP l i = i := by
 rw [top_eq h i hi, if_pos hp]
theorem key_top {l : List Nd} (h : Rt l) (k i : Int) (_hk : inR l k) (hi : inR l i) (hp : (nd l i).parent < 0) (hne : i ≠ topP l k) : withP l (keyP l k) i = [] := by
 unfold withP
 rw [List.filter_eq_nil_iff]
 intro x hx hq
 rw [Bool.and_eq_true, decide_eq_true_eq] at hq
 have ht := ord_top h i hi x hx
 rw [top_root h i hi hp] at ht
 have hk2 := hq.2
 unfold keyP at hk2
 by_cases g1 : nmP l x = []
 ·by_cases g2 : nmP l k = []
  ·rw [if_pos g1, if_pos g2] at hk2
   injection hk2 with _ e; injection e with _ e; injection e with _ e
   subst e; exact hne ht.symm
  ·rw [if_pos g1, if_neg g2] at hk2
   injection hk2 with e _; exact g2 e.symm
 ·by_cases g2 : nmP l k = []
  ·rw [if_neg g1, if_pos g2] at hk2
   injection hk2 with e _; exact g1 e
  ·rw [if_neg g1, if_neg g2] at hk2
   injection hk2 with _ e; injection e with _ e; injection e with e _
   exact hne (ht.symm.trans e)

def uptoP (l : List Nd) (κ : Key) : Nat → List Int
 | 0 => []
 | n + 1 => uptoP l κ n ++ if (nd l (n : Int)).parent < 0 then withP l κ (n : Int) else []
theorem upto_none {l : List Nd} (h : Rt l) (k : Int) (hk : inR l k) : ∀ n : Nat, n ≤ (topP l k).toNat → n ≤ l.length → uptoP l (keyP l k) n = [] := by
 intro n
 induction n with
 | zero => intro _ _; rfl
 | succ n ih =>
  intro h1 h2
  rw [uptoP, ih (by omega) (by omega), List.nil_append]
  by_cases g : (nd l (n : Int)).parent < 0
  ·rw [if_pos g, key_top h k n hk ⟨by omega, by omega⟩ g (by have := (top_in h k hk).1.1; omega)]
  ·rw [if_neg g]
theorem upto_all {l : List Nd} (h : Rt l) (k : Int) (hk : inR l k) : ∀ n : Nat, (topP l k).toNat < n → n ≤ l.length → uptoP l (keyP l k) n = withP l (keyP l k) (topP l k) := by
 intro n
 induction n with
 | zero => intro h1 _; omega
 | succ n ih =>
  intro h1 h2
  obtain ⟨t1, t2⟩ := top_in h k hk
  rw [uptoP]
  by_cases e : (n : Int) = topP l k
  ·rw [e, upto_none h k hk n (by omega) (by omega), if_pos t2, List.nil_append]
  ·rw [ih (by have := t1.1; omega) (by omega)]
   by_cases g : (nd l (n : Int)).parent < 0
   ·rw [if_pos g, key_top h k n hk ⟨by omega, by omega⟩ g e, List.append_nil]
   ·rw [if_neg g, List.append_nil]
theorem memb_upto {l : List Nd} (h : Rt l) (k : Int) (hk : inR l k) (hr : radB l k = true) : membP l k = uptoP l (keyP l k) l.length := by
 obtain ⟨t1, _⟩ := top_in h k hk
 rw [upto_all h k hk l.length (by have := t1.1; have := t1.2; omega) (Nat.le_refl _)]
 unfold membP
 rw [if_pos ⟨hk, hr⟩]
end Go.Proofs.YtkhlfggnjcbniaaGreatDoor.doc
namespace Go.Proofs.YtkhlfggnjcbniaaGreatDoor.doc
open Go.ChangeShapes Go.WideShapes Go.ChangeAt Go.RowKit Go.Lib atr link

theorem radio_any (v : Value) (l : List Nd) (hL : LFine l) (hf : l.length ≤ 1000000) (k : Int) (w : World) (hA : NodesAt w v l) :
  Calls Tryz.prog 149 #[v, .int .i64 k] w fun e w' => e = .returned (.bool (decide (0 ≤ k ∧ k < (l.length : Int)) && radB l k)) ∧ Below w.heap.size w w' := by
 by_cases h0 : 0 ≤ k
 case neg =>
  have HX : Hid ((decide (0 ≤ k ∧ k < (l.length : Int)) && radB l k) = false) := Lib.hid (by rw [decide_eq_false (by omega)]; rfl)
  rw [HX.out]
  clear hA hL
  go_enter Tryz.func149, Tryz.ntmps149
  go_wp2_with fail
  go_ret
  exact ⟨rfl, Below.refl _ _⟩
 by_cases h1 : k < (l.length : Int)
 case neg =>
  have HX : Hid ((decide (0 ≤ k ∧ k < (l.length : Int)) && radB l k) = false) := Lib.hid (by rw [decide_eq_false (by omega)]; rfl)
  rw [HX.out]
  obtain ⟨oa, cap, rfl⟩ := NodesAt.lenN hA
  clear hA hL
  go_enter Tryz.func149, Tryz.ntmps149
  go_wp2_with fail
  go_ret
  exact ⟨rfl, Below.refl _ _⟩
 obtain ⟨kn, rfl⟩ : ∃ kn : Nat, k = (kn : Int) := ⟨k.toNat, by omega⟩
 have hkn : kn < l.length := by omega
 obtain ⟨b, off, cap, rfl, hb⟩ := nodes_addr hA (by omega)
 obtain ⟨va, vk, hn⟩ := nodes_get hA kn hkn
 have hof := of_any (nd l (kn : Int)) va vk (hL.nd _ h0 h1) w hn.attrs hn.kids
 have HK : Hid (kindP (nd l (kn : Int)).name (nd l (kn : Int)).attrs = kN l (kn : Int)) := Lib.hid rfl
 rw [HK.out] at hof
 unfold nodeV at hof
 obtain ⟨c0, c1, c2, c3, c4, _, _, _⟩ := hn
 have HX : Hid ((decide (0 ≤ (kn : Int) ∧ (kn : Int) < (l.length : Int)) && radB l (kn : Int)) = (kN l (kn : Int) == 17)) := Lib.hid (by rw [decide_eq_true ⟨h0, h1⟩]; rfl)
 rw [HX.out]
 generalize kN l (kn : Int) = r at *
 generalize nd l (kn : Int) = n at *
 clear hA hL HK HX
 go_enter Tryz.func149, Tryz.ntmps149
 go_wp2_with fail
 refine hof.mono ?_
 rintro e w1 ⟨rfl, hb1⟩
 go_wp2_with fail
 go_ret
 exact ⟨rfl, hb1⟩

def keyV (κ : Key) : Value := .agg #[.string ⟨κ.1.toArray⟩, .int .i64 κ.2.1, .int .i64 κ.2.2.1, .int .i64 κ.2.2.2]
theorem blk_four {w : World} {B : Nat} {a0 a1 a2 a3 : Value} (h : Blk w B [a0, a1, a2, a3]) :
  w.cell? ⟨B, 0, none⟩ = some a0 ∧ w.cell? ⟨B, 1, none⟩ = some a1 ∧ w.cell? ⟨B, 2, none⟩ = some a2 ∧ w.cell? ⟨B, 3, none⟩ = some a3 ∧
  w.frozen? ⟨B, 0, none⟩ = false ∧ w.frozen? ⟨B, 1, none⟩ = false ∧ w.frozen? ⟨B, 2, none⟩ = false ∧ w.frozen? ⟨B, 3, none⟩ = false :=
 ⟨h.cell 0, h.cell 1, h.cell 2, h.cell 3, h.frozen 0, h.frozen 1, h.frozen 2, h.frozen 3⟩
theorem gof_any (v : Value) (l : List Nd) (hL : LFine l) (hR : rightB l = true) (k : Nat) (hk : k < l.length) (w : World) (hA : NodesAt w v l) :
  Calls Tryz.prog 151 #[v, .int .i64 k] w fun e w' => e = .returned (keyV (keyP l (k : Int))) ∧ Below w.heap.size w w' := by
 have HAtt := Lib.hid (fun w' (h : Below w.heap.size w w') => tattr_any v l hL hR k hk nNameA w' (hA.below h))
 have HFm := Lib.hid (fun w' (h : Below w.heap.size w w') => oForm_any v l hL hR k hk w' (hA.below h))
 have HTp := Lib.hid (fun w' (h : Below w.heap.size w w') => top_any v l hL hR k hk w' (hA.below h))
 have HN : Hid ((fval nNameA (nd l (k : Int)).attrs).getD [] = nmP l (k : Int)) := Lib.hid rfl
 rw [HN.out] at HAtt
 have HK : Hid (keyP l (k : Int) = if nmP l (k : Int) = [] then ([], -2, 0, (k : Int)) else (nmP l (k : Int), formP l (k : Int), topP l (k : Int), -1)) := Lib.hid rfl
 obtain ⟨oa, cap, rfl⟩ := NodesAt.lenN hA
 generalize keyP l (k : Int) = κ at *
 generalize nmP l (k : Int) = nm at *
 generalize formP l (k : Int) = fm at *
 generalize topP l (k : Int) = tp at *
 generalize hasA nNameA (nd l (k : Int)).attrs = hn at *
 unfold nNameA at HAtt
 clear hA hL hR HN
 go_enter Tryz.func151, Tryz.ntmps151
 go_wp2_with fail
 have h0 : Blk (w.alloc (.cells #[.string ⟨#[]⟩, .int .i64 0, .int .i64 0, .int .i64 0] 121)) w.heap.size [.string ⟨#[]⟩, .int .i64 0, .int .i64 0, .int .i64 0] := Blk.fresh w _ _
 have hlow0 : Below w.heap.size w (w.alloc (.cells #[.string ⟨#[]⟩, .int .i64 0, .int .i64 0, .int .i64 0] 121)) := (Below.refl _ _).alloc (Nat.le_refl _) _
 refine (HAtt.out _ hlow0).mono ?_
 rintro e w1 ⟨rfl, hb1⟩
 have h1 := h0.kept hb1
 have hlow1 : Below w.heap.size w w1 := hlow0.trans (hb1.mono (by simp))
 clear h0 HAtt
 by_cases g : nm = []
 ·subst g
  have HX : Hid (κ = ([], -2, 0, (k : Int))) := Lib.hid (by rw [HK.out, if_pos rfl])
  obtain ⟨c0, c1, c2, c3, f0, f1, f2, f3⟩ := blk_four h1
  clear HK HFm HTp
  go_wp2_with fail
  (try simp only [Exit.inBlock, Exit.then])
  refine bodyPost_ret (v := .agg #[.string ⟨#[]⟩, .int .i64 (-2), .int .i64 0, .int .i64 k]) (by rw [rcell1 rfl]; go_simp) rfl ⟨by rw [HX.out]; rfl, ?_⟩
  repeat refine Below.setCell ?_ (by first | exact Nat.le_refl _ | exact Nat.le_succ _) _
  exact hlow1
 have gb : nm.isEmpty = false := by simp [g]
 have HX : Hid (κ = (nm, fm, tp, -1)) := Lib.hid (by rw [HK.out, if_neg g])
 have hfm := HFm.out w1 hlow1
 clear HK HFm g
 go_wp2_with fail
 refine hfm.mono ?_
 rintro e w2 ⟨rfl, hb2⟩
 have h2 := h1.kept hb2
 have hlow2 := hlow1.trans (hb2.mono hlow1.size)
 have htp := HTp.out w2 hlow2
 clear h1 hfm
 go_wp2_with fail
 refine htp.mono ?_
 rintro e w3 ⟨rfl, hb3⟩
 have h3 := h2.kept hb3
 have hlow3 := hlow2.trans (hb3.mono hlow2.size)
 obtain ⟨c0, c1, c2, c3, f0, f1, f2, f3⟩ := blk_four h3
 clear h2 htp
 go_wp2_with fail
 (try simp only [Exit.inBlock, Exit.then])
 refine bodyPost_ret (v := .agg #[.string ⟨nm.toArray⟩, .int .i64 fm, .int .i64 tp, .int .i64 (-1)]) (by rw [rcell1 rfl]; go_simp) rfl ⟨by rw [HX.out]; rfl, ?_⟩
 repeat refine Below.setCell ?_ (by first | exact Nat.le_refl _ | exact Nat.le_succ _) _
 exact hlow3

end Go.Proofs.YtkhlfggnjcbniaaGreatDoor.doc
