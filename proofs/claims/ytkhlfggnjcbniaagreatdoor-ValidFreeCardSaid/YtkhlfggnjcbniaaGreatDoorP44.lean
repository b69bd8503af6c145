/- A part of the proofs: lemmas and contracts. -/
import Derived.Test.YtkhlfggnjcbniaaGreatDoorP38
import Derived.Test.YtkhlfggnjcbniaaGreatDoorP42
import Derived.Test.YtkhlfggnjcbniaaGreatDoorP43
set_option maxHeartbeats 12800000
set_option maxRecDepth 1000000
namespace Go.Proofs.YtkhlfggnjcbniaaGreatDoor.doc
open Go.ChangeShapes Go.WideShapes Go.ChangeAt Go.RowKit Go.Lib atr link ctl

def missV (l : List Nd) (cs : List Ctl) (k : Int) : Bool :=
 reqP (kN l k) && hasA nRequired (nd l k).attrs && (if kN l k = 16 then !(ct cs k).checked else if kN l k = 18 then decide ((ct cs k).files = []) else (decide (valV l cs k = []) && !fixR l k))
theorem rmiss_any (vn vc : Value) (l : List Nd) (cs : List Ctl) (k : Nat) (hk : k < l.length) (hq : docR l cs = true) (hkd : kN l (k : Int) ≠ 17 ∧ kN l (k : Int) ≠ 23) (w : World) (hD : DocAt w vn vc l cs) (hC : RVHas vn vc l cs k w) :
  Calls Tryz.prog 46 #[.agg #[vn, vc], .int .i64 k] w (RetB (missV l cs (k : Int)) w) := by
 obtain ⟨hlc, hR⟩ := (docR_iff l cs).1 hq
 have hlen := hD.fine.len
 have hFine := hD.fine
 have HVal := Lib.hid (fun w' (h : Below w.heap.size w w') => hC w' h)
 have HRes : Hid (missV l cs (k : Int) = (reqP (kN l (k : Int)) && hasA nRequired (nd l (k : Int)).attrs && (if kN l (k : Int) = 16 then !(ct cs (k : Int)).checked else if kN l (k : Int) = 18 then decide ((ct cs (k : Int)).files = []) else (decide (valV l cs (k : Int) = []) && !fixR l (k : Int))))) := Lib.hid rfl
 obtain ⟨b, off, cap, rfl, hb⟩ := nodes_addr hD.nodes (by omega)
 have HFx := Lib.hid (fun w' (h : Below w.heap.size w w') => rfixed_any _ l hFine hR k hk w' (hD.nodes.below h))
 have HN := Lib.hid (fun w' (h : Below w.heap.size w w') => nodes_get (hD.nodes.below h) k hk)
 have HOf := Lib.hid (fun w' va vk (h1 : AttrsAt w' va (nd l (k : Int)).attrs) (h2 : IntsAt w' vk (nd l (k : Int)).kids) => by
  have := rof_any (nd l (k : Int)) va vk (hFine.nd _ (by omega) (by omega)) w' h1 h2
  rwa [show kindP (nd l (k : Int)).name (nd l (k : Int)).attrs = kN l (k : Int) from rfl] at this)
 have HHas := Lib.hid (fun w' va vk h1 h2 => rhas15_any (nd l (k : Int)) va vk nRequired (hFine.nd _ (by omega) (by omega)).attrs w' h1 h2)
 have hreq := fun w => rrequired_any (kN l (k : Int)) w
 have hkc : k < cs.length := by omega
 obtain ⟨cb, coff, ccap, f, rfl, hcb, hct0⟩ := ctls_get hD.ctls k hkc
 have HCt : Hid (ct cs (k : Int) = cs[k]) := Lib.hid (ct_get cs k hkc)
 rw [HCt.out] at HRes
 have HC0 := Lib.hid hct0
 have h0 : (0 : Int) ≤ (k : Int) := by omega
 have hk' : (k : Int) < (l.length : Int) := by omega
 have hkc' : (k : Int) < (cs.length : Int) := by omega
 generalize missV l cs (k : Int) = res at *
 generalize valV l cs (k : Int) = s at *
 generalize fixR l (k : Int) = fx at *
 generalize hasA nRequired (nd l (k : Int)).attrs = ha at *
 generalize kN l (k : Int) = kd at *
 generalize nd l (k : Int) = n at *
 generalize cs[k] = c at *
 obtain ⟨cv, cdi, cty, cch, cdc, cmi, cse, cds, ccu, cfi⟩ := c
 dsimp only at HC0 HRes
 obtain ⟨rq, hrq⟩ : ∃ r, r = reqP kd := ⟨_, rfl⟩
 rw [← hrq] at hreq HRes
 unfold nRequired at HHas hreq
 obtain ⟨g17, g23⟩ := hkd
 have b17 : (kd == 17) = false := by simpa using g17
 have b23 : (kd == 23) = false := by simpa using g23
 obtain ⟨wA, hwA⟩ : ∃ wA, wA = w.alloc (.cells #[.slice (some ⟨b, off, none⟩) l.length cap, .slice (some ⟨cb, coff, none⟩) cs.length ccap] 28) := ⟨_, rfl⟩
 have hBA : Below w.heap.size w wA := by rw [hwA]; exact (Below.refl _ w).alloc (Nat.le_refl _) _
 have f0 : wA.cell? ⟨w.heap.size, 0, none⟩ = some (.slice (some ⟨b, off, none⟩) l.length cap) := by rw [hwA]; exact (doc_cells w _ _ _ _ _ _ _).1
 have f1 : wA.cell? ⟨w.heap.size, 1, none⟩ = some (.slice (some ⟨cb, coff, none⟩) cs.length ccap) := by rw [hwA]; exact (doc_cells w _ _ _ _ _ _ _).2
 obtain ⟨va0, vk0, hn00⟩ := HN.out w (Below.refl _ _)
 obtain ⟨d0, d1, d2, d3, d4, _, _, _⟩ := hn00
 have hof := HOf.out wA
 obtain ⟨va, vk, hnA⟩ : ∃ va vk, NodeAt wA b (off + k * 5) n va vk := HN.out wA hBA
 have hof := HOf.out wA va vk hnA.attrs hnA.kids
 unfold nodeV at hof
 obtain ⟨e0, e1, e2, e3, e4, _, _, _⟩ := hnA
 clear hD hq hFine hC hlc hR HCt hct0 g17 g23 hrq d0 d1 d2 d3 d4
 have HNA : Hid (w.heap.size + 1 = wA.heap.size) := Lib.hid (by rw [hwA]; simp)
 go_enter Tryz.func46, Tryz.ntmps46
 rw [hwA] at e0 e1 e2 e3 e4
 go_wp2_with fail
 rw [← hwA]
 clear hwA e0 e1 e2 e3 e4 HNA
 refine hof.mono ?_
 rintro e w1 ⟨rfl, hb1⟩
 have f0 := cell_below hb1 f0
 have f1 := cell_below hb1 f1
 have hB1 := below_trans hBA hb1
 clear hof HOf
 go_wp2_with fail
 refine (hreq _).mono ?_
 rintro e w2 ⟨rfl, rfl⟩
 cases rq
 ·have HX : Hid (res = false) := Lib.hid (by rw [HRes.out]; rfl)
  clear HRes hreq
  go_wp2_with fail
  go_ret
  exact ⟨ret_bool HX.out.symm, hB1⟩
 obtain ⟨va, vk, hn⟩ := HN.out w1 hB1
 have hhas := HHas.out w1 va vk hn.attrs hn.kids
 unfold nodeV at hhas
 obtain ⟨c0, c1, c2, c3, c4, _, _, _⟩ := hn
 clear hreq
 go_wp2_with fail
 refine hhas.mono ?_
 rintro e w2 ⟨rfl, hb2⟩
 have f0 := cell_below hb2 f0
 have f1 := cell_below hb2 f1
 have hB2 := below_trans hB1 hb2
 clear hhas HHas c0 c1 c2 c3 c4
 cases ha
 ·have HX : Hid (res = false) := Lib.hid (by rw [HRes.out]; rfl)
  clear HRes
  go_wp2_with fail
  go_ret
  exact ⟨ret_bool HX.out.symm, hB2⟩
 have hct := HC0.out.below hB2
 by_cases g16 : kd = 16
 ·have b16 : (kd == 16) = true := by simp [g16]
  have HX : Hid (res = !cch) := Lib.hid (by rw [HRes.out, if_pos g16]; rfl)
  have e3 := hct.cells 3 _ rfl
  clear HRes g16 hct
  go_wp2_with fail
  go_ret
  exact ⟨ret_bool HX.out.symm, hB2⟩
 have b16 : (kd == 16) = false := by simpa using g16
 by_cases g18 : kd = 18
 ·have b18 : (kd == 18) = true := by simp [g18]
  have HX : Hid (res = decide (cfi = [])) := Lib.hid (by rw [HRes.out, if_neg g16, if_pos g18]; rfl)
  obtain ⟨fa, fc, rfl⟩ := RowAt.lenN hct.files
  have e9 := hct.cells 9 _ rfl
  clear HRes g16 g18 hct HC0
  cases cfi with
  | nil =>
   have HX2 : Hid (res = true) := Lib.hid (by rw [HX.out]; rfl)
   clear HX
   go_wp2_with fail
   go_ret
   exact ⟨ret_bool HX2.out.symm, hB2⟩
  | cons x r =>
   have hz : (((x :: r).length : Int) == 0) = false := by simp; omega
   have HX2 : Hid (res = false) := Lib.hid (by rw [HX.out]; rfl)
   clear HX
   generalize (x :: r).length = m at *
   go_wp2_with fail
   go_ret
   exact ⟨ret_bool HX2.out.symm, hB2⟩
 have b18 : (kd == 18) = false := by simpa using g18
 have HX0 : Hid (res = (decide (s = []) && !fx)) := Lib.hid (by rw [HRes.out, if_neg g16, if_neg g18]; rfl)
 have hv := HVal.out w2 hB2
 clear HRes g16 g18 hct HVal
 go_wp2_with fail
 refine hv.mono ?_
 rintro e w3 ⟨rfl, hb3⟩
 have f0 := cell_below hb3 f0
 have hB3 := below_trans hB2 hb3
 clear hv
 by_cases hs0 : s = []
 ·have hz : ((s.length : Int) == 0) = true := by simp [hs0]
  have HX : Hid (res = !fx) := Lib.hid (by rw [HX0.out, decide_eq_true hs0]; rfl)
  have hf := HFx.out w3 hB3
  clear hs0 HX0
  go_wp2_with fail
  refine hf.mono ?_
  rintro e w4 ⟨rfl, hb4⟩
  go_wp2_with fail
  go_ret
  exact ⟨ret_bool HX.out.symm, below_trans hB3 hb4⟩
 ·have hz : ((s.length : Int) == 0) = false := by simp [hs0]
  have HX : Hid (res = false) := Lib.hid (by rw [HX0.out, decide_eq_false hs0]; rfl)
  clear hs0 HX0
  go_wp2_with fail
  go_ret
  exact ⟨ret_bool HX.out.symm, hB3⟩

theorem rmiss_radio (vn vc : Value) (l : List Nd) (cs : List Ctl) (k : Nat) (hk : k < l.length) (hq : docR l cs = true) (hkd : kN l (k : Int) = 17) (w : World) (hD : DocAt w vn vc l cs) :
  Calls Tryz.prog 46 #[.agg #[vn, vc], .int .i64 k] w (RetB ((membQ l (k : Int)).any (reqB l) && !(membQ l (k : Int)).any (chkB cs)) w) := by
 obtain ⟨hlc, hR⟩ := (docR_iff l cs).1 hq
 have hlen := hD.fine.len
 have hFine := hD.fine
 obtain ⟨b, off, cap, rfl, hb⟩ := nodes_addr hD.nodes (by omega)
 have HNk := Lib.hid (fun w' (h : Below w.heap.size w w') => nodes_get (hD.nodes.below h) k hk)
 have HNx := Lib.hid (fun w' (h : Below w.heap.size w w') (x : Nat) (hx : x < l.length) => nodes_get (hD.nodes.below h) x hx)
 have HOf := Lib.hid (fun w' va vk (h1 : AttrsAt w' va (nd l (k : Int)).attrs) (h2 : IntsAt w' vk (nd l (k : Int)).kids) => by
  have := rof_any (nd l (k : Int)) va vk (hFine.nd _ (by omega) (by omega)) w' h1 h2
  rwa [show kindP (nd l (k : Int)).name (nd l (k : Int)).attrs = kN l (k : Int) from rfl, hkd] at this)
 have HHas := Lib.hid (fun (x : Nat) (hx : x < l.length) w' va vk h1 h2 => by
  have := rhas15_any (nd l (x : Int)) va vk nRequired (hFine.nd _ (by omega) (by omega)).attrs w' h1 h2
  rwa [show hasA nRequired (nd l (x : Int)).attrs = reqB l (x : Int) from rfl] at this)
 unfold nRequired at HHas
 have HMb := Lib.hid (fun w' (h : Below w.heap.size w w') => rmembers_any _ l hFine (k : Int) w' (hD.nodes.below h))
 have hml := membQ_len (l := l) (k : Int)
 have HIn := Lib.hid (membQ_in (l := l) (k : Int))
 obtain ⟨oc, cc, hvc⟩ := CtlsAt.lenN hD.ctls
 have HCx := Lib.hid (fun w' (h : Below w.heap.size w w') (x : Nat) (hx : x < cs.length) => by
  have := ctls_get (hD.ctls.below h) x hx
  rwa [← ct_get cs x hx] at this)
 have HLc := Lib.hid hlc
 subst hvc
 generalize membQ l (k : Int) = ms at *
 obtain ⟨qr, hqr⟩ : ∃ q, q = ms.any (reqB l) := ⟨_, rfl⟩
 obtain ⟨qc, hqc⟩ : ∃ q, q = ms.any (chkB cs) := ⟨_, rfl⟩
 rw [← hqr, ← hqc]
 have HR0 : Hid (qr = (false || (ms.drop 0).any (reqB l))) := Lib.hid hqr
 have HC0 : Hid (qc = (false || (ms.drop 0).any (chkB cs))) := Lib.hid hqc
 obtain ⟨wA, hwA⟩ : ∃ wA, wA = w.alloc (.cells #[.slice (some ⟨b, off, none⟩) l.length cap, .slice oc cs.length cc] 28) := ⟨_, rfl⟩
 have hBA : Below w.heap.size w wA := by rw [hwA]; exact (Below.refl _ w).alloc (Nat.le_refl _) _
 have f0 : wA.cell? ⟨w.heap.size, 0, none⟩ = some (.slice (some ⟨b, off, none⟩) l.length cap) := by rw [hwA]; exact (doc_cells w _ _ _ _ _ _ _).1
 have f1 : wA.cell? ⟨w.heap.size, 1, none⟩ = some (.slice oc cs.length cc) := by rw [hwA]; exact (doc_cells w _ _ _ _ _ _ _).2
 have h0 : (0 : Int) ≤ (k : Int) := by omega
 have hk' : (k : Int) < (l.length : Int) := by omega
 obtain ⟨va, vk, hnA⟩ := HNk.out wA hBA
 have hof := HOf.out wA va vk hnA.attrs hnA.kids
 unfold nodeV at hof
 obtain ⟨e0, e1, e2, e3, e4, _, _, _⟩ := hnA
 generalize nd l (k : Int) = n at *
 clear hD hq hFine hlc hR hkd hqr hqc HNk HOf
 go_enter Tryz.func46, Tryz.ntmps46
 rw [hwA] at e0 e1 e2 e3 e4
 go_wp2_with fail
 rw [← hwA]
 clear hwA e0 e1 e2 e3 e4
 refine hof.mono ?_
 rintro e w1 ⟨rfl, hb1⟩
 have f0 := cell_below hb1 f0
 have f1 := cell_below hb1 f1
 have hB1 := below_trans hBA hb1
 clear hof
 have hm := HMb.out w1 hB1
 go_wp2_with fail
 refine hm.mono ?_
 rintro e w2 ⟨v2, rfl, hown, hb2⟩
 have f0 := cell_below hb2 f0
 have f1 := cell_below hb2 f1
 have hB2 := below_trans hB1 hb2
 have HI := Lib.hid hown.ints
 obtain ⟨ra, rc, rfl⟩ := RowAt.lenN hown.ints
 clear hm hown HMb
 go_wp2_with fail
 go_loopw [7, 8, 9] (fun s7 s8 s9 wr => ∃ (i : Nat) (q7 q8 : Bool), s7 = .bool q7 ∧ s8 = .bool q8 ∧ s9 = .int .i64 i ∧ i ≤ ms.length ∧ Hid (qr = (q7 || (ms.drop i).any (reqB l))) ∧ Hid (qc = (q8 || (ms.drop i).any (chkB cs))) ∧ Below w2.heap.size w2 wr) (fun _ _ s9 _ => ms.length - (RowKit.intOf s9).toNat)
 case atStart => exact ⟨0, false, false, rfl, rfl, rfl, Nat.zero_le _, HR0, HC0, Below.refl _ _⟩
 case round =>
  obtain ⟨i, q7, q8, rfl, rfl, rfl, hi, hr7, hr8, hbr⟩ := hrel
  by_cases hlt : i < ms.length
  case neg =>
   have H7 : Hid (qr = q7) := Lib.hid (by rw [hr7.out, List.drop_eq_nil_of_le (by omega)]; simp)
   have H8 : Hid (qc = q8) := Lib.hid (by rw [hr8.out, List.drop_eq_nil_of_le (by omega)]; simp)
   clear hr7 hr8
   have HE : Hid ((qr && !qc) = (q7 && !q8)) := Lib.hid (by rw [H7.out, H8.out])
   clear H7 H8
   have hbf := below_trans hB2 hbr
   cases q7
   ·go_wp2_with fail
    go_ret
    exact ⟨ret_bool (by rw [HE.out]; rfl), hbf⟩
   ·go_wp2_with fail
    go_ret
    exact ⟨ret_bool (by rw [HE.out]; rfl), hbf⟩
  obtain ⟨kb, ko, kcap, e, hkb⟩ := IntsAt.addr HI.out (by omega)
  cases e
  have g0 := cell_below hbr (IntsAt.cellAt HI.out i hlt)
  have hin := HIn.out ms[i] (List.getElem_mem hlt)
  have HR1 : Hid (qr = ((q7 || reqB l ms[i]) || (ms.drop (i + 1)).any (reqB l))) := Lib.hid (by rw [hr7.out, List.drop_eq_getElem_cons hlt, List.any_cons, Bool.or_assoc])
  have HC1 : Hid (qc = ((q8 || chkB cs ms[i]) || (ms.drop (i + 1)).any (chkB cs))) := Lib.hid (by rw [hr8.out, List.drop_eq_getElem_cons hlt, List.any_cons, Bool.or_assoc])
  generalize ms[i] = x at *
  obtain ⟨hx0, hx1⟩ := hin
  obtain ⟨xn, rfl⟩ : ∃ xn : Nat, x = (xn : Int) := ⟨x.toNat, by omega⟩
  have hxl : xn < l.length := by omega
  have hb2r := below_trans hB2 hbr
  have f0r := cell_below hbr f0
  have f1r := cell_below hbr f1
  obtain ⟨va, vk, hn⟩ := HNx.out _ hb2r xn hxl
  have hhas := HHas.out xn hxl
  have HNn := Lib.hid hn
  have hxc : (xn : Int) < (cs.length : Int) := by have := HLc.out; omega
  obtain ⟨cb, coff, ccap, f, ec, hcb, hct⟩ := HCx.out _ hb2r xn (by omega)
  cases ec
  have e3 := hct.cells 3 _ rfl
  have HCk : Hid (chkB cs (xn : Int) = (ct cs (xn : Int)).checked) := Lib.hid rfl
  rw [HCk.out] at HC1
  generalize reqB l (xn : Int) = rx at *
  generalize nd l (xn : Int) = nx at *
  generalize ct cs (xn : Int) = cx at *
  obtain ⟨cv, cdi, cty, cch, cdc, cmi, cse, cds, ccu, cfi⟩ := cx
  dsimp only at HC1
  obtain ⟨c0, c1, c2, c3, c4, _, _, _⟩ := hn
  clear hr7 hr8 hct HCk
  go_upto_region 9 with fail
  go_cut [7] (fun s7 wx => s7 = .bool (q7 || rx) ∧ Below wr.heap.size wr wx)
  case first =>
   cases q7
   ·go_still_tail 10, (by kernel_rfl)
    change wpList _ _ _ _ _ (World.drew _)
    have hbd : Below wr.heap.size wr wr.drew := (Below.refl _ _).drew
    have hnd := HNn.out.below (Below.refl _ _).drew
    have hh := hhas _ va vk hnd.attrs hnd.kids
    unfold nodeV at hh
    go_wp2_with fail
    refine hh.mono ?_
    rintro e w4 ⟨rfl, hb4⟩
    go_wp2_with fail
    go_meet
    exact ⟨rfl, below_trans hbd hb4⟩
   ·go_region
    all_goals
     (try go_wp2_with fail)
     go_meet
     exact ⟨rfl, (Below.refl _ _).drew⟩
  case rest =>
  obtain ⟨rfl, hbc⟩ := hcut
  have f0 := cell_below hbc f0r
  have f1 := cell_below hbc f1r
  have g0 := cell_below hbc g0
  have e3 := cell_below hbc e3
  have hbr := below_trans hbr hbc
  clear c0 c1 c2 c3 c4 f0r f1r hhas HNn
  go_upto_region 10 with fail
  cases q8
  ·go_region
   all_goals
    (try go_wp2_with fail)
    go_roundw
    case rel => exact ⟨i + 1, _, _, rfl, rfl, by go_num, by omega, HR1, HC1, hbr.drew⟩
    case measure => simp [RowKit.intOf]; omega
  ·go_region
   all_goals
    (try go_wp2_with fail)
    go_roundw
    case rel => exact ⟨i + 1, _, _, rfl, rfl, by go_num, by omega, HR1, HC1, hbr.drew⟩
    case measure => simp [RowKit.intOf]; omega

theorem rpat_no (vn vc : Value) (l : List Nd) (cs : List Ctl) (k : Nat) (hk : k < l.length) (_hq : docR l cs = true) (hno : hasA nPattern (nd l (k : Int)).attrs = false) (w : World) (hD : DocAt w vn vc l cs) (hC : RVHas vn vc l cs k w) :
  Calls Tryz.prog 48 #[.agg #[vn, vc], .int .i64 k] w (RetB false w) := by
 have hlen := hD.fine.len
 have hFine := hD.fine
 have HVal := Lib.hid (fun w' (h : Below w.heap.size w w') => hC w' h)
 obtain ⟨b, off, cap, rfl, hb⟩ := nodes_addr hD.nodes (by omega)
 obtain ⟨oc, cc, rfl⟩ := CtlsAt.lenN hD.ctls
 obtain ⟨va, vk, hn0⟩ := nodes_get hD.nodes k hk
 have HA := Lib.hid hn0.attrs
 have HK := Lib.hid hn0.kids
 have HOf := Lib.hid (fun w' (h : Below w.heap.size w w') => by
  have := rof_any (nd l (k : Int)) va vk (hFine.nd _ (by omega) (by omega)) w' (HA.out.below h) (HK.out.below h)
  rwa [show kindP (nd l (k : Int)).name (nd l (k : Int)).attrs = kN l (k : Int) from rfl] at this)
 have HAt := Lib.hid (fun w' (h : Below w.heap.size w w') => by
  have := rattrN_any va (nd l (k : Int)).attrs nPattern (hFine.nd _ (by omega) (by omega)).attrs w' (HA.out.below h)
  rwa [show attrB nPattern (nd l (k : Int)).attrs = hasA nPattern (nd l (k : Int)).attrs from rfl, hno] at this)
 obtain ⟨aa, ac, rfl⟩ := AttrsAt.lenN hn0.attrs
 obtain ⟨ka, kc, rfl⟩ := RowAt.lenN hn0.kids
 have h0 : (0 : Int) ≤ (k : Int) := by omega
 have hk' : (k : Int) < (l.length : Int) := by omega
 obtain ⟨wA, hwA⟩ : ∃ wA, wA = w.alloc (.cells #[.slice (some ⟨b, off, none⟩) l.length cap, .slice oc cs.length cc] 28) := ⟨_, rfl⟩
 have hBA : Below w.heap.size w wA := by rw [hwA]; exact (Below.refl _ w).alloc (Nat.le_refl _) _
 have hn1 := hn0.below hBA
 have f0 : wA.cell? ⟨w.heap.size, 0, none⟩ = some (.slice (some ⟨b, off, none⟩) l.length cap) := by rw [hwA]; exact (doc_cells w _ _ _ _ _ _ _).1
 have f1 : wA.cell? ⟨w.heap.size, 1, none⟩ = some (.slice oc cs.length cc) := by rw [hwA]; exact (doc_cells w _ _ _ _ _ _ _).2
 obtain ⟨e0, e1, e2, e3, e4, _, _, _⟩ := hn1
 generalize attrS nPattern (nd l (k : Int)).attrs = ps at *
 generalize valV l cs (k : Int) = s at *
 generalize kN l (k : Int) = kd at *
 generalize nd l (k : Int) = n at *
 unfold nodeV at HOf
 unfold nPattern at HAt
 clear hD _hq hFine hC hn0 HA HK hno
 have hsA : w.heap.size < wA.heap.size := by rw [hwA]; simp
 go_enter Tryz.func48, Tryz.ntmps48
 rw [hwA] at e0 e1 e2 e3 e4
 go_wp2_with fail
 rw [← hwA]
 have hsz : w.heap.size + 1 = wA.heap.size := by rw [hwA]; simp
 clear hwA e0 e1 e2 e3 e4
 obtain ⟨wN, hwN⟩ : ∃ wN, wN = wA.alloc (.cells #[.string ⟨n.name.toArray⟩, .string ⟨n.text.toArray⟩, .slice aa n.attrs.length ac, .int .i64 n.parent, .slice ka n.kids.length kc] 41) := ⟨_, rfl⟩
 have hBN : Below wA.heap.size wA wN := by rw [hwN]; exact (Below.refl _ wA).alloc (Nat.le_refl _) _
 have hblk : Blk wN (w.heap.size + 1) [.string ⟨n.name.toArray⟩, .string ⟨n.text.toArray⟩, .slice aa n.attrs.length ac, .int .i64 n.parent, .slice ka n.kids.length kc] := by rw [hwN, hsz]; exact Blk.fresh wA _ _
 have f0 := cell_below hBN f0
 have f1 := cell_below hBN f1
 have hB0 := below_trans hBA hBN
 rw [← hwN]
 clear hwN hsz
 refine (HOf.out _ hB0).mono ?_
 rintro e w1 ⟨rfl, hb1⟩
 have f0 := cell_below hb1 f0
 have f1 := cell_below hb1 f1
 have hB1 := below_trans hB0 hb1
 have hblk := hblk.kept hb1
 clear HOf
 go_wp2_with fail
 refine (HVal.out _ hB1).mono ?_
 rintro e w2 ⟨rfl, hb2⟩
 have hB2 := below_trans hB1 hb2
 have hblk := hblk.kept hb2
 have c2 : w2.cell? ⟨w.heap.size + 1, 2, none⟩ = some (.slice aa n.attrs.length ac) := hblk.cell 2
 clear HVal f0 f1
 go_wp2_with fail
 refine (HAt.out _ hB2).mono ?_
 rintro e w3 ⟨rfl, rfl⟩
 go_wp2_with fail
 go_ret
 exact ⟨rfl, hB2⟩
def RfS (w : World) (DB b o CB : Nat) (n : Nd) (vl va vk : Value) (cc : List Value) (wx : World) : Prop :=
 wx.cell? ⟨DB, 0, none⟩ = some vl ∧ wx.cell? ⟨b, o, none⟩ = some (.string ⟨n.name.toArray⟩) ∧ wx.cell? ⟨b, o + 1, none⟩ = some (.string ⟨n.text.toArray⟩) ∧ wx.cell? ⟨b, o + 2, none⟩ = some va ∧ wx.cell? ⟨b, o + 3, none⟩ = some (.int .i64 n.parent) ∧ wx.cell? ⟨b, o + 4, none⟩ = some vk ∧ Below w.heap.size w wx ∧ Blk wx CB cc
theorem rf_low {w wx wy : World} {DB b o CB : Nat} {n : Nd} {vl va vk : Value} {cc : List Value} (hb : Below wx.heap.size wx wy) (h : RfS w DB b o CB n vl va vk cc wx) : RfS w DB b o CB n vl va vk cc wy :=
 ⟨cell_below hb h.1, cell_below hb h.2.1, cell_below hb h.2.2.1, cell_below hb h.2.2.2.1, cell_below hb h.2.2.2.2.1, cell_below hb h.2.2.2.2.2.1, below_trans h.2.2.2.2.2.2.1 hb, h.2.2.2.2.2.2.2.kept hb⟩
theorem rf_drew {w wx : World} {DB b o CB : Nat} {n : Nd} {vl va vk : Value} {cc : List Value} (h : RfS w DB b o CB n vl va vk cc wx) : RfS w DB b o CB n vl va vk cc wx.drew := rf_low (Below.refl _ _).drew h
theorem rf_at {w wx : World} {DB b o CB : Nat} {n : Nd} {vl va vk : Value} {cc : List Value} (h : RfS w DB b o CB n vl va vk cc wx) : Below w.heap.size w wx := h.2.2.2.2.2.2.1
theorem z_new {W wm : World} {cs : List Value} {T : TypeId} (hb : Below (W.alloc (.cells cs.toArray T)).heap.size (W.alloc (.cells cs.toArray T)) wm) : Blk wm W.heap.size cs := (Blk.fresh W cs T).kept hb
theorem z_newe {W wm : World} {cs : List Value} {T : TypeId} (hb : Below (W.alloc (.cells cs.toArray T)).drew.heap.size (W.alloc (.cells cs.toArray T)).drew wm) : Blk wm W.heap.size cs := (Blk.fresh W cs T).drew.kept hb
theorem z3 {W : World} {RB : Nat} (h : Blk W RB [.bool false, .bool false, .bool false]) (u o : Bool) :
  W.cell? ⟨RB, 0, none⟩ = some (.bool false) ∧ W.frozen? ⟨RB, 0, none⟩ = false ∧
  (W.setCell ⟨RB, 0, none⟩ (.bool u)).cell? ⟨RB, 1, none⟩ = some (.bool false) ∧ (W.setCell ⟨RB, 0, none⟩ (.bool u)).frozen? ⟨RB, 1, none⟩ = false ∧
  ((W.setCell ⟨RB, 0, none⟩ (.bool u)).setCell ⟨RB, 1, none⟩ (.bool o)).cell? ⟨RB, 2, none⟩ = some (.bool false) ∧ ((W.setCell ⟨RB, 0, none⟩ (.bool u)).setCell ⟨RB, 1, none⟩ (.bool o)).frozen? ⟨RB, 2, none⟩ = false :=
 ⟨h.cell 0, h.frozen 0, (h.set 0 _).cell 1, (h.set 0 _).frozen 1, ((h.set 0 _).set 1 _).cell 2, ((h.set 0 _).set 1 _).frozen 2⟩
theorem far_set {W : World} {RB b j i : Nat} {v : Value} (h : b ≠ RB) : (W.setCell ⟨RB, i, none⟩ v).cell? ⟨b, j, none⟩ = W.cell? ⟨b, j, none⟩ :=
 World.cell?_of_block (a := ⟨b, j, none⟩) (Below.heap_setCell W ⟨RB, i, none⟩ v b h)
theorem rf_set {w wx : World} {DB b o CB RB i : Nat} {n : Nd} {vl va vk v : Value} {cc : List Value} (h : RfS w DB b o CB n vl va vk cc wx) (hD : DB < RB) (hb : b < RB) (hC : CB < RB) (hR : w.heap.size ≤ RB) : RfS w DB b o CB n vl va vk cc (wx.setCell ⟨RB, i, none⟩ v) := by
 obtain ⟨h1, h2, h3, h4, h5, h6, h7, h8⟩ := h
 have g1 : DB ≠ RB := by omega
 have g2 : b ≠ RB := by omega
 exact ⟨(far_set g1).trans h1, (far_set g2).trans h2, (far_set g2).trans h3, (far_set g2).trans h4, (far_set g2).trans h5, (far_set g2).trans h6, h7.setCell (p := ⟨RB, i, none⟩) hR _, h8.other ⟨RB, i, none⟩ _ (by show RB ≠ CB; omega)⟩
theorem rf_st {w wx wm : World} {DB b o CB : Nat} {n : Nd} {vl va vk v0 v1 v2 : Value} {cc cs : List Value} {T : TypeId} (h : RfS w DB b o CB n vl va vk cc wx) (hb : Below (wx.alloc (.cells cs.toArray T)).heap.size (wx.alloc (.cells cs.toArray T)) wm) :
  RfS w DB b o CB n vl va vk cc (((wm.setCell ⟨wx.heap.size, 0, none⟩ v0).setCell ⟨wx.heap.size, 1, none⟩ v1).setCell ⟨wx.heap.size, 2, none⟩ v2) := by
 have hm := rf_low hb (rf_low ((Below.refl _ _).alloc (Nat.le_refl _) _) h)
 have hD : DB < wx.heap.size := lt_of_cell h.1
 have h2 : b < wx.heap.size := lt_of_cell h.2.1
 have hC := h.2.2.2.2.2.2.2.lt
 have hR := (rf_at h).size
 exact rf_set (rf_set (rf_set hm hD h2 hC hR) hD h2 hC hR) hD h2 hC hR
theorem rf_ste {w wx wm : World} {DB b o CB : Nat} {n : Nd} {vl va vk v0 v1 v2 : Value} {cc cs : List Value} {T : TypeId} (h : RfS w DB b o CB n vl va vk cc wx) (hb : Below (wx.alloc (.cells cs.toArray T)).drew.heap.size (wx.alloc (.cells cs.toArray T)).drew wm) :
  RfS w DB b o CB n vl va vk cc (((wm.setCell ⟨wx.heap.size, 0, none⟩ v0).setCell ⟨wx.heap.size, 1, none⟩ v1).setCell ⟨wx.heap.size, 2, none⟩ v2) := rf_st (T := T) (cs := cs) h ⟨hb.os, hb.tape, hb.output, hb.size, hb.block⟩
theorem st3 {W : World} {RB : Nat} {v0 v1 v2 x y z : Value} (h : Blk W RB [x, y, z]) :
  (((W.setCell ⟨RB, 0, none⟩ v0).setCell ⟨RB, 1, none⟩ v1).setCell ⟨RB, 2, none⟩ v2).cell? ⟨RB, 0, none⟩ = some v0 ∧ (((W.setCell ⟨RB, 0, none⟩ v0).setCell ⟨RB, 1, none⟩ v1).setCell ⟨RB, 2, none⟩ v2).cell? ⟨RB, 1, none⟩ = some v1 ∧ (((W.setCell ⟨RB, 0, none⟩ v0).setCell ⟨RB, 1, none⟩ v1).setCell ⟨RB, 2, none⟩ v2).cell? ⟨RB, 2, none⟩ = some v2 :=
 ⟨(((h.set 0 _).set 1 _).set 2 _).cell 0, (((h.set 0 _).set 1 _).set 2 _).cell 1, (((h.set 0 _).set 1 _).set 2 _).cell 2⟩
theorem rf_fin {w wx : World} {DB b o CB : Nat} {n : Nd} {vl va vk cv cu cf : Value} {a1 a2 a3 a4 a5 a6 a7 : Bool} (h : RfS w DB b o CB n vl va vk [cv, .bool a1, .bool a2, .bool a3, .bool a4, .bool a5, .bool a6, .bool a7, cu, cf] wx) : Below w.heap.size w wx ∧ wx.cell? ⟨CB, 8, none⟩ = some cu := ⟨rf_at h, h.2.2.2.2.2.2.2.cell 8⟩
theorem rf_end {w wx : World} {DB b o CB : Nat} {n : Nd} {vl va vk cv cu cf : Value} {a1 a2 a3 a4 a5 a6 a7 : Bool} {o2 : Obj} (h : RfS w DB b o CB n vl va vk [cv, .bool a1, .bool a2, .bool a3, .bool a4, .bool a5, .bool a6, .bool a7, cu, cf] wx) : Below w.heap.size w (wx.alloc o2) ∧ (wx.alloc o2).cell? ⟨CB, 8, none⟩ = some cu :=
 ⟨(rf_at h).alloc (rf_at h).size _, (h.2.2.2.2.2.2.2.kept ((Below.refl _ wx).alloc (Nat.le_refl _) o2)).cell 8⟩
theorem rflags_gen (vn vc : Value) (l : List Nd) (cs : List Ctl) (k : Nat) (hk : k < l.length) (hq : docR l cs = true) (hs : subP (kN l (k : Int)) = true) (w : World) (hD : DocAt w vn vc l cs) (hC : RVHas vn vc l cs k w)
  (lk mt od : Bool) (most least : Int) (un : Nat) (ua ov st : Bool)
  (HL : ∀ w', Below w.heap.size w w' → Calls Tryz.prog 46 #[.agg #[vn, vc], .int .i64 k] w' (RetB lk w'))
  (HM : ∀ w', Below w.heap.size w w' → Calls Tryz.prog 47 #[.agg #[vn, vc], .int .i64 k] w' (RetB mt w'))
  (HO : ∀ w', Below w.heap.size w w' → Calls Tryz.prog 48 #[.agg #[vn, vc], .int .i64 k] w' (RetB od w'))
  (HU : ∀ w', Calls Tryz.prog 49 #[.string ⟨(valV l cs (k : Int)).toArray⟩] w' fun e w'' => e = .returned (.int .i64 un) ∧ w' = w'')
  (HX : ∀ w' va vk, AttrsAt w' va (nd l (k : Int)).attrs → IntsAt w' vk (nd l (k : Int)).kids → Calls Tryz.prog 50 #[nodeV (nd l (k : Int)) va vk, .string ⟨nMaxlength.toArray⟩] w' (RetI most w'))
  (HI : ∀ w' va vk, AttrsAt w' va (nd l (k : Int)).attrs → IntsAt w' vk (nd l (k : Int)).kids → Calls Tryz.prog 50 #[nodeV (nd l (k : Int)) va vk, .string ⟨nMinlength.toArray⟩] w' (RetI least w'))
  (HS : ∀ w' va, AttrsAt w' va (nd l (k : Int)).attrs → Below w.heap.size w w' → Calls Tryz.prog 51 #[.int .i64 (kN l (k : Int)), va, .string ⟨(valV l cs (k : Int)).toArray⟩] w' fun e w'' => e = .returned (.agg #[.bool ua, .bool ov, .bool st]) ∧ Below w'.heap.size w' w'') :
  Calls Tryz.prog 16 #[.agg #[vn, vc], .int .i64 k] w (RetI (sumF lk mt od
   ((ct cs (k : Int)).dirty && (ct cs (k : Int)).typed && decide (0 ≤ most) && decide (most < un)) ((ct cs (k : Int)).dirty && (ct cs (k : Int)).typed && decide (0 < un) && decide ((un : Int) < least)) ua ov st (decide ((ct cs (k : Int)).custom ≠ []))) w) := by
 obtain ⟨hlc, hR⟩ := (docR_iff l cs).1 hq
 have hlen := hD.fine.len
 have hkc : k < cs.length := by omega
 have HVal := Lib.hid (fun w' (h : Below w.heap.size w w') => hC w' h)
 have HHas := Lib.hid (fun w' (h : Below w.heap.size w w') => by
  have := rhas_any vn l (k : Int) hD.fine w' (hD.nodes.below h)
  rwa [hR, decide_eq_true (by omega : (0 : Int) ≤ (k : Int)), decide_eq_true (by omega : (k : Int) < (l.length : Int))] at this)
 have hsub := fun w => ris2_any (kN l (k : Int)) w
 rw [hs] at hsub
 have HOf := Lib.hid (fun w' va vk (h1 : AttrsAt w' va (nd l (k : Int)).attrs) (h2 : IntsAt w' vk (nd l (k : Int)).kids) => by
  have := rof_any (nd l (k : Int)) va vk (hD.fine.nd _ (by omega) (by omega)) w' h1 h2
  rwa [show kindP (nd l (k : Int)).name (nd l (k : Int)).attrs = kN l (k : Int) from rfl] at this)
 have hFine := hD.fine
 obtain ⟨b, off, cap, rfl, hb⟩ := nodes_addr hD.nodes (by omega)
 have HN := Lib.hid (fun w' (h : Below w.heap.size w w') => nodes_get (hD.nodes.below h) k hk)
 obtain ⟨cb, coff, ccap, f, rfl, hcb, hct0⟩ := ctls_get hD.ctls k hkc
 have HCt : Hid (ct cs (k : Int) = cs[k]) := Lib.hid (ct_get cs k hkc)
 rw [HCt.out]
 have HC0 := Lib.hid hct0
 have HRg := Lib.hid (fun w' (h : Below w.heap.size w w') => by
  have := rdocright_any _ l hFine (some ⟨cb, coff, none⟩) cs.length ccap w' (hD.nodes.below h)
  rwa [hR, decide_eq_true hlc] at this)
 obtain ⟨fa, fn, fc, rfl⟩ := hct0.files.isSl
 have h0 : (0 : Int) ≤ (k : Int) := by omega
 have hk' : (k : Int) < (l.length : Int) := by omega
 have hkc' : (k : Int) < (cs.length : Int) := by omega
 replace HL := Lib.hid HL
 replace HM := Lib.hid HM
 replace HO := Lib.hid HO
 replace HX := Lib.hid HX
 replace HI := Lib.hid HI
 replace HU := Lib.hid HU
 replace HS := Lib.hid HS
 generalize kN l (k : Int) = kd at *
 generalize nd l (k : Int) = n at *
 generalize valV l cs (k : Int) = s at *
 generalize cs[k] = c at *
 obtain ⟨cv, cdi, cty, cch, cdc, cmi, cse, cds, ccu, cfi⟩ := c
 dsimp only at HC0 hct0 ⊢
 obtain ⟨res, hres⟩ : ∃ r, r = sumF lk mt od (cdi && cty && decide (0 ≤ most) && decide (most < (un : Int))) (cdi && cty && decide (0 < un) && decide ((un : Int) < least)) ua ov st (decide (ccu ≠ [])) := ⟨_, rfl⟩
 rw [← hres]
 have HRes := Lib.hid hres
 clear hres
 obtain ⟨wA, hwA⟩ : ∃ wA, wA = w.alloc (.cells #[.slice (some ⟨b, off, none⟩) l.length cap, .slice (some ⟨cb, coff, none⟩) cs.length ccap] 28) := ⟨_, rfl⟩
 have hBA : Below w.heap.size w wA := by rw [hwA]; exact (Below.refl _ w).alloc (Nat.le_refl _) _
 have f0 : wA.cell? ⟨w.heap.size, 0, none⟩ = some (.slice (some ⟨b, off, none⟩) l.length cap) := by rw [hwA]; exact (doc_cells w _ _ _ _ _ _ _).1
 have f1 : wA.cell? ⟨w.heap.size, 1, none⟩ = some (.slice (some ⟨cb, coff, none⟩) cs.length ccap) := by rw [hwA]; exact (doc_cells w _ _ _ _ _ _ _).2
 clear hD hq hlc hR hFine hs hct0 HCt hC
 go_enter Tryz.func16, Tryz.ntmps16
 go_wp2_with fail
 rw [← hwA]
 clear hwA
 refine (HRg.out _ hBA).mono ?_
 rintro e w1 ⟨rfl, hb1⟩
 have f0 := cell_below hb1 f0
 have f1 := cell_below hb1 f1
 have hB1 := below_trans hBA hb1
 go_wp2_with fail
 refine (HHas.out _ hB1).mono ?_
 rintro e w2 ⟨rfl, hb2⟩
 have f0 := cell_below hb2 f0
 have f1 := cell_below hb2 f1
 have hB2 := below_trans hB1 hb2
 obtain ⟨va, vk, hn⟩ := HN.out w2 hB2
 have hof := HOf.out w2 va vk hn.attrs hn.kids
 unfold nodeV at hof
 obtain ⟨c0, c1, c2, c3, c4, _, _, _⟩ := hn
 clear HRg HHas
 go_wp2_with fail
 refine hof.mono ?_
 rintro e w3 ⟨rfl, hb3⟩
 have f0 := cell_below hb3 f0
 have f1 := cell_below hb3 f1
 have hB3 := below_trans hB2 hb3
 clear hof c0 c1 c2 c3 c4
 go_wp2_with fail
 refine (hsub _).mono ?_
 rintro e w4 ⟨rfl, rfl⟩
 clear hsub
 have hl := HL.out w3 hB3
 go_wp2_with fail
 refine hl.mono ?_
 rintro e w4 ⟨rfl, hb4⟩
 have f0 := cell_below hb4 f0
 have f1 := cell_below hb4 f1
 have hB4 := below_trans hB3 hb4
 clear hl HL
 go_upto_if 34 with fail
 go_cut [5] (fun s5 wx => s5 = .int .i64 ((bitN lk 1 : Nat) : Int) ∧ Below w.heap.size w wx ∧ wx.cell? ⟨w.heap.size, 0, none⟩ = some (.slice (some ⟨b, off, none⟩) l.length cap) ∧ wx.cell? ⟨w.heap.size, 1, none⟩ = some (.slice (some ⟨cb, coff, none⟩) cs.length ccap))
 case first =>
  cases lk
  ·go_wp2_with fail
   go_meet
   exact ⟨rfl, hB4, f0, f1⟩
  ·go_wp2_with fail
   go_meet
   exact ⟨rfl, hB4, f0, f1⟩
 case rest =>
 obtain ⟨rfl, hB4, f0, f1⟩ := hcut
 have hn1 : bitN lk 1 ≤ 1 := by cases lk <;> decide
 obtain ⟨n1, e1⟩ : ∃ n, n = bitN lk 1 := ⟨_, rfl⟩
 rw [← e1] at hn1
 rw [← e1]
 have E1 := Lib.hid e1
 clear e1
 have hl := HM.out _ hB4
 go_wp2_with fail
 refine hl.mono ?_
 rintro e w5 ⟨rfl, hb5⟩
 have f0 := cell_below hb5 f0
 have f1 := cell_below hb5 f1
 have hB4 := below_trans hB4 hb5
 clear hl HM hb5
 go_upto_if 39 with fail
 go_cut [5] (fun s5 wx => s5 = .int .i64 ((n1 + bitN mt 2 : Nat) : Int) ∧ Below w.heap.size w wx ∧ wx.cell? ⟨w.heap.size, 0, none⟩ = some (.slice (some ⟨b, off, none⟩) l.length cap) ∧ wx.cell? ⟨w.heap.size, 1, none⟩ = some (.slice (some ⟨cb, coff, none⟩) cs.length ccap))
 case first =>
  cases mt
  ·go_wp2_with fail
   go_meet
   exact ⟨by show _ = Value.int .i64 (((n1 + 0 : Nat)) : Int); rfl, hB4, f0, f1⟩
  ·go_wp2_with fail
   go_meet
   exact ⟨by show _ = Value.int .i64 (((n1 + 2 : Nat)) : Int); go_num, hB4, f0, f1⟩
 case rest =>
 obtain ⟨rfl, hB4, f0, f1⟩ := hcut
 have hn2 : n1 + bitN mt 2 ≤ 3 := by cases mt <;> simp [bitN] <;> omega
 obtain ⟨n2, e2⟩ : ∃ n, n = n1 + bitN mt 2 := ⟨_, rfl⟩
 rw [← e2] at hn2
 rw [← e2]
 have E2 := Lib.hid e2
 clear e2
 have hl := HO.out _ hB4
 go_wp2_with fail
 refine hl.mono ?_
 rintro e w6 ⟨rfl, hb5⟩
 have f0 := cell_below hb5 f0
 have f1 := cell_below hb5 f1
 have hB4 := below_trans hB4 hb5
 clear hl HO hb5
 go_upto_if 44 with fail
 go_cut [5] (fun s5 wx => s5 = .int .i64 ((n2 + bitN od 4 : Nat) : Int) ∧ Below w.heap.size w wx ∧ wx.cell? ⟨w.heap.size, 0, none⟩ = some (.slice (some ⟨b, off, none⟩) l.length cap) ∧ wx.cell? ⟨w.heap.size, 1, none⟩ = some (.slice (some ⟨cb, coff, none⟩) cs.length ccap))
 case first =>
  cases od
  ·go_wp2_with fail
   go_meet
   exact ⟨by show _ = Value.int .i64 (((n2 + 0 : Nat)) : Int); rfl, hB4, f0, f1⟩
  ·go_wp2_with fail
   go_meet
   exact ⟨by show _ = Value.int .i64 (((n2 + 4 : Nat)) : Int); go_num, hB4, f0, f1⟩
 case rest =>
 obtain ⟨rfl, hB4, f0, f1⟩ := hcut
 have hn3 : n2 + bitN od 4 ≤ 7 := by cases od <;> simp [bitN] <;> omega
 obtain ⟨n3, e3⟩ : ∃ n, n = n2 + bitN od 4 := ⟨_, rfl⟩
 rw [← e3] at hn3
 rw [← e3]
 have E3 := Lib.hid e3
 clear e3
 have hct := HC0.out.below hB4
 have a0 := hct.cells 0 _ rfl
 have a1 := hct.cells 1 _ rfl
 have a2 := hct.cells 2 _ rfl
 have a3 := hct.cells 3 _ rfl
 have a4 := hct.cells 4 _ rfl
 have a5 := hct.cells 5 _ rfl
 have a6 := hct.cells 6 _ rfl
 have a7 := hct.cells 7 _ rfl
 have a8 := hct.cells 8 _ rfl
 have a9 := hct.cells 9 _ rfl
 dsimp only [Nat.add_zero] at a0 a1 a2 a3 a4 a5 a6 a7 a8 a9
 clear hct
 obtain ⟨wB, hwB⟩ : ∃ wB, wB = wc.alloc (.cells #[.string ⟨cv.toArray⟩, .bool cdi, .bool cty, .bool cch, .bool cdc, .bool cmi, .bool cse, .bool cds, .string ⟨ccu.toArray⟩, .slice fa fn fc] 35) := ⟨_, rfl⟩
 have hBB : Below wc.heap.size wc wB := by rw [hwB]; exact (Below.refl _ wc).alloc (Nat.le_refl _) _
 have hblk : Blk wB wc.heap.size [.string ⟨cv.toArray⟩, .bool cdi, .bool cty, .bool cch, .bool cdc, .bool cmi, .bool cse, .bool cds, .string ⟨ccu.toArray⟩, .slice fa fn fc] := by rw [hwB]; exact Blk.fresh wc _ _
 have hltc : w.heap.size < wc.heap.size := lt_of_cell f0
 have hnec : w.heap.size ≠ wc.heap.size := by omega
 have f0B := cell_below hBB f0
 have f1B := cell_below hBB f1
 have hB5 := below_trans hB4 hBB
 go_wp2_with fail
 rw [← hwB]
 clear hwB a0 a1 a2 a3 a4 a5 a6 a7 a8 a9
 refine (HVal.out _ hB5).mono ?_
 rintro e w7 ⟨rfl, hb6⟩
 have f0 := cell_below hb6 f0B
 have f1 := cell_below hb6 f1B
 have hB5 := below_trans hB5 hb6
 have hblk := hblk.kept hb6
 clear HVal
 go_wp2_with fail
 refine (HU.out _).mono ?_
 rintro e w8 ⟨rfl, rfl⟩
 obtain ⟨va9, vk9, hn⟩ := HN.out _ hB5
 have hx := HX.out _ va9 vk9 hn.attrs hn.kids
 unfold nodeV nMaxlength at hx
 obtain ⟨c0, c1, c2, c3, c4, _, _, _⟩ := hn
 go_wp2_with fail
 refine hx.mono ?_
 rintro e w9 ⟨rfl, hb7⟩
 have f0 := cell_below hb7 f0
 have f1 := cell_below hb7 f1
 have hB5 := below_trans hB5 hb7
 have hblk := hblk.kept hb7
 clear hx HX c0 c1 c2 c3 c4 hb7
 obtain ⟨va10, vk10, hn⟩ := HN.out _ hB5
 have hx := HI.out _ va10 vk10 hn.attrs hn.kids
 unfold nodeV nMinlength at hx
 obtain ⟨c0, c1, c2, c3, c4, _, _, _⟩ := hn
 go_wp2_with fail
 refine hx.mono ?_
 rintro e w10 ⟨rfl, hb7⟩
 have f0 := cell_below hb7 f0
 have f1 := cell_below hb7 f1
 have hB5 := below_trans hB5 hb7
 have hblk := hblk.kept hb7
 clear hx HI c0 c1 c2 c3 c4 hb7
 have d1 : w10.cell? ⟨wc.heap.size, 1, none⟩ = some (.bool cdi) := hblk.cell 1
 have d2 : w10.cell? ⟨wc.heap.size, 2, none⟩ = some (.bool cty) := hblk.cell 2
 obtain ⟨CB, hCB⟩ : ∃ x, x = wc.heap.size := ⟨_, rfl⟩
 rw [← hCB] at hblk hnec d1 d2 ⊢
 clear f1 f0B f1B hB4 hb6 hBB hltc hCB HU
 obtain ⟨lg, hlg⟩ : ∃ q, q = (cdi && cty && decide (0 ≤ most) && decide (most < (un : Int))) := ⟨_, rfl⟩
 obtain ⟨sh, hsh⟩ : ∃ q, q = (cdi && cty && decide (0 < un) && decide ((un : Int) < least)) := ⟨_, rfl⟩
 have HLg := Lib.hid hlg
 have HSh := Lib.hid hsh
 have HRes2 : Hid (res = sumF lk mt od lg sh ua ov st (decide (ccu ≠ []))) := Lib.hid (by rw [HRes.out, hlg, hsh])
 clear hlg hsh HRes
 go_upto_region 15 with fail
 go_cut [83] (fun s83 wx => s83 = .bool lg ∧ wx = w10)
 case first =>
  cases cdi
  ·have HX : Hid (lg = false) := Lib.hid (by rw [HLg.out]; rfl)
   go_wp2_with fail
   go_meet
   exact ⟨by rw [HX.out], rfl⟩
  cases cty
  ·have HX : Hid (lg = false) := Lib.hid (by rw [HLg.out]; rfl)
   go_wp2_with fail
   go_meet
   exact ⟨by rw [HX.out], rfl⟩
  by_cases g1 : 0 ≤ most
  case neg =>
   have HX : Hid (lg = false) := Lib.hid (by rw [HLg.out, decide_eq_false g1]; rfl)
   go_wp2_with fail
   go_meet
   exact ⟨by rw [HX.out], rfl⟩
  by_cases g2 : most < un
  ·have HX : Hid (lg = true) := Lib.hid (by rw [HLg.out, decide_eq_true g1, decide_eq_true g2]; rfl)
   go_wp2_with fail
   go_meet
   exact ⟨by rw [HX.out], rfl⟩
  ·have HX : Hid (lg = false) := Lib.hid (by rw [HLg.out, decide_eq_false g2, Bool.and_false])
   go_wp2_with fail
   go_meet
   exact ⟨by rw [HX.out], rfl⟩
 case rest =>
 obtain ⟨rfl, hwc⟩ := hcut
 subst hwc
 clear HLg
 go_upto_if 83 with fail
 go_cut [5] (fun s5 wx => s5 = .int .i64 ((n3 + bitN lg 8 : Nat) : Int) ∧ wx = wc)
 case first =>
  cases lg
  ·go_wp2_with fail
   go_meet
   exact ⟨by show _ = Value.int .i64 (((n3 + 0 : Nat)) : Int); rfl, rfl⟩
  ·go_wp2_with fail
   go_meet
   exact ⟨by show _ = Value.int .i64 (((n3 + 8 : Nat)) : Int); go_num, rfl⟩
 case rest =>
 obtain ⟨rfl, hwc⟩ := hcut
 subst hwc
 have hn4 : n3 + bitN lg 8 ≤ 15 := by cases lg <;> simp [bitN] <;> omega
 obtain ⟨n4, e0⟩ : ∃ n, n = n3 + bitN lg 8 := ⟨_, rfl⟩
 rw [← e0] at hn4
 rw [← e0]
 have En4 := Lib.hid e0
 clear e0
 go_upto_region 17 with fail
 go_cut [100] (fun s100 wx => s100 = .bool sh ∧ wx = wc)
 case first =>
  cases cdi
  ·have HX : Hid (sh = false) := Lib.hid (by rw [HSh.out]; rfl)
   go_wp2_with fail
   go_meet
   exact ⟨by rw [HX.out], rfl⟩
  cases cty
  ·have HX : Hid (sh = false) := Lib.hid (by rw [HSh.out]; rfl)
   go_wp2_with fail
   go_meet
   exact ⟨by rw [HX.out], rfl⟩
  by_cases g1 : 0 < un
  case neg =>
   have HX : Hid (sh = false) := Lib.hid (by rw [HSh.out, decide_eq_false g1]; rfl)
   go_wp2_with fail
   go_meet
   exact ⟨by rw [HX.out], rfl⟩
  by_cases g2 : (un : Int) < least
  ·have HX : Hid (sh = true) := Lib.hid (by rw [HSh.out, decide_eq_true g1, decide_eq_true g2]; rfl)
   go_wp2_with fail
   go_meet
   exact ⟨by rw [HX.out], rfl⟩
  ·have HX : Hid (sh = false) := Lib.hid (by rw [HSh.out, decide_eq_false g2, Bool.and_false])
   go_wp2_with fail
   go_meet
   exact ⟨by rw [HX.out], rfl⟩
 case rest =>
 obtain ⟨rfl, hwc⟩ := hcut
 subst hwc
 clear HSh d1 d2
 go_upto_if 100 with fail
 go_cut [5] (fun s5 wx => s5 = .int .i64 ((n4 + bitN sh 16 : Nat) : Int) ∧ wx = wc)
 case first =>
  cases sh
  ·go_wp2_with fail
   go_meet
   exact ⟨by show _ = Value.int .i64 (((n4 + 0 : Nat)) : Int); rfl, rfl⟩
  ·go_wp2_with fail
   go_meet
   exact ⟨by show _ = Value.int .i64 (((n4 + 16 : Nat)) : Int); go_num, rfl⟩
 case rest =>
 obtain ⟨rfl, hwc⟩ := hcut
 subst hwc
 have hn5 : n4 + bitN sh 16 ≤ 31 := by cases sh <;> simp [bitN] <;> omega
 obtain ⟨n5, e0⟩ : ∃ n, n = n4 + bitN sh 16 := ⟨_, rfl⟩
 rw [← e0] at hn5
 rw [← e0]
 have En5 := Lib.hid e0
 clear e0
 have HB5 := Lib.hid hB5
 have HBlk := Lib.hid hblk
 obtain ⟨va, vk, hn0⟩ := HN.out w (Below.refl _ _)
 obtain ⟨aa, ac, rfl⟩ := AttrsAt.lenN hn0.attrs
 obtain ⟨ka, kc, rfl⟩ := RowAt.lenN hn0.kids
 have HN0 := Lib.hid hn0
 have hcc := hblk.cell
 have hh : RfS w w.heap.size b (off + k * 5) CB n (.slice (some ⟨b, off, none⟩) l.length cap) (.slice aa n.attrs.length ac) (.slice ka n.kids.length kc) [.string ⟨cv.toArray⟩, .bool cdi, .bool cty, .bool cch, .bool cdc, .bool cmi, .bool cse, .bool cds, .string ⟨ccu.toArray⟩, .slice fa fn fc] wc := by
  have hn := hn0.below hB5
  obtain ⟨c0, c1, c2, c3, c4, _, _, _⟩ := hn
  exact ⟨f0, c0, c1, c2, c3, c4, hB5, hblk⟩
 have hof := fun w' (h : Below w.heap.size w w') => HOf.out w' _ _ (HN0.out.attrs.below h) (HN0.out.kids.below h)
 have hst := fun w' (h : Below w.heap.size w w') => HS.out w' _ (HN0.out.attrs.below h) h
 unfold nodeV at hof
 clear HOf HS HN HN0 hn0 hcc f0 hblk hB5
 go_upto_region 19 with fail
 go_cut [11] (fun s11 wx => ∃ RB, s11 = .pointer (some ⟨RB, 0, none⟩) ∧ wx.cell? ⟨RB, 0, none⟩ = some (.bool ua) ∧ wx.cell? ⟨RB, 1, none⟩ = some (.bool ov) ∧ wx.cell? ⟨RB, 2, none⟩ = some (.bool st) ∧ Below w.heap.size w wx ∧ wx.cell? ⟨CB, 8, none⟩ = some (.string ⟨ccu.toArray⟩))
 case first =>
  unfold RfS at hh
  go_region_held3 (fun w' => w'.cell? ⟨w.heap.size, 0, none⟩ = some (.slice (some ⟨b, off, none⟩) l.length cap) ∧ w'.cell? ⟨b, off + k * 5, none⟩ = some (.string ⟨n.name.toArray⟩) ∧ w'.cell? ⟨b, off + k * 5 + 1, none⟩ = some (.string ⟨n.text.toArray⟩) ∧ w'.cell? ⟨b, off + k * 5 + 2, none⟩ = some (.slice aa n.attrs.length ac) ∧ w'.cell? ⟨b, off + k * 5 + 3, none⟩ = some (.int .i64 n.parent) ∧ w'.cell? ⟨b, off + k * 5 + 4, none⟩ = some (.slice ka n.kids.length kc) ∧ Below w.heap.size w w' ∧ Blk w' CB [.string ⟨cv.toArray⟩, .bool cdi, .bool cty, .bool cch, .bool cdc, .bool cmi, .bool cse, .bool cds, .string ⟨ccu.toArray⟩, .slice fa fn fc])
   (first | assumption | exact rf_drew hh | exact (rf_low (by assumption) (rf_drew hh)) | exact (rf_low (by assumption) (rf_low (by assumption) (rf_drew hh))) | exact (rf_low ((Below.refl _ _).alloc (Nat.le_refl _) _) (rf_drew hh)) | exact (rf_low ((Below.refl _ _).alloc (Nat.le_refl _) _) (rf_low (by assumption) (rf_drew hh))) | exact (rf_low ((Below.refl _ _).alloc (Nat.le_refl _) _) (rf_low (by assumption) (rf_low (by assumption) (rf_drew hh)))) | exact (rf_low (by assumption) (rf_low ((Below.refl _ _).alloc (Nat.le_refl _) _) (rf_drew hh))) | exact (rf_low (by assumption) (rf_low (by assumption) (rf_low ((Below.refl _ _).alloc (Nat.le_refl _) _) (rf_drew hh)))) | exact (rf_low (by assumption) (rf_low ((Below.refl _ _).alloc (Nat.le_refl _) _) (rf_low (by assumption) (rf_drew hh)))) | exact (rf_low (by assumption) hh) | exact (rf_low (by assumption) (rf_low (by assumption) hh)) | exact (rf_low ((Below.refl _ _).alloc (Nat.le_refl _) _) hh) | exact (rf_low ((Below.refl _ _).alloc (Nat.le_refl _) _) (rf_low (by assumption) hh)) | exact (rf_low ((Below.refl _ _).alloc (Nat.le_refl _) _) (rf_low (by assumption) (rf_low (by assumption) hh))) | exact (rf_low (by assumption) (rf_low ((Below.refl _ _).alloc (Nat.le_refl _) _) hh)) | exact (rf_low (by assumption) (rf_low (by assumption) (rf_low ((Below.refl _ _).alloc (Nat.le_refl _) _) hh))) | exact (rf_low (by assumption) (rf_low ((Below.refl _ _).alloc (Nat.le_refl _) _) (rf_low (by assumption) hh))) | exact rf_st (rf_drew hh) (below_trans (by assumption) (by assumption)) | exact rf_st (rf_low (by assumption) (rf_drew hh)) (by assumption) | exact rf_st hh (below_trans (by assumption) (by assumption)) | exact rf_st (rf_low (by assumption) hh) (by assumption) | exact rf_ste hh (below_trans (by assumption) (by assumption)))
   (first | (go_at_call 20; refine (hof _ (rf_at (by assumption))).mono ?_; rintro e wl ⟨rfl, hbl⟩; (try have Z := z_new hbl); (try have Z := z_newe hbl)) | (go_at_call 51; refine (hst _ (rf_at (by assumption))).mono ?_; rintro e wm ⟨rfl, hbm⟩; (try have Z := Z.kept hbm); (try have Z := z_new hbm); (try have zc0 := (z3 Z ua ov).1); (try have zf0 := (z3 Z ua ov).2.1); (try have zc1 := (z3 Z ua ov).2.2.1); (try have zf1 := (z3 Z ua ov).2.2.2.1); (try have zc2 := (z3 Z ua ov).2.2.2.2.1); (try have zf2 := (z3 Z ua ov).2.2.2.2.2)))
  all_goals
   go_wp2_with fail
   go_meet
   first | exact ⟨_, rfl, World.cell?_alloc_new _ _ _ 0, World.cell?_alloc_new _ _ _ 1, World.cell?_alloc_new _ _ _ 2, rf_end (rf_low (by assumption) (rf_low (by assumption) (rf_drew hh)))⟩ | exact ⟨_, rfl, World.cell?_alloc_new _ _ _ 0, World.cell?_alloc_new _ _ _ 1, World.cell?_alloc_new _ _ _ 2, rf_end (rf_low (by assumption) (rf_low (by assumption) (rf_low ((Below.refl _ _).alloc (Nat.le_refl _) _) (rf_drew hh))))⟩ | exact ⟨_, rfl, World.cell?_alloc_new _ _ _ 0, World.cell?_alloc_new _ _ _ 1, World.cell?_alloc_new _ _ _ 2, rf_end (rf_low (by assumption) (rf_low ((Below.refl _ _).alloc (Nat.le_refl _) _) (rf_low (by assumption) (rf_drew hh))))⟩ | exact ⟨_, rfl, (st3 Z).1, (st3 Z).2.1, (st3 Z).2.2, rf_fin (rf_ste hh (below_trans (by assumption) (by assumption)))⟩ | exact ⟨_, rfl, (st3 Z).1, (st3 Z).2.1, (st3 Z).2.2, rf_fin (rf_st (rf_drew hh) (below_trans (by assumption) (by assumption)))⟩ | exact ⟨_, rfl, (st3 Z).1, (st3 Z).2.1, (st3 Z).2.2, rf_fin (rf_st (rf_low (by assumption) (rf_drew hh)) (by assumption))⟩
 case rest =>
 obtain ⟨RB, rfl, r0, r1, r2, hB6, d8⟩ := hcut
 clear hh hof hst HB5 HBlk
 go_upto_if 118 with fail
 go_cut [5] (fun s5 wx => s5 = .int .i64 ((n5 + bitN ua 32 : Nat) : Int) ∧ wx = wc)
 case first =>
  cases ua
  ·go_wp2_with fail
   go_meet
   exact ⟨by show _ = Value.int .i64 (((n5 + 0 : Nat)) : Int); rfl, rfl⟩
  ·go_wp2_with fail
   go_meet
   exact ⟨by show _ = Value.int .i64 (((n5 + 32 : Nat)) : Int); go_num, rfl⟩
 case rest =>
 obtain ⟨rfl, hwc⟩ := hcut
 subst hwc
 have hn6 : n5 + bitN ua 32 ≤ 63 := by cases ua <;> simp [bitN] <;> omega
 obtain ⟨n6, e0⟩ : ∃ n, n = n5 + bitN ua 32 := ⟨_, rfl⟩
 rw [← e0] at hn6
 rw [← e0]
 have En6 := Lib.hid e0
 clear e0
 go_upto_if 122 with fail
 go_cut [5] (fun s5 wx => s5 = .int .i64 ((n6 + bitN ov 64 : Nat) : Int) ∧ wx = wc)
 case first =>
  cases ov
  ·go_wp2_with fail
   go_meet
   exact ⟨by show _ = Value.int .i64 (((n6 + 0 : Nat)) : Int); rfl, rfl⟩
  ·go_wp2_with fail
   go_meet
   exact ⟨by show _ = Value.int .i64 (((n6 + 64 : Nat)) : Int); go_num, rfl⟩
 case rest =>
 obtain ⟨rfl, hwc⟩ := hcut
 subst hwc
 have hn7 : n6 + bitN ov 64 ≤ 127 := by cases ov <;> simp [bitN] <;> omega
 obtain ⟨n7, e0⟩ : ∃ n, n = n6 + bitN ov 64 := ⟨_, rfl⟩
 rw [← e0] at hn7
 rw [← e0]
 have En7 := Lib.hid e0
 clear e0
 go_upto_if 126 with fail
 go_cut [5] (fun s5 wx => s5 = .int .i64 ((n7 + bitN st 128 : Nat) : Int) ∧ wx = wc)
 case first =>
  cases st
  ·go_wp2_with fail
   go_meet
   exact ⟨by show _ = Value.int .i64 (((n7 + 0 : Nat)) : Int); rfl, rfl⟩
  ·go_wp2_with fail
   go_meet
   exact ⟨by show _ = Value.int .i64 (((n7 + 128 : Nat)) : Int); go_num, rfl⟩
 case rest =>
 obtain ⟨rfl, hwc⟩ := hcut
 subst hwc
 have hn8 : n7 + bitN st 128 ≤ 255 := by cases st <;> simp [bitN] <;> omega
 obtain ⟨n8, e0⟩ : ∃ n, n = n7 + bitN st 128 := ⟨_, rfl⟩
 rw [← e0] at hn8
 rw [← e0]
 have En8 := Lib.hid e0
 clear e0
 by_cases hcu : ccu = []
 ·have hz : ¬ (0 < (ccu.length : Int)) := by simp [hcu]
  have HX : Hid (res = n8) := Lib.hid (by
   rw [HRes2.out, decide_eq_false (by simpa using hcu), En8.out, En7.out, En6.out, En5.out, En4.out, E3.out, E2.out, E1.out]
   rfl)
  clear hcu
  go_wp2_with fail
  go_ret
  exact ⟨by rw [HX.out]; rfl, hB6⟩
 ·have hz : 0 < (ccu.length : Int) := by have := List.length_pos_iff.2 hcu; omega
  have HX : Hid (res = n8 + 256) := Lib.hid (by
   rw [HRes2.out, decide_eq_true hcu, En8.out, En7.out, En6.out, En5.out, En4.out, E3.out, E2.out, E1.out]
   rfl)
  clear hcu
  go_wp2_with fail
  go_ret
  exact ⟨by rw [HX.out]; go_num, hB6⟩

theorem rflags_no (vn vc : Value) (l : List Nd) (cs : List Ctl) (k : Int) (h : thereP l cs k = false ∨ subP (kN l k) = false) (w : World) (hD : DocAt w vn vc l cs) :
  Calls Tryz.prog 16 #[.agg #[vn, vc], .int .i64 k] w (RetI 0 w) := by
 have hFine := hD.fine
 have hlen := hFine.len
 obtain ⟨oa, ca, rfl⟩ := NodesAt.lenN hD.nodes
 obtain ⟨oc, cc, rfl⟩ := CtlsAt.lenN hD.ctls
 have HRg := Lib.hid (fun w' (h : Below w.heap.size w w') => rdocright_any _ l hFine oc cs.length cc w' (hD.nodes.below h))
 have HHas := Lib.hid (fun w' (h : Below w.heap.size w w') => rhas_any _ l k hFine w' (hD.nodes.below h))
 obtain ⟨wA, hwA⟩ : ∃ wA, wA = w.alloc (.cells #[.slice oa l.length ca, .slice oc cs.length cc] 28) := ⟨_, rfl⟩
 have hBA : Below w.heap.size w wA := by rw [hwA]; exact (Below.refl _ w).alloc (Nat.le_refl _) _
 have f0 : wA.cell? ⟨w.heap.size, 0, none⟩ = some (.slice oa l.length ca) := by rw [hwA]; exact (doc_cells w _ _ _ _ _ _ _).1
 have f1 : wA.cell? ⟨w.heap.size, 1, none⟩ = some (.slice oc cs.length cc) := by rw [hwA]; exact (doc_cells w _ _ _ _ _ _ _).2
 by_cases hq : l.length = cs.length ∧ rightB l = true
 case neg =>
  have hf : (decide (l.length = cs.length) && rightB l) = false := by
   rw [Bool.and_eq_false_iff, decide_eq_false_iff_not]
   by_cases g : l.length = cs.length
   ·right
    cases g2 : rightB l
    ·rfl
    ·exact absurd ⟨g, g2⟩ hq
   ·left; exact g
  rw [hf] at HRg
  clear hf hq h hD hFine hlen HHas
  go_enter Tryz.func16, Tryz.ntmps16
  go_wp2_with fail
  rw [← hwA]
  clear hwA
  refine (HRg.out _ hBA).mono ?_
  rintro e w1 ⟨rfl, hb1⟩
  go_wp2_with fail
  go_ret
  exact ⟨rfl, below_trans hBA hb1⟩
 obtain ⟨hlc, hR⟩ := hq
 rw [decide_eq_true hlc, hR] at HRg
 by_cases hin : 0 ≤ k ∧ k < (l.length : Int)
 case neg =>
  have hf : (decide (0 ≤ k) && decide (k < (l.length : Int)) && rightB l) = false := by
   by_cases g : 0 ≤ k
   ·rw [decide_eq_false (fun g2 => hin ⟨g, g2⟩), Bool.and_false]; rfl
   ·rw [decide_eq_false g]; rfl
  rw [hf] at HHas
  clear hf h hin hD hFine hlen hR hlc
  go_enter Tryz.func16, Tryz.ntmps16
  go_wp2_with fail
  rw [← hwA]
  clear hwA
  refine (HRg.out _ hBA).mono ?_
  rintro e w1 ⟨rfl, hb1⟩
  have f0 := cell_below hb1 f0
  have hB1 := below_trans hBA hb1
  go_wp2_with fail
  refine (HHas.out _ hB1).mono ?_
  rintro e w2 ⟨rfl, hb2⟩
  go_wp2_with fail
  go_ret
  exact ⟨rfl, below_trans hB1 hb2⟩
 obtain ⟨h0, hk'⟩ := hin
 have ht : thereP l cs k = true := (there_iff l cs k).2 ⟨⟨h0, hk'⟩, hlc, hR⟩
 have hs : subP (kN l k) = false := h.resolve_left (fun e => by rw [ht] at e; cases e)
 rw [decide_eq_true h0, decide_eq_true hk', hR] at HHas
 obtain ⟨kn, rfl⟩ : ∃ kn : Nat, k = (kn : Int) := ⟨k.toNat, by omega⟩
 have hk : kn < l.length := by omega
 have hsub := fun w => ris2_any (kN l (kn : Int)) w
 rw [hs] at hsub
 obtain ⟨b, off, cap, e, hb⟩ := nodes_addr hD.nodes (by omega)
 cases e
 have HN := Lib.hid (fun w' (h : Below w.heap.size w w') => nodes_get (hD.nodes.below h) kn hk)
 have HOf := Lib.hid (fun w' va vk (h1 : AttrsAt w' va (nd l (kn : Int)).attrs) (h2 : IntsAt w' vk (nd l (kn : Int)).kids) => by
  have := rof_any (nd l (kn : Int)) va vk (hFine.nd _ (by omega) (by omega)) w' h1 h2
  rwa [show kindP (nd l (kn : Int)).name (nd l (kn : Int)).attrs = kN l (kn : Int) from rfl] at this)
 generalize kN l (kn : Int) = kd at *
 generalize nd l (kn : Int) = n at *
 clear hD h ht hlc hR hs hFine
 go_enter Tryz.func16, Tryz.ntmps16
 go_wp2_with fail
 rw [← hwA]
 clear hwA
 refine (HRg.out _ hBA).mono ?_
 rintro e w1 ⟨rfl, hb1⟩
 have f0 := cell_below hb1 f0
 have hB1 := below_trans hBA hb1
 go_wp2_with fail
 refine (HHas.out _ hB1).mono ?_
 rintro e w2 ⟨rfl, hb2⟩
 have f0 := cell_below hb2 f0
 have hB2 := below_trans hB1 hb2
 obtain ⟨va, vk, hn⟩ := HN.out w2 hB2
 have hof := HOf.out w2 va vk hn.attrs hn.kids
 unfold nodeV at hof
 obtain ⟨c0, c1, c2, c3, c4, _, _, _⟩ := hn
 clear HRg HHas
 go_wp2_with fail
 refine hof.mono ?_
 rintro e w3 ⟨rfl, hb3⟩
 have hB3 := below_trans hB2 hb3
 clear hof c0 c1 c2 c3 c4
 go_wp2_with fail
 refine (hsub _).mono ?_
 rintro e w4 ⟨rfl, rfl⟩
 go_wp2_with fail
 go_ret
 exact ⟨rfl, hB3⟩

def freeA (kind : List UInt8) : List Attr := [(nType, kind), (nNameA, [97])]
def freeN (kind : List UInt8) : Nd := ⟨[105, 110, 112, 117, 116], [], freeA kind, 0, []⟩
theorem free_nd (kind : List UInt8) : nd (oneL (freeA kind)) ((1 : Nat) : Int) = freeN kind := rfl
theorem free_has (kind : List UInt8) (nm : List UInt8) (h1 : nm ≠ nType) (h2 : nm ≠ nNameA) : fval nm (freeA kind) = none := by
 unfold freeA fval
 rw [if_neg (Ne.symm h1)]
 unfold fval
 rw [if_neg (Ne.symm h2)]
 rfl
theorem free_hasA (kind : List UInt8) (nm : List UInt8) (h1 : nm ≠ nType) (h2 : nm ≠ nNameA) : hasA nm (freeA kind) = false := by
 unfold hasA; rw [free_has kind nm h1 h2]; rfl
theorem free_kind (kind : List UInt8) : 1 ≤ kN (oneL (freeA kind)) ((1 : Nat) : Int) ∧ kN (oneL (freeA kind)) ((1 : Nat) : Int) ≤ 22 := kind_input (freeA kind)
theorem free_any (kind : List UInt8) (ks : List Int) (h : ∀ x ∈ ks, inR (oneL (freeA kind)) x) : ks.any (reqB (oneL (freeA kind))) = false := by
 rw [List.any_eq_false]
 intro x hx
 obtain ⟨h1, h2⟩ := h x hx
 have h2 : x < 2 := h2
 have : x = 0 ∨ x = 1 := by omega
 rcases this with rfl | rfl
 ·exact Bool.false_ne_true
 ·show ¬ reqB (oneL (freeA kind)) ((1 : Nat) : Int) = true
  unfold reqB
  rw [free_nd]
  show ¬ hasA nRequired (freeA kind) = true
  rw [free_hasA kind nRequired (by decide) (by decide)]
  exact Bool.false_ne_true
theorem vaP_len (kind : Int) (v : List UInt8) (fs : List Ent) (a : List Attr) (hv : v.length ≤ 4000) (ha : (attrS nValue a).length ≤ 4000) (hf : ∀ x ∈ fs, x.fname.length ≤ 140737488351232) : (ctl.valueP kind v fs a).length ≤ 140737488355328 ∧ (kind ≠ 18 → (ctl.valueP kind v fs a).length ≤ 1000000) := by
 unfold ctl.valueP
 split
 ·exact ⟨by omega, fun _ => by omega⟩
 split
 ·split
  ·exact ⟨by omega, fun _ => by omega⟩
  ·exact ⟨by decide, fun _ => by decide⟩
 split
 ·exact ⟨by omega, fun _ => by omega⟩
 split
 ·rename_i h
  have h18 : kind = 18 := by unfold modeP at h; split at h <;> try omega
  refine ⟨?_, fun g => absurd h18 g⟩
  cases fs with
  | nil => decide
  | cons f r =>
   have := hf f List.mem_cons_self
   show (fakeT ++ f.fname).length ≤ _
   rw [List.length_append]
   have e : fakeT.length = 12 := rfl
   omega
 ·exact ⟨by decide, fun _ => by decide⟩
theorem sum_free {lk mt od lg sh ua ov st cu : Bool} (h1 : od = false) (h2 : lg = false) (h3 : sh = false) (h4 : cu = false) : sumF lk mt od lg sh ua ov st cu = sumF lk mt false false false ua ov st false := by rw [h1, h2, h3, h4]
section
variable (kind : List UInt8) (c : Ctl)
def freeC (c : Ctl) : List Ctl := [zeroCt, c]
theorem free_val : valV (oneL (freeA kind)) (freeC c) ((1 : Nat) : Int) = ctl.valueP (kN (oneL (freeA kind)) ((1 : Nat) : Int)) c.value c.files (freeA kind) := by
 have := free_kind kind
 unfold valV
 rw [if_neg (by omega)]
 rfl
def freeF (kind : List UInt8) (c : Ctl) : Nat :=
 if docR (oneL (freeA kind)) (freeC c) then
  sumF false (decide (valV (oneL (freeA kind)) (freeC c) ((1 : Nat) : Int) ≠ []) && misB (kN (oneL (freeA kind)) ((1 : Nat) : Int)) (freeA kind) (valV (oneL (freeA kind)) (freeC c) ((1 : Nat) : Int))) false false false
   (stp.flagsK (kN (oneL (freeA kind)) ((1 : Nat) : Int)) (freeA kind) (valV (oneL (freeA kind)) (freeC c) ((1 : Nat) : Int))).1 (stp.flagsK (kN (oneL (freeA kind)) ((1 : Nat) : Int)) (freeA kind) (valV (oneL (freeA kind)) (freeC c) ((1 : Nat) : Int))).2.1 (stp.flagsK (kN (oneL (freeA kind)) ((1 : Nat) : Int)) (freeA kind) (valV (oneL (freeA kind)) (freeC c) ((1 : Nat) : Int))).2.2 false
 else 0
theorem free_ok (hf : ∀ x ∈ c.files, x.fname.length ≤ 140737488351232) : CtlsOk (freeC c) := by
 intro x hx y hy
 simp only [freeC, List.mem_cons, List.not_mem_nil, or_false] at hx
 rcases hx with rfl | rfl
 ·cases hy
 ·exact hf y hy
theorem flags_free (hv : c.value.length ≤ 4000) (hcu : c.custom = []) (hf : ∀ x ∈ c.files, x.fname.length ≤ 140737488351232) (vn vc : Value) (w : World) (hD : DocAt w vn vc (oneL (freeA kind)) (freeC c)) (hG : G w) (hE : GE w) (hU : GU w) :
  Calls Tryz.prog 14 #[.agg #[vn, vc], .int .i64 ((1 : Nat) : Int)] w (RetI (freeF kind c) w) := by
 have hC := free_ok c hf
 have hl : (1 : Nat) < (oneL (freeA kind)).length := by show 1 < 2; decide
 have hkd := free_kind kind
 have hvl := vaP_len (kN (oneL (freeA kind)) ((1 : Nat) : Int)) c.value c.files (freeA kind) hv (by unfold attrS; rw [free_has kind nValue (by decide) (by decide)]; decide) hf
 rw [← free_val kind c] at hvl
 unfold freeF
 cases hq : docR (oneL (freeA kind)) (freeC c) with
 | false =>
  rw [if_neg (by simp)]
  refine (flags_no vn vc _ _ ((1 : Nat) : Int) (.inl ?_) w hD).mono (fun e w' h => h)
  unfold thereP
  rw [hq, Bool.and_false]
 | true =>
  rw [if_pos rfl]
  have hs : subP (kN (oneL (freeA kind)) ((1 : Nat) : Int)) = true := by unfold subP; exact decide_eq_true (by omega)
  have hreq : hasA nRequired (nd (oneL (freeA kind)) ((1 : Nat) : Int)).attrs = false := free_hasA kind nRequired (by decide) (by decide)
  have key := flags_gen vn vc _ _ 1 hl hq hs w hD (vhas_one vn vc _ _ hC 1 hl hq w hD (by omega)) false
   (misB (kN (oneL (freeA kind)) ((1 : Nat) : Int)) (freeA kind) (valV (oneL (freeA kind)) (freeC c) ((1 : Nat) : Int))) false (-1) (-1) (utf.unitsS (valV (oneL (freeA kind)) (freeC c) ((1 : Nat) : Int)))
   (stp.flagsK (kN (oneL (freeA kind)) ((1 : Nat) : Int)) (freeA kind) (valV (oneL (freeA kind)) (freeC c) ((1 : Nat) : Int))).1 (stp.flagsK (kN (oneL (freeA kind)) ((1 : Nat) : Int)) (freeA kind) (valV (oneL (freeA kind)) (freeC c) ((1 : Nat) : Int))).2.1 (stp.flagsK (kN (oneL (freeA kind)) ((1 : Nat) : Int)) (freeA kind) (valV (oneL (freeA kind)) (freeC c) ((1 : Nat) : Int))).2.2
   (fun w' hb => by
    by_cases g17 : kN (oneL (freeA kind)) ((1 : Nat) : Int) = 17
    ·have := lacks_radio vn vc _ _ 1 hl hq g17 w' (hD.below hb)
     rw [free_any kind _ (membQ_in _)] at this
     exact this
    by_cases g16 : kN (oneL (freeA kind)) ((1 : Nat) : Int) = 16
    ·have := lacks_box vn vc _ _ 1 hl hq g16 w' (hD.below hb)
     rw [hreq] at this
     exact this
    by_cases g18 : kN (oneL (freeA kind)) ((1 : Nat) : Int) = 18
    ·have := lacks_file vn vc _ _ 1 hl hq g18 w' (hD.below hb)
     rw [hreq] at this
     exact this
    ·have := lacks_val vn vc _ _ 1 hl hq ⟨g16, g17, g18, by omega⟩ w' (hD.below hb) (vhas_one vn vc _ _ hC 1 hl hq w' (hD.below hb) (by omega))
     rw [hreq, Bool.and_false, Bool.false_and] at this
     exact this)
   (fun _ w' va vk hA hK hb => mistyped_any (freeN kind) va vk _ _ (fun g => hvl.2 (by omega)) (by show 2 ≤ 140737488355328; decide) w' hA hK (hG.below hb) (hE.below hb) (hU.below hb))
   (fun _ w' va vk hA hK _ => odd_no _ va vk _ _ (by show 2 ≤ 140737488355328; decide) (free_hasA kind nPattern (by decide) (by decide)) w' hA hK)
   (fun _ w' va vk hA hK hb => by
    have := vlength_any (freeN kind) va vk (kN (oneL (freeA kind)) ((1 : Nat) : Int)) nMaxlength _ (maxlength_any _) (by show 2 ≤ 140737488355328; decide) (by show ((fval nMaxlength (freeA kind)).getD []).length ≤ _; rw [free_has kind nMaxlength (by decide) (by decide)]; decide) w' hA hK (hE.below hb)
    rw [show (freeN kind).attrs = freeA kind from rfl, free_has kind nMaxlength (by decide) (by decide), lenS_no _ _ (fun h => absurd h.2.2 (by decide))] at this
    exact this)
   (fun _ w' va vk hA hK hb => by
    have := vlength_any (freeN kind) va vk (kN (oneL (freeA kind)) ((1 : Nat) : Int)) nMinlength _ (minlength_any _) (by show 2 ≤ 140737488355328; decide) (by show ((fval nMinlength (freeA kind)).getD []).length ≤ _; rw [free_has kind nMinlength (by decide) (by decide)]; decide) w' hA hK (hE.below hb)
    rw [show (freeN kind).attrs = freeA kind from rfl, free_has kind nMinlength (by decide) (by decide), lenS_no _ _ (fun h => absurd h.2.2 (by decide))] at this
    exact this)
   (fun _ w' hb => utf.units_any _ hvl.1 w')
   (fun w' va hA hb => stp.flags_any_wide _ ⟨by omega, by omega⟩ va _ (fine_of ((docR_iff _ _).1 hq).2 1 hl) _ (fun g => hvl.2 (by omega)) w' hA (hG.below hb) (hE.below hb))
  rw [sum_free (Bool.and_false _) (by rw [show decide ((0 : Int) ≤ -1) = false from rfl, Bool.and_false, Bool.false_and]) (by rw [decide_eq_false (by omega : ¬ ((utf.unitsS (valV (oneL (freeA kind)) (freeC c) ((1 : Nat) : Int)) : Nat) : Int) < -1), Bool.and_false]) (decide_eq_false (fun g => g hcu))] at key
  exact key
theorem rflags_free (hv : c.value.length ≤ 4000) (hcu : c.custom = []) (hf : ∀ x ∈ c.files, x.fname.length ≤ 140737488351232) (vn vc : Value) (w : World) (hD : DocAt w vn vc (oneL (freeA kind)) (freeC c)) :
  Calls Tryz.prog 16 #[.agg #[vn, vc], .int .i64 ((1 : Nat) : Int)] w (RetI (freeF kind c) w) := by
 have hC := free_ok c hf
 have hl : (1 : Nat) < (oneL (freeA kind)).length := by show 1 < 2; decide
 have hkd := free_kind kind
 have hvl := vaP_len (kN (oneL (freeA kind)) ((1 : Nat) : Int)) c.value c.files (freeA kind) hv (by unfold attrS; rw [free_has kind nValue (by decide) (by decide)]; decide) hf
 rw [← free_val kind c] at hvl
 unfold freeF
 cases hq : docR (oneL (freeA kind)) (freeC c) with
 | false =>
  rw [if_neg (by simp)]
  refine (rflags_no vn vc _ _ ((1 : Nat) : Int) (.inl ?_) w hD).mono (fun e w' h => h)
  unfold thereP
  rw [hq, Bool.and_false]
 | true =>
  rw [if_pos rfl]
  have hs : subP (kN (oneL (freeA kind)) ((1 : Nat) : Int)) = true := by unfold subP; exact decide_eq_true (by omega)
  have hreq : hasA nRequired (nd (oneL (freeA kind)) ((1 : Nat) : Int)).attrs = false := free_hasA kind nRequired (by decide) (by decide)
  have hFn : NFine (freeN kind) := hD.fine.nd ((1 : Nat) : Int) (by decide) (by show (1 : Int) < 2; decide)
  have key := rflags_gen vn vc _ _ 1 hl hq hs w hD (rvhas_one vn vc _ _ hC 1 hl hq w hD (by omega)) false
   (decide (valV (oneL (freeA kind)) (freeC c) ((1 : Nat) : Int) ≠ []) && misB (kN (oneL (freeA kind)) ((1 : Nat) : Int)) (freeA kind) (valV (oneL (freeA kind)) (freeC c) ((1 : Nat) : Int))) false (-1) (-1) (utf.unitsS (valV (oneL (freeA kind)) (freeC c) ((1 : Nat) : Int)))
   (stp.flagsK (kN (oneL (freeA kind)) ((1 : Nat) : Int)) (freeA kind) (valV (oneL (freeA kind)) (freeC c) ((1 : Nat) : Int))).1 (stp.flagsK (kN (oneL (freeA kind)) ((1 : Nat) : Int)) (freeA kind) (valV (oneL (freeA kind)) (freeC c) ((1 : Nat) : Int))).2.1 (stp.flagsK (kN (oneL (freeA kind)) ((1 : Nat) : Int)) (freeA kind) (valV (oneL (freeA kind)) (freeC c) ((1 : Nat) : Int))).2.2
   (fun w' hb => by
    by_cases g17 : kN (oneL (freeA kind)) ((1 : Nat) : Int) = 17
    ·have := rmiss_radio vn vc _ _ 1 hl hq g17 w' (hD.below hb)
     rw [free_any kind _ (membQ_in _)] at this
     exact this
    ·have := rmiss_any vn vc _ _ 1 hl hq ⟨g17, by omega⟩ w' (hD.below hb) (rvhas_one vn vc _ _ hC 1 hl hq w' (hD.below hb) (by omega))
     unfold missV at this
     rw [hreq, Bool.and_false, Bool.false_and] at this
     exact this)
   (fun w' hb => rType18_any vn vc _ _ 1 hl hq (fun g => hvl.2 (by omega)) w' (hD.below hb) (rvhas_one vn vc _ _ hC 1 hl hq w' (hD.below hb) (by omega)))
   (fun w' hb => rpat_no vn vc _ _ 1 hl hq (free_hasA kind nPattern (by decide) (by decide)) w' (hD.below hb) (rvhas_one vn vc _ _ hC 1 hl hq w' (hD.below hb) (by omega)))
   (fun w' => utf.runits_any _ hvl.1 w')
   (fun w' va vk hA hK => by
    have := rlength_any (freeN kind) hFn va vk nMaxlength _ (rmaxlength_any _) (by show ((fval nMaxlength (freeA kind)).getD []).length ≤ _; rw [free_has kind nMaxlength (by decide) (by decide)]; decide) w' hA hK
    rw [show (freeN kind).attrs = freeA kind from rfl, free_has kind nMaxlength (by decide) (by decide), lenS_no _ _ (fun h => absurd h.2.2 (by decide))] at this
    exact this)
   (fun w' va vk hA hK => by
    have := rlength_any (freeN kind) hFn va vk nMinlength _ (rminlength_any _) (by show ((fval nMinlength (freeA kind)).getD []).length ≤ _; rw [free_has kind nMinlength (by decide) (by decide)]; decide) w' hA hK
    rw [show (freeN kind).attrs = freeA kind from rfl, free_has kind nMinlength (by decide) (by decide), lenS_no _ _ (fun h => absurd h.2.2 (by decide))] at this
    exact this)
   (fun w' va hA hb => stp.rflags_any_wide _ ⟨by omega, by omega⟩ va _ (fine_of ((docR_iff _ _).1 hq).2 1 hl) _ (fun g => hvl.2 (by omega)) w' hA)
  rw [sum_free rfl (by rw [show decide ((0 : Int) ≤ -1) = false from rfl, Bool.and_false, Bool.false_and]) (by rw [decide_eq_false (by omega : ¬ ((utf.unitsS (valV (oneL (freeA kind)) (freeC c) ((1 : Nat) : Int)) : Nat) : Int) < -1), Bool.and_false]) (decide_eq_false (fun g => g hcu))] at key
  exact key
end
theorem free_bits (kind : List UInt8) (c : Ctl) : freeF kind c ≤ 511 ∧ ∃ mt ua ov st : Bool, freeF kind c = sumF false mt false false false ua ov st false := by
 unfold freeF
 split
 ·refine ⟨?_, _, _, _, _, rfl⟩
  unfold sumF bitN
  repeat' split
  all_goals omega
 ·exact ⟨by decide, false, false, false, false, rfl⟩

theorem free_attr (w : World) (kind : List UInt8) (T : TypeId) : AttrsAt (w.alloc (.cells #[.string ⟨#[116, 121, 112, 101]⟩, .string ⟨kind.toArray⟩, .string ⟨#[110, 97, 109, 101]⟩, .string ⟨#[97]⟩] T)) (.slice (some ⟨w.heap.size, 0, none⟩) 2 2) (freeA kind) := by
 refine .inr ⟨_, 0, 2, rfl, by show 0 < 2; decide, by simp, fun j hj => ?_⟩
 have : j = 0 ∨ j = 1 := by have : (freeA kind).length = 2 := rfl; omega
 rcases this with rfl | rfl
 ·exact ⟨World.cell?_alloc_new w _ _ 0, World.cell?_alloc_new w _ _ 1⟩
 ·exact ⟨World.cell?_alloc_new w _ _ 2, World.cell?_alloc_new w _ _ 3⟩
theorem free_fine (kind : List UInt8) (zk : kind.length ≤ 140737488351232) : (freeA kind).length ≤ 140737488355328 ∧ ∀ x ∈ freeA kind, x.1.length ≤ 140737488355328 ∧ x.2.length ≤ 140737488355328 := by
 refine ⟨by show 2 ≤ 140737488355328; decide, ?_⟩
 intro x hx
 simp only [freeA, List.mem_cons, List.not_mem_nil, or_false] at hx
 rcases hx with rfl | rfl
 ·exact ⟨by show 4 ≤ 140737488355328; decide, by show kind.length ≤ _; omega⟩
 ·exact ⟨by show 4 ≤ 140737488355328; decide, by show 1 ≤ 140737488355328; decide⟩
theorem free_walk (kind : List UInt8) (_hk : (⟨kind.toArray⟩ : ByteArray).size ≤ maxLen) (zk : kind.length ≤ 140737488351232) (c : Ctl) (f : Value) (hbig : c.files.length * 72 ≤ 140737488355328) (hnm : ∀ x ∈ c.files, x.fname.length ≤ 140737488351232)
  (w : World) (hF : EntsAt w f c.files) (hG : G w) (hE : GE w) (hU : GU w) :
  Calls Tryz.prog 6 #[.string ⟨kind.toArray⟩, .agg (encC c f).toArray] w fun e w' => e = .returned (.bool true) ∧ Below w.heap.size w w' := by
 obtain ⟨fa, fn, fc, rfl⟩ := hF.isSl
 obtain ⟨cv, cdi, cty, cch, cdc, cmi, cse, cds, ccu, cfi⟩ := c
 dsimp only at hF hbig hnm
 have HW := Lib.hid (fun w => wakes18_any w)
 have HOne := Lib.hid (fun oa n cap w => oneO_any oa n cap w)
 have HFine := Lib.hid (free_fine kind zk)
 have HAt := Lib.hid (fun w T => free_attr w kind T)
 have HFi := Lib.hid hF
 have HBig := Lib.hid hbig
 have HGG := Lib.hid (And.intro hG (And.intro hE hU))
 have HFl := Lib.hid (fun (hv : cv.length ≤ 4000) => flags_free kind ⟨cv, cdi, cty, cch, cdc, cmi, cse, cds, [], cfi⟩ hv rfl hnm)
 have HRf := Lib.hid (fun (hv : cv.length ≤ 4000) => rflags_free kind ⟨cv, cdi, cty, cch, cdc, cmi, cse, cds, [], cfi⟩ hv rfl hnm)
 have HBits := Lib.hid (free_bits kind ⟨cv, cdi, cty, cch, cdc, cmi, cse, cds, [], cfi⟩)
 obtain ⟨fl, hfl⟩ : ∃ x, x = freeF kind ⟨cv, cdi, cty, cch, cdc, cmi, cse, cds, [], cfi⟩ := ⟨_, rfl⟩
 rw [← hfl] at HFl HRf HBits
 clear hfl hF hbig hnm hG hE hU zk _hk
 unfold encC
 dsimp only
 obtain ⟨w0, hw0⟩ : ∃ x, x = w.alloc (.cells #[.string ⟨cv.toArray⟩, .bool cdi, .bool cty, .bool cch, .bool cdc, .bool cmi, .bool cse, .bool cds, .string ⟨ccu.toArray⟩, .slice fa fn fc] 35) := ⟨_, rfl⟩
 have hB0 : Below w.heap.size w w0 := by rw [hw0]; exact (Below.refl _ w).alloc (Nat.le_refl _) _
 have hX0 : Blk w0 w.heap.size [.string ⟨cv.toArray⟩, .bool cdi, .bool cty, .bool cch, .bool cdc, .bool cmi, .bool cse, .bool cds, .string ⟨ccu.toArray⟩, .slice fa fn fc] := by rw [hw0]; exact Blk.fresh w _ _
 go_enter Tryz.func6, Tryz.ntmps6
 go_wp2_with fail
 rw [← hw0]
 clear hw0
 refine (HW.out w0).mono ?_
 rintro e w1 ⟨rfl, hb1⟩
 have hB1 := below_trans hB0 hb1
 have hX := hX0.kept hb1
 have x0 : w1.cell? ⟨w.heap.size, 0, none⟩ = some (.string ⟨cv.toArray⟩) := hX.cell 0
 have x1 : w1.cell? ⟨w.heap.size, 1, none⟩ = some (.bool cdi) := hX.cell 1
 clear HW hX0 hb1 hB0
 by_cases hlong : (4000 : Int) < cv.length
 ·go_wp2_with fail
  go_ret
  exact ⟨rfl, hB1⟩
 have hv : cv.length ≤ 4000 := by omega
 have HFl := Lib.hid (HFl.out hv)
 have HRf := Lib.hid (HRf.out hv)
 obtain ⟨w2, hw2⟩ : ∃ x, x = w1.alloc (.cells #[.string ⟨#[116, 121, 112, 101]⟩, .string ⟨kind.toArray⟩, .string ⟨#[110, 97, 109, 101]⟩, .string ⟨#[97]⟩] 45) := ⟨_, rfl⟩
 have hs2 : w1.heap.size + 1 = w2.heap.size := by rw [hw2]; simp
 have HA2 : Hid (AttrsAt w2 (.slice (some ⟨w1.heap.size, 0, none⟩) 2 2) (freeA kind)) := Lib.hid (by rw [hw2]; exact HAt.out w1 _)
 have hB2 : Below w.heap.size w w2 := by rw [hw2]; exact hB1.alloc hB1.size _
 have hX2 : Blk w2 w.heap.size [.string ⟨cv.toArray⟩, .bool cdi, .bool cty, .bool cch, .bool cdc, .bool cmi, .bool cse, .bool cds, .string ⟨ccu.toArray⟩, .slice fa fn fc] := by rw [hw2]; exact hX.alloc _
 go_wp2_with fail
 rw [← hw2]
 clear hw2 HAt hX x0 x1 hlong hv
 refine (HOne.out _ _ _ w2).mono ?_
 rintro e w3 ⟨o, rfl, hw3⟩
 have hC3 : Blk w3 (w2.heap.size + 1 + 1 + 1) oneV := by rw [hw3]; exact one_blk _ _ _
 have hsz3 : w3.heap.size = w2.heap.size + 4 := by rw [hw3]; exact (one_cells _ _ _).2.2.2.1
 have hb23 : Below w2.heap.size w2 w3 := by rw [hw3]; exact (one_cells _ _ _).2.2.2.2
 have HN : Hid (∀ wx, Below (w2.heap.size + 1 + 1 + 1) w3 wx → LFine (oneL (freeA kind)) ∧ NodesAt wx (.slice (some ⟨w2.heap.size + 1 + 1, 0, none⟩) 2 2) (oneL (freeA kind))) := Lib.hid (fun wx hx => one_nodes w2 wx o _ (freeA kind) HA2.out (cap_eq _ _) HFine.out.1 HFine.out.2 (by rw [← hw3]; exact hx))
 clear hw3 HFine HA2 HOne
 obtain ⟨w4, hw4⟩ : ∃ x, x = w3.alloc (.cells #[.slice (some ⟨w2.heap.size + 1 + 1, 0, none⟩) 2 2, .slice (some ⟨w2.heap.size + 1 + 1 + 1, 0, none⟩) 2 2] 28) := ⟨_, rfl⟩
 have f0 : w4.cell? ⟨w3.heap.size, 0, none⟩ = some (.slice (some ⟨w2.heap.size + 1 + 1, 0, none⟩) 2 2) := by rw [hw4]; exact (doc_cells w3 _ _ _ _ _ _ _).1
 have f1 : w4.cell? ⟨w3.heap.size, 1, none⟩ = some (.slice (some ⟨w2.heap.size + 1 + 1 + 1, 0, none⟩) 2 2) := by rw [hw4]; exact (doc_cells w3 _ _ _ _ _ _ _).2
 have hC4 : Blk w4 (w2.heap.size + 1 + 1 + 1) oneV := by rw [hw4]; exact hC3.alloc _
 have hX4 : Blk w4 w.heap.size [.string ⟨cv.toArray⟩, .bool cdi, .bool cty, .bool cch, .bool cdc, .bool cmi, .bool cse, .bool cds, .string ⟨ccu.toArray⟩, .slice fa fn fc] := by rw [hw4]; exact (hX2.kept hb23).alloc _
 have hN4 : Below (w2.heap.size + 1 + 1 + 1) w3 w4 := by rw [hw4]; exact (Below.refl _ w3).alloc (by omega) _
 have hB4 : Below w.heap.size w w4 := by rw [hw4]; exact (below_trans hB2 hb23).alloc (by have := hB2.size; omega) _
 have hlt2 : w.heap.size < w2.heap.size := by have := hX2.lt; exact this
 have HSz := Lib.hid hsz3
 clear hC3 hX2 hb23 hB1 hB2 hsz3 hs2
 obtain ⟨x0, x1, x2, x3, x4, x5, x6, x7, x8, x9, _⟩ := hX4.ten
 have g10 : w4.cell? ⟨w2.heap.size + 1 + 1 + 1, 10, none⟩ = some (.string ⟨#[]⟩) := hC4.cell 10
 have g11 : w4.cell? ⟨w2.heap.size + 1 + 1 + 1, 11, none⟩ = some (.bool false) := hC4.cell 11
 have g12 : w4.cell? ⟨w2.heap.size + 1 + 1 + 1, 12, none⟩ = some (.bool false) := hC4.cell 12
 have g13 : w4.cell? ⟨w2.heap.size + 1 + 1 + 1, 13, none⟩ = some (.bool false) := hC4.cell 13
 have g14 : w4.cell? ⟨w2.heap.size + 1 + 1 + 1, 14, none⟩ = some (.bool false) := hC4.cell 14
 have g15 : w4.cell? ⟨w2.heap.size + 1 + 1 + 1, 15, none⟩ = some (.bool false) := hC4.cell 15
 have g16 : w4.cell? ⟨w2.heap.size + 1 + 1 + 1, 16, none⟩ = some (.bool false) := hC4.cell 16
 have g17 : w4.cell? ⟨w2.heap.size + 1 + 1 + 1, 17, none⟩ = some (.bool false) := hC4.cell 17
 have g18 : w4.cell? ⟨w2.heap.size + 1 + 1 + 1, 18, none⟩ = some (.string ⟨#[]⟩) := hC4.cell 18
 have g19 : w4.cell? ⟨w2.heap.size + 1 + 1 + 1, 19, none⟩ = some (.slice none 0 0) := hC4.cell 19
 have k10 := hC4.frozen 10
 have k11 := hC4.frozen 11
 have k12 := hC4.frozen 12
 have k13 := hC4.frozen 13
 have k14 := hC4.frozen 14
 have k15 := hC4.frozen 15
 have k16 := hC4.frozen 16
 have k17 := hC4.frozen 17
 have k18 := hC4.frozen 18
 have k19 := hC4.frozen 19
 go_upto_region 6 with fail
 rw [← hw4]
 clear hw4
 go_cut [] (fun wx => Blk wx (w2.heap.size + 1 + 1 + 1) (twoV ⟨cv, cdi, cty, cch, cdc, cmi, cse, cds, ccu, cfi⟩ (.slice fa fn fc)) ∧ wx.cell? ⟨w3.heap.size, 0, none⟩ = some (.slice (some ⟨w2.heap.size + 1 + 1, 0, none⟩) 2 2) ∧ wx.cell? ⟨w3.heap.size, 1, none⟩ = some (.slice (some ⟨w2.heap.size + 1 + 1 + 1, 0, none⟩) 2 2) ∧ Below (w2.heap.size + 1 + 1 + 1) w3 wx ∧ Below w.heap.size w wx)
 case first =>
  go_wp2_with fail
  go_meet
  have hne : w3.heap.size ≠ w2.heap.size + 1 + 1 + 1 := by have := HSz.out; omega
  refine ⟨((((((((((hC4.set 10 (.string ⟨cv.toArray⟩)).set 11 (.bool cdi)).set 12 (.bool cty)).set 13 (.bool cch)).set 14 (.bool cdc)).set 15 (.bool cmi)).set 16 (.bool cse)).set 17 (.bool cds)).set 18 (.string ⟨ccu.toArray⟩)).set 19 (.slice fa fn fc)), ?_, ?_, ?_, ?_⟩
  ·simp only [far_set hne]; exact f0
  ·simp only [far_set hne]; exact f1
  ·repeat' (refine Below.setCell ?_ (by exact Nat.le_refl _) _)
   exact hN4
  ·repeat' (refine Below.setCell ?_ (by show w.heap.size ≤ w2.heap.size + 1 + 1 + 1; omega) _)
   exact hB4
 case rest =>
 obtain ⟨hC5, f0, f1, hN5, hB5⟩ := hcut
 clear hC4 hX4 hN4 hB4 x0 x1 x2 x3 x4 x5 x6 x7 x8 x9 g10 g11 g12 g13 g14 g15 g16 g17 g18 g19 k10 k11 k12 k13 k14 k15 k16 k17 k18 k19
 have g18 : wc.cell? ⟨w2.heap.size + 1 + 1 + 1, 18, none⟩ = some (.string ⟨ccu.toArray⟩) := hC5.cell 18
 have k18 := hC5.frozen 18
 go_upto_region 7 with fail
 go_cut [] (fun wx => Blk wx (w2.heap.size + 1 + 1 + 1) (twoV ⟨cv, cdi, cty, cch, cdc, cmi, cse, cds, [], cfi⟩ (.slice fa fn fc)) ∧ wx.cell? ⟨w3.heap.size, 0, none⟩ = some (.slice (some ⟨w2.heap.size + 1 + 1, 0, none⟩) 2 2) ∧ wx.cell? ⟨w3.heap.size, 1, none⟩ = some (.slice (some ⟨w2.heap.size + 1 + 1 + 1, 0, none⟩) 2 2) ∧ Below (w2.heap.size + 1 + 1 + 1) w3 wx ∧ Below w.heap.size w wx)
 case first =>
  go_wp2_with fail
  go_meet
  have hne : w3.heap.size ≠ w2.heap.size + 1 + 1 + 1 := by have := HSz.out; omega
  refine ⟨hC5.set 18 (.string ⟨#[]⟩), ?_, ?_, ?_, ?_⟩
  ·rw [far_set hne]; exact f0
  ·rw [far_set hne]; exact f1
  ·exact hN5.setCell (by exact Nat.le_refl _) _
  ·exact hB5.setCell (by show w.heap.size ≤ w2.heap.size + 1 + 1 + 1; omega) _
 case rest =>
 obtain ⟨hC6, f0, f1, hN6, hB6⟩ := hcut
 obtain ⟨hLf, hNo⟩ := HN.out _ hN6
 have hD : DocAt wc (.slice (some ⟨w2.heap.size + 1 + 1, 0, none⟩) 2 2) (.slice (some ⟨w2.heap.size + 1 + 1 + 1, 0, none⟩) 2 2) (oneL (freeA kind)) (freeC ⟨cv, cdi, cty, cch, cdc, cmi, cse, cds, [], cfi⟩) :=
  ⟨hLf, hNo, two_ctls wc _ ⟨cv, cdi, cty, cch, cdc, cmi, cse, cds, [], cfi⟩ (.slice fa fn fc) hC6 (HFi.out.below hB6), by show 2 * 64 ≤ 140737488355328; decide, fun x hx => by
   simp only [freeC, List.mem_cons, List.not_mem_nil, or_false] at hx
   rcases hx with rfl | rfl
   ·decide
   ·exact HBig.out⟩
 have hfl := HFl.out _ _ wc hD (HGG.out.1.below hB6) (HGG.out.2.1.below hB6) (HGG.out.2.2.below hB6)
 have HD := Lib.hid hD
 clear hC5 hN5 hB5 g18 k18 hC6 hLf hNo hD HFl HN HFi HBig HGG hN6
 go_wp2_with fail
 refine hfl.mono ?_
 rintro e w7 ⟨rfl, hb7⟩
 have f0 := cell_below hb7 f0
 have f1 := cell_below hb7 f1
 have hB7 := below_trans hB6 hb7
 have hrf := HRf.out _ _ w7 (HD.out.below hb7)
 have hand : (bits BinOp.and IntKind.i64 ((fl : Nat) : Int) 29 == 0) = true := by
  obtain ⟨_, mt, ua, ov, st, e⟩ := HBits.out
  rw [e]
  cases mt <;> cases ua <;> cases ov <;> cases st <;> rfl
 clear hfl HRf HD hb7 HBits
 go_wp2_with fail
 refine hrf.mono ?_
 rintro e w8 ⟨rfl, hb8⟩
 go_wp2_with fail
 go_ret
 exact ⟨rfl, below_trans hB7 hb8⟩
end Go.Proofs.YtkhlfggnjcbniaaGreatDoor.doc
