/- ValidValues: the contracts of valid.Value and of the reference's Value; the walk. -/
import Derived.BigCall
import Derived.BigGuard
import Derived.BigQuiet
import Derived.BigRegion
import Derived.ChangeAlike
import Derived.Deep.AppendLies
import Derived.Deep.CutBlock
import Derived.Deep.DeepCutAuto
import Derived.Deep.MidRow
import Derived.Deep.RegionHeld
import Derived.Deep.RegionHeld3
import Derived.Deep.RegionLaw
import Derived.Deep.RegionLawGrows
import Derived.Deep.SlicePairs
import Derived.Deep.Slices
import Derived.Ground.MpProg
import Derived.Laws.BitsLemmas
import Derived.Laws.BytesArg
import Derived.Laws.Closers25
import Derived.Laws.Closers25b
import Derived.Laws.IdiomStrings
import Derived.Laws.OwnMore
import Derived.Laws.ResultCell
import Derived.Laws.Strings3
import Derived.Lib.AppendIntMem
import Derived.Lib.AppendStr
import Derived.Lib.ConvBytes
import Derived.Lib.Hide
import Derived.Lib.IndexBytes
import Derived.Lib.IndexMore
import Derived.Lib.ItoaMem
import Derived.Lib.ItoaNum
import Derived.Lib.Join
import Derived.Lib.ParseIntBMem
import Derived.Lib.Repeat
import Derived.Lib.Replace
import Derived.Lib.SlTrimSet
import Derived.Lib.SliceRun
import Derived.Lib.Split
import Derived.Lib.SplitLaws
import Derived.Lib.Strings
import Derived.Lib.Walk
import Derived.LoopIn
import Derived.LoopNIn
import Derived.Maps.AppendAt
import Derived.OneCell
import Derived.OpenShut
import Derived.OrdersIn
import Derived.Outline
import Derived.OwnWalkIn
import Derived.ProofKit
import Derived.RangeFuncBound
import Derived.RangeFuncBox
import Derived.RangeFuncCalls
import Derived.RangeFuncLeaves
import Derived.RangeFuncNested
import Derived.RegionTactic
import Derived.Shelf.Abstract
import Derived.Shelf.Bits.Mul64
import Derived.Shelf.RegionOpen
import Derived.Shelf.SlicesQ.IndexFunc
import Derived.Shelf.Strconv.AtoiAll
import Derived.Shelf.Strings.BuilderK
import Derived.Shelf.Strings.OnBuilder
import Derived.Shelf.Strings.SlTrimAscii
import Derived.StillTailTactics
import Derived.TacticsIn
import Derived.TacticsInMore
import Derived.WalkKit
import Derived.WalkLawsBesides
import Derived.WalkMore
import Derived.WalkSmall
import Derived.WalkSpells
import Derived.WideKeyArgs
import Derived.Test.YtkhlfggnjcbniaaGreatDoorProg
import Derived.Test.YtkhlfggnjcbniaaGreatDoorRows
import Derived.Test.YtkhlfggnjcbniaaGreatDoorShelf
import Derived.Test.YtkhlfggnjcbniaaGreatDoorP0
import Derived.Test.YtkhlfggnjcbniaaGreatDoorP1
import Derived.Test.YtkhlfggnjcbniaaGreatDoorP2
import Derived.Test.YtkhlfggnjcbniaaGreatDoorP3
import Derived.Test.YtkhlfggnjcbniaaGreatDoorP4
import Derived.Test.YtkhlfggnjcbniaaGreatDoorP5
import Derived.Test.YtkhlfggnjcbniaaGreatDoorP6
import Derived.Test.YtkhlfggnjcbniaaGreatDoorP7
import Derived.Test.YtkhlfggnjcbniaaGreatDoorP8
import Derived.Test.YtkhlfggnjcbniaaGreatDoorP9
import Derived.Test.YtkhlfggnjcbniaaGreatDoorP10
import Derived.Test.YtkhlfggnjcbniaaGreatDoorP11
import Derived.Test.YtkhlfggnjcbniaaGreatDoorP12
import Derived.Test.YtkhlfggnjcbniaaGreatDoorP13
import Derived.Test.YtkhlfggnjcbniaaGreatDoorP14
import Derived.Test.YtkhlfggnjcbniaaGreatDoorP15
import Derived.Test.YtkhlfggnjcbniaaGreatDoorP16
import Derived.Test.YtkhlfggnjcbniaaGreatDoorP17
import Derived.Test.YtkhlfggnjcbniaaGreatDoorP18
import Derived.Test.YtkhlfggnjcbniaaGreatDoorP19
import Derived.Test.YtkhlfggnjcbniaaGreatDoorP20
import Derived.Test.YtkhlfggnjcbniaaGreatDoorP21
import Derived.Test.YtkhlfggnjcbniaaGreatDoorP22
import Derived.Test.YtkhlfggnjcbniaaGreatDoorP23
import Derived.Test.YtkhlfggnjcbniaaGreatDoorP24
import Derived.Test.YtkhlfggnjcbniaaGreatDoorP25
import Derived.Test.YtkhlfggnjcbniaaGreatDoorP26
import Derived.Test.YtkhlfggnjcbniaaGreatDoorP27
import Derived.Test.YtkhlfggnjcbniaaGreatDoorP28
import Derived.Test.YtkhlfggnjcbniaaGreatDoorP29
import Derived.Test.YtkhlfggnjcbniaaGreatDoorP30
import Derived.Test.YtkhlfggnjcbniaaGreatDoorP31
import Derived.Test.YtkhlfggnjcbniaaGreatDoorP32
import Derived.Test.YtkhlfggnjcbniaaGreatDoorP33
import Derived.Test.YtkhlfggnjcbniaaGreatDoorP34
import Derived.Test.YtkhlfggnjcbniaaGreatDoorP35
import Derived.Test.YtkhlfggnjcbniaaGreatDoorP36
import Derived.Test.YtkhlfggnjcbniaaGreatDoorP37
import Derived.Test.YtkhlfggnjcbniaaGreatDoorP38
import Derived.Test.YtkhlfggnjcbniaaGreatDoorP39
import Derived.Test.YtkhlfggnjcbniaaGreatDoorP40
import Derived.Test.YtkhlfggnjcbniaaGreatDoorP41
import Derived.Test.YtkhlfggnjcbniaaGreatDoorP43
import Derived.Test.YtkhlfggnjcbniaaGreatDoorP44
namespace Go.Proofs.YtkhlfggnjcbniaaGreatDoor.doc
open Go.ChangeShapes Go.WideShapes Go.ChangeAt Go.RowKit Go.Lib Go.Proofs.YtkhlfggnjcbniaaGreatDoor.atr Go.Proofs.YtkhlfggnjcbniaaGreatDoor.link Go.Proofs.YtkhlfggnjcbniaaGreatDoor.ctl Go.Proofs.YtkhlfggnjcbniaaGreatDoor.stp

def ValV (l : List Nd) (cs : List Ctl) (k : Int) : List UInt8 := if thereP l cs k then valV l cs k else []
set_option maxHeartbeats 1600000 in
set_option maxRecDepth 100000 in
theorem vValue_any (vn vc : Value) (l : List Nd) (cs : List Ctl) (hC : CtlsOk cs) (k : Int) (w : World) (hD : DocAt w vn vc l cs) :
    Calls Tryz.prog 22 #[.agg #[vn, vc], .int .i64 k] w fun e w' => e = .returned (.string ⟨(ValV l cs k).toArray⟩) ∧ Below w.heap.size w w' := by
  have HTh := Lib.hid (fun w' (h : Below w.heap.size w w') => there_any vn vc l cs k w' (hD.below h))
  have HVa := Lib.hid (fun w' (h : Below w.heap.size w w') (ht : thereP l cs k = true) => by
    obtain ⟨hin, hlc, hR⟩ := (there_iff l cs k).1 ht
    have := vvalue_any vn vc l cs hC k.toNat (by have := hin.1; have := hin.2; omega) ((docR_iff l cs).2 ⟨hlc, hR⟩) w' (hD.below h)
    rwa [show ((k.toNat : Nat) : Int) = k from by have := hin.1; omega] at this)
  have HV : Hid (ValV l cs k = if thereP l cs k then valV l cs k else []) := Lib.hid rfl
  obtain ⟨oa, ca, rfl⟩ := NodesAt.lenN hD.nodes
  obtain ⟨oc, cc, rfl⟩ := CtlsAt.lenN hD.ctls
  obtain ⟨wA, hwA⟩ : ∃ wA, wA = w.alloc (.cells #[.slice oa l.length ca, .slice oc cs.length cc] 28) := ⟨_, rfl⟩
  have hB1 : Below w.heap.size w wA := by rw [hwA]; exact (Below.refl _ w).alloc (Nat.le_refl _) _
  have f0 : wA.cell? ⟨w.heap.size, 0, none⟩ = some (.slice oa l.length ca) := by rw [hwA]; exact (doc_cells w _ _ _ _ _ _ _).1
  have f1 : wA.cell? ⟨w.heap.size, 1, none⟩ = some (.slice oc cs.length cc) := by rw [hwA]; exact (doc_cells w _ _ _ _ _ _ _).2
  have h1 := HTh.out wA hB1
  obtain ⟨res, hres⟩ : ∃ r, r = ValV l cs k := ⟨_, rfl⟩
  rw [← hres] at HV ⊢
  generalize thereP l cs k = th at *
  generalize valV l cs k = s at *
  clear hres hD HTh
  subst hwA
  cases th
  case false =>
    have HX : Hid (res = []) := Lib.hid (by rw [HV.out]; rfl)
    rw [HX.out]
    go_enter Tryz.func22, Tryz.ntmps22
    go_wp2_with fail
    refine h1.mono ?_
    rintro e w1 ⟨rfl, hb1⟩
    go_wp2_with fail
    go_ret
    exact ⟨rfl, below_trans hB1 hb1⟩
  have HX : Hid (res = s) := Lib.hid (by rw [HV.out]; rfl)
  rw [HX.out]
  clear HV HX
  go_enter Tryz.func22, Tryz.ntmps22
  go_wp2_with fail
  refine h1.mono ?_
  rintro e w1 ⟨rfl, hb1⟩
  have hB2 := below_trans hB1 hb1
  have f0 := cell_below hb1 f0
  have f1 := cell_below hb1 f1
  have h2 := HVa.out w1 hB2 (by first | rfl | trivial)
  clear h1 HVa
  go_wp2_with fail
  refine h2.mono ?_
  rintro e w2 ⟨rfl, hb2⟩
  go_wp2_with fail
  go_ret
  exact ⟨rfl, below_trans hB2 hb2⟩
set_option maxHeartbeats 3200000 in
set_option maxRecDepth 100000 in
theorem rValue18_any (vn vc : Value) (l : List Nd) (cs : List Ctl) (hC : CtlsOk cs) (k : Nat) (hk : k < l.length) (hq : docR l cs = true) (w : World) (hD : DocAt w vn vc l cs) :
    Calls Tryz.prog 23 #[.agg #[vn, vc], .int .i64 k] w fun e w' => e = .returned (.string ⟨(valV l cs (k : Int)).toArray⟩) ∧ Below w.heap.size w w' := by
  obtain ⟨hlc, hR⟩ := (docR_iff l cs).1 hq
  have hlen := hD.fine.len
  have hkc : k < cs.length := by omega
  have HSel := Lib.hid (fun w' (h : Below w.heap.size w w') => rselvalue_any vn vc l cs (k : Int) w' (hD.below h))
  obtain ⟨b, off, cap, rfl, hb⟩ := nodes_addr hD.nodes (by omega)
  obtain ⟨cb, coff, ccap, f, rfl, hcb, hct0⟩ := ctls_get hD.ctls k hkc
  have HC0 := Lib.hid hct0
  have HFin := Lib.hid (fine_of hR k hk)
  have HOf := Lib.hid (fun w' va vk h1 h2 => rof_any (nd l (k : Int)) va vk (hD.fine.nd _ (by omega) (by omega)) w' h1 h2)
  have HK : Hid (kindP (nd l (k : Int)).name (nd l (k : Int)).attrs = kN l (k : Int)) := Lib.hid rfl
  rw [HK.out] at HOf
  have HV : Hid (valV l cs (k : Int) = if kN l (k : Int) = 23 then ValueP l cs (k : Int) else ctl.valueP (kN l (k : Int)) (ct cs (k : Int)).value (ct cs (k : Int)).files (nd l (k : Int)).attrs) := Lib.hid rfl
  have HCt : Hid (ct cs (k : Int) = cs[k]) := Lib.hid (ct_get cs k hkc)
  have HFn := Lib.hid (hC cs[k] (List.getElem_mem hkc))
  obtain ⟨va, vk, hn0⟩ := nodes_get hD.nodes k hk
  have HN0 := Lib.hid hn0
  obtain ⟨aa, ac, rfl⟩ := AttrsAt.lenN hn0.attrs
  obtain ⟨ka, kc, rfl⟩ := RowAt.lenN hn0.kids
  obtain ⟨n0, n1, n2, n3, n4, _, _, _⟩ := hn0
  obtain ⟨res, hres⟩ : ∃ r, r = valV l cs (k : Int) := ⟨_, rfl⟩
  rw [← hres] at HV ⊢
  have hkc' : (k : Int) < (cs.length : Int) := by omega
  have hk' : (k : Int) < (l.length : Int) := by omega
  have h0 : (0 : Int) ≤ (k : Int) := by omega
  generalize kN l (k : Int) = kd at *
  generalize hnn : nd l (k : Int) = n at *
  clear hres hq hR hnn HK hD hct0 hlc
  obtain ⟨wA, hwA⟩ : ∃ wA, wA = w.alloc (.cells #[.slice (some ⟨b, off, none⟩) l.length cap, .slice (some ⟨cb, coff, none⟩) cs.length ccap] 28) := ⟨_, rfl⟩
  have hBA : Below w.heap.size w wA := by rw [hwA]; exact (Below.refl _ w).alloc (Nat.le_refl _) _
  have f0 : wA.cell? ⟨w.heap.size, 0, none⟩ = some (.slice (some ⟨b, off, none⟩) l.length cap) := by rw [hwA]; exact (doc_cells w _ _ _ _ _ _ _).1
  have f1 : wA.cell? ⟨w.heap.size, 1, none⟩ = some (.slice (some ⟨cb, coff, none⟩) cs.length ccap) := by rw [hwA]; exact (doc_cells w _ _ _ _ _ _ _).2
  have hof := HOf.out wA (.slice aa n.attrs.length ac) (.slice ka n.kids.length kc) (HN0.out.attrs.below hBA) (HN0.out.kids.below hBA)
  unfold nodeV at hof
  go_enter Tryz.func23, Tryz.ntmps23
  go_wp2_with fail
  rw [← hwA]
  clear hwA n0 n1 n2 n3 n4
  refine hof.mono ?_
  rintro e w1 ⟨rfl, hb1⟩
  have f0 := cell_below hb1 f0
  have f1 := cell_below hb1 f1
  have hB1 := below_trans hBA hb1
  clear hof
  by_cases g23 : kd = 23
  · have gb : (kd == 23) = true := by simp [g23]
    have HX : Hid (res = ValueP l cs (k : Int)) := Lib.hid (by rw [HV.out, if_pos g23])
    have hs := HSel.out w1 hB1
    rw [← HX.out] at hs
    clear HV HX g23
    go_wp2_with fail
    refine hs.mono ?_
    rintro e w2 ⟨rfl, hb2⟩
    go_wp2_with fail
    go_ret
    exact ⟨rfl, below_trans hB1 hb2⟩
  have gb : (kd == 23) = false := by simpa using g23
  have hct := HC0.out.below hB1
  have HX : Hid (res = ctl.valueP kd cs[k].value cs[k].files n.attrs) := Lib.hid (by rw [HV.out, if_neg g23, HCt.out])
  have HVal := Lib.hid (fun w' (h : Below w.heap.size w w') => rValue_any kd cs[k].value cs[k].dirty cs[k].typed cs[k].checked cs[k].dchecked cs[k].mixed cs[k].selected cs[k].dselected cs[k].custom f (HC0.out.below h).files.isSl (.slice aa n.attrs.length ac) n.attrs HFin.out cs[k].files (fun x hx => by have := HFn.out x hx; omega) w' (HN0.out.attrs.below h) (HC0.out.below h).files)
  rw [← HX.out] at HVal
  obtain ⟨fa, fn, fc, rfl⟩ := hct.files.isSl
  have e2 := (HN0.out.below hB1).c2
  have a0 := hct.cells 0 _ rfl
  have a1 := hct.cells 1 _ rfl
  have a2 := hct.cells 2 _ rfl
  have a3 := hct.cells 3 _ rfl
  have a4 := hct.cells 4 _ rfl
  have a5 := hct.cells 5 _ rfl
  have a6 := hct.cells 6 _ rfl
  have a7 := hct.cells 7 _ rfl
  have a8 := hct.cells 8 _ rfl
  have a9 := hct.cells 9 _ rfl
  clear HV HX g23 hct HC0 HSel HCt HFn HFin HN0 HOf
  generalize cs[k] = x at *
  obtain ⟨v, d, t, ch, dc, m, s, ds, cu, fs⟩ := x
  dsimp only [Nat.add_zero] at a0 a1 a2 a3 a4 a5 a6 a7 a8 a9 HVal
  unfold ctlV at HVal
  go_wp2_with fail
  go_still_tail 12, (by kernel_rfl)
  change wpList _ _ _ _ _ w1.drew
  have hbd := hB1.drew
  generalize w1.drew = wd at *
  have hv := HVal.out wd hbd
  clear HVal a0 a1 a2 a3 a4 a5 a6 a7 a8 a9
  go_wp2_with fail
  refine hv.mono ?_
  rintro e w2 ⟨rfl, hb2⟩
  go_wp2_with fail
  go_ret
  exact ⟨rfl, below_trans hbd hb2⟩
set_option maxHeartbeats 3200000 in
set_option maxRecDepth 100000 in
theorem values_walk (vn vc : Value) (l : List Nd) (cs : List Ctl) (k : Int) (_hk : (Lit.int .i64 k).wf = true) (w : World) (hD : DocAt w vn vc l cs) (hLb : LBytes l) (hC : CtlsOk cs) :
    Calls Tryz.prog 7 #[.agg #[vn, vc], .int .i64 k] w fun e w' => e = .returned (.bool true) ∧ Below w.heap.size w w' := by
  have HCp := Lib.hid (fun w' (h : Below w.heap.size w w') => copiedE_any vn vc l cs hLb w' (hD.below h))
  have HVa := Lib.hid (fun vn2 vc2 w' (h : DocAt w' vn2 vc2 l cs) => vValue_any vn2 vc2 l cs hC k w' h)
  have hlen := hD.fine.len
  obtain ⟨oc, cc, rfl⟩ := CtlsAt.lenN hD.ctls
  have HRi := Lib.hid (fun w' (h : Below w.heap.size w w') => by
    have := rdocright_any vn l hD.fine oc cs.length cc w' (hD.nodes.below h)
    rwa [show (decide (l.length = cs.length) && rightB l) = docR l cs from rfl] at this)
  have HHa := Lib.hid (fun w' (h : Below w.heap.size w w') => rhas_any vn l k hD.fine w' (hD.nodes.below h))
  have HRv := Lib.hid (fun w' (h : Below w.heap.size w w') (ht : thereP l cs k = true) => by
    obtain ⟨hin, hlc, hR⟩ := (there_iff l cs k).1 ht
    have := rValue18_any vn (.slice oc cs.length cc) l cs hC k.toNat (by have := hin.1; have := hin.2; omega) ((docR_iff l cs).2 ⟨hlc, hR⟩) w' (hD.below h)
    rwa [show ((k.toNat : Nat) : Int) = k from by have := hin.1; omega] at this)
  have HTh : Hid (thereP l cs k = (docR l cs && (decide (0 ≤ k) && decide (k < (l.length : Int)) && rightB l))) := Lib.hid (by
    unfold thereP docR
    cases decide (0 ≤ k) <;> cases decide (k < (l.length : Int)) <;> cases decide (l.length = cs.length) <;> cases rightB l <;> rfl)
  have HV : Hid (ValV l cs k = if thereP l cs k then valV l cs k else []) := Lib.hid rfl
  obtain ⟨oa, ca, rfl⟩ := NodesAt.lenN hD.nodes
  obtain ⟨wA, hwA⟩ : ∃ wA, wA = w.alloc (.cells #[.slice oa l.length ca, .slice oc cs.length cc] 28) := ⟨_, rfl⟩
  have hBA : Below w.heap.size w wA := by rw [hwA]; exact (Below.refl _ w).alloc (Nat.le_refl _) _
  have f0 : wA.cell? ⟨w.heap.size, 0, none⟩ = some (.slice oa l.length ca) := by rw [hwA]; exact (doc_cells w _ _ _ _ _ _ _).1
  have f1 : wA.cell? ⟨w.heap.size, 1, none⟩ = some (.slice oc cs.length cc) := by rw [hwA]; exact (doc_cells w _ _ _ _ _ _ _).2
  have hW := wakes18_any wA
  generalize ValV l cs k = r at *
  generalize thereP l cs k = th at *
  generalize docR l cs = dr at *
  obtain ⟨hs, hhs⟩ : ∃ q, q = (decide (0 ≤ k) && decide (k < (l.length : Int)) && rightB l) := ⟨_, rfl⟩
  rw [← hhs] at HHa HTh
  generalize valV l cs k = s at *
  clear hhs hD hC hLb
  subst hwA
  go_enter Tryz.func7, Tryz.ntmps7
  go_wp2_with fail
  refine hW.mono ?_
  rintro e w1 ⟨rfl, hb1⟩
  have hB1 := below_trans hBA hb1
  have f0 := cell_below hb1 f0
  have f1 := cell_below hb1 f1
  have h1 := HCp.out w1 hB1
  clear hW HCp hb1 hBA
  go_wp2_with fail
  refine h1.mono ?_
  rintro e w2 ⟨vn2, vc2, rfl, hD2, hb2⟩
  have hB2 := below_trans hB1 hb2
  have f0 := cell_below hb2 f0
  have f1 := cell_below hb2 f1
  have h2 := HVa.out vn2 vc2 w2 hD2
  obtain ⟨oa2, ca2, rfl⟩ := NodesAt.lenN hD2.nodes
  obtain ⟨oc2, cc2, rfl⟩ := CtlsAt.lenN hD2.ctls
  clear h1 HVa hb2 hD2
  go_wp2_with fail
  refine h2.mono ?_
  rintro e w3 ⟨rfl, hb3⟩
  have hB3 := below_trans hB2 hb3
  have f0 := cell_below hb3 f0
  have f1 := cell_below hb3 f1
  have h3 := HRi.out w3 hB3
  clear h2 HRi hb3
  cases dr
  case false =>
    have HX : Hid (r = []) := Lib.hid (by rw [HV.out, HTh.out]; rfl)
    obtain rfl := HX.out
    go_wp2_with fail
    refine h3.mono ?_
    rintro e w4 ⟨rfl, hb4⟩
    go_wp2_with fail
    go_ret
    exact ⟨rfl, below_trans hB3 hb4⟩
  go_wp2_with fail
  refine h3.mono ?_
  rintro e w4 ⟨rfl, hb4⟩
  have hB4 := below_trans hB3 hb4
  have f0 := cell_below hb4 f0
  have f1 := cell_below hb4 f1
  have h4 := HHa.out w4 hB4
  clear h3 HHa hb4
  cases hs
  case false =>
    have HX : Hid (r = []) := Lib.hid (by rw [HV.out, HTh.out]; rfl)
    obtain rfl := HX.out
    go_wp2_with fail
    refine h4.mono ?_
    rintro e w5 ⟨rfl, hb5⟩
    go_wp2_with fail
    go_ret
    exact ⟨rfl, below_trans hB4 hb5⟩
  have HX : Hid (r = s) := Lib.hid (by rw [HV.out, HTh.out]; rfl)
  obtain rfl := HX.out
  have hth : th = true := by rw [HTh.out]; rfl
  have HRv2 := Lib.hid (fun w' h => HRv.out w' h hth)
  clear HV HTh HRv hth HX
  go_wp2_with fail
  refine h4.mono ?_
  rintro e w5 ⟨rfl, hb5⟩
  have hB5 := below_trans hB4 hb5
  have f0 := cell_below hb5 f0
  have f1 := cell_below hb5 f1
  have h5 := HRv2.out w5 hB5
  clear h4 hb5 HRv2
  go_wp2_with fail
  refine h5.mono ?_
  rintro e w6 ⟨rfl, hb6⟩
  go_wp2_with fail
  go_ret
  exact ⟨ret_bool (by simp), below_trans hB5 hb6⟩
end Go.Proofs.YtkhlfggnjcbniaaGreatDoor.doc
