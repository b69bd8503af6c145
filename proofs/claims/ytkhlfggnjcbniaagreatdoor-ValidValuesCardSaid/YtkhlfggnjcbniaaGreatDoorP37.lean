/- The contracts of valid.there and of valid.value. -/
import Derived.BigCall
import Derived.BigGuard
import Derived.BigQuiet
import Derived.ChangeAlike
import Derived.Deep.AppendLies
import Derived.Deep.CutBlock
import Derived.Deep.DeepCutAuto
import Derived.Deep.MidRow
import Derived.Deep.RegionHeld
import Derived.Deep.RegionHeld3
import Derived.Deep.RegionLaw
import Derived.Deep.RegionLawGrows
import Derived.Deep.SlicePairs
import Derived.Deep.Slices
import Derived.Ground.MpProg
import Derived.Laws.BytesArg
import Derived.Laws.Closers25
import Derived.Laws.Closers25b
import Derived.Laws.IdiomStrings
import Derived.Laws.OwnMore
import Derived.Laws.ResultCell
import Derived.Laws.Strings3
import Derived.Lib.AppendIntMem
import Derived.Lib.AppendStr
import Derived.Lib.ConvBytes
import Derived.Lib.Hide
import Derived.Lib.IndexBytes
import Derived.Lib.IndexMore
import Derived.Lib.ItoaMem
import Derived.Lib.ItoaNum
import Derived.Lib.Join
import Derived.Lib.ParseIntBMem
import Derived.Lib.Repeat
import Derived.Lib.Replace
import Derived.Lib.SlTrimSet
import Derived.Lib.SliceRun
import Derived.Lib.Split
import Derived.Lib.SplitLaws
import Derived.Lib.Strings
import Derived.Lib.Walk
import Derived.LoopIn
import Derived.LoopNIn
import Derived.Maps.AppendAt
import Derived.OneCell
import Derived.OpenShut
import Derived.Outline
import Derived.OwnWalkIn
import Derived.ProofKit
import Derived.RangeFuncBound
import Derived.RangeFuncBox
import Derived.RangeFuncCalls
import Derived.RangeFuncLeaves
import Derived.RangeFuncNested
import Derived.RegionTactic
import Derived.Shelf.Abstract
import Derived.Shelf.Bits.Mul64
import Derived.Shelf.RegionOpen
import Derived.Shelf.SlicesQ.IndexFunc
import Derived.Shelf.Strconv.AtoiAll
import Derived.Shelf.Strings.BuilderK
import Derived.Shelf.Strings.OnBuilder
import Derived.Shelf.Strings.SlTrimAscii
import Derived.StillTailTactics
import Derived.TacticsInMore
import Derived.WalkKit
import Derived.WalkLawsBesides
import Derived.WalkSmall
import Derived.WalkSpells
import Derived.WideKeyArgs
import Derived.Test.YtkhlfggnjcbniaaGreatDoorProg
import Derived.Test.YtkhlfggnjcbniaaGreatDoorRows
import Derived.Test.YtkhlfggnjcbniaaGreatDoorShelf
import Derived.Test.YtkhlfggnjcbniaaGreatDoorP0
import Derived.Test.YtkhlfggnjcbniaaGreatDoorP1
import Derived.Test.YtkhlfggnjcbniaaGreatDoorP2
import Derived.Test.YtkhlfggnjcbniaaGreatDoorP3
import Derived.Test.YtkhlfggnjcbniaaGreatDoorP4
import Derived.Test.YtkhlfggnjcbniaaGreatDoorP5
import Derived.Test.YtkhlfggnjcbniaaGreatDoorP6
import Derived.Test.YtkhlfggnjcbniaaGreatDoorP7
import Derived.Test.YtkhlfggnjcbniaaGreatDoorP8
import Derived.Test.YtkhlfggnjcbniaaGreatDoorP9
import Derived.Test.YtkhlfggnjcbniaaGreatDoorP10
import Derived.Test.YtkhlfggnjcbniaaGreatDoorP11
import Derived.Test.YtkhlfggnjcbniaaGreatDoorP12
import Derived.Test.YtkhlfggnjcbniaaGreatDoorP13
import Derived.Test.YtkhlfggnjcbniaaGreatDoorP14
import Derived.Test.YtkhlfggnjcbniaaGreatDoorP15
import Derived.Test.YtkhlfggnjcbniaaGreatDoorP16
import Derived.Test.YtkhlfggnjcbniaaGreatDoorP17
import Derived.Test.YtkhlfggnjcbniaaGreatDoorP18
import Derived.Test.YtkhlfggnjcbniaaGreatDoorP19
import Derived.Test.YtkhlfggnjcbniaaGreatDoorP20
import Derived.Test.YtkhlfggnjcbniaaGreatDoorP21
import Derived.Test.YtkhlfggnjcbniaaGreatDoorP22
import Derived.Test.YtkhlfggnjcbniaaGreatDoorP23
import Derived.Test.YtkhlfggnjcbniaaGreatDoorP24
import Derived.Test.YtkhlfggnjcbniaaGreatDoorP25
import Derived.Test.YtkhlfggnjcbniaaGreatDoorP26
import Derived.Test.YtkhlfggnjcbniaaGreatDoorP27
import Derived.Test.YtkhlfggnjcbniaaGreatDoorP28
import Derived.Test.YtkhlfggnjcbniaaGreatDoorP29
import Derived.Test.YtkhlfggnjcbniaaGreatDoorP30
import Derived.Test.YtkhlfggnjcbniaaGreatDoorP31
import Derived.Test.YtkhlfggnjcbniaaGreatDoorP32
import Derived.Test.YtkhlfggnjcbniaaGreatDoorP33
import Derived.Test.YtkhlfggnjcbniaaGreatDoorP34
import Derived.Test.YtkhlfggnjcbniaaGreatDoorP35
import Derived.Test.YtkhlfggnjcbniaaGreatDoorP36
namespace Go.Proofs.YtkhlfggnjcbniaaGreatDoor.doc
open Go.ChangeShapes Go.WideShapes Go.ChangeAt Go.RowKit Go.Lib Go.Proofs.YtkhlfggnjcbniaaGreatDoor.atr Go.Proofs.YtkhlfggnjcbniaaGreatDoor.link Go.Proofs.YtkhlfggnjcbniaaGreatDoor.ctl Go.Proofs.YtkhlfggnjcbniaaGreatDoor.stp

def thereP (l : List Nd) (cs : List Ctl) (k : Int) : Bool := decide (0 ≤ k) && decide (k < (l.length : Int)) && docR l cs
theorem there_iff (l : List Nd) (cs : List Ctl) (k : Int) : thereP l cs k = true ↔ inR l k ∧ l.length = cs.length ∧ rightB l = true := by
  unfold thereP inR
  rw [Bool.and_eq_true, Bool.and_eq_true, decide_eq_true_eq, decide_eq_true_eq, docR_iff]
def valV (l : List Nd) (cs : List Ctl) (k : Int) : List UInt8 := if kN l k = 23 then ValueP l cs k else ctl.valueP (kN l k) (ct cs k).value (ct cs k).files (nd l k).attrs
theorem node_fine {l : List Nd} (h : rightB l = true) (k : Nat) (hk : k < l.length) : aloneP (nd l (k : Int)) = true := by
  unfold rightB at h
  rw [Bool.and_eq_true, Bool.and_eq_true] at h
  have := List.all_eq_true.1 h.1.2 k (List.mem_range.2 hk)
  unfold nodeB at this
  simp only [Bool.and_eq_true] at this
  exact this.1.1.1
theorem atA_get (a : List Attr) (i : Nat) (h : i < a.length) : atA a i = a[i] := by
  unfold atA
  rw [List.getD_eq_getElem?_getD, List.getElem?_eq_getElem h]; rfl
/-- sizes of a right document's attributes -/
theorem attrs_fine {l : List Nd} (h : rightB l = true) (k : Nat) (hk : k < l.length) : (nd l (k : Int)).attrs.length ≤ 40 ∧ ∀ x ∈ (nd l (k : Int)).attrs, x.2.length ≤ 4000 := by
  have := node_fine h k hk
  unfold aloneP at this
  split at this
  · simp only [Bool.and_eq_true, decide_eq_true_eq, List.isEmpty_iff] at this
    have e := this.1.1
    rw [e]
    exact ⟨by decide, fun x hx => (by cases hx)⟩
  · simp only [Bool.and_eq_true, decide_eq_true_eq] at this
    refine ⟨this.1.2, fun x hx => ?_⟩
    obtain ⟨i, hi, rfl⟩ := List.mem_iff_getElem.1 hx
    have g := List.all_eq_true.1 this.2 i (List.mem_range.2 hi)
    unfold attrB1 at g
    simp only [Bool.and_eq_true, decide_eq_true_eq] at g
    rw [← atA_get _ _ hi]
    exact g.1.2
theorem fine_of {l : List Nd} (h : rightB l = true) (k : Nat) (hk : k < l.length) : Fine (nd l (k : Int)).attrs := by
  obtain ⟨h1, h2⟩ := attrs_fine h k hk
  exact ⟨by omega, fun a ha => by have := h2 a ha; omega⟩
theorem ct_get (cs : List Ctl) (k : Nat) (h : k < cs.length) : ct cs (k : Int) = cs[k] := by
  unfold ct
  rw [List.getD_eq_getElem?_getD, Int.toNat_natCast, List.getElem?_eq_getElem h]; rfl
set_option maxHeartbeats 1600000 in
set_option maxRecDepth 100000 in
theorem there_any (vn vc : Value) (l : List Nd) (cs : List Ctl) (k : Int) (w : World) (hD : DocAt w vn vc l cs) :
    Calls Tryz.prog 36 #[.agg #[vn, vc], .int .i64 k] w fun e w' => e = .returned (.bool (thereP l cs k)) ∧ Below w.heap.size w w' := by
  have hlen := hD.fine.len
  obtain ⟨oa, ca, rfl⟩ := NodesAt.lenN hD.nodes
  obtain ⟨oc, cc, rfl⟩ := CtlsAt.lenN hD.ctls
  have hB1 : Below w.heap.size w (w.alloc (.cells #[.slice oa l.length ca, .slice oc cs.length cc] 28)) := (Below.refl _ w).alloc (Nat.le_refl _) _
  have hr := docright_any (.slice oa l.length ca) l hD.fine oc cs.length cc _ (hD.nodes.below hB1)
  rw [show (decide (l.length = cs.length) && rightB l) = docR l cs from rfl] at hr
  have HX : Hid (thereP l cs k = (decide (0 ≤ k) && decide (k < (l.length : Int)) && docR l cs)) := Lib.hid rfl
  generalize thereP l cs k = res at *
  generalize docR l cs = q at *
  clear hD
  by_cases g1 : 0 ≤ k
  · by_cases g2 : k < (l.length : Int)
    · have HX2 : Hid (res = q) := Lib.hid (by rw [HX.out, decide_eq_true g1, decide_eq_true g2]; rfl)
      clear HX
      go_enter Tryz.func36, Tryz.ntmps36
      go_wp2_with fail
      refine hr.mono ?_
      rintro e w' ⟨rfl, hb⟩
      go_wp2_with fail
      go_ret
      exact ⟨ret_bool HX2.out.symm, below_trans hB1 hb⟩
    · have HX2 : Hid (res = false) := Lib.hid (by rw [HX.out, decide_eq_false g2]; simp)
      clear HX hr
      go_enter Tryz.func36, Tryz.ntmps36
      go_wp2_with fail
      go_ret
      exact ⟨ret_bool HX2.out.symm, hB1⟩
  · have HX2 : Hid (res = false) := Lib.hid (by rw [HX.out, decide_eq_false g1]; rfl)
    clear HX hr
    go_enter Tryz.func36, Tryz.ntmps36
    go_wp2_with fail
    go_ret
    exact ⟨ret_bool HX2.out.symm, hB1⟩
/-- the files' names are no longer than memory -/
def CtlsOk (cs : List Ctl) : Prop := ∀ c ∈ cs, ∀ x ∈ c.files, x.fname.length ≤ 140737488351232
/-- what is in the block: the document -/
theorem doc_cells (w : World) (oa oc : Option Addr) (n ca m cc : Nat) (T : TypeId) : (w.alloc (.cells #[.slice oa n ca, .slice oc m cc] T)).cell? ⟨w.heap.size, 0, none⟩ = some (.slice oa n ca) ∧ (w.alloc (.cells #[.slice oa n ca, .slice oc m cc] T)).cell? ⟨w.heap.size, 1, none⟩ = some (.slice oc m cc) :=
  ⟨World.cell?_alloc_new w _ _ 0, World.cell?_alloc_new w _ _ 1⟩
set_option maxHeartbeats 3200000 in
set_option maxRecDepth 100000 in
theorem vvalue_any (vn vc : Value) (l : List Nd) (cs : List Ctl) (hC : CtlsOk cs) (k : Nat) (hk : k < l.length) (hq : docR l cs = true) (w : World) (hD : DocAt w vn vc l cs) :
    Calls Tryz.prog 37 #[.agg #[vn, vc], .int .i64 k] w fun e w' => e = .returned (.string ⟨(valV l cs (k : Int)).toArray⟩) ∧ Below w.heap.size w w' := by
  obtain ⟨hlc, hR⟩ := (docR_iff l cs).1 hq
  have hlen := hD.fine.len
  have hkc : k < cs.length := by omega
  have HSel := Lib.hid (fun w' (h : Below w.heap.size w w') => selvalue_any vn vc l cs (k : Int) w' (hD.below h))
  have HDoc := Lib.hid hD
  obtain ⟨b, off, cap, rfl, hb⟩ := nodes_addr hD.nodes (by omega)
  obtain ⟨cb, coff, ccap, f, rfl, hcb, hct0⟩ := ctls_get hD.ctls k hkc
  have HC0 := Lib.hid hct0
  have HFin := Lib.hid (fine_of hR k hk)
  have HOf := Lib.hid (fun w' va vk h1 h2 => of_any (nd l (k : Int)) va vk (hD.fine.nd _ (by omega) (by omega)) w' h1 h2)
  have HK : Hid (kindP (nd l (k : Int)).name (nd l (k : Int)).attrs = kN l (k : Int)) := Lib.hid rfl
  rw [HK.out] at HOf
  have HV : Hid (valV l cs (k : Int) = if kN l (k : Int) = 23 then ValueP l cs (k : Int) else ctl.valueP (kN l (k : Int)) (ct cs (k : Int)).value (ct cs (k : Int)).files (nd l (k : Int)).attrs) := Lib.hid rfl
  have HCt : Hid (ct cs (k : Int) = cs[k]) := Lib.hid (ct_get cs k hkc)
  have HFn := Lib.hid (hC cs[k] (List.getElem_mem hkc))
  obtain ⟨va, vk, hn0⟩ := nodes_get hD.nodes k hk
  have HN0 := Lib.hid hn0
  obtain ⟨aa, ac, rfl⟩ := AttrsAt.lenN hn0.attrs
  obtain ⟨ka, kc, rfl⟩ := RowAt.lenN hn0.kids
  obtain ⟨n0, n1, n2, n3, n4, _, _, _⟩ := hn0
  obtain ⟨res, hres⟩ : ∃ r, r = valV l cs (k : Int) := ⟨_, rfl⟩
  rw [← hres] at HV ⊢
  generalize kN l (k : Int) = kd at *
  generalize hnn : nd l (k : Int) = n at *
  clear hres hq hR hnn HK hD hct0 hlc
  obtain ⟨wA, hwA⟩ : ∃ wA, wA = (w.alloc (.cells #[.slice (some ⟨b, off, none⟩) l.length cap, .slice (some ⟨cb, coff, none⟩) cs.length ccap] 28)).alloc (.cells #[.string ⟨n.name.toArray⟩, .string ⟨n.text.toArray⟩, .slice aa n.attrs.length ac, .int .i64 n.parent, .slice ka n.kids.length kc] 41) := ⟨_, rfl⟩
  have hBA : Below w.heap.size w wA := by rw [hwA]; exact ((Below.refl _ w).alloc (Nat.le_refl _) _).alloc (by simp) _
  have f0 : wA.cell? ⟨w.heap.size, 0, none⟩ = some (.slice (some ⟨b, off, none⟩) l.length cap) := by
    rw [hwA, World.cell?_alloc_lt _ _ _ (by simp)]; exact (doc_cells w _ _ _ _ _ _ _).1
  have f1 : wA.cell? ⟨w.heap.size, 1, none⟩ = some (.slice (some ⟨cb, coff, none⟩) cs.length ccap) := by
    rw [hwA, World.cell?_alloc_lt _ _ _ (by simp)]; exact (doc_cells w _ _ _ _ _ _ _).2
  have hg : ∀ j, wA.cell? ⟨w.heap.size + 1, j, none⟩ = [Value.string ⟨n.name.toArray⟩, .string ⟨n.text.toArray⟩, .slice aa n.attrs.length ac, .int .i64 n.parent, .slice ka n.kids.length kc][j]? := by
    intro j
    have := World.cell?_alloc_new (w.alloc (.cells #[.slice (some ⟨b, off, none⟩) l.length cap, .slice (some ⟨cb, coff, none⟩) cs.length ccap] 28)) #[.string ⟨n.name.toArray⟩, .string ⟨n.text.toArray⟩, .slice aa n.attrs.length ac, .int .i64 n.parent, .slice ka n.kids.length kc] 41 j
    rw [World.size_alloc] at this
    rw [hwA, this]; simp
  have e0 := hg 0
  have e1 := hg 1
  have e2 := hg 2
  have e3 := hg 3
  have e4 := hg 4
  dsimp only [List.getElem?_cons_zero, List.getElem?_cons_succ] at e0 e1 e2 e3 e4
  have hof := HOf.out wA (.slice aa n.attrs.length ac) (.slice ka n.kids.length kc) (HN0.out.attrs.below hBA) (HN0.out.kids.below hBA)
  unfold nodeV at hof
  clear hg
  go_enter Tryz.func37, Tryz.ntmps37
  go_wp2_with fail
  rw [← hwA]
  clear hwA n0 n1 n2 n3 n4
  refine hof.mono ?_
  rintro e w1 ⟨rfl, hb1⟩
  have f0 := cell_below hb1 f0
  have f1 := cell_below hb1 f1
  have e2 := cell_below hb1 e2
  have hB1 := below_trans hBA hb1
  clear hof e0 e1 e3 e4
  by_cases g23 : kd = 23
  · have gb : (kd != 23) = false := by simp [g23]
    have HX : Hid (res = ValueP l cs (k : Int)) := Lib.hid (by rw [HV.out, if_pos g23])
    have hs := HSel.out w1 hB1
    rw [← HX.out] at hs
    clear HV HX g23
    go_wp2_with fail
    refine hs.mono ?_
    rintro e w2 ⟨rfl, hb2⟩
    go_wp2_with fail
    go_ret
    exact ⟨rfl, below_trans hB1 hb2⟩
  have gb : (kd != 23) = true := by simpa using g23
  have hct := HC0.out.below hB1
  have HX : Hid (res = ctl.valueP kd cs[k].value cs[k].files n.attrs) := Lib.hid (by rw [HV.out, if_neg g23, HCt.out])
  have HVal := Lib.hid (fun w' (h : Below w.heap.size w w') => Value_any kd cs[k].value cs[k].dirty cs[k].typed cs[k].checked cs[k].dchecked cs[k].mixed cs[k].selected cs[k].dselected cs[k].custom f (HC0.out.below h).files.isSl (.slice aa n.attrs.length ac) n.attrs HFin.out cs[k].files (fun x hx => by have := HFn.out x hx; omega) w' (HN0.out.attrs.below h) (HC0.out.below h).files)
  rw [← HX.out] at HVal
  obtain ⟨fa, fn, fc, rfl⟩ := hct.files.isSl
  have a0 := hct.cells 0 _ rfl
  have a1 := hct.cells 1 _ rfl
  have a2 := hct.cells 2 _ rfl
  have a3 := hct.cells 3 _ rfl
  have a4 := hct.cells 4 _ rfl
  have a5 := hct.cells 5 _ rfl
  have a6 := hct.cells 6 _ rfl
  have a7 := hct.cells 7 _ rfl
  have a8 := hct.cells 8 _ rfl
  have a9 := hct.cells 9 _ rfl
  have hkc' : (k : Int) < (cs.length : Int) := by omega
  have h0 : (0 : Int) ≤ (k : Int) := by omega
  clear HV HX g23 hct HC0 HSel HCt HFn HDoc HFin HN0 HOf
  generalize cs[k] = x at *
  obtain ⟨v, d, t, ch, dc, m, s, ds, cu, fs⟩ := x
  dsimp only [Nat.add_zero] at a0 a1 a2 a3 a4 a5 a6 a7 a8 a9 HVal
  unfold ctlV at HVal
  go_wp2_with fail
  go_still_tail 8, (by kernel_rfl)
  change wpList _ _ _ _ _ w1.drew
  have hbd := hB1.drew
  generalize w1.drew = wd at *
  have hv := HVal.out wd hbd
  clear HVal a0 a1 a2 a3 a4 a5 a6 a7 a8 a9
  go_wp2_with fail
  refine hv.mono ?_
  rintro e w2 ⟨rfl, hb2⟩
  go_wp2_with fail
  go_ret
  exact ⟨rfl, below_trans hbd hb2⟩
end Go.Proofs.YtkhlfggnjcbniaaGreatDoor.doc
