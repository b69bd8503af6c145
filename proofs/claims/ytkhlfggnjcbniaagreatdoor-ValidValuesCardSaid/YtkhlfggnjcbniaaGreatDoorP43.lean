/- The contract of the reference's Value. -/
import Derived.BigQuiet
import Derived.ChangeAlike
import Derived.Deep.AppendLies
import Derived.Deep.CutBlock
import Derived.Deep.DeepCutAuto
import Derived.Deep.MidRow
import Derived.Deep.RegionHeld
import Derived.Deep.RegionHeld3
import Derived.Deep.RegionLaw
import Derived.Deep.RegionLawGrows
import Derived.Deep.SlicePairs
import Derived.Deep.Slices
import Derived.Ground.MpProg
import Derived.Laws.BytesArg
import Derived.Laws.IdiomStrings
import Derived.Laws.OwnMore
import Derived.Lib.AppendStr
import Derived.Lib.Hide
import Derived.Lib.IndexBytes
import Derived.Lib.IndexMore
import Derived.Lib.ItoaMem
import Derived.Lib.ItoaNum
import Derived.Lib.Replace
import Derived.Lib.SlTrimSet
import Derived.Lib.SliceRun
import Derived.Lib.Strings
import Derived.LoopIn
import Derived.LoopNIn
import Derived.Maps.AppendAt
import Derived.OneCell
import Derived.OpenShut
import Derived.OwnWalkIn
import Derived.ProofKit
import Derived.RangeFuncBound
import Derived.RangeFuncBox
import Derived.RangeFuncCalls
import Derived.RangeFuncLeaves
import Derived.RangeFuncNested
import Derived.RegionTactic
import Derived.Shelf.Abstract
import Derived.Shelf.RegionOpen
import Derived.Shelf.SlicesQ.IndexFunc
import Derived.Shelf.Strconv.AtoiAll
import Derived.Shelf.Strings.BuilderK
import Derived.Shelf.Strings.SlTrimAscii
import Derived.StillTailTactics
import Derived.TacticsInMore
import Derived.WalkKit
import Derived.WalkSmall
import Derived.WalkSpells
import Derived.WideKeyArgs
import Derived.Test.YtkhlfggnjcbniaaGreatDoorRows
import Derived.Test.YtkhlfggnjcbniaaGreatDoorShelf
import Derived.Test.YtkhlfggnjcbniaaGreatDoorP0
import Derived.Test.YtkhlfggnjcbniaaGreatDoorP1
import Derived.Test.YtkhlfggnjcbniaaGreatDoorP2
import Derived.Test.YtkhlfggnjcbniaaGreatDoorP3
import Derived.Test.YtkhlfggnjcbniaaGreatDoorP5
import Derived.Test.YtkhlfggnjcbniaaGreatDoorP6
import Derived.Test.YtkhlfggnjcbniaaGreatDoorP7
import Derived.Test.YtkhlfggnjcbniaaGreatDoorP8
import Derived.Test.YtkhlfggnjcbniaaGreatDoorP9
import Derived.Test.YtkhlfggnjcbniaaGreatDoorP10
import Derived.Test.YtkhlfggnjcbniaaGreatDoorP11
import Derived.Test.YtkhlfggnjcbniaaGreatDoorP12
import Derived.Test.YtkhlfggnjcbniaaGreatDoorP13
import Derived.Test.YtkhlfggnjcbniaaGreatDoorP14
import Derived.Test.YtkhlfggnjcbniaaGreatDoorP17
import Derived.Test.YtkhlfggnjcbniaaGreatDoorP18
import Derived.Test.YtkhlfggnjcbniaaGreatDoorP19
import Derived.Test.YtkhlfggnjcbniaaGreatDoorP20
import Derived.Test.YtkhlfggnjcbniaaGreatDoorP21
import Derived.Test.YtkhlfggnjcbniaaGreatDoorP22
import Derived.Test.YtkhlfggnjcbniaaGreatDoorP23
import Derived.Test.YtkhlfggnjcbniaaGreatDoorP24
import Derived.Test.YtkhlfggnjcbniaaGreatDoorP25
import Derived.Test.YtkhlfggnjcbniaaGreatDoorP26
import Derived.Test.YtkhlfggnjcbniaaGreatDoorP27
namespace Go.Proofs.YtkhlfggnjcbniaaGreatDoor.doc
open Go.ChangeShapes Go.WideShapes Go.ChangeAt Go.RowKit Go.Lib Go.Proofs.YtkhlfggnjcbniaaGreatDoor.atr Go.Proofs.YtkhlfggnjcbniaaGreatDoor.link Go.Proofs.YtkhlfggnjcbniaaGreatDoor.ctl

theorem opt_is {l : List Nd} (hR : rightB l = true) {sel : Int} (hs : inR l sel) {o : Int} (ho : o ∈ optsP l sel) : isP l o 32 = true := by
  obtain ⟨h1, h2⟩ := opts_mem (right_rt l hR) sel hs o ho
  refine (isP_iff l o 32).2 ⟨h1, ?_, hR⟩
  unfold optB at h2
  simpa using h2
theorem list_mem {l : List Nd} {k o : Int} (ho : o ∈ listP l k) : inR l o ∧ isP l o 32 = true := by
  unfold listP at ho
  split at ho
  · rename_i h
    obtain ⟨h1, _, h3⟩ := (isP_iff l k 23).1 h
    exact ⟨(opts_mem (right_rt l h3) k h1 o ho).1, opt_is h3 h1 ho⟩
  · cases ho
theorem list_le (l : List Nd) (k : Int) : (listP l k).length ≤ 400 := by
  unfold listP
  split
  · rename_i h
    obtain ⟨h1, _, h3⟩ := (isP_iff l k 23).1 h
    exact opts_le l h3 k h1
  · exact Nat.zero_le _
theorem textP_val {l : List Nd} {o : Int} (h : isP l o 32 = true) : TextP l o = valueP l o := by unfold TextP; rw [if_pos h]
theorem ValueP_list (l : List Nd) (cs : List Ctl) (k : Int) (hq : docR l cs = true) : ValueP l cs k = match firstSel cs (listP l k) with | some o => valueP l o | none => [] := by
  unfold ValueP listP
  cases h : isP l k 23
  · rw [if_neg (by simp), if_neg (by simp)]; rfl
  · rw [if_pos ⟨hq, rfl⟩, if_pos rfl]; rfl

set_option maxHeartbeats 3200000 in
set_option maxRecDepth 100000 in
theorem rselvalue_any (vn vc : Value) (l : List Nd) (cs : List Ctl) (k : Int) (w : World) (hD : DocAt w vn vc l cs) :
    Calls Tryz.prog 56 #[.agg #[vn, vc], .int .i64 k] w fun e w' => e = .returned (.string ⟨(ValueP l cs k).toArray⟩) ∧ Below w.heap.size w w' := by
  have hD0 := hD
  obtain ⟨oa, ca, rfl⟩ := NodesAt.lenN hD.nodes
  obtain ⟨oc, cc, rfl⟩ := CtlsAt.lenN hD.ctls
  obtain ⟨wA, hwA⟩ : ∃ wA, wA = w.alloc (.cells #[.slice oa l.length ca, .slice oc cs.length cc] 28) := ⟨_, rfl⟩
  have hB1 : Below w.heap.size w wA := by rw [hwA]; exact (Below.refl _ w).alloc (Nat.le_refl _) _
  have f0 : wA.cell? ⟨w.heap.size, 0, none⟩ = some (.slice oa l.length ca) := by rw [hwA]; exact World.cell?_alloc_new w _ _ 0
  have f1 : wA.cell? ⟨w.heap.size, 1, none⟩ = some (.slice oc cs.length cc) := by rw [hwA]; exact World.cell?_alloc_new w _ _ 1
  have hr := rdocright_any (.slice oa l.length ca) l hD.fine oc cs.length cc wA (hD.nodes.below hB1)
  rw [show (decide (l.length = cs.length) && rightB l) = docR l cs from rfl] at hr
  cases hq : docR l cs
  · rw [hq] at hr
    have HE : Hid (ValueP l cs k = []) := Lib.hid (by unfold ValueP; rw [if_neg (by rw [hq]; simp)])
    rw [HE.out]
    clear hD hD0 hq f0 f1
    subst hwA
    go_enter Tryz.func56, Tryz.ntmps56
    go_wp2_with fail
    refine hr.mono ?_
    rintro e w1 ⟨rfl, hb1⟩
    go_wp2_with fail
    go_ret
    exact ⟨rfl, below_trans hB1 hb1⟩
  obtain ⟨hlc, hR⟩ := (docR_iff l cs).1 hq
  rw [hq] at hr
  have HX := Lib.hid (ValueP_list l cs k hq)
  have HL := Lib.hid (fun w' h => rlist_any (.slice oa l.length ca) l hD.fine k w' (hD.nodes.below (w' := w') h))
  have HM := Lib.hid (fun o (ho : o ∈ listP l k) => list_mem ho)
  have HT := Lib.hid (fun (o : Int) w' h => rtextU_any (.slice oa l.length ca) l hD.fine o w' (hD.nodes.below (w' := w') h))
  have HC := Lib.hid (fun w' h => hD.ctls.below (w' := w') h)
  have HLC := Lib.hid hlc
  have hol := list_le l k
  generalize listP l k = os at *
  generalize ValueP l cs k = r at *
  clear hD hD0 hq hlc hR
  subst hwA
  go_enter Tryz.func56, Tryz.ntmps56
  go_wp2_with fail
  refine hr.mono ?_
  rintro e w1 ⟨rfl, hb1⟩
  have f0 := cell_below hb1 f0
  have f1 := cell_below hb1 f1
  have hb01 := below_trans hB1 hb1
  clear hr
  go_wp2_with fail
  refine (HL.out w1 hb01).mono ?_
  rintro e w2 ⟨v6, rfl, hown, hb2⟩
  have f0 := cell_below hb2 f0
  have f1 := cell_below hb2 f1
  have hb02 := below_trans hb01 hb2
  have hos := hown.ints
  obtain ⟨sa, sc, rfl⟩ := RowAt.lenN hos
  clear hown HL
  go_wp2_with fail
  go_loopw [6] (fun s6 wr => ∃ m : Nat, s6 = .int .i64 m ∧ m ≤ os.length ∧ Hid (∀ o ∈ os.take m, selB cs o = false) ∧ Below w2.heap.size w2 wr) (fun s6 _ => os.length - (RowKit.intOf s6).toNat)
  case atStart => exact ⟨0, rfl, Nat.zero_le _, Lib.hid (fun o h => by cases h), Below.refl _ _⟩
  case round =>
    obtain ⟨m, rfl, hm, HS, hbw⟩ := hrel
    have hww := below_trans hb02 hbw
    have g0 := cell_below hbw f0
    have g1 := cell_below hbw f1
    by_cases hlt : m < os.length
    case neg =>
      obtain rfl : m = os.length := by omega
      have HE : Hid (r = []) := Lib.hid (by rw [HX.out, firstSel_none (by have := HS.out; rwa [List.take_length] at this)])
      obtain rfl := HE.out
      clear HE
      go_wp2_with fail
      go_ret
      exact ⟨rfl, hww⟩
    obtain ⟨kb, ko, kcap, e, hkb⟩ := IntsAt.addr hos (by omega)
    cases e
    have e0 := cell_below hbw (IntsAt.cellAt hos m hlt)
    have hmem := HM.out os[m] (List.getElem_mem hlt)
    have HSn := Lib.hid (take_snocI os m hlt)
    have HPr := Lib.hid (List.take_prefix (m + 1) os)
    generalize os[m] = c at *
    obtain ⟨⟨hc0, hc1⟩, hc32⟩ := hmem
    obtain ⟨cn, rfl⟩ : ∃ cn : Nat, c = (cn : Int) := ⟨c.toNat, by omega⟩
    have hcc : cn < cs.length := by have := HLC.out; omega
    have hcc' : (cn : Int) < (cs.length : Int) := by omega
    obtain ⟨cb, co, ccap, e, hcb⟩ := ctls_addr (HC.out wr hww) (by omega)
    cases e
    have c6 := ctls_sel (HC.out wr hww) cn hcc
    cases hsb : selB cs (cn : Int)
    case false =>
      rw [hsb] at c6
      have HS2 : Hid (∀ o ∈ os.take (m + 1), selB cs o = false) := Lib.hid (fun o ho => by
        rw [HSn.out, List.mem_append, List.mem_singleton] at ho
        rcases ho with ho | rfl
        · exact HS.out o ho
        · exact hsb)
      clear HS hsb
      go_wp2_with fail
      go_region
      all_goals
        go_wp2_with fail
        go_roundw
        case rel => exact ⟨m + 1, by go_num, by omega, HS2, by first | exact hbw.drew | exact hbw⟩
        case measure => simp [RowKit.intOf]; omega
    case true =>
      rw [hsb] at c6
      have HE : Hid (r = valueP l (cn : Int)) := Lib.hid (by rw [HX.out, firstSel_some HS.out hsb (by rw [← HSn.out]; exact HPr.out)])
      have hd : Below w.heap.size w wr.drew.drew := hww.drew.drew
      have ht := HT.out (cn : Int) wr.drew.drew hd
      rw [textP_val hc32, ← HE.out] at ht
      clear HS hsb HE
      have g0d : wr.drew.cell? ⟨w.heap.size, 0, none⟩ = some (.slice oa l.length ca) := g0
      have e0d : wr.drew.cell? ⟨kb, ko + m, none⟩ = some (.int .i64 (cn : Int)) := e0
      have hd1 := hww.drew
      go_wp2_with fail
      go_region
      generalize wr.drew = wd at *
      go_wp2_with fail
      go_still_tail 6, (by kernel_rfl)
      change wpList _ _ _ _ _ wd.drew
      generalize wd.drew = we at *
      go_wp2_with fail
      refine ht.mono ?_
      rintro e w5 ⟨rfl, hb5⟩
      clear ht
      go_wp2_with fail
      go_ret
      exact ⟨rfl, below_trans hd hb5⟩
end Go.Proofs.YtkhlfggnjcbniaaGreatDoor.doc
