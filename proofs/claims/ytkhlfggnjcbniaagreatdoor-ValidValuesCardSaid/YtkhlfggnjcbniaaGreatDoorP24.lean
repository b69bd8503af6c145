/- The contracts of option.value, Text, and of the reference's Text. -/
import Derived.BigQuiet
import Derived.ChangeAlike
import Derived.Deep.CutBlock
import Derived.Deep.DeepCutAuto
import Derived.Deep.MidRow
import Derived.Deep.RegionHeld3
import Derived.Deep.SlicePairs
import Derived.Deep.Slices
import Derived.Ground.MpProg
import Derived.Laws.BytesArg
import Derived.Laws.IdiomStrings
import Derived.Laws.OwnMore
import Derived.Lib.AppendStr
import Derived.Lib.Hide
import Derived.Lib.IndexBytes
import Derived.Lib.IndexMore
import Derived.Lib.ItoaMem
import Derived.Lib.ItoaNum
import Derived.Lib.Replace
import Derived.Lib.SlTrimSet
import Derived.Lib.Strings
import Derived.OpenShut
import Derived.ProofKit
import Derived.RegionTactic
import Derived.Shelf.SlicesQ.IndexFunc
import Derived.Shelf.Strconv.AtoiAll
import Derived.Shelf.Strings.BuilderK
import Derived.Shelf.Strings.SlTrimAscii
import Derived.WalkKit
import Derived.WalkSmall
import Derived.WalkSpells
import Derived.WideKeyArgs
import Derived.Test.YtkhlfggnjcbniaaGreatDoorRows
import Derived.Test.YtkhlfggnjcbniaaGreatDoorShelf
import Derived.Test.YtkhlfggnjcbniaaGreatDoorP0
import Derived.Test.YtkhlfggnjcbniaaGreatDoorP1
import Derived.Test.YtkhlfggnjcbniaaGreatDoorP2
import Derived.Test.YtkhlfggnjcbniaaGreatDoorP3
import Derived.Test.YtkhlfggnjcbniaaGreatDoorP5
import Derived.Test.YtkhlfggnjcbniaaGreatDoorP6
import Derived.Test.YtkhlfggnjcbniaaGreatDoorP7
import Derived.Test.YtkhlfggnjcbniaaGreatDoorP8
import Derived.Test.YtkhlfggnjcbniaaGreatDoorP9
import Derived.Test.YtkhlfggnjcbniaaGreatDoorP10
import Derived.Test.YtkhlfggnjcbniaaGreatDoorP11
import Derived.Test.YtkhlfggnjcbniaaGreatDoorP12
import Derived.Test.YtkhlfggnjcbniaaGreatDoorP19
import Derived.Test.YtkhlfggnjcbniaaGreatDoorP20
import Derived.Test.YtkhlfggnjcbniaaGreatDoorP21
import Derived.Test.YtkhlfggnjcbniaaGreatDoorP22
import Derived.Test.YtkhlfggnjcbniaaGreatDoorP23
namespace Go.Proofs.YtkhlfggnjcbniaaGreatDoor.doc
open Go.ChangeShapes Go.WideShapes Go.ChangeAt Go.RowKit Go.Lib Go.Proofs.YtkhlfggnjcbniaaGreatDoor.atr Go.Proofs.YtkhlfggnjcbniaaGreatDoor.link

theorem valueP_some (l : List Nd) (o : Int) (s : List UInt8) (h : fval nValue (nd l o).attrs = some s) : valueP l o = s := by unfold valueP; rw [h]
theorem valueP_none (l : List Nd) (o : Int) (h : fval nValue (nd l o).attrs = none) : valueP l o = collapseS (textP l o) := by unfold valueP; rw [h]
theorem textP_le {l : List Nd} (h : Rt l) (o : Int) (ho : inR l o) : (textP l o).length ≤ 1604000 := by
  rw [← txT_all]
  refine txT_le h o ho _ ?_
  have := seen_le l _ (kids_nodup h o ho) (fun x hx => (h.kid o x ho hx).1)
  have := h.few
  omega

set_option maxHeartbeats 1600000 in
set_option maxRecDepth 100000 in
theorem value_any (v : Value) (l : List Nd) (hL : LFine l) (hR : rightB l = true) (k : Nat) (hk : k < l.length) (w : World) (hA : NodesAt w v l) :
    Calls Tryz.prog 148 #[v, .int .i64 k] w fun e w' => e = .returned (.string ⟨(valueP l (k : Int)).toArray⟩) ∧ Below w.heap.size w w' := by
  have hRt := right_rt l hR
  have hf := hRt.few
  obtain ⟨b, off, cap, rfl, hb⟩ := nodes_addr hA (by omega)
  have HN := Lib.hid (fun w' (h : Below w.heap.size w w') => nodes_get (hA.below h) k hk)
  have hfn := hL.nd (k : Int) (by omega) (by omega)
  have HTx := Lib.hid (fun w' (h : Below w.heap.size w w') => ttext_any _ l hL hR k hk w' (hA.below h))
  have HCo := Lib.hid (fun w' => collapse_any (textP l (k : Int)) (by have := textP_le hRt (k : Int) ⟨by omega, by omega⟩; omega) w')
  have HV1 := Lib.hid (valueP_some l (k : Int))
  have HV2 := Lib.hid (valueP_none l (k : Int))
  obtain ⟨vak, vkk, hnk⟩ := HN.out w (Below.refl _ _)
  have eg : ∀ args w, (callFunc 223 args).run Tryz.prog w = .ok (.enter 223 args) w := enters_of Tryz.func223 (by kernel_rfl) rfl
  have hI := idxfN_any 223 #[] eg nValue vak _ hfn.attrs w hnk.attrs (pred_value w)
  have hw := Lib.hid (fint_ways nValue (nd l (k : Int)).attrs)
  have HAt := Lib.hid hnk.attrs
  have c2 := hnk.c2
  have h0 : (0 : Int) ≤ (k : Int) := by omega
  have hk' : (k : Int) < (l.length : Int) := by omega
  obtain ⟨aa, ac, rfl⟩ := AttrsAt.lenN HAt.out
  generalize valueP l (k : Int) = res at *
  generalize collapseS (textP l (k : Int)) = cs at *
  generalize textP l (k : Int) = tx at *
  generalize (nd l (k : Int)).attrs = at0 at *
  generalize fint nValue at0 = fi at *
  clear hnk hRt hR hL hA hfn eg HN
  go_enter Tryz.func148, Tryz.ntmps148
  go_wp2_with fail
  refine hI.mono ?_
  rintro e w1 ⟨rfl, hb1⟩
  clear hI
  rcases hw.out with ⟨j, hj, h1, _, _, h4⟩ | ⟨h1, _, h3⟩
  · subst h1
    rcases HAt.out with ⟨rfl, _⟩ | ⟨b2, off2, cap2, e, h02, hb2, hR2⟩
    · exact absurd hj (Nat.not_lt_zero _)
    cases e
    have cv := cell_below hb1 (hR2 j hj).2
    have c2 := cell_below hb1 c2
    have HX : Hid (at0[j].2 = res) := Lib.hid (HV1.out _ h4).symm
    rw [HX.out] at cv
    clear h4 hR2 hw HX HV1 HV2 HTx HCo
    go_wp2_with fail
    go_ret
    exact ⟨rfl, hb1⟩
  · subst h1
    have HX := Lib.hid (HV2.out h3)
    have htx := HTx.out w1 hb1
    clear h3 HV1 HV2 c2 hw
    go_wp2_with fail
    refine htx.mono ?_
    rintro e w2 ⟨rfl, hb2⟩
    have hco := HCo.out w2
    clear htx
    go_wp2_with fail
    refine hco.mono ?_
    rintro e w3 ⟨rfl, hb3⟩
    go_wp2_with fail
    go_ret
    exact ⟨ret_str HX.out.symm, below_trans hb1 (below_trans hb2 hb3)⟩

set_option maxHeartbeats 1600000 in
set_option maxRecDepth 100000 in
theorem rtextU_any (v : Value) (l : List Nd) (hL : LFine l) (k : Int) (w : World) (hA : NodesAt w v l) :
    Calls Tryz.prog 124 #[v, .int .i64 k] w fun e w' => e = .returned (.string ⟨(TextP l k).toArray⟩) ∧ Below w.heap.size w w' := by
  have hi := ris_any v l k 32 hL w hA
  have HP : Hid (TextP l k = if isP l k 32 then valueP l k else []) := Lib.hid rfl
  cases hq : isP l k 32
  · rw [hq] at hi HP
    have HX : Hid (TextP l k = []) := Lib.hid HP.out
    obtain ⟨oa, cap, rfl⟩ := NodesAt.lenN hA
    generalize TextP l k = r at *
    obtain rfl := HX.out
    clear hA hq HP hL HX
    go_enter Tryz.func124, Tryz.ntmps124
    go_wp2_with fail
    refine hi.mono ?_
    rintro e w1 ⟨rfl, hb1⟩
    go_wp2_with fail
    go_ret
    exact ⟨rfl, hb1⟩
  · obtain ⟨⟨h0, h1⟩, _, hR⟩ := (isP_iff l k 32).1 hq
    rw [hq] at hi HP
    have HX : Hid (TextP l k = valueP l k) := Lib.hid HP.out
    obtain ⟨kn, rfl⟩ : ∃ kn : Nat, k = (kn : Int) := ⟨k.toNat, by omega⟩
    have hk : kn < l.length := by omega
    have hRt := right_rt l hR
    have hf := hRt.few
    obtain ⟨b, off, cap, rfl, hb⟩ := nodes_addr hA (by omega)
    have HN := Lib.hid (fun w' (h : Below w.heap.size w w') => nodes_get (hA.below h) kn hk)
    have hfn := hL.nd (kn : Int) (by omega) (by omega)
    have HTx := Lib.hid (fun w' (h : Below w.heap.size w w') => rtext_any _ l hR kn hk w' (hA.below h))
    have HCo := Lib.hid (fun w' => rcollapse_any (textP l (kn : Int)) (by have := textP_le hRt (kn : Int) ⟨by omega, by omega⟩; omega) w')
    have HV1 := Lib.hid (valueP_some l (kn : Int))
    have HV2 := Lib.hid (valueP_none l (kn : Int))
    have HAttr := Lib.hid (fun w' va h => rattrN_any va (nd l (kn : Int)).attrs nValue hfn.attrs w' h)
    have HSb : Hid (attrB nValue (nd l (kn : Int)).attrs = (fval nValue (nd l (kn : Int)).attrs).isSome ∧ attrS nValue (nd l (kn : Int)).attrs = (fval nValue (nd l (kn : Int)).attrs).getD []) := Lib.hid ⟨rfl, rfl⟩
    generalize TextP l (kn : Int) = res at *
    generalize valueP l (kn : Int) = r2 at *
    generalize collapseS (textP l (kn : Int)) = cs at *
    generalize textP l (kn : Int) = tx at *
    generalize attrB nValue (nd l (kn : Int)).attrs = sb at *
    generalize attrS nValue (nd l (kn : Int)).attrs = s at *
    clear hA hq HP hL hR hRt hfn
    go_enter Tryz.func124, Tryz.ntmps124
    go_wp2_with fail
    refine hi.mono ?_
    rintro e w1 ⟨rfl, hb1⟩
    clear hi
    obtain ⟨va, vk, hn⟩ := HN.out w1 hb1
    have hat := HAttr.out w1 va hn.attrs
    have c2 := hn.c2
    clear hn HAttr
    cases hv : fval nValue (nd l (kn : Int)).attrs with
    | some x =>
      have HY : Hid (sb = true ∧ s = res) := Lib.hid ⟨by rw [HSb.out.1, hv]; rfl, by rw [HX.out, HV1.out x hv, HSb.out.2, hv]; rfl⟩
      obtain ⟨rfl, rfl⟩ := HY.out
      clear hv HY HSb HV1 HV2 HX HTx HCo
      go_wp2_with fail
      refine hat.mono ?_
      rintro e w2 ⟨rfl, rfl⟩
      go_wp2_with fail
      go_ret
      exact ⟨rfl, hb1⟩
    | none =>
      have HY : Hid (sb = false ∧ res = cs) := Lib.hid ⟨by rw [HSb.out.1, hv]; rfl, by rw [HX.out, HV2.out hv]⟩
      obtain ⟨rfl, rfl⟩ := HY.out
      have htx := HTx.out w1 hb1
      clear hv HY HSb HV1 HV2 HX
      go_wp2_with fail
      refine hat.mono ?_
      rintro e w2 ⟨rfl, rfl⟩
      clear hat c2
      go_wp2_with fail
      refine htx.mono ?_
      rintro e w2 ⟨rfl, rfl⟩
      have hco := HCo.out w1
      clear htx
      go_wp2_with fail
      refine hco.mono ?_
      rintro e w3 ⟨rfl, hb3⟩
      go_wp2_with fail
      go_ret
      exact ⟨rfl, below_trans hb1 hb3⟩
end Go.Proofs.YtkhlfggnjcbniaaGreatDoor.doc
