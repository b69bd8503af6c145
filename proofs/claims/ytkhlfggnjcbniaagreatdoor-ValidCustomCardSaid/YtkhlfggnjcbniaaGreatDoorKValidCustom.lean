/- ValidCustom: for every input the law returns true, and its arguments read as they did: the row, then the card that ties the listed variables to the program's text. No condition. -/
import Derived.Deep.DeepHandedRow
import Derived.Lay
import Derived.Lib.LaidU8T
import Derived.PinnedBridge
import Derived.Test.YtkhlfggnjcbniaaGreatDoorCards
import Derived.Test.YtkhlfggnjcbniaaGreatDoorTie
import Derived.Test.YtkhlfggnjcbniaaGreatDoorP44
import Derived.Test.YtkhlfggnjcbniaaGreatDoorP45
set_option maxHeartbeats 12800000
set_option maxRecDepth 1000000
namespace Go.Proofs.YtkhlfggnjcbniaaGreatDoor.validCustom
open Go.ChangeShapes Go.WideShapes Go.ChangeAt Go.RowKit
open Go.ChangeMaps (shut_map_nil open_string shut_string)
set_option linter.unusedVariables false
theorem own : ownKnob Tryz.prog.godebug = none := by kernel_rfl
theorem gOf {W : World} (hL0 : laidMetH Tryz.prog Rows.validCustomRow.laid W) (hsh : W.ShapedOpen Tryz.prog) : G W := by
  have hL : laidMet Tryz.prog Rows.validCustomRow.laid W := by rw [← MakeChecks.laidMetH_plain _ _ _ (by kernel_rfl)]; exact hL0
  refine { ml := cell_of_shapedOpen_int (g := 6) hsh (by decide +kernel) (show _ = some (#[.int .i64 0], 3) by kernel_rfl) rfl (by kernel_rfl) (by kernel_rfl) Tryz.underlying3
           p10 := ?_ }
  have e : (Rows.laid_internal_strconv_uint64pow10 : DataW Unit) = Lib.tabData .u64 Lib.pow10Tab := by kernel_rfl
  have h : laidMet Tryz.prog (("internal/strconv.uint64pow10", Rows.laid_internal_strconv_uint64pow10) :: _) W := hL.tail.tail
  rw [e] at h
  exact Lib.tabIs_of_head gPow (by kernel_rfl) Tryz.underlying281 Tryz.underlying157 (by kernel_rfl) (by kernel_rfl) h
theorem gErr {W : World} (hL0 : laidMetH Tryz.prog Rows.validCustomRow.laid W) : GE W := by
 have hL : laidMet Tryz.prog Rows.validCustomRow.laid W := by rw [← MakeChecks.laidMetH_plain _ _ _ (by kernel_rfl)]; exact hL0
 have her : laidMet Tryz.prog (("strconv.ErrRange", Rows.laid_strconv_ErrRange) :: _) W := hL.tail.tail.tail.tail
 obtain ⟨aer, ser, ver, _⟩ := laid_sentinel her (show Tryz.prog.globalNamed "strconv.ErrRange" = some 5 by kernel_rfl) (show _ = some 90 by kernel_rfl) Tryz.underlying90 errRow Tryz.underlying257 Tryz.underlying259 rfl rfl Tryz.underlying9 (by kernel_rfl) (by kernel_rfl)
 have hes : laidMet Tryz.prog (("strconv.ErrSyntax", Rows.laid_strconv_ErrSyntax) :: _) W := hL.tail.tail.tail.tail.tail
 obtain ⟨aes, ses, ves, _⟩ := laid_sentinel hes (show Tryz.prog.globalNamed "strconv.ErrSyntax" = some 4 by kernel_rfl) (show _ = some 90 by kernel_rfl) Tryz.underlying90 errRow Tryz.underlying257 Tryz.underlying259 rfl rfl Tryz.underlying9 (by kernel_rfl) (by kernel_rfl)
 exact { er := ⟨_, by simpa using World.var?_cell (show Tryz.prog.globalNamed "strconv.ErrRange" = some 5 by kernel_rfl) ver 0, Or.inr ⟨_, _, rfl⟩⟩, es := ⟨_, by simpa using World.var?_cell (show Tryz.prog.globalNamed "strconv.ErrSyntax" = some 4 by kernel_rfl) ves 0, Or.inr ⟨_, _, rfl⟩⟩ }
theorem gUtf {W : World} (hL0 : laidMetH Tryz.prog Rows.validCustomRow.laid W) : GU W := by
 have hL : laidMet Tryz.prog Rows.validCustomRow.laid W := by rw [← MakeChecks.laidMetH_plain _ _ _ (by kernel_rfl)]; exact hL0
 have e3 : (Rows.laid_unicode_utf8_first : DataW Unit) = Lib.firstData := by kernel_rfl
 have e4 : (Rows.laid_unicode_utf8_acceptRanges : DataW Unit) = Lib.acceptData := by kernel_rfl
 have r3 : Lib.VarReads Tryz.prog W "unicode/utf8.first" Rows.laid_unicode_utf8_first := Lib.laidMet.reads hL (.tail _ (.tail _ (.tail _ (.tail _ (.tail _ (.tail _ (.head _)))))))
 have r4 : Lib.VarReads Tryz.prog W "unicode/utf8.acceptRanges" Rows.laid_unicode_utf8_acceptRanges := Lib.laidMet.reads hL (.tail _ (.tail _ (.tail _ (.head _))))
 rw [e3] at r3
 rw [e4] at r4
 exact ⟨utf8Tabs_of_readsT (U8Types.of196 Tryz.lays196) ⟨by kernel_rfl, by kernel_rfl, by kernel_rfl, by kernel_rfl, by kernel_rfl, by kernel_rfl, by kernel_rfl⟩ r3 r4⟩

theorem contract (H : Type) (enc : TypeId × Value → H) (W : World) (base : Nat) (args : Array Value) (ds gs : List (DataW H)) (before : List MemPlace)
  (hval : ∀ (j : Nat) t v, Tryz.f5.params[j]? = some t → args[j]? = some v → Value.okWide Tryz.prog W .any base t v)
  (hW : DataW.Whole enc Tryz.prog Tryz.f5.params.toList Rows.validCustomSpec.vars false W args.toList ds gs before) (hsz : (DataW.weightsEach Tryz.prog (Tryz.f5.params.toList ++ (OpenSpec.ofChange Rows.validCustomSpec).bare.plain.varTypes Tryz.prog) (ds ++ gs)).all (· ≤ reachBytes) = true) (hL : laidMetH Tryz.prog Rows.validCustomRow.laid W) (hsh : W.ShapedOpen Tryz.prog) :
  Calls Tryz.prog 5 args W fun e W' => ∃ v, e = .returned v ∧ Rows.validCustomSpec.post enc Tryz.prog Tryz.f5 false true false false W args v W' := by
 have hW' := hW
 obtain ⟨p, q, hA0, hV, rfl, hfz, hnd⟩ := hW
 have hA : DataW.TrodAll enc Tryz.prog W 0 (fun _ => true) true Tryz.f5.params.toList args.toList ds p := hA0
 have hA2 := hA
 have hlt : ∀ q ∈ p, q.block < W.heap.size := fun q hq => hA.lt q hq
 rw [Tryz.params5] at hA hval hsz
 obtain ⟨v0, vs0, d0, ds0, p0, q0, hargs, rfl, rfl, h0, r0⟩ := trodAll_cons hA
 obtain ⟨v1, vs1, d1, ds1, p1, q1, rfl, rfl, rfl, h1, r1⟩ := trodAll_cons r0
 obtain ⟨v2, vs2, d2, ds2, p2, q2, rfl, rfl, rfl, h2, r2⟩ := trodAll_cons r1
 obtain ⟨rfl, rfl, rfl⟩ := trodAll_nil r2
 obtain rfl : args = #[v0, v1, v2] := by cases args; simp_all
 obtain ⟨rfl, rfl⟩ := trodVars_none hV
 obtain ⟨vn0, vc0, l0, cs0, rfl, hN0, hFi0, hLb0, hCt0, hcb0, hco0⟩ := doc.open_doc (hval 0 28 v0 rfl rfl) h0 (Light.arg hsz (j := 0) rfl rfl) (fun q hq => hlt q (by simp [hq]))
 obtain ⟨a1, rfl, rfl, rfl, w1⟩ := open_int Tryz.underlying3 (hval 1 3 v1 rfl rfl) h1
 obtain ⟨a2, rfl, rfl, rfl, w2⟩ := open_string Tryz.underlying9 (hval 2 9 v2 rfl rfl) h2
 obtain ⟨l2, rfl⟩ : ∃ l : List UInt8, a2 = ⟨l.toArray⟩ := ⟨a2.data.toList, rfl⟩
 have z2 : l2.length ≤ 140737488351232 := sized_string hsz (j := 2) rfl rfl
 clear hA0
 simp only [List.append_nil] at hW'
 refine (doc.custom_walk vn0 vc0 l0 cs0 a1 w1 l2 w2 z2 W ⟨hFi0, hN0, hCt0, hcb0, fun c hc => (hco0 c hc).files⟩ hLb0 (fun c hc => (hco0 c hc).fname) (gOf hL hsh) (gErr hL) (gUtf hL)).mono fun e W' ⟨he, hb⟩ => ?_
 subst he
 have hty : ∀ t ∈ Tryz.f5.params.toList, Tryz.prog.readableRec t = true ∧ t < Tryz.prog.types.size := by
  intro t ht
  have := List.all_eq_true.1 (show (Tryz.f5.params.toList.all fun t => Tryz.prog.readableRec t && decide (t < Tryz.prog.types.size)) = true by kernel_rfl) t ht
  simpa using this
 exact ⟨_, rfl, _, _, _, [], _, [], hW', trodAll_cons_mk (shut_bool Tryz.underlying4 _) trodAll_mk0, trodAll_stays (by kernel_rfl) hty hA2 (fun q hq => hb.same (hlt q hq)) (fun q hq => by simpa using hlt q hq), rfl, hb.frame _, fun h => by cases h⟩

theorem laid_met (os : Os) : laidMetH Tryz.prog Rows.validCustomRow.laid ((World.laidAll Tryz.prog os Rows.validCustomRow.laid).forCall (fun _ _ => 0) ⟨#[], #[.agg #[.slice none 0 0, .slice none 0 0], .int .i64 0, .string ⟨#[]⟩], []⟩).memory := by
 rw [MakeChecks.laidMetH_plain _ _ _ (by kernel_rfl)]; exact laidMet_laidAll _ (by kernel_rfl) (by kernel_rfl)
theorem reads (os : Os) {H : Type} (enc : TypeId × Value → H) : ∃ places, DataW.whole enc Tryz.prog ((World.laidAll Tryz.prog os Rows.validCustomRow.laid).forCall (fun _ _ => 0) ⟨#[], #[.agg #[.slice none 0 0, .slice none 0 0], .int .i64 0, .string ⟨#[]⟩], []⟩).memory Tryz.f5.params.toList Rows.validCustomSpec.vars false #[Value.agg #[.slice none 0 0, .slice none 0 0], Value.int .i64 0, Value.string ⟨#[]⟩].toList 8 = some ([.agg [.nil, .nil], .lit (.int .i64 0), .lit (.string [])], [], places) :=
 ⟨[], by kernel_rfl⟩
theorem lifted (os : Os) (started : os.Started) (H : Type) (enc : TypeId × Value → H) (F : Stop.Interp) :
  ReturnsInHanded {} Tryz.checked os 5 .any ((OpenSpec.ofChange Rows.validCustomSpec).preRow enc Tryz.prog Tryz.f5 Rows.validCustomRow.domain false Rows.validCustomRow.laid) (((OpenSpec.ofChange Rows.validCustomSpec).at F).post enc Tryz.prog Tryz.f5 false true false false) := by
 obtain ⟨places, hx⟩ := reads os enc
 refine returnsInHanded_of_row (C := Tryz.checked) (s := (OpenSpec.ofChange Rows.validCustomSpec)) own started (by kernel_rfl) Tryz.func5
  ⟨World.laidAll Tryz.prog os Rows.validCustomRow.laid, fun _ _ => 0, ⟨#[], #[.agg #[.slice none 0 0, .slice none 0 0], .int .i64 0, .string ⟨#[]⟩], []⟩, World.laidAll_os _ _ _, World.shaped_of_ZipB (by kernel_rfl) (by kernel_rfl), rfl, (Input.okWide_of_okWideB (by kernel_rfl)).2,
   OpenSpec.preRow_of_cond 8 hx (by kernel_rfl) (fun k hk => by cases hk) (by kernel_rfl) (laid_met os), by simp [Assume.holds]⟩ ?_
 intro W base args ds gs before hval hW _ _ hsz hL hsh _
 exact contract H enc W base args ds gs before hval hW hsz hL hsh
theorem band {a b : Bool} (h : a = true) (g : b = true) : (a && b) = true := by rw [h, g]; rfl
theorem closed : joinedFacts Tryz.prog 5 Tryz.f5 (OpenSpec.ofChange Rows.validCustomSpec).bare Rows.validCustomRow = true := by
 unfold joinedFacts
 repeat' (with_reducible refine band ?_ ?_)
 all_goals (as_aux_lemma => kernel_rfl)
theorem said : Rows.ValidCustomSaid :=
 OpenClaim.holds_of_cond 5 Tryz.f5 rfl rfl rfl rfl rfl rfl rfl ⟨rfl, rfl, rfl, rfl, rfl⟩ rfl rfl rfl rfl rfl (by kernel_rfl) Tryz.func5 closed
  (of_decide_eq_true (by as_aux_lemma => kernel_rfl)) (by unfold Func.isWrapper; first | (rw [if_pos (by decide +kernel)]; kernel_rfl) | (rw [if_neg (by decide +kernel)]; exact ⟨rfl, rfl⟩))
  (fun os started H enc _ F => by rw [OpenClaim.pre_eq_preRow]; exact lifted os started H enc F)
theorem plain (f : FuncId) (fn : Func) (hf : Tryz.pinned.checked.prog.funcNamed "counterfoil/counterfoillaw18.ValidCustom" = some f) (hfn : Tryz.pinned.checked.prog.funcs[f]? = some fn) :
  true = Tryz.pinned.checked.prog.looks [] ∧ ∀ (j : Nat) t, fn.params[j]? = some t → Tryz.pinned.checked.prog.wantsStandIn t = false := by
 obtain rfl : f = 5 := Option.some.inj ((show Tryz.prog.funcNamed "counterfoil/counterfoillaw18.ValidCustom" = some 5 by kernel_rfl).symm.trans hf) |>.symm
 obtain rfl : fn = Tryz.f5 := (Option.some.inj (Tryz.func5.symm.trans hfn)).symm
 refine ⟨by kernel_rfl, fun j t ht => ?_⟩
 rw [Tryz.params5] at ht
 have hm : t ∈ [28, 3, 9] := by simpa using Array.mem_of_getElem? ht
 have hall : ([28, 3, 9].all fun u => !Tryz.prog.wantsStandIn u) = true := by kernel_rfl
 exact (show Tryz.prog.wantsStandIn t = false by simpa using List.all_eq_true.1 hall t hm)
theorem card : Rows.ValidCustomCardSaid :=
 Claim7.holds_tied_plain_at .later [] _ _ _ _ said (fun _ h => by cases h) (by as_aux_lemma => kernel_rfl) (fun _ h => by cases h) validCustom_row_tie rfl ⟨rfl, rfl⟩ (by as_aux_lemma => kernel_rfl) rfl plain (by as_aux_lemma => kernel_rfl)
#print axioms card
end Go.Proofs.YtkhlfggnjcbniaaGreatDoor.validCustom
