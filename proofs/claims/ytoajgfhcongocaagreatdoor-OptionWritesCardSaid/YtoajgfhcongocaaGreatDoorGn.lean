/- option.Value, of a select. The contract of the reference's Value. The contract of option.Value. -/
import Derived.Test.YtoajgfhcongocaaGreatDoorGl
import Derived.Test.YtoajgfhcongocaaGreatDoorGi
import Derived.Test.YtoajgfhcongocaaGreatDoorGc
import Derived.Test.YtoajgfhcongocaaGreatDoorGk
import Derived.StillTailTactics
namespace Go.Proofs.YtoajgfhcongocaaGreatDoor.doc
open Go.ChangeShapes Go.WideShapes Go.ChangeAt Go.RowKit Go.Lib Go.Shelf Go.Proofs.YtoajgfhcongocaaGreatDoor.atr Go.Proofs.YtoajgfhcongocaaGreatDoor.link Go.Proofs.YtoajgfhcongocaaGreatDoor.ctl
attribute [local go_sem] Oper.semAt_some

theorem firstSel_none {cs : List Ctl} {os : List Int} (h : ∀ o ∈ os, selB cs o = false) : firstSel cs os = none := by
  unfold firstSel
  rw [List.find?_eq_none]
  intro o ho
  rw [h o ho]; simp
theorem firstSel_some {cs : List Ctl} {os pre : List Int} {x : Int} (h : ∀ o ∈ pre, selB cs o = false) (hx : selB cs x = true) (hp : pre ++ [x] <+: os) : firstSel cs os = some x := by
  obtain ⟨r, rfl⟩ := hp
  unfold firstSel
  rw [List.append_assoc, List.find?_append, List.find?_eq_none.2 (fun o ho => by rw [h o ho]; simp)]
  simp [hx]
/-- one field of a state that is read -/
theorem ctls_sel {w : World} {b off n cap : Nat} {cs : List Ctl} (h : CtlsAt w (.slice (some ⟨b, off, none⟩) n cap) cs) (o : Nat) (ho : o < cs.length) : w.cell? ⟨b, off + o * 10 + 6, none⟩ = some (.bool (selB cs (o : Int))) := by
  obtain ⟨b', off', cap', f, e, _, hat⟩ := ctls_get h o ho
  cases e
  refine hat.cells 6 _ ?_
  rw [selB_at cs o ho]; rfl
theorem ctls_addr {w : World} {v : Value} {cs : List Ctl} (h : CtlsAt w v cs) (h0 : 0 < cs.length) : ∃ b off cap, v = .slice (some ⟨b, off, none⟩) cs.length cap ∧ b < w.heap.size := by
  obtain ⟨b, off, cap, _, e, hb, _⟩ := ctls_get h 0 h0
  exact ⟨b, off, cap, e, hb⟩

set_option maxHeartbeats 6400000 in
set_option maxRecDepth 100000 in
theorem value_loop (vn vc : Value) (l : List Nd) (cs : List Ctl) (w : World) (hD : DocAt w vn vc l cs) (hq : docR l cs = true) (sel : Nat) (hi : isP l (sel : Int) 23 = true) :
    Calls Tryz.prog 25 #[.agg #[vn, vc], .int .i64 (sel : Int)] w fun e w' => e = .returned (.string ⟨(selValue l cs (sel : Int)).toArray⟩) ∧ Below w.heap.size w w' := by
  obtain ⟨hlc, hR⟩ := (docR_iff l cs).1 hq
  have hRt := right_rt l hR
  have hf := hRt.few
  obtain ⟨hin, _, _⟩ := (isP_iff l (sel : Int) 23).1 hi
  have hs : sel < l.length := by have := hin.2; omega
  obtain ⟨b, off, cap, rfl, hb⟩ := nodes_addr hD.nodes (by omega)
  obtain ⟨cb, co, cc, rfl, hcb⟩ := ctls_addr hD.ctls (by omega)
  obtain ⟨wA, hwA⟩ : ∃ wA, wA = (w.alloc (.cells #[.slice (some ⟨b, off, none⟩) l.length cap, .slice (some ⟨cb, co, none⟩) cs.length cc] 25)).alloc (.cells #[.string ⟨#[]⟩] 9) := ⟨_, rfl⟩
  have hB1 : Below w.heap.size w wA := by rw [hwA]; exact ((Below.refl _ w).alloc (Nat.le_refl _) _).alloc (by simp) _
  have bR : Boxed wA (w.heap.size + 1) 9 (.string ⟨#[]⟩) := by
    rw [hwA]
    have := Boxed.new (w.alloc (.cells #[.slice (some ⟨b, off, none⟩) l.length cap, .slice (some ⟨cb, co, none⟩) cs.length cc] 25)) 9 (.string ⟨#[]⟩)
    rw [World.size_alloc] at this
    exact this
  have hf01 : wA.cell? ⟨w.heap.size, 0, none⟩ = some (.slice (some ⟨b, off, none⟩) l.length cap) ∧ wA.cell? ⟨w.heap.size, 1, none⟩ = some (.slice (some ⟨cb, co, none⟩) cs.length cc) := by
    rw [hwA]
    have hx := (Below.refl (w.alloc (.cells #[.slice (some ⟨b, off, none⟩) l.length cap, .slice (some ⟨cb, co, none⟩) cs.length cc] 25)).heap.size (w.alloc (.cells #[.slice (some ⟨b, off, none⟩) l.length cap, .slice (some ⟨cb, co, none⟩) cs.length cc] 25))).alloc (Nat.le_refl _) (.cells #[.string ⟨#[]⟩] 9)
    exact ⟨cell_below hx (World.cell?_alloc_new w _ _ 0), cell_below hx (World.cell?_alloc_new w _ _ 1)⟩
  obtain ⟨f0, f1⟩ := hf01
  have hr := docright_any (.slice (some ⟨b, off, none⟩) l.length cap) l hD.fine (some ⟨cb, co, none⟩) cs.length cc wA (hD.nodes.below hB1)
  rw [show (decide (l.length = cs.length) && rightB l) = docR l cs from rfl, hq] at hr
  replace hr := (callsIn_wide (n := 999)).2 hr
  have HI := Lib.hid (fun w' h => (callsIn_wide (n := 999)).2 (is_any (.slice (some ⟨b, off, none⟩) l.length cap) l (sel : Int) 23 hD.fine w' (hD.nodes.below (w' := w') h)))
  rw [hi] at HI
  have HD := Lib.hid hD
  have HLC := Lib.hid hlc
  have HR := Lib.hid hR
  have h0' : (0 : Int) ≤ (sel : Int) := by omega
  have hs' : (sel : Int) < (l.length : Int) := by omega
  have HX : Hid (selValue l cs (sel : Int) = match firstSel cs (optsP l (sel : Int)) with | some o => valueP l o | none => []) := Lib.hid rfl
  clear hD hq hi hin hlc hR hRt
  subst hwA
  refine (callsIn_wide (n := 1000)).1 ?_
  refine callsIn_of_wp_marks Tryz.func25 rfl trivial ?_ rfl
  simp only [Tryz.ntmps25, List.size_toArray, List.length_cons, List.length_nil, Nat.reduceAdd, Nat.reduceSub, Array.replicate_succ, Array.replicate_zero, List.push_toArray, List.append_toArray, List.nil_append, List.cons_append]
  gi_wp2
  refine ⟨trivial, hr.mono ?_⟩
  rintro e w1 ⟨rfl, hb1⟩
  have f0 := cell_below hb1 f0
  have f1 := cell_below hb1 f1
  have bR := boxed_below bR hb1
  have hb01 := below_trans hB1 hb1
  clear hr
  gi_wp2
  refine ⟨trivial, (HI.out w1 hb01).mono ?_⟩
  rintro e w7 ⟨rfl, hb7⟩
  have f0 := cell_below hb7 f0
  have f1 := cell_below hb7 f1
  have bR := boxed_below bR hb7
  have hb07 := below_trans hb01 hb7
  have HZ7 := Lib.hid bR.lt
  clear HI
  have ho := (callsIn_wide (n := 999)).2 (options_any (.slice (some ⟨b, off, none⟩) l.length cap) (sel : Int) ⟨_, _, _, rfl⟩ w7)
  gi_wp2
  refine ⟨trivial, ho.mono ?_⟩
  rintro e w' ⟨rfl, rfl⟩
  clear ho
  gi_wp2
  obtain ⟨w8, hw8⟩ : ∃ w8, w8 = (w7.alloc (.cells #[.slice (some ⟨b, off, none⟩) l.length cap] 22)).alloc (.cells #[.int .i64 (sel : Int)] 3) := ⟨_, rfl⟩
  have hsz : w8.heap.size = w7.heap.size + 1 + 1 := by rw [hw8]; simp
  have hb78 : Below w7.heap.size w7 w8 := by rw [hw8]; exact ((Below.refl _ w7).alloc (Nat.le_refl _) _).alloc (by simp) _
  have bL : Boxed w8 w7.heap.size 22 (.slice (some ⟨b, off, none⟩) l.length cap) := by rw [hw8]; exact (Boxed.new w7 _ _).alloc _
  have bS : Boxed w8 (w7.heap.size + 1) 3 (.int .i64 (sel : Int)) := by
    have := Boxed.new (w7.alloc (.cells #[.slice (some ⟨b, off, none⟩) l.length cap] 22)) 3 (.int .i64 (sel : Int))
    rw [World.size_alloc] at this
    rw [hw8]; exact this
  have bR := boxed_below bR hb78
  have f0 := cell_below hb78 f0
  have f1 := cell_below hb78 f1
  have hzR := bR.lt
  have hz07 := hb07.size
  have hz7 : w.heap.size + 1 < w7.heap.size := HZ7.out
  have hB0 : Below w.heap.size w w8 := below_trans hb07 hb78
  first | rw [← hw8] | (simp only [← hw8])
  clear hw8
  have hA := HD.out.nodes
  have HDn := Lib.hid (fun w' (h : Below w.heap.size w w') => hA.below h)
  have HDc := Lib.hid (fun w' (h : Below w.heap.size w w') => HD.out.ctls.below h)
  refine wpIn_rangeFunc_ownG rfl (by omega) (gf := 64) (lb := #[.pointer (some ⟨w7.heap.size, 0, none⟩), .pointer (some ⟨w7.heap.size + 1, 0, none⟩)]) rfl trivial (enters_of Tryz.func64 (by kernel_rfl) rfl)
    (opts_stops l HD.out.fine HR.out sel hs _ w hA 999 (by omega) w7.heap.size (w7.heap.size + 1) w8 hB0 bL.lt bS.lt bL.cell bS.cell) (fun h k => h.trans k) (Kp.put (by omega)) (Below.refl _ _) (fun _ => rfl)
    (fun pre W => ((∀ o ∈ vals pre, selB cs o = false) ∧ Boxed W (w.heap.size + 1) 9 (.string ⟨#[]⟩) ∧ W.cell? ⟨w.heap.size, 0, none⟩ = some (.slice (some ⟨b, off, none⟩) l.length cap) ∧ W.cell? ⟨w.heap.size, 1, none⟩ = some (.slice (some ⟨cb, co, none⟩) cs.length cc)) ∧ Below w.heap.size w8 W)
    (fun c pre W => (c = .ret ∧ ∃ p x, vals pre = p ++ [x] ∧ (∀ o ∈ p, selB cs o = false) ∧ selB cs x = true ∧ Boxed W (w.heap.size + 1) 9 (.string ⟨(valueP l x).toArray⟩)) ∧ Below w.heap.size w8 W)
    (OwnFrom.and (Own.from (fun s A B row hs hg hr => ⟨hs.1, boxed_keptO hs.2.1 hg hr, cell_kept hs.2.2.1 hg hr, cell_kept hs.2.2.2 hg hr⟩) _) (ownFrom_below (by omega) (by omega)))
    (fun c => OwnFrom.and (Own.from (fun s A B row hs hg hr => by
      obtain ⟨hc, p, x, h1, h2, h3, h4⟩ := hs
      exact ⟨hc, p, x, h1, h2, h3, boxed_keptO h4 hg hr⟩) _) (ownFrom_below (by omega) (by omega)))
    ⟨⟨fun o ho => (by cases ho), bR, f0, f1⟩, Below.refl _ _⟩
    (fun x => { tmps := #[.agg #[.slice (some ⟨b, off, none⟩) l.length cap, .slice (some ⟨cb, co, none⟩) cs.length cc], .int .i64 (sel : Int), .pointer (some ⟨w.heap.size, 0, none⟩), undef, .pointer (some ⟨w.heap.size + 1, 0, none⟩), .int .i64 x.1, .agg #[.slice (some ⟨b, off, none⟩) l.length cap, .slice (some ⟨cb, co, none⟩) cs.length cc], .bool true, .bool false, .bool false, .pointer (some ⟨w.heap.size, 0, none⟩), .slice (some ⟨b, off, none⟩) l.length cap, .int .i64 (sel : Int), .bool true, .bool false, .bool false, .pointer (some ⟨w.heap.size, 0, none⟩), .slice (some ⟨b, off, none⟩) l.length cap, .int .i64 (sel : Int), .func (.func 64) #[] #[.pointer (some ⟨w7.heap.size, 0, none⟩), .pointer (some ⟨w7.heap.size + 1, 0, none⟩)], .int .i64 x.1, undef, undef, undef, undef, undef, undef, undef, undef, undef, undef], defers := [] }) ?assign ?body ?done ?stop
  case assign =>
    intro l x W K hK
    gi_wp2
    exact hK
  case body =>
    rintro lp pre ⟨x, hx⟩ W ⟨⟨hsel, hbR, g0, g1⟩, hB⟩ hlt
    obtain ⟨hxr, _⟩ := opts_mem (right_rt l HR.out) (sel : Int) ⟨h0', hs'⟩ x hx
    obtain ⟨xn, rfl⟩ : ∃ xn : Nat, x = (xn : Int) := ⟨x.toNat, by have := hxr.1; omega⟩
    have hxn : xn < l.length := by have := hxr.2; omega
    have hxc : xn < cs.length := by have := HLC.out; omega
    have hxc' : (xn : Int) < (cs.length : Int) := by omega
    have hxn0 : (0 : Int) ≤ (xn : Int) := by omega
    have hWz := hB.size
    have hBW := hB0.trans hB
    have c6 := ctls_sel (HDc.out W hBW) xn hxc
    have hval := (callsIn_wide (n := 999 - 1 - 1)).2 (value_any (.slice (some ⟨b, off, none⟩) l.length cap) l HD.out.fine HR.out xn hxn W (HDn.out W hBW))
    have HV : Hid (vals (pre ++ [(⟨(xn : Int), hx⟩ : Opt l (sel : Int))]) = vals pre ++ [(xn : Int)]) := Lib.hid (vals_snoc pre ⟨(xn : Int), hx⟩)
    have HSel := Lib.hid hsel
    clear hsel
    cases hsb : selB cs (xn : Int)
    case false =>
      rw [hsb] at c6
      have HX1 := Lib.hid hsb
      clear hsb hval
      gi_wp2
      refine ⟨KeepsFrom.refl _ _, Kp.refl _ _ _ _, ⟨fun o ho => ?_, hbR, g0, g1⟩, hB⟩
      rw [HV.out, List.mem_append, List.mem_singleton] at ho
      rcases ho with ho | rfl
      · exact HSel.out o ho
      · exact HX1.out
    case true =>
      rw [hsb] at c6
      have HX1 := Lib.hid hsb
      clear hsb
      gi_wp2
      refine ⟨trivial, hval.mono ?_⟩
      rintro e wq ⟨rfl, hbq⟩
      have bq := boxed_below hbR hbq
      have cq := bq.cell
      have zq := bq.frozen
      have HBq := Lib.hid (bq.set (.string ⟨(valueP l (xn : Int)).toArray⟩))
      have hbl := (hB.trans (hbq.mono (by omega))).setCell (p := ⟨w.heap.size + 1, 0, none⟩) (by show w.heap.size ≤ w.heap.size + 1; omega) (.string ⟨(valueP l (xn : Int)).toArray⟩)
      clear bq hval
      gi_wp2
      exact ⟨((KeepsOthers.of_grownBy (grownBy_below (row := none) hbq) (fun _ _ e => by cases e)).trans (KeepsOthers.setCell _ _ _)).from _, ⟨rfl, vals pre, (xn : Int), HV.out, HSel.out, HX1.out, HBq.out⟩, hbl⟩
  case done =>
    rintro D ys W hD hys ⟨⟨hsel, hbR, g0, g1⟩, hB⟩ hK
    rw [hys] at hsel
    have HE : Hid (selValue l cs (sel : Int) = []) := Lib.hid (by rw [HX.out, firstSel_none hsel])
    have cR := hbR.cell
    have zR := hbR.frozen
    have HbR := Lib.hid (hbR.set (.string ⟨#[]⟩))
    clear hsel hbR
    gi_wp2
    have hK2 := (KeepsOthers.setCell W ⟨w.heap.size + 1, 0, none⟩ (.string ⟨#[]⟩)).same D _ hK rfl
    have hfin := ((hB0.trans hB).setCell (p := ⟨w.heap.size + 1, 0, none⟩) (by show w.heap.size ≤ w.heap.size + 1; omega) (.string ⟨#[]⟩)).trans (belowK_b (w := w) (Nat.le_refl _) _ D _ (.deferred none) (by omega) hK2 rfl rfl)
    have cF := (boxed_keptO HbR.out (grownBy_putObj' _ D (.deferred none)) (fun r e => by cases e; exact ⟨_, hK2, rfl⟩)).cell
    refine ⟨by simp, .inl ⟨_, _, rfl, run_takeDeferred hK2, ?_⟩⟩
    refine ⟨.string ⟨#[]⟩, by rw [rcell1 rfl]; go_simp, by rw [HE.out], hfin⟩
  case stop =>
    rintro D c pre W hD hSp ⟨⟨rfl, p, x, h1, h2, h3, h4⟩, hB⟩ hK
    have HE : Hid (selValue l cs (sel : Int) = valueP l x) := Lib.hid (by rw [HX.out, firstSel_some h2 h3 (by rw [← h1]; exact hSp)])
    have cF := (boxed_keptO h4 (grownBy_putObj' W D (.deferred none)) (fun r e => by cases e; exact ⟨_, hK, rfl⟩)).cell
    have hfin := (hB0.trans hB).trans (belowK_b (w := w) (Nat.le_refl _) _ D _ (.deferred none) (by omega) hK rfl rfl)
    clear h1 h2 h3 h4
    gi_wp2
    refine ⟨by simp, .inl ⟨_, _, rfl, run_takeDeferred hK, ?_⟩⟩
    refine ⟨.string ⟨(valueP l x).toArray⟩, by rw [rcell1 rfl]; go_simp, by rw [HE.out], hfin⟩
end Go.Proofs.YtoajgfhcongocaaGreatDoor.doc

namespace Go.Proofs.YtoajgfhcongocaaGreatDoor.doc
open Go.ChangeShapes Go.WideShapes Go.ChangeAt Go.RowKit Go.Lib Go.Proofs.YtoajgfhcongocaaGreatDoor.atr Go.Proofs.YtoajgfhcongocaaGreatDoor.link Go.Proofs.YtoajgfhcongocaaGreatDoor.ctl

theorem opt_is {l : List Nd} (hR : rightB l = true) {sel : Int} (hs : inR l sel) {o : Int} (ho : o ∈ optsP l sel) : isP l o 32 = true := by
  obtain ⟨h1, h2⟩ := opts_mem (right_rt l hR) sel hs o ho
  refine (isP_iff l o 32).2 ⟨h1, ?_, hR⟩
  unfold optB at h2
  simpa using h2
theorem list_mem {l : List Nd} {k o : Int} (ho : o ∈ listP l k) : inR l o ∧ isP l o 32 = true := by
  unfold listP at ho
  split at ho
  · rename_i h
    obtain ⟨h1, _, h3⟩ := (isP_iff l k 23).1 h
    exact ⟨(opts_mem (right_rt l h3) k h1 o ho).1, opt_is h3 h1 ho⟩
  · cases ho
theorem list_fine {l : List Nd} (cs : List Ctl) (hc : l.length = cs.length) (k : Int) : OsFine cs (listP l k) := by
  unfold listP
  split
  · rename_i h
    obtain ⟨h1, _, h3⟩ := (isP_iff l k 23).1 h
    exact osFine (right_rt l h3) cs hc k h1
  · exact ⟨List.nodup_nil, fun o h => (by cases h), fun o h => (by cases h)⟩
theorem list_le (l : List Nd) (k : Int) : (listP l k).length ≤ 400 := by
  unfold listP
  split
  · rename_i h
    obtain ⟨h1, _, h3⟩ := (isP_iff l k 23).1 h
    exact opts_le l h3 k h1
  · exact Nat.zero_le _
theorem textP_val {l : List Nd} {o : Int} (h : isP l o 32 = true) : TextP l o = valueP l o := by unfold TextP; rw [if_pos h]
theorem ValueP_list (l : List Nd) (cs : List Ctl) (k : Int) (hq : docR l cs = true) : ValueP l cs k = match firstSel cs (listP l k) with | some o => valueP l o | none => [] := by
  unfold ValueP listP
  cases h : isP l k 23
  · rw [if_neg (by simp), if_neg (by simp)]; rfl
  · rw [if_pos ⟨hq, rfl⟩, if_pos rfl]; rfl

set_option maxHeartbeats 3200000 in
set_option maxRecDepth 100000 in
theorem rselvalue_any (vn vc : Value) (l : List Nd) (cs : List Ctl) (k : Int) (w : World) (hD : DocAt w vn vc l cs) :
    Calls Tryz.prog 26 #[.agg #[vn, vc], .int .i64 k] w fun e w' => e = .returned (.string ⟨(ValueP l cs k).toArray⟩) ∧ Below w.heap.size w w' := by
  have hD0 := hD
  obtain ⟨oa, ca, rfl⟩ := NodesAt.lenN hD.nodes
  obtain ⟨oc, cc, rfl⟩ := CtlsAt.lenN hD.ctls
  obtain ⟨wA, hwA⟩ : ∃ wA, wA = w.alloc (.cells #[.slice oa l.length ca, .slice oc cs.length cc] 25) := ⟨_, rfl⟩
  have hB1 : Below w.heap.size w wA := by rw [hwA]; exact (Below.refl _ w).alloc (Nat.le_refl _) _
  have f0 : wA.cell? ⟨w.heap.size, 0, none⟩ = some (.slice oa l.length ca) := by rw [hwA]; exact World.cell?_alloc_new w _ _ 0
  have f1 : wA.cell? ⟨w.heap.size, 1, none⟩ = some (.slice oc cs.length cc) := by rw [hwA]; exact World.cell?_alloc_new w _ _ 1
  have hr := rdocright_any (.slice oa l.length ca) l hD.fine oc cs.length cc wA (hD.nodes.below hB1)
  rw [show (decide (l.length = cs.length) && rightB l) = docR l cs from rfl] at hr
  cases hq : docR l cs
  · rw [hq] at hr
    have HE : Hid (ValueP l cs k = []) := Lib.hid (by unfold ValueP; rw [if_neg (by rw [hq]; simp)])
    rw [HE.out]
    clear hD hD0 hq f0 f1
    subst hwA
    go_enter Tryz.func26, Tryz.ntmps26
    go_wp2_with fail
    refine hr.mono ?_
    rintro e w1 ⟨rfl, hb1⟩
    go_wp2_with fail
    go_ret
    exact ⟨rfl, below_trans hB1 hb1⟩
  obtain ⟨hlc, hR⟩ := (docR_iff l cs).1 hq
  rw [hq] at hr
  have HX := Lib.hid (ValueP_list l cs k hq)
  have HL := Lib.hid (fun w' h => rlist_any (.slice oa l.length ca) l hD.fine k w' (hD.nodes.below (w' := w') h))
  have HM := Lib.hid (fun o (ho : o ∈ listP l k) => list_mem ho)
  have HT := Lib.hid (fun (o : Int) w' h => rtextU_any (.slice oa l.length ca) l hD.fine o w' (hD.nodes.below (w' := w') h))
  have HC := Lib.hid (fun w' h => hD.ctls.below (w' := w') h)
  have HLC := Lib.hid hlc
  have hol := list_le l k
  generalize listP l k = os at *
  generalize ValueP l cs k = r at *
  clear hD hD0 hq hlc hR
  subst hwA
  go_enter Tryz.func26, Tryz.ntmps26
  go_wp2_with fail
  refine hr.mono ?_
  rintro e w1 ⟨rfl, hb1⟩
  have f0 := cell_below hb1 f0
  have f1 := cell_below hb1 f1
  have hb01 := below_trans hB1 hb1
  clear hr
  go_wp2_with fail
  refine (HL.out w1 hb01).mono ?_
  rintro e w2 ⟨v6, rfl, hown, hb2⟩
  have f0 := cell_below hb2 f0
  have f1 := cell_below hb2 f1
  have hb02 := below_trans hb01 hb2
  have hos := hown.ints
  obtain ⟨sa, sc, rfl⟩ := RowAt.lenN hos
  clear hown HL
  go_wp2_with fail
  go_loopw [6] (fun s6 wr => ∃ m : Nat, s6 = .int .i64 m ∧ m ≤ os.length ∧ Hid (∀ o ∈ os.take m, selB cs o = false) ∧ Below w2.heap.size w2 wr) (fun s6 _ => os.length - (RowKit.intOf s6).toNat)
  case atStart => exact ⟨0, rfl, Nat.zero_le _, Lib.hid (fun o h => by cases h), Below.refl _ _⟩
  case round =>
    obtain ⟨m, rfl, hm, HS, hbw⟩ := hrel
    have hww := below_trans hb02 hbw
    have g0 := cell_below hbw f0
    have g1 := cell_below hbw f1
    by_cases hlt : m < os.length
    case neg =>
      obtain rfl : m = os.length := by omega
      have HE : Hid (r = []) := Lib.hid (by rw [HX.out, firstSel_none (by have := HS.out; rwa [List.take_length] at this)])
      obtain rfl := HE.out
      clear HE
      go_wp2_with fail
      go_ret
      exact ⟨rfl, hww⟩
    obtain ⟨kb, ko, kcap, e, hkb⟩ := IntsAt.addr hos (by omega)
    cases e
    have e0 := cell_below hbw (IntsAt.cellAt hos m hlt)
    have hmem := HM.out os[m] (List.getElem_mem hlt)
    have HSn := Lib.hid (take_snocI os m hlt)
    have HPr := Lib.hid (List.take_prefix (m + 1) os)
    generalize os[m] = c at *
    obtain ⟨⟨hc0, hc1⟩, hc32⟩ := hmem
    obtain ⟨cn, rfl⟩ : ∃ cn : Nat, c = (cn : Int) := ⟨c.toNat, by omega⟩
    have hcc : cn < cs.length := by have := HLC.out; omega
    have hcc' : (cn : Int) < (cs.length : Int) := by omega
    obtain ⟨cb, co, ccap, e, hcb⟩ := ctls_addr (HC.out wr hww) (by omega)
    cases e
    have c6 := ctls_sel (HC.out wr hww) cn hcc
    cases hsb : selB cs (cn : Int)
    case false =>
      rw [hsb] at c6
      have HS2 : Hid (∀ o ∈ os.take (m + 1), selB cs o = false) := Lib.hid (fun o ho => by
        rw [HSn.out, List.mem_append, List.mem_singleton] at ho
        rcases ho with ho | rfl
        · exact HS.out o ho
        · exact hsb)
      clear HS hsb
      go_wp2_with fail
      go_region
      all_goals
        go_wp2_with fail
        go_roundw
        case rel => exact ⟨m + 1, by go_num, by omega, HS2, by first | exact hbw.drew | exact hbw⟩
        case measure => simp [RowKit.intOf]; omega
    case true =>
      rw [hsb] at c6
      have HE : Hid (r = valueP l (cn : Int)) := Lib.hid (by rw [HX.out, firstSel_some HS.out hsb (by rw [← HSn.out]; exact HPr.out)])
      have hd : Below w.heap.size w wr.drew.drew := hww.drew.drew
      have ht := HT.out (cn : Int) wr.drew.drew hd
      rw [textP_val hc32, ← HE.out] at ht
      clear HS hsb HE
      have g0d : wr.drew.cell? ⟨w.heap.size, 0, none⟩ = some (.slice oa l.length ca) := g0
      have e0d : wr.drew.cell? ⟨kb, ko + m, none⟩ = some (.int .i64 (cn : Int)) := e0
      have hd1 := hww.drew
      go_wp2_with fail
      go_region
      generalize wr.drew = wd at *
      go_wp2_with fail
      go_still_tail 6, (by kernel_rfl)
      change wpList _ _ _ _ _ wd.drew
      generalize wd.drew = we at *
      go_wp2_with fail
      refine ht.mono ?_
      rintro e w5 ⟨rfl, hb5⟩
      clear ht
      go_wp2_with fail
      go_ret
      exact ⟨rfl, below_trans hd hb5⟩
end Go.Proofs.YtoajgfhcongocaaGreatDoor.doc

namespace Go.Proofs.YtoajgfhcongocaaGreatDoor.doc
open Go.ChangeShapes Go.WideShapes Go.ChangeAt Go.RowKit Go.Lib Go.Proofs.YtoajgfhcongocaaGreatDoor.atr Go.Proofs.YtoajgfhcongocaaGreatDoor.link Go.Proofs.YtoajgfhcongocaaGreatDoor.ctl

set_option maxHeartbeats 3200000 in
set_option maxRecDepth 100000 in
theorem selvalue_any (vn vc : Value) (l : List Nd) (cs : List Ctl) (k : Int) (w : World) (hD : DocAt w vn vc l cs) :
    Calls Tryz.prog 25 #[.agg #[vn, vc], .int .i64 k] w fun e w' => e = .returned (.string ⟨(ValueP l cs k).toArray⟩) ∧ Below w.heap.size w w' := by
  have HX : Hid (ValueP l cs k = if docR l cs = true ∧ isP l k 23 = true then selValue l cs k else []) := Lib.hid rfl
  by_cases hb : docR l cs = true ∧ isP l k 23 = true
  · obtain ⟨hq, hi⟩ := hb
    rw [HX.out, if_pos ⟨hq, hi⟩]
    obtain ⟨hin, _, _⟩ := (isP_iff l k 23).1 hi
    obtain ⟨sel, rfl⟩ : ∃ sel : Nat, k = (sel : Int) := ⟨k.toNat, by have := hin.1; omega⟩
    exact value_loop vn vc l cs w hD hq sel hi
  have HE : Hid (ValueP l cs k = []) := Lib.hid (by rw [HX.out, if_neg hb])
  rw [HE.out]
  obtain ⟨oa, ca, rfl⟩ := NodesAt.lenN hD.nodes
  obtain ⟨oc, cc, rfl⟩ := CtlsAt.lenN hD.ctls
  obtain ⟨wA, hwA⟩ : ∃ wA, wA = (w.alloc (.cells #[.slice oa l.length ca, .slice oc cs.length cc] 25)).alloc (.cells #[.string ⟨#[]⟩] 9) := ⟨_, rfl⟩
  have hB1 : Below w.heap.size w wA := by rw [hwA]; exact ((Below.refl _ w).alloc (Nat.le_refl _) _).alloc (by simp) _
  have bR : Boxed wA (w.heap.size + 1) 9 (.string ⟨#[]⟩) := by
    rw [hwA]
    have := Boxed.new (w.alloc (.cells #[.slice oa l.length ca, .slice oc cs.length cc] 25)) 9 (.string ⟨#[]⟩)
    rw [World.size_alloc] at this
    exact this
  have f0 : wA.cell? ⟨w.heap.size, 0, none⟩ = some (.slice oa l.length ca) := by
    rw [hwA]
    exact cell_below ((Below.refl (w.alloc (.cells #[.slice oa l.length ca, .slice oc cs.length cc] 25)).heap.size (w.alloc (.cells #[.slice oa l.length ca, .slice oc cs.length cc] 25))).alloc (Nat.le_refl _) (.cells #[.string ⟨#[]⟩] 9)) (World.cell?_alloc_new w _ _ 0)
  have hr := docright_any (.slice oa l.length ca) l hD.fine oc cs.length cc wA (hD.nodes.below hB1)
  rw [show (decide (l.length = cs.length) && rightB l) = docR l cs from rfl] at hr
  have HI := Lib.hid (fun w' h => is_any (.slice oa l.length ca) l k 23 hD.fine w' (hD.nodes.below (w' := w') h))
  cases hq : docR l cs
  · rw [hq] at hr
    clear hD hq HX hb HI HE
    subst hwA
    go_enter Tryz.func25, Tryz.ntmps25
    go_wp2_with fail
    refine hr.mono ?_
    rintro e w1 ⟨rfl, hb1⟩
    have bR := boxed_below bR hb1
    have cR := bR.cell
    have zR := bR.frozen
    have hb01 := below_trans hB1 hb1
    have HBl := Lib.hid (hb01.setCell (p := ⟨w.heap.size + 1, 0, none⟩) (by show w.heap.size ≤ w.heap.size + 1; omega) (.string ⟨#[]⟩))
    go_wp2_with fail
    (try simp only [Exit.inBlock, Exit.then])
    refine bodyPost_ret (v := .string ⟨#[]⟩) (by rw [rcell1 rfl]; go_simp) rfl ⟨rfl, HBl.out⟩
  · have hi : isP l k 23 = false := by
      cases h : isP l k 23
      · rfl
      · exact absurd ⟨hq, h⟩ hb
    rw [hq] at hr
    rw [hi] at HI
    clear hD hq HX hb hi HE
    subst hwA
    go_enter Tryz.func25, Tryz.ntmps25
    go_wp2_with fail
    refine hr.mono ?_
    rintro e w1 ⟨rfl, hb1⟩
    have bR := boxed_below bR hb1
    have f0 := cell_below hb1 f0
    have hb01 := below_trans hB1 hb1
    go_wp2_with fail
    refine (HI.out w1 hb01).mono ?_
    rintro e w2 ⟨rfl, hb2⟩
    have bR := boxed_below bR hb2
    have cR := bR.cell
    have zR := bR.frozen
    have HBl := Lib.hid ((below_trans hb01 hb2).setCell (p := ⟨w.heap.size + 1, 0, none⟩) (by show w.heap.size ≤ w.heap.size + 1; omega) (.string ⟨#[]⟩))
    go_wp2_with fail
    (try simp only [Exit.inBlock, Exit.then])
    refine bodyPost_ret (v := .string ⟨#[]⟩) (by rw [rcell1 rfl]; go_simp) rfl ⟨rfl, HBl.out⟩
end Go.Proofs.YtoajgfhcongocaaGreatDoor.doc
