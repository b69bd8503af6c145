/- option.Reset, of a select. The contract of option.Reset. -/
import Derived.Test.YtoajgfhcongocaaGreatDoorGl
import Derived.Test.YtoajgfhcongocaaGreatDoorGa
namespace Go.Proofs.YtoajgfhcongocaaGreatDoor.doc
open Go.ChangeShapes Go.WideShapes Go.ChangeAt Go.RowKit Go.Lib Go.Shelf Go.Proofs.YtoajgfhcongocaaGreatDoor.atr Go.Proofs.YtoajgfhcongocaaGreatDoor.link Go.Proofs.YtoajgfhcongocaaGreatDoor.ctl
attribute [local go_sem] Oper.semAt_some

theorem resetG_idem (l : List Nd) : ∀ k c, resetG l k (resetG l k c) = resetG l k c := fun _ _ => rfl

set_option maxHeartbeats 12000000 in
set_option maxRecDepth 100000 in
theorem reset_loop (vn vc : Value) (l : List Nd) (cs : List Ctl) (w : World) (hE : GE w) (hD : DocAt w vn vc l cs) (hq : docR l cs = true) (sel : Nat) (hi : isP l (sel : Int) 23 = true) :
    Calls Tryz.prog 14 #[.agg #[vn, vc], .int .i64 (sel : Int)] w (RetS (fixC l (mapOn (resetG l) cs (optsP l (sel : Int))) (sel : Int)) w) := by
  obtain ⟨hlc, hR⟩ := (docR_iff l cs).1 hq
  have hRt := right_rt l hR
  have hf := hRt.few
  obtain ⟨hin, _, _⟩ := (isP_iff l (sel : Int) 23).1 hi
  have hs : sel < l.length := by have := hin.2; omega
  obtain ⟨b, off, cap, rfl, hb⟩ := nodes_addr hD.nodes (by omega)
  obtain ⟨oc, cc, rfl⟩ := CtlsAt.lenN hD.ctls
  obtain ⟨wA, hwA⟩ : ∃ wA, wA = w.alloc (.cells #[.slice (some ⟨b, off, none⟩) l.length cap, .slice oc cs.length cc] 25) := ⟨_, rfl⟩
  have hB1 : Below w.heap.size w wA := by rw [hwA]; exact (Below.refl _ w).alloc (Nat.le_refl _) _
  have f0 : wA.cell? ⟨w.heap.size, 0, none⟩ = some (.slice (some ⟨b, off, none⟩) l.length cap) := by rw [hwA]; exact World.cell?_alloc_new w _ _ 0
  have f1 : wA.cell? ⟨w.heap.size, 1, none⟩ = some (.slice oc cs.length cc) := by rw [hwA]; exact World.cell?_alloc_new w _ _ 1
  have hr := docright_any (.slice (some ⟨b, off, none⟩) l.length cap) l hD.fine oc cs.length cc wA (hD.nodes.below hB1)
  rw [show (decide (l.length = cs.length) && rightB l) = docR l cs from rfl, hq] at hr
  replace hr := (callsIn_wide (n := 999)).2 hr
  have HI := Lib.hid (fun w' h => (callsIn_wide (n := 999)).2 (is_any (.slice (some ⟨b, off, none⟩) l.length cap) l (sel : Int) 23 hD.fine w' (hD.nodes.below (w' := w') h)))
  have HC := Lib.hid (fun w' h => (callsIn_wide (n := 999)).2 (copiedC_any (.slice oc cs.length cc) cs hD.cb hD.fb w' (hD.ctls.below (w' := w') h)))
  rw [hi] at HI
  have HD := Lib.hid hD
  have HG := Lib.hid hE
  have HLC := Lib.hid hlc
  have HR := Lib.hid hR
  have h0' : (0 : Int) ≤ (sel : Int) := by omega
  have hs' : (sel : Int) < (l.length : Int) := by omega
  clear hD hq hi hin hlc hR hRt hE
  subst hwA
  refine (callsIn_wide (n := 1000)).1 ?_
  refine callsIn_of_wp_marks Tryz.func14 rfl trivial ?_ rfl
  simp only [Tryz.ntmps14, List.size_toArray, List.length_cons, List.length_nil, Nat.reduceAdd, Nat.reduceSub, Array.replicate_succ, Array.replicate_zero, List.push_toArray, List.append_toArray, List.nil_append, List.cons_append]
  gi_wp2
  refine ⟨trivial, hr.mono ?_⟩
  rintro e w1 ⟨rfl, hb1⟩
  have f0 := cell_below hb1 f0
  have f1 := cell_below hb1 f1
  have hb01 := below_trans hB1 hb1
  have hlt0 : w.heap.size < w1.heap.size := lt_of_cell f0
  clear hr
  gi_wp2
  refine ⟨trivial, (HC.out w1 hb01).mono ?_⟩
  rintro e w2 ⟨v', fs, rfl, hO, hb2⟩
  have f0 := cell_below hb2 f0
  have hcs0 : 0 < cs.length := by have := HLC.out; omega
  obtain ⟨g, c9, rfl, hBg, hgl⟩ := hO.addr hcs0
  have HLow := Lib.hid hO.lowF
  have HO := Lib.hid hO
  have hb3 : Below w2.heap.size w2 (w2.alloc (.cells #[.slice (some ⟨g, 0, none⟩) cs.length c9] 23)) := (Below.refl _ _).alloc (Nat.le_refl _) _
  have hb13 := below_trans hb2 hb3
  have b9 := Boxed.new w2 23 (.slice (some ⟨g, 0, none⟩) cs.length c9)
  have f0 := cell_below hb3 f0
  have hi3 := HI.out _ (below_trans hb01 hb13)
  clear hO HC HI
  gi_wp2
  refine ⟨trivial, hi3.mono ?_⟩
  rintro e w7 ⟨rfl, hb7⟩
  have f0 := cell_below hb7 f0
  have b97 := boxed_below b9 hb7
  have hb17 := below_trans hb13 hb7
  have HO7 := Lib.hid (HO.out.below (below_trans hb3 hb7))
  have hz7 : w2.heap.size + 1 ≤ w7.heap.size := by have := hb7.size; simpa using this
  clear hi3 HO b9 hb7 hb3 hb2 hb13
  have ho := (callsIn_wide (n := 999)).2 (options_any (.slice (some ⟨b, off, none⟩) l.length cap) (sel : Int) ⟨_, _, _, rfl⟩ w7)
  gi_wp2
  refine ⟨trivial, ho.mono ?_⟩
  rintro e w' ⟨rfl, rfl⟩
  clear ho
  gi_wp2
  obtain ⟨w8, hw8⟩ : ∃ w8, w8 = (w7.alloc (.cells #[.slice (some ⟨b, off, none⟩) l.length cap] 22)).alloc (.cells #[.int .i64 (sel : Int)] 3) := ⟨_, rfl⟩
  have hsz : w8.heap.size = w7.heap.size + 1 + 1 := by rw [hw8]; simp
  have hb78 : Below w7.heap.size w7 w8 := by rw [hw8]; exact ((Below.refl _ w7).alloc (Nat.le_refl _) _).alloc (by simp) _
  have bL : Boxed w8 w7.heap.size 22 (.slice (some ⟨b, off, none⟩) l.length cap) := by rw [hw8]; exact (Boxed.new w7 _ _).alloc _
  have bS : Boxed w8 (w7.heap.size + 1) 3 (.int .i64 (sel : Int)) := by
    have := Boxed.new (w7.alloc (.cells #[.slice (some ⟨b, off, none⟩) l.length cap] 22)) 3 (.int .i64 (sel : Int))
    rw [World.size_alloc] at this
    rw [hw8]; exact this
  have hst0 : Bst w2.heap.size w1.heap.size [(w2.heap.size, 23, .slice (some ⟨g, 0, none⟩) cs.length c9)] g cs.length c9 w8 (mapOn (resetG l) cs (vals ([] : List (Opt l (sel : Int))))) fs :=
    ⟨bx_cons (boxed_below b97 hb78) bx_nil, by rw [show vals ([] : List (Opt l (sel : Int))) = [] from rfl, mapOn_nil]; exact HO7.out.below hb78, by rw [show vals ([] : List (Opt l (sel : Int))) = [] from rfl, mapOn_nil]; exact HLow.out⟩
  have hz1 := hb01.size
  have hz17 := hb17.size
  have hB0 : Below w1.heap.size w1 w8 := below_trans hb17 hb78
  have f0 := cell_below hb78 f0
  first | rw [← hw8] | (simp only [← hw8])
  clear hw8
  have hA1 := HD.out.nodes.below hb01
  have HD1 := Lib.hid (fun w' (h : Below w1.heap.size w1 w') => hA1.below h)
  refine wpIn_rangeFunc_ownG rfl (by omega) (gf := 64) (lb := #[.pointer (some ⟨w7.heap.size, 0, none⟩), .pointer (some ⟨w7.heap.size + 1, 0, none⟩)]) rfl trivial (enters_of Tryz.func64 (by kernel_rfl) rfl)
    (opts_stops l HD.out.fine HR.out sel hs _ w1 hA1 999 (by omega) w7.heap.size (w7.heap.size + 1) w8 hB0 bL.lt bS.lt bL.cell bS.cell) (fun h k => h.trans k) (Kp.put (by omega)) (Below.refl _ _) (fun _ => rfl)
    (fun pre W => Bst w2.heap.size w1.heap.size [(w2.heap.size, 23, .slice (some ⟨g, 0, none⟩) cs.length c9)] g cs.length c9 W (mapOn (resetG l) cs (vals pre)) fs ∧ Below w1.heap.size w8 W)
    (fun _ _ _ => False)
    (OwnFrom.and (Own.from (fun s A B row hs hg hr => hs.keptO hg hr) _) (ownFrom_below (by omega) (by omega)))
    (fun _ _ _ _ _ hs _ _ => hs)
    ⟨hst0, Below.refl _ _⟩
    (fun x => { tmps := #[.agg #[.slice (some ⟨b, off, none⟩) l.length cap, .slice oc cs.length cc], .int .i64 (sel : Int), .pointer (some ⟨w.heap.size, 0, none⟩), undef, .slice none 0 0, .pointer (some ⟨w2.heap.size, 0, none⟩), .int .i64 x.1, .agg #[.slice (some ⟨b, off, none⟩) l.length cap, .slice oc cs.length cc], .bool true, .bool false, .pointer (some ⟨w.heap.size, 1, none⟩), .slice oc cs.length cc, .slice (some ⟨g, 0, none⟩) cs.length c9, .pointer (some ⟨w.heap.size, 0, none⟩), .slice (some ⟨b, off, none⟩) l.length cap, .int .i64 (sel : Int), .bool true, .bool false, undef, .pointer (some ⟨w.heap.size, 0, none⟩), .slice (some ⟨b, off, none⟩) l.length cap, .int .i64 (sel : Int), .func (.func 64) #[] #[.pointer (some ⟨w7.heap.size, 0, none⟩), .pointer (some ⟨w7.heap.size + 1, 0, none⟩)], .int .i64 x.1, undef, undef, undef, undef, undef, undef, undef, undef, undef, undef, undef, undef, undef, undef, undef, undef, undef, undef, undef, undef], defers := [] }) ?assign ?body ?done ?stop
  case assign =>
    intro l x W K hK
    gi_wp2
    exact hK
  case stop =>
    rintro D c pre W _ _ h _
    exact h.elim
  case body =>
    rintro lp pre ⟨x, hx⟩ W ⟨hst, hB⟩ hlt
    obtain ⟨hxr, _⟩ := opts_mem (right_rt l HR.out) (sel : Int) ⟨h0', hs'⟩ x hx
    obtain ⟨xn, rfl⟩ : ∃ xn : Nat, x = (xn : Int) := ⟨x.toNat, by have := hxr.1; omega⟩
    have hxn : xn < l.length := by have := hxr.2; omega
    have hxn' : (xn : Int) < (l.length : Int) := hxr.2
    have hxc : xn < cs.length := by have := HLC.out; omega
    have hxc' : (xn : Int) < (cs.length : Int) := by omega
    have hxn0 : (0 : Int) ≤ (xn : Int) := by omega
    have hWz := hB.size
    have hstd := hst.below (Below.refl _ W).drew
    have c6 := hstd.own.selOf xn (by rw [mapOn_len]; exact hxc)
    have c7 := hstd.own.dselOf xn (by rw [mapOn_len]; exact hxc)
    have ZQ := Lib.hid (fun wq (hbq : Below W.drew.heap.size W.drew wq) j => (hstd.own.below hbq).frozen (by rw [mapOn_len]) j)
    have hc9 := hstd.b0.cell
    have hBW := hB0.trans (hB.trans (Below.refl _ W).drew)
    have f0 : W.drew.cell? ⟨w.heap.size, 0, none⟩ = some (.slice (some ⟨b, off, none⟩) l.length cap) := ((hB.trans (Below.refl _ W).drew).cell (p := ⟨w.heap.size, 0, none⟩) hlt0).trans f0
    obtain ⟨va, vk, hn⟩ := nodes_get (HD1.out W.drew hBW) xn hxn
    have hfn := HD.out.fine.nd (xn : Int) (by omega) (by omega)
    have hh := (callsIn_wide (n := 999 - 1 - 1)).2 (ohas_any (nd l (xn : Int)) va vk nSelected hfn.attrs W.drew hn.attrs hn.kids)
    unfold nodeV at hh
    obtain ⟨n0, n1, n2, n3, n4, _, _, _⟩ := hn
    have HST : Hid (∀ wq, Below W.drew.heap.size W.drew wq → Bst w2.heap.size w1.heap.size [(w2.heap.size, 23, .slice (some ⟨g, 0, none⟩) cs.length c9)] g cs.length c9 ((wq.setCell ⟨g, xn * 10 + 6, none⟩ (.bool (hasA nSelected (nd l (xn : Int)).attrs))).setCell ⟨g, xn * 10 + 7, none⟩ (.bool false)) (mapOn (resetG l) cs (vals pre ++ [(xn : Int)])) fs) := Lib.hid (fun wq hbq => by
      have hq := hstd.below hbq
      have ht := hq.own.turnI2 (resetG_idem l) rfl xn hxc 6 7 (by decide) (by decide) (.bool (hasA nSelected (nd l (xn : Int)).attrs)) (.bool false) (fun c => { c with selected := hasA nSelected (nd l (xn : Int)).attrs }) (fun _ => rfl) (fun _ => rfl) (fun c f => rfl) (fun c f => rfl)
      exact hq.row2 (ne_cons (by omega) (ne_nil _)) (by rw [files_mapOn (resetG l) (fun _ _ => rfl), files_mapOn (resetG l) (fun _ _ => rfl)]) ht)
    have HRD : Hid (∀ wq, Below W.drew.heap.size W.drew wq → Rd w1.heap.size w7.heap.size (w7.heap.size + 1) W ((wq.setCell ⟨g, xn * 10 + 6, none⟩ (.bool (hasA nSelected (nd l (xn : Int)).attrs))).setCell ⟨g, xn * 10 + 7, none⟩ (.bool false))) := Lib.hid (fun wq hbq =>
      (((Rd.below (Below.refl _ W).drew (by omega)).trans (Rd.below hbq (by show w1.heap.size ≤ W.heap.size; omega))).trans (Rd.set _ hBg (by omega) (by omega) _)).trans (Rd.set _ hBg (by omega) (by omega) _))
    have HV : Hid (vals (pre ++ [(⟨(xn : Int), hx⟩ : Opt l (sel : Int))]) = vals pre ++ [(xn : Int)]) := Lib.hid (vals_snoc pre ⟨(xn : Int), hx⟩)
    generalize selB (mapOn (resetG l) cs (vals pre)) (xn : Int) = sb at *
    generalize (ct (mapOn (resetG l) cs (vals pre)) (xn : Int)).dselected = db at *
    generalize hasA nSelected (nd l (xn : Int)).attrs = hv at *
    generalize (nd l (xn : Int)).name = q0 at *
    generalize (nd l (xn : Int)).text = q1 at *
    generalize (nd l (xn : Int)).parent = q3 at *
    clear hst hstd
    gi_wp2
    refine wpIn_round_any (by kernel_rfl) rfl (by kernel_rfl) ?_
    change wpAnyIn _ _ _ _ _ _ _ _ _ W.drew
    refine wpAnyIn_take (i := 1) (v := ?_) rfl rfl (by kernel_rfl) (by kernel_rfl) (by kernel_rfl) (fun _ _ _ h => h) ⟨Or.inl ⟨by rfl, ?_⟩, fun _ => rfl⟩ ?_
    rotate_left
    · intro w; go_simp; try with_reducible rfl
    refine wpAnyIn_take (i := 3) (v := ?_) rfl rfl (by kernel_rfl) (by kernel_rfl) (by kernel_rfl) (fun _ _ _ h => h) ⟨Or.inl ⟨by rfl, ?_⟩, fun _ => rfl⟩ ?_
    rotate_left
    · intro w; go_simp; try with_reducible rfl
    refine wpAnyIn_take (i := 4) (v := ?_) rfl rfl (by kernel_rfl) (by kernel_rfl) (by kernel_rfl) (fun _ _ _ h => h) ⟨Or.inl ⟨by rfl, ?_⟩, fun _ => rfl⟩ ?_
    rotate_left
    · intro w; go_simp; try with_reducible rfl
    refine wpAnyIn_take (i := 6) (v := ?_) rfl rfl (by kernel_rfl) (by kernel_rfl) (by kernel_rfl) (fun _ _ _ h => h) ⟨Or.inl ⟨by rfl, ?_⟩, fun _ => rfl⟩ ?_
    rotate_left
    · intro w; go_simp; try with_reducible rfl
    refine wpAnyIn_ready (rs := [0, 2, 5]) (by kernel_rfl) (by simp) ?_
    refine AllReadyIn.cons rfl (fun K hK => ?_) ?_
    · go_simp
      refine hK _ _ ?_
      clear hK K
      refine wpAnyIn_ready (rs := [2, 5]) (by kernel_rfl) (by simp) ?_
      refine AllReadyIn.cons rfl (fun K hK => ?_) ?_
      · go_simp
        refine hK _ _ ?_
        clear hK K
        refine wpAnyIn_ready (rs := [5]) (by kernel_rfl) (by simp) ?_
        refine AllReadyIn.cons rfl (fun K hK => ?_) ?_
        · go_simp
          refine hK _ _ ?_
          clear hK K
          refine wpAnyIn_take (i := 7) (v := ?_) rfl rfl (by kernel_rfl) (by kernel_rfl) (by kernel_rfl) (fun _ _ _ h => h) ⟨Or.inl ⟨by rfl, ?_⟩, fun _ => rfl⟩ ?_
          rotate_left
          · intro w; go_simp; try with_reducible rfl
          refine wpAnyIn_ready (rs := [8]) (by kernel_rfl) (by simp) ?_
          refine AllReadyIn.cons rfl (fun K hK => ?_) ?_
          · go_simp
            refine hK _ _ ?_
            clear hK K
            refine wpAnyIn_ready (rs := [9]) (by kernel_rfl) (by simp) ?_
            refine AllReadyIn.cons rfl (fun K hK => ?_) ?_
            · go_simp
              refine ⟨trivial, hh.mono ?_⟩
              rintro e wq ⟨rfl, hbq⟩
              have hc9 := cell_below hbq hc9
              have c6 := cell_below hbq c6
              have c7 := cell_below hbq c7
              have z6 := ZQ.out wq hbq (xn * 10 + 6)
              have z7 := ZQ.out wq hbq (xn * 10 + 7)
              gi_wp2
              refine wpAnyIn_take (i := 10) (v := ?_) rfl rfl (by kernel_rfl) (by kernel_rfl) (by kernel_rfl) (fun _ _ _ h => h) ⟨Or.inl ⟨by rfl, ?_⟩, fun _ => rfl⟩ ?_
              rotate_left
              · intro w; go_simp; try with_reducible rfl
              refine wpAnyIn_take (i := 11) (v := ?_) rfl rfl (by kernel_rfl) (by kernel_rfl) (by kernel_rfl) (fun _ _ _ h => h) ⟨Or.inl ⟨by rfl, ?_⟩, fun _ => rfl⟩ ?_
              rotate_left
              · intro w; go_simp; try with_reducible rfl
              refine wpAnyIn_ready (rs := [12]) (by kernel_rfl) (by simp) ?_
              refine AllReadyIn.cons rfl (fun K hK => ?_) ?_
              · go_simp
                refine hK _ _ ?_
                clear hK K
                refine wpAnyIn_take (i := 13) (v := ?_) rfl rfl (by kernel_rfl) (by kernel_rfl) (by kernel_rfl) (fun _ _ _ h => h) ⟨Or.inl ⟨by rfl, ?_⟩, fun _ => rfl⟩ ?_
                rotate_left
                · intro w; go_simp; try with_reducible rfl
                refine wpAnyIn_take (i := 14) (v := ?_) rfl rfl (by kernel_rfl) (by kernel_rfl) (by kernel_rfl) (fun _ _ _ h => h) ⟨Or.inl ⟨by rfl, ?_⟩, fun _ => rfl⟩ ?_
                rotate_left
                · intro w; go_simp; try with_reducible rfl
                refine wpAnyIn_ready (rs := [15]) (by kernel_rfl) (by simp) ?_
                refine AllReadyIn.cons rfl (fun K hK => ?_) ?_
                · go_simp
                  refine hK _ _ ?_
                  clear hK K
                  refine wpAnyIn_done (by kernel_rfl) ?_ _
                  gi_wp2
                  exact ⟨(HRD.out wq hbq).ko.from _, (HRD.out wq hbq).kp, by rw [HV.out]; exact HST.out wq hbq, hB.trans (HRD.out wq hbq).kp.low⟩
                exact AllReadyIn.nil
              exact AllReadyIn.nil
            exact AllReadyIn.nil
          exact AllReadyIn.nil
        exact AllReadyIn.nil
      refine AllReadyIn.cons rfl (fun K hK => ?_) ?_
      · go_simp
        refine hK _ _ ?_
        clear hK K
        refine wpAnyIn_take (i := 7) (v := ?_) rfl rfl (by kernel_rfl) (by kernel_rfl) (by kernel_rfl) (fun _ _ _ h => h) ⟨Or.inl ⟨by rfl, ?_⟩, fun _ => rfl⟩ ?_
        rotate_left
        · intro w; go_simp; try with_reducible rfl
        refine wpAnyIn_ready (rs := [2, 8]) (by kernel_rfl) (by simp) ?_
        refine AllReadyIn.cons rfl (fun K hK => ?_) ?_
        · go_simp
          refine hK _ _ ?_
          clear hK K
          refine wpAnyIn_ready (rs := [8]) (by kernel_rfl) (by simp) ?_
          refine AllReadyIn.cons rfl (fun K hK => ?_) ?_
          · go_simp
            refine hK _ _ ?_
            clear hK K
            refine wpAnyIn_ready (rs := [9]) (by kernel_rfl) (by simp) ?_
            refine AllReadyIn.cons rfl (fun K hK => ?_) ?_
            · go_simp
              refine ⟨trivial, hh.mono ?_⟩
              rintro e wq ⟨rfl, hbq⟩
              have hc9 := cell_below hbq hc9
              have c6 := cell_below hbq c6
              have c7 := cell_below hbq c7
              have z6 := ZQ.out wq hbq (xn * 10 + 6)
              have z7 := ZQ.out wq hbq (xn * 10 + 7)
              gi_wp2
              refine wpAnyIn_take (i := 10) (v := ?_) rfl rfl (by kernel_rfl) (by kernel_rfl) (by kernel_rfl) (fun _ _ _ h => h) ⟨Or.inl ⟨by rfl, ?_⟩, fun _ => rfl⟩ ?_
              rotate_left
              · intro w; go_simp; try with_reducible rfl
              refine wpAnyIn_take (i := 11) (v := ?_) rfl rfl (by kernel_rfl) (by kernel_rfl) (by kernel_rfl) (fun _ _ _ h => h) ⟨Or.inl ⟨by rfl, ?_⟩, fun _ => rfl⟩ ?_
              rotate_left
              · intro w; go_simp; try with_reducible rfl
              refine wpAnyIn_ready (rs := [12]) (by kernel_rfl) (by simp) ?_
              refine AllReadyIn.cons rfl (fun K hK => ?_) ?_
              · go_simp
                refine hK _ _ ?_
                clear hK K
                refine wpAnyIn_take (i := 13) (v := ?_) rfl rfl (by kernel_rfl) (by kernel_rfl) (by kernel_rfl) (fun _ _ _ h => h) ⟨Or.inl ⟨by rfl, ?_⟩, fun _ => rfl⟩ ?_
                rotate_left
                · intro w; go_simp; try with_reducible rfl
                refine wpAnyIn_take (i := 14) (v := ?_) rfl rfl (by kernel_rfl) (by kernel_rfl) (by kernel_rfl) (fun _ _ _ h => h) ⟨Or.inl ⟨by rfl, ?_⟩, fun _ => rfl⟩ ?_
                rotate_left
                · intro w; go_simp; try with_reducible rfl
                refine wpAnyIn_ready (rs := [15]) (by kernel_rfl) (by simp) ?_
                refine AllReadyIn.cons rfl (fun K hK => ?_) ?_
                · go_simp
                  refine hK _ _ ?_
                  clear hK K
                  refine wpAnyIn_done (by kernel_rfl) ?_ _
                  gi_wp2
                  exact ⟨(HRD.out wq hbq).ko.from _, (HRD.out wq hbq).kp, by rw [HV.out]; exact HST.out wq hbq, hB.trans (HRD.out wq hbq).kp.low⟩
                exact AllReadyIn.nil
              exact AllReadyIn.nil
            exact AllReadyIn.nil
          exact AllReadyIn.nil
        refine AllReadyIn.cons rfl (fun K hK => ?_) ?_
        · go_simp
          refine hK _ _ ?_
          clear hK K
          refine wpAnyIn_ready (rs := [2, 9]) (by kernel_rfl) (by simp) ?_
          refine AllReadyIn.cons rfl (fun K hK => ?_) ?_
          · go_simp
            refine hK _ _ ?_
            clear hK K
            refine wpAnyIn_ready (rs := [9]) (by kernel_rfl) (by simp) ?_
            refine AllReadyIn.cons rfl (fun K hK => ?_) ?_
            · go_simp
              refine ⟨trivial, hh.mono ?_⟩
              rintro e wq ⟨rfl, hbq⟩
              have hc9 := cell_below hbq hc9
              have c6 := cell_below hbq c6
              have c7 := cell_below hbq c7
              have z6 := ZQ.out wq hbq (xn * 10 + 6)
              have z7 := ZQ.out wq hbq (xn * 10 + 7)
              gi_wp2
              refine wpAnyIn_take (i := 10) (v := ?_) rfl rfl (by kernel_rfl) (by kernel_rfl) (by kernel_rfl) (fun _ _ _ h => h) ⟨Or.inl ⟨by rfl, ?_⟩, fun _ => rfl⟩ ?_
              rotate_left
              · intro w; go_simp; try with_reducible rfl
              refine wpAnyIn_take (i := 11) (v := ?_) rfl rfl (by kernel_rfl) (by kernel_rfl) (by kernel_rfl) (fun _ _ _ h => h) ⟨Or.inl ⟨by rfl, ?_⟩, fun _ => rfl⟩ ?_
              rotate_left
              · intro w; go_simp; try with_reducible rfl
              refine wpAnyIn_ready (rs := [12]) (by kernel_rfl) (by simp) ?_
              refine AllReadyIn.cons rfl (fun K hK => ?_) ?_
              · go_simp
                refine hK _ _ ?_
                clear hK K
                refine wpAnyIn_take (i := 13) (v := ?_) rfl rfl (by kernel_rfl) (by kernel_rfl) (by kernel_rfl) (fun _ _ _ h => h) ⟨Or.inl ⟨by rfl, ?_⟩, fun _ => rfl⟩ ?_
                rotate_left
                · intro w; go_simp; try with_reducible rfl
                refine wpAnyIn_take (i := 14) (v := ?_) rfl rfl (by kernel_rfl) (by kernel_rfl) (by kernel_rfl) (fun _ _ _ h => h) ⟨Or.inl ⟨by rfl, ?_⟩, fun _ => rfl⟩ ?_
                rotate_left
                · intro w; go_simp; try with_reducible rfl
                refine wpAnyIn_ready (rs := [15]) (by kernel_rfl) (by simp) ?_
                refine AllReadyIn.cons rfl (fun K hK => ?_) ?_
                · go_simp
                  refine hK _ _ ?_
                  clear hK K
                  refine wpAnyIn_done (by kernel_rfl) ?_ _
                  gi_wp2
                  exact ⟨(HRD.out wq hbq).ko.from _, (HRD.out wq hbq).kp, by rw [HV.out]; exact HST.out wq hbq, hB.trans (HRD.out wq hbq).kp.low⟩
                exact AllReadyIn.nil
              exact AllReadyIn.nil
            exact AllReadyIn.nil
          refine AllReadyIn.cons rfl (fun K hK => ?_) ?_
          · go_simp
            refine ⟨trivial, hh.mono ?_⟩
            rintro e wq ⟨rfl, hbq⟩
            have hc9 := cell_below hbq hc9
            have c6 := cell_below hbq c6
            have c7 := cell_below hbq c7
            have z6 := ZQ.out wq hbq (xn * 10 + 6)
            have z7 := ZQ.out wq hbq (xn * 10 + 7)
            gi_wp2
            refine wpAnyIn_take (i := 10) (v := ?_) rfl rfl (by kernel_rfl) (by kernel_rfl) (by kernel_rfl) (fun _ _ _ h => h) ⟨Or.inl ⟨by rfl, ?_⟩, fun _ => rfl⟩ ?_
            rotate_left
            · intro w; go_simp; try with_reducible rfl
            refine wpAnyIn_take (i := 11) (v := ?_) rfl rfl (by kernel_rfl) (by kernel_rfl) (by kernel_rfl) (fun _ _ _ h => h) ⟨Or.inl ⟨by rfl, ?_⟩, fun _ => rfl⟩ ?_
            rotate_left
            · intro w; go_simp; try with_reducible rfl
            refine wpAnyIn_ready (rs := [2, 12]) (by kernel_rfl) (by simp) ?_
            refine AllReadyIn.cons rfl (fun K hK => ?_) ?_
            · go_simp
              refine hK _ _ ?_
              clear hK K
              refine wpAnyIn_ready (rs := [12]) (by kernel_rfl) (by simp) ?_
              refine AllReadyIn.cons rfl (fun K hK => ?_) ?_
              · go_simp
                refine hK _ _ ?_
                clear hK K
                refine wpAnyIn_take (i := 13) (v := ?_) rfl rfl (by kernel_rfl) (by kernel_rfl) (by kernel_rfl) (fun _ _ _ h => h) ⟨Or.inl ⟨by rfl, ?_⟩, fun _ => rfl⟩ ?_
                rotate_left
                · intro w; go_simp; try with_reducible rfl
                refine wpAnyIn_take (i := 14) (v := ?_) rfl rfl (by kernel_rfl) (by kernel_rfl) (by kernel_rfl) (fun _ _ _ h => h) ⟨Or.inl ⟨by rfl, ?_⟩, fun _ => rfl⟩ ?_
                rotate_left
                · intro w; go_simp; try with_reducible rfl
                refine wpAnyIn_ready (rs := [15]) (by kernel_rfl) (by simp) ?_
                refine AllReadyIn.cons rfl (fun K hK => ?_) ?_
                · go_simp
                  refine hK _ _ ?_
                  clear hK K
                  refine wpAnyIn_done (by kernel_rfl) ?_ _
                  gi_wp2
                  exact ⟨(HRD.out wq hbq).ko.from _, (HRD.out wq hbq).kp, by rw [HV.out]; exact HST.out wq hbq, hB.trans (HRD.out wq hbq).kp.low⟩
                exact AllReadyIn.nil
              exact AllReadyIn.nil
            refine AllReadyIn.cons rfl (fun K hK => ?_) ?_
            · go_simp
              refine hK _ _ ?_
              clear hK K
              refine wpAnyIn_ready (rs := [2]) (by kernel_rfl) (by simp) ?_
              refine AllReadyIn.cons rfl (fun K hK => ?_) ?_
              · go_simp
                refine hK _ _ ?_
                clear hK K
                refine wpAnyIn_take (i := 13) (v := ?_) rfl rfl (by kernel_rfl) (by kernel_rfl) (by kernel_rfl) (fun _ _ _ h => h) ⟨Or.inl ⟨by rfl, ?_⟩, fun _ => rfl⟩ ?_
                rotate_left
                · intro w; go_simp; try with_reducible rfl
                refine wpAnyIn_take (i := 14) (v := ?_) rfl rfl (by kernel_rfl) (by kernel_rfl) (by kernel_rfl) (fun _ _ _ h => h) ⟨Or.inl ⟨by rfl, ?_⟩, fun _ => rfl⟩ ?_
                rotate_left
                · intro w; go_simp; try with_reducible rfl
                refine wpAnyIn_ready (rs := [15]) (by kernel_rfl) (by simp) ?_
                refine AllReadyIn.cons rfl (fun K hK => ?_) ?_
                · go_simp
                  refine hK _ _ ?_
                  clear hK K
                  refine wpAnyIn_done (by kernel_rfl) ?_ _
                  gi_wp2
                  exact ⟨(HRD.out wq hbq).ko.from _, (HRD.out wq hbq).kp, by rw [HV.out]; exact HST.out wq hbq, hB.trans (HRD.out wq hbq).kp.low⟩
                exact AllReadyIn.nil
              exact AllReadyIn.nil
            exact AllReadyIn.nil
          exact AllReadyIn.nil
        exact AllReadyIn.nil
      exact AllReadyIn.nil
    refine AllReadyIn.cons rfl (fun K hK => ?_) ?_
    · go_simp
      refine hK _ _ ?_
      clear hK K
      refine wpAnyIn_ready (rs := [0, 5]) (by kernel_rfl) (by simp) ?_
      refine AllReadyIn.cons rfl (fun K hK => ?_) ?_
      · go_simp
        refine hK _ _ ?_
        clear hK K
        refine wpAnyIn_ready (rs := [5]) (by kernel_rfl) (by simp) ?_
        refine AllReadyIn.cons rfl (fun K hK => ?_) ?_
        · go_simp
          refine hK _ _ ?_
          clear hK K
          refine wpAnyIn_take (i := 7) (v := ?_) rfl rfl (by kernel_rfl) (by kernel_rfl) (by kernel_rfl) (fun _ _ _ h => h) ⟨Or.inl ⟨by rfl, ?_⟩, fun _ => rfl⟩ ?_
          rotate_left
          · intro w; go_simp; try with_reducible rfl
          refine wpAnyIn_ready (rs := [8]) (by kernel_rfl) (by simp) ?_
          refine AllReadyIn.cons rfl (fun K hK => ?_) ?_
          · go_simp
            refine hK _ _ ?_
            clear hK K
            refine wpAnyIn_ready (rs := [9]) (by kernel_rfl) (by simp) ?_
            refine AllReadyIn.cons rfl (fun K hK => ?_) ?_
            · go_simp
              refine ⟨trivial, hh.mono ?_⟩
              rintro e wq ⟨rfl, hbq⟩
              have hc9 := cell_below hbq hc9
              have c6 := cell_below hbq c6
              have c7 := cell_below hbq c7
              have z6 := ZQ.out wq hbq (xn * 10 + 6)
              have z7 := ZQ.out wq hbq (xn * 10 + 7)
              gi_wp2
              refine wpAnyIn_take (i := 10) (v := ?_) rfl rfl (by kernel_rfl) (by kernel_rfl) (by kernel_rfl) (fun _ _ _ h => h) ⟨Or.inl ⟨by rfl, ?_⟩, fun _ => rfl⟩ ?_
              rotate_left
              · intro w; go_simp; try with_reducible rfl
              refine wpAnyIn_take (i := 11) (v := ?_) rfl rfl (by kernel_rfl) (by kernel_rfl) (by kernel_rfl) (fun _ _ _ h => h) ⟨Or.inl ⟨by rfl, ?_⟩, fun _ => rfl⟩ ?_
              rotate_left
              · intro w; go_simp; try with_reducible rfl
              refine wpAnyIn_ready (rs := [12]) (by kernel_rfl) (by simp) ?_
              refine AllReadyIn.cons rfl (fun K hK => ?_) ?_
              · go_simp
                refine hK _ _ ?_
                clear hK K
                refine wpAnyIn_take (i := 13) (v := ?_) rfl rfl (by kernel_rfl) (by kernel_rfl) (by kernel_rfl) (fun _ _ _ h => h) ⟨Or.inl ⟨by rfl, ?_⟩, fun _ => rfl⟩ ?_
                rotate_left
                · intro w; go_simp; try with_reducible rfl
                refine wpAnyIn_take (i := 14) (v := ?_) rfl rfl (by kernel_rfl) (by kernel_rfl) (by kernel_rfl) (fun _ _ _ h => h) ⟨Or.inl ⟨by rfl, ?_⟩, fun _ => rfl⟩ ?_
                rotate_left
                · intro w; go_simp; try with_reducible rfl
                refine wpAnyIn_ready (rs := [15]) (by kernel_rfl) (by simp) ?_
                refine AllReadyIn.cons rfl (fun K hK => ?_) ?_
                · go_simp
                  refine hK _ _ ?_
                  clear hK K
                  refine wpAnyIn_done (by kernel_rfl) ?_ _
                  gi_wp2
                  exact ⟨(HRD.out wq hbq).ko.from _, (HRD.out wq hbq).kp, by rw [HV.out]; exact HST.out wq hbq, hB.trans (HRD.out wq hbq).kp.low⟩
                exact AllReadyIn.nil
              exact AllReadyIn.nil
            exact AllReadyIn.nil
          exact AllReadyIn.nil
        exact AllReadyIn.nil
      refine AllReadyIn.cons rfl (fun K hK => ?_) ?_
      · go_simp
        refine hK _ _ ?_
        clear hK K
        refine wpAnyIn_take (i := 7) (v := ?_) rfl rfl (by kernel_rfl) (by kernel_rfl) (by kernel_rfl) (fun _ _ _ h => h) ⟨Or.inl ⟨by rfl, ?_⟩, fun _ => rfl⟩ ?_
        rotate_left
        · intro w; go_simp; try with_reducible rfl
        refine wpAnyIn_ready (rs := [0, 8]) (by kernel_rfl) (by simp) ?_
        refine AllReadyIn.cons rfl (fun K hK => ?_) ?_
        · go_simp
          refine hK _ _ ?_
          clear hK K
          refine wpAnyIn_ready (rs := [8]) (by kernel_rfl) (by simp) ?_
          refine AllReadyIn.cons rfl (fun K hK => ?_) ?_
          · go_simp
            refine hK _ _ ?_
            clear hK K
            refine wpAnyIn_ready (rs := [9]) (by kernel_rfl) (by simp) ?_
            refine AllReadyIn.cons rfl (fun K hK => ?_) ?_
            · go_simp
              refine ⟨trivial, hh.mono ?_⟩
              rintro e wq ⟨rfl, hbq⟩
              have hc9 := cell_below hbq hc9
              have c6 := cell_below hbq c6
              have c7 := cell_below hbq c7
              have z6 := ZQ.out wq hbq (xn * 10 + 6)
              have z7 := ZQ.out wq hbq (xn * 10 + 7)
              gi_wp2
              refine wpAnyIn_take (i := 10) (v := ?_) rfl rfl (by kernel_rfl) (by kernel_rfl) (by kernel_rfl) (fun _ _ _ h => h) ⟨Or.inl ⟨by rfl, ?_⟩, fun _ => rfl⟩ ?_
              rotate_left
              · intro w; go_simp; try with_reducible rfl
              refine wpAnyIn_take (i := 11) (v := ?_) rfl rfl (by kernel_rfl) (by kernel_rfl) (by kernel_rfl) (fun _ _ _ h => h) ⟨Or.inl ⟨by rfl, ?_⟩, fun _ => rfl⟩ ?_
              rotate_left
              · intro w; go_simp; try with_reducible rfl
              refine wpAnyIn_ready (rs := [12]) (by kernel_rfl) (by simp) ?_
              refine AllReadyIn.cons rfl (fun K hK => ?_) ?_
              · go_simp
                refine hK _ _ ?_
                clear hK K
                refine wpAnyIn_take (i := 13) (v := ?_) rfl rfl (by kernel_rfl) (by kernel_rfl) (by kernel_rfl) (fun _ _ _ h => h) ⟨Or.inl ⟨by rfl, ?_⟩, fun _ => rfl⟩ ?_
                rotate_left
                · intro w; go_simp; try with_reducible rfl
                refine wpAnyIn_take (i := 14) (v := ?_) rfl rfl (by kernel_rfl) (by kernel_rfl) (by kernel_rfl) (fun _ _ _ h => h) ⟨Or.inl ⟨by rfl, ?_⟩, fun _ => rfl⟩ ?_
                rotate_left
                · intro w; go_simp; try with_reducible rfl
                refine wpAnyIn_ready (rs := [15]) (by kernel_rfl) (by simp) ?_
                refine AllReadyIn.cons rfl (fun K hK => ?_) ?_
                · go_simp
                  refine hK _ _ ?_
                  clear hK K
                  refine wpAnyIn_done (by kernel_rfl) ?_ _
                  gi_wp2
                  exact ⟨(HRD.out wq hbq).ko.from _, (HRD.out wq hbq).kp, by rw [HV.out]; exact HST.out wq hbq, hB.trans (HRD.out wq hbq).kp.low⟩
                exact AllReadyIn.nil
              exact AllReadyIn.nil
            exact AllReadyIn.nil
          exact AllReadyIn.nil
        refine AllReadyIn.cons rfl (fun K hK => ?_) ?_
        · go_simp
          refine hK _ _ ?_
          clear hK K
          refine wpAnyIn_ready (rs := [0, 9]) (by kernel_rfl) (by simp) ?_
          refine AllReadyIn.cons rfl (fun K hK => ?_) ?_
          · go_simp
            refine hK _ _ ?_
            clear hK K
            refine wpAnyIn_ready (rs := [9]) (by kernel_rfl) (by simp) ?_
            refine AllReadyIn.cons rfl (fun K hK => ?_) ?_
            · go_simp
              refine ⟨trivial, hh.mono ?_⟩
              rintro e wq ⟨rfl, hbq⟩
              have hc9 := cell_below hbq hc9
              have c6 := cell_below hbq c6
              have c7 := cell_below hbq c7
              have z6 := ZQ.out wq hbq (xn * 10 + 6)
              have z7 := ZQ.out wq hbq (xn * 10 + 7)
              gi_wp2
              refine wpAnyIn_take (i := 10) (v := ?_) rfl rfl (by kernel_rfl) (by kernel_rfl) (by kernel_rfl) (fun _ _ _ h => h) ⟨Or.inl ⟨by rfl, ?_⟩, fun _ => rfl⟩ ?_
              rotate_left
              · intro w; go_simp; try with_reducible rfl
              refine wpAnyIn_take (i := 11) (v := ?_) rfl rfl (by kernel_rfl) (by kernel_rfl) (by kernel_rfl) (fun _ _ _ h => h) ⟨Or.inl ⟨by rfl, ?_⟩, fun _ => rfl⟩ ?_
              rotate_left
              · intro w; go_simp; try with_reducible rfl
              refine wpAnyIn_ready (rs := [12]) (by kernel_rfl) (by simp) ?_
              refine AllReadyIn.cons rfl (fun K hK => ?_) ?_
              · go_simp
                refine hK _ _ ?_
                clear hK K
                refine wpAnyIn_take (i := 13) (v := ?_) rfl rfl (by kernel_rfl) (by kernel_rfl) (by kernel_rfl) (fun _ _ _ h => h) ⟨Or.inl ⟨by rfl, ?_⟩, fun _ => rfl⟩ ?_
                rotate_left
                · intro w; go_simp; try with_reducible rfl
                refine wpAnyIn_take (i := 14) (v := ?_) rfl rfl (by kernel_rfl) (by kernel_rfl) (by kernel_rfl) (fun _ _ _ h => h) ⟨Or.inl ⟨by rfl, ?_⟩, fun _ => rfl⟩ ?_
                rotate_left
                · intro w; go_simp; try with_reducible rfl
                refine wpAnyIn_ready (rs := [15]) (by kernel_rfl) (by simp) ?_
                refine AllReadyIn.cons rfl (fun K hK => ?_) ?_
                · go_simp
                  refine hK _ _ ?_
                  clear hK K
                  refine wpAnyIn_done (by kernel_rfl) ?_ _
                  gi_wp2
                  exact ⟨(HRD.out wq hbq).ko.from _, (HRD.out wq hbq).kp, by rw [HV.out]; exact HST.out wq hbq, hB.trans (HRD.out wq hbq).kp.low⟩
                exact AllReadyIn.nil
              exact AllReadyIn.nil
            exact AllReadyIn.nil
          refine AllReadyIn.cons rfl (fun K hK => ?_) ?_
          · go_simp
            refine ⟨trivial, hh.mono ?_⟩
            rintro e wq ⟨rfl, hbq⟩
            have hc9 := cell_below hbq hc9
            have c6 := cell_below hbq c6
            have c7 := cell_below hbq c7
            have z6 := ZQ.out wq hbq (xn * 10 + 6)
            have z7 := ZQ.out wq hbq (xn * 10 + 7)
            gi_wp2
            refine wpAnyIn_ready (rs := [0]) (by kernel_rfl) (by simp) ?_
            refine AllReadyIn.cons rfl (fun K hK => ?_) ?_
            · go_simp
              refine hK _ _ ?_
              clear hK K
              refine wpAnyIn_take (i := 10) (v := ?_) rfl rfl (by kernel_rfl) (by kernel_rfl) (by kernel_rfl) (fun _ _ _ h => h) ⟨Or.inl ⟨by rfl, ?_⟩, fun _ => rfl⟩ ?_
              rotate_left
              · intro w; go_simp; try with_reducible rfl
              refine wpAnyIn_take (i := 11) (v := ?_) rfl rfl (by kernel_rfl) (by kernel_rfl) (by kernel_rfl) (fun _ _ _ h => h) ⟨Or.inl ⟨by rfl, ?_⟩, fun _ => rfl⟩ ?_
              rotate_left
              · intro w; go_simp; try with_reducible rfl
              refine wpAnyIn_ready (rs := [12]) (by kernel_rfl) (by simp) ?_
              refine AllReadyIn.cons rfl (fun K hK => ?_) ?_
              · go_simp
                refine hK _ _ ?_
                clear hK K
                refine wpAnyIn_take (i := 13) (v := ?_) rfl rfl (by kernel_rfl) (by kernel_rfl) (by kernel_rfl) (fun _ _ _ h => h) ⟨Or.inl ⟨by rfl, ?_⟩, fun _ => rfl⟩ ?_
                rotate_left
                · intro w; go_simp; try with_reducible rfl
                refine wpAnyIn_take (i := 14) (v := ?_) rfl rfl (by kernel_rfl) (by kernel_rfl) (by kernel_rfl) (fun _ _ _ h => h) ⟨Or.inl ⟨by rfl, ?_⟩, fun _ => rfl⟩ ?_
                rotate_left
                · intro w; go_simp; try with_reducible rfl
                refine wpAnyIn_ready (rs := [15]) (by kernel_rfl) (by simp) ?_
                refine AllReadyIn.cons rfl (fun K hK => ?_) ?_
                · go_simp
                  refine hK _ _ ?_
                  clear hK K
                  refine wpAnyIn_done (by kernel_rfl) ?_ _
                  gi_wp2
                  exact ⟨(HRD.out wq hbq).ko.from _, (HRD.out wq hbq).kp, by rw [HV.out]; exact HST.out wq hbq, hB.trans (HRD.out wq hbq).kp.low⟩
                exact AllReadyIn.nil
              exact AllReadyIn.nil
            exact AllReadyIn.nil
          exact AllReadyIn.nil
        exact AllReadyIn.nil
      exact AllReadyIn.nil
    refine AllReadyIn.cons rfl (fun K hK => ?_) ?_
    · go_simp
      refine hK _ _ ?_
      clear hK K
      refine wpAnyIn_take (i := 7) (v := ?_) rfl rfl (by kernel_rfl) (by kernel_rfl) (by kernel_rfl) (fun _ _ _ h => h) ⟨Or.inl ⟨by rfl, ?_⟩, fun _ => rfl⟩ ?_
      rotate_left
      · intro w; go_simp; try with_reducible rfl
      refine wpAnyIn_ready (rs := [0, 2, 8]) (by kernel_rfl) (by simp) ?_
      refine AllReadyIn.cons rfl (fun K hK => ?_) ?_
      · go_simp
        refine hK _ _ ?_
        clear hK K
        refine wpAnyIn_ready (rs := [2, 8]) (by kernel_rfl) (by simp) ?_
        refine AllReadyIn.cons rfl (fun K hK => ?_) ?_
        · go_simp
          refine hK _ _ ?_
          clear hK K
          refine wpAnyIn_ready (rs := [8]) (by kernel_rfl) (by simp) ?_
          refine AllReadyIn.cons rfl (fun K hK => ?_) ?_
          · go_simp
            refine hK _ _ ?_
            clear hK K
            refine wpAnyIn_ready (rs := [9]) (by kernel_rfl) (by simp) ?_
            refine AllReadyIn.cons rfl (fun K hK => ?_) ?_
            · go_simp
              refine ⟨trivial, hh.mono ?_⟩
              rintro e wq ⟨rfl, hbq⟩
              have hc9 := cell_below hbq hc9
              have c6 := cell_below hbq c6
              have c7 := cell_below hbq c7
              have z6 := ZQ.out wq hbq (xn * 10 + 6)
              have z7 := ZQ.out wq hbq (xn * 10 + 7)
              gi_wp2
              refine wpAnyIn_take (i := 10) (v := ?_) rfl rfl (by kernel_rfl) (by kernel_rfl) (by kernel_rfl) (fun _ _ _ h => h) ⟨Or.inl ⟨by rfl, ?_⟩, fun _ => rfl⟩ ?_
              rotate_left
              · intro w; go_simp; try with_reducible rfl
              refine wpAnyIn_take (i := 11) (v := ?_) rfl rfl (by kernel_rfl) (by kernel_rfl) (by kernel_rfl) (fun _ _ _ h => h) ⟨Or.inl ⟨by rfl, ?_⟩, fun _ => rfl⟩ ?_
              rotate_left
              · intro w; go_simp; try with_reducible rfl
              refine wpAnyIn_ready (rs := [12]) (by kernel_rfl) (by simp) ?_
              refine AllReadyIn.cons rfl (fun K hK => ?_) ?_
              · go_simp
                refine hK _ _ ?_
                clear hK K
                refine wpAnyIn_take (i := 13) (v := ?_) rfl rfl (by kernel_rfl) (by kernel_rfl) (by kernel_rfl) (fun _ _ _ h => h) ⟨Or.inl ⟨by rfl, ?_⟩, fun _ => rfl⟩ ?_
                rotate_left
                · intro w; go_simp; try with_reducible rfl
                refine wpAnyIn_take (i := 14) (v := ?_) rfl rfl (by kernel_rfl) (by kernel_rfl) (by kernel_rfl) (fun _ _ _ h => h) ⟨Or.inl ⟨by rfl, ?_⟩, fun _ => rfl⟩ ?_
                rotate_left
                · intro w; go_simp; try with_reducible rfl
                refine wpAnyIn_ready (rs := [15]) (by kernel_rfl) (by simp) ?_
                refine AllReadyIn.cons rfl (fun K hK => ?_) ?_
                · go_simp
                  refine hK _ _ ?_
                  clear hK K
                  refine wpAnyIn_done (by kernel_rfl) ?_ _
                  gi_wp2
                  exact ⟨(HRD.out wq hbq).ko.from _, (HRD.out wq hbq).kp, by rw [HV.out]; exact HST.out wq hbq, hB.trans (HRD.out wq hbq).kp.low⟩
                exact AllReadyIn.nil
              exact AllReadyIn.nil
            exact AllReadyIn.nil
          exact AllReadyIn.nil
        refine AllReadyIn.cons rfl (fun K hK => ?_) ?_
        · go_simp
          refine hK _ _ ?_
          clear hK K
          refine wpAnyIn_ready (rs := [2, 9]) (by kernel_rfl) (by simp) ?_
          refine AllReadyIn.cons rfl (fun K hK => ?_) ?_
          · go_simp
            refine hK _ _ ?_
            clear hK K
            refine wpAnyIn_ready (rs := [9]) (by kernel_rfl) (by simp) ?_
            refine AllReadyIn.cons rfl (fun K hK => ?_) ?_
            · go_simp
              refine ⟨trivial, hh.mono ?_⟩
              rintro e wq ⟨rfl, hbq⟩
              have hc9 := cell_below hbq hc9
              have c6 := cell_below hbq c6
              have c7 := cell_below hbq c7
              have z6 := ZQ.out wq hbq (xn * 10 + 6)
              have z7 := ZQ.out wq hbq (xn * 10 + 7)
              gi_wp2
              refine wpAnyIn_take (i := 10) (v := ?_) rfl rfl (by kernel_rfl) (by kernel_rfl) (by kernel_rfl) (fun _ _ _ h => h) ⟨Or.inl ⟨by rfl, ?_⟩, fun _ => rfl⟩ ?_
              rotate_left
              · intro w; go_simp; try with_reducible rfl
              refine wpAnyIn_take (i := 11) (v := ?_) rfl rfl (by kernel_rfl) (by kernel_rfl) (by kernel_rfl) (fun _ _ _ h => h) ⟨Or.inl ⟨by rfl, ?_⟩, fun _ => rfl⟩ ?_
              rotate_left
              · intro w; go_simp; try with_reducible rfl
              refine wpAnyIn_ready (rs := [12]) (by kernel_rfl) (by simp) ?_
              refine AllReadyIn.cons rfl (fun K hK => ?_) ?_
              · go_simp
                refine hK _ _ ?_
                clear hK K
                refine wpAnyIn_take (i := 13) (v := ?_) rfl rfl (by kernel_rfl) (by kernel_rfl) (by kernel_rfl) (fun _ _ _ h => h) ⟨Or.inl ⟨by rfl, ?_⟩, fun _ => rfl⟩ ?_
                rotate_left
                · intro w; go_simp; try with_reducible rfl
                refine wpAnyIn_take (i := 14) (v := ?_) rfl rfl (by kernel_rfl) (by kernel_rfl) (by kernel_rfl) (fun _ _ _ h => h) ⟨Or.inl ⟨by rfl, ?_⟩, fun _ => rfl⟩ ?_
                rotate_left
                · intro w; go_simp; try with_reducible rfl
                refine wpAnyIn_ready (rs := [15]) (by kernel_rfl) (by simp) ?_
                refine AllReadyIn.cons rfl (fun K hK => ?_) ?_
                · go_simp
                  refine hK _ _ ?_
                  clear hK K
                  refine wpAnyIn_done (by kernel_rfl) ?_ _
                  gi_wp2
                  exact ⟨(HRD.out wq hbq).ko.from _, (HRD.out wq hbq).kp, by rw [HV.out]; exact HST.out wq hbq, hB.trans (HRD.out wq hbq).kp.low⟩
                exact AllReadyIn.nil
              exact AllReadyIn.nil
            exact AllReadyIn.nil
          refine AllReadyIn.cons rfl (fun K hK => ?_) ?_
          · go_simp
            refine ⟨trivial, hh.mono ?_⟩
            rintro e wq ⟨rfl, hbq⟩
            have hc9 := cell_below hbq hc9
            have c6 := cell_below hbq c6
            have c7 := cell_below hbq c7
            have z6 := ZQ.out wq hbq (xn * 10 + 6)
            have z7 := ZQ.out wq hbq (xn * 10 + 7)
            gi_wp2
            refine wpAnyIn_take (i := 10) (v := ?_) rfl rfl (by kernel_rfl) (by kernel_rfl) (by kernel_rfl) (fun _ _ _ h => h) ⟨Or.inl ⟨by rfl, ?_⟩, fun _ => rfl⟩ ?_
            rotate_left
            · intro w; go_simp; try with_reducible rfl
            refine wpAnyIn_take (i := 11) (v := ?_) rfl rfl (by kernel_rfl) (by kernel_rfl) (by kernel_rfl) (fun _ _ _ h => h) ⟨Or.inl ⟨by rfl, ?_⟩, fun _ => rfl⟩ ?_
            rotate_left
            · intro w; go_simp; try with_reducible rfl
            refine wpAnyIn_ready (rs := [2, 12]) (by kernel_rfl) (by simp) ?_
            refine AllReadyIn.cons rfl (fun K hK => ?_) ?_
            · go_simp
              refine hK _ _ ?_
              clear hK K
              refine wpAnyIn_ready (rs := [12]) (by kernel_rfl) (by simp) ?_
              refine AllReadyIn.cons rfl (fun K hK => ?_) ?_
              · go_simp
                refine hK _ _ ?_
                clear hK K
                refine wpAnyIn_take (i := 13) (v := ?_) rfl rfl (by kernel_rfl) (by kernel_rfl) (by kernel_rfl) (fun _ _ _ h => h) ⟨Or.inl ⟨by rfl, ?_⟩, fun _ => rfl⟩ ?_
                rotate_left
                · intro w; go_simp; try with_reducible rfl
                refine wpAnyIn_take (i := 14) (v := ?_) rfl rfl (by kernel_rfl) (by kernel_rfl) (by kernel_rfl) (fun _ _ _ h => h) ⟨Or.inl ⟨by rfl, ?_⟩, fun _ => rfl⟩ ?_
                rotate_left
                · intro w; go_simp; try with_reducible rfl
                refine wpAnyIn_ready (rs := [15]) (by kernel_rfl) (by simp) ?_
                refine AllReadyIn.cons rfl (fun K hK => ?_) ?_
                · go_simp
                  refine hK _ _ ?_
                  clear hK K
                  refine wpAnyIn_done (by kernel_rfl) ?_ _
                  gi_wp2
                  exact ⟨(HRD.out wq hbq).ko.from _, (HRD.out wq hbq).kp, by rw [HV.out]; exact HST.out wq hbq, hB.trans (HRD.out wq hbq).kp.low⟩
                exact AllReadyIn.nil
              exact AllReadyIn.nil
            refine AllReadyIn.cons rfl (fun K hK => ?_) ?_
            · go_simp
              refine hK _ _ ?_
              clear hK K
              refine wpAnyIn_ready (rs := [2]) (by kernel_rfl) (by simp) ?_
              refine AllReadyIn.cons rfl (fun K hK => ?_) ?_
              · go_simp
                refine hK _ _ ?_
                clear hK K
                refine wpAnyIn_take (i := 13) (v := ?_) rfl rfl (by kernel_rfl) (by kernel_rfl) (by kernel_rfl) (fun _ _ _ h => h) ⟨Or.inl ⟨by rfl, ?_⟩, fun _ => rfl⟩ ?_
                rotate_left
                · intro w; go_simp; try with_reducible rfl
                refine wpAnyIn_take (i := 14) (v := ?_) rfl rfl (by kernel_rfl) (by kernel_rfl) (by kernel_rfl) (fun _ _ _ h => h) ⟨Or.inl ⟨by rfl, ?_⟩, fun _ => rfl⟩ ?_
                rotate_left
                · intro w; go_simp; try with_reducible rfl
                refine wpAnyIn_ready (rs := [15]) (by kernel_rfl) (by simp) ?_
                refine AllReadyIn.cons rfl (fun K hK => ?_) ?_
                · go_simp
                  refine hK _ _ ?_
                  clear hK K
                  refine wpAnyIn_done (by kernel_rfl) ?_ _
                  gi_wp2
                  exact ⟨(HRD.out wq hbq).ko.from _, (HRD.out wq hbq).kp, by rw [HV.out]; exact HST.out wq hbq, hB.trans (HRD.out wq hbq).kp.low⟩
                exact AllReadyIn.nil
              exact AllReadyIn.nil
            exact AllReadyIn.nil
          exact AllReadyIn.nil
        exact AllReadyIn.nil
      refine AllReadyIn.cons rfl (fun K hK => ?_) ?_
      · go_simp
        refine hK _ _ ?_
        clear hK K
        refine wpAnyIn_ready (rs := [0, 8]) (by kernel_rfl) (by simp) ?_
        refine AllReadyIn.cons rfl (fun K hK => ?_) ?_
        · go_simp
          refine hK _ _ ?_
          clear hK K
          refine wpAnyIn_ready (rs := [8]) (by kernel_rfl) (by simp) ?_
          refine AllReadyIn.cons rfl (fun K hK => ?_) ?_
          · go_simp
            refine hK _ _ ?_
            clear hK K
            refine wpAnyIn_ready (rs := [9]) (by kernel_rfl) (by simp) ?_
            refine AllReadyIn.cons rfl (fun K hK => ?_) ?_
            · go_simp
              refine ⟨trivial, hh.mono ?_⟩
              rintro e wq ⟨rfl, hbq⟩
              have hc9 := cell_below hbq hc9
              have c6 := cell_below hbq c6
              have c7 := cell_below hbq c7
              have z6 := ZQ.out wq hbq (xn * 10 + 6)
              have z7 := ZQ.out wq hbq (xn * 10 + 7)
              gi_wp2
              refine wpAnyIn_take (i := 10) (v := ?_) rfl rfl (by kernel_rfl) (by kernel_rfl) (by kernel_rfl) (fun _ _ _ h => h) ⟨Or.inl ⟨by rfl, ?_⟩, fun _ => rfl⟩ ?_
              rotate_left
              · intro w; go_simp; try with_reducible rfl
              refine wpAnyIn_take (i := 11) (v := ?_) rfl rfl (by kernel_rfl) (by kernel_rfl) (by kernel_rfl) (fun _ _ _ h => h) ⟨Or.inl ⟨by rfl, ?_⟩, fun _ => rfl⟩ ?_
              rotate_left
              · intro w; go_simp; try with_reducible rfl
              refine wpAnyIn_ready (rs := [12]) (by kernel_rfl) (by simp) ?_
              refine AllReadyIn.cons rfl (fun K hK => ?_) ?_
              · go_simp
                refine hK _ _ ?_
                clear hK K
                refine wpAnyIn_take (i := 13) (v := ?_) rfl rfl (by kernel_rfl) (by kernel_rfl) (by kernel_rfl) (fun _ _ _ h => h) ⟨Or.inl ⟨by rfl, ?_⟩, fun _ => rfl⟩ ?_
                rotate_left
                · intro w; go_simp; try with_reducible rfl
                refine wpAnyIn_take (i := 14) (v := ?_) rfl rfl (by kernel_rfl) (by kernel_rfl) (by kernel_rfl) (fun _ _ _ h => h) ⟨Or.inl ⟨by rfl, ?_⟩, fun _ => rfl⟩ ?_
                rotate_left
                · intro w; go_simp; try with_reducible rfl
                refine wpAnyIn_ready (rs := [15]) (by kernel_rfl) (by simp) ?_
                refine AllReadyIn.cons rfl (fun K hK => ?_) ?_
                · go_simp
                  refine hK _ _ ?_
                  clear hK K
                  refine wpAnyIn_done (by kernel_rfl) ?_ _
                  gi_wp2
                  exact ⟨(HRD.out wq hbq).ko.from _, (HRD.out wq hbq).kp, by rw [HV.out]; exact HST.out wq hbq, hB.trans (HRD.out wq hbq).kp.low⟩
                exact AllReadyIn.nil
              exact AllReadyIn.nil
            exact AllReadyIn.nil
          exact AllReadyIn.nil
        refine AllReadyIn.cons rfl (fun K hK => ?_) ?_
        · go_simp
          refine hK _ _ ?_
          clear hK K
          refine wpAnyIn_ready (rs := [0, 9]) (by kernel_rfl) (by simp) ?_
          refine AllReadyIn.cons rfl (fun K hK => ?_) ?_
          · go_simp
            refine hK _ _ ?_
            clear hK K
            refine wpAnyIn_ready (rs := [9]) (by kernel_rfl) (by simp) ?_
            refine AllReadyIn.cons rfl (fun K hK => ?_) ?_
            · go_simp
              refine ⟨trivial, hh.mono ?_⟩
              rintro e wq ⟨rfl, hbq⟩
              have hc9 := cell_below hbq hc9
              have c6 := cell_below hbq c6
              have c7 := cell_below hbq c7
              have z6 := ZQ.out wq hbq (xn * 10 + 6)
              have z7 := ZQ.out wq hbq (xn * 10 + 7)
              gi_wp2
              refine wpAnyIn_take (i := 10) (v := ?_) rfl rfl (by kernel_rfl) (by kernel_rfl) (by kernel_rfl) (fun _ _ _ h => h) ⟨Or.inl ⟨by rfl, ?_⟩, fun _ => rfl⟩ ?_
              rotate_left
              · intro w; go_simp; try with_reducible rfl
              refine wpAnyIn_take (i := 11) (v := ?_) rfl rfl (by kernel_rfl) (by kernel_rfl) (by kernel_rfl) (fun _ _ _ h => h) ⟨Or.inl ⟨by rfl, ?_⟩, fun _ => rfl⟩ ?_
              rotate_left
              · intro w; go_simp; try with_reducible rfl
              refine wpAnyIn_ready (rs := [12]) (by kernel_rfl) (by simp) ?_
              refine AllReadyIn.cons rfl (fun K hK => ?_) ?_
              · go_simp
                refine hK _ _ ?_
                clear hK K
                refine wpAnyIn_take (i := 13) (v := ?_) rfl rfl (by kernel_rfl) (by kernel_rfl) (by kernel_rfl) (fun _ _ _ h => h) ⟨Or.inl ⟨by rfl, ?_⟩, fun _ => rfl⟩ ?_
                rotate_left
                · intro w; go_simp; try with_reducible rfl
                refine wpAnyIn_take (i := 14) (v := ?_) rfl rfl (by kernel_rfl) (by kernel_rfl) (by kernel_rfl) (fun _ _ _ h => h) ⟨Or.inl ⟨by rfl, ?_⟩, fun _ => rfl⟩ ?_
                rotate_left
                · intro w; go_simp; try with_reducible rfl
                refine wpAnyIn_ready (rs := [15]) (by kernel_rfl) (by simp) ?_
                refine AllReadyIn.cons rfl (fun K hK => ?_) ?_
                · go_simp
                  refine hK _ _ ?_
                  clear hK K
                  refine wpAnyIn_done (by kernel_rfl) ?_ _
                  gi_wp2
                  exact ⟨(HRD.out wq hbq).ko.from _, (HRD.out wq hbq).kp, by rw [HV.out]; exact HST.out wq hbq, hB.trans (HRD.out wq hbq).kp.low⟩
                exact AllReadyIn.nil
              exact AllReadyIn.nil
            exact AllReadyIn.nil
          refine AllReadyIn.cons rfl (fun K hK => ?_) ?_
          · go_simp
            refine ⟨trivial, hh.mono ?_⟩
            rintro e wq ⟨rfl, hbq⟩
            have hc9 := cell_below hbq hc9
            have c6 := cell_below hbq c6
            have c7 := cell_below hbq c7
            have z6 := ZQ.out wq hbq (xn * 10 + 6)
            have z7 := ZQ.out wq hbq (xn * 10 + 7)
            gi_wp2
            refine wpAnyIn_ready (rs := [0]) (by kernel_rfl) (by simp) ?_
            refine AllReadyIn.cons rfl (fun K hK => ?_) ?_
            · go_simp
              refine hK _ _ ?_
              clear hK K
              refine wpAnyIn_take (i := 10) (v := ?_) rfl rfl (by kernel_rfl) (by kernel_rfl) (by kernel_rfl) (fun _ _ _ h => h) ⟨Or.inl ⟨by rfl, ?_⟩, fun _ => rfl⟩ ?_
              rotate_left
              · intro w; go_simp; try with_reducible rfl
              refine wpAnyIn_take (i := 11) (v := ?_) rfl rfl (by kernel_rfl) (by kernel_rfl) (by kernel_rfl) (fun _ _ _ h => h) ⟨Or.inl ⟨by rfl, ?_⟩, fun _ => rfl⟩ ?_
              rotate_left
              · intro w; go_simp; try with_reducible rfl
              refine wpAnyIn_ready (rs := [12]) (by kernel_rfl) (by simp) ?_
              refine AllReadyIn.cons rfl (fun K hK => ?_) ?_
              · go_simp
                refine hK _ _ ?_
                clear hK K
                refine wpAnyIn_take (i := 13) (v := ?_) rfl rfl (by kernel_rfl) (by kernel_rfl) (by kernel_rfl) (fun _ _ _ h => h) ⟨Or.inl ⟨by rfl, ?_⟩, fun _ => rfl⟩ ?_
                rotate_left
                · intro w; go_simp; try with_reducible rfl
                refine wpAnyIn_take (i := 14) (v := ?_) rfl rfl (by kernel_rfl) (by kernel_rfl) (by kernel_rfl) (fun _ _ _ h => h) ⟨Or.inl ⟨by rfl, ?_⟩, fun _ => rfl⟩ ?_
                rotate_left
                · intro w; go_simp; try with_reducible rfl
                refine wpAnyIn_ready (rs := [15]) (by kernel_rfl) (by simp) ?_
                refine AllReadyIn.cons rfl (fun K hK => ?_) ?_
                · go_simp
                  refine hK _ _ ?_
                  clear hK K
                  refine wpAnyIn_done (by kernel_rfl) ?_ _
                  gi_wp2
                  exact ⟨(HRD.out wq hbq).ko.from _, (HRD.out wq hbq).kp, by rw [HV.out]; exact HST.out wq hbq, hB.trans (HRD.out wq hbq).kp.low⟩
                exact AllReadyIn.nil
              exact AllReadyIn.nil
            exact AllReadyIn.nil
          exact AllReadyIn.nil
        exact AllReadyIn.nil
      refine AllReadyIn.cons rfl (fun K hK => ?_) ?_
      · go_simp
        refine hK _ _ ?_
        clear hK K
        refine wpAnyIn_ready (rs := [0, 2, 9]) (by kernel_rfl) (by simp) ?_
        refine AllReadyIn.cons rfl (fun K hK => ?_) ?_
        · go_simp
          refine hK _ _ ?_
          clear hK K
          refine wpAnyIn_ready (rs := [2, 9]) (by kernel_rfl) (by simp) ?_
          refine AllReadyIn.cons rfl (fun K hK => ?_) ?_
          · go_simp
            refine hK _ _ ?_
            clear hK K
            refine wpAnyIn_ready (rs := [9]) (by kernel_rfl) (by simp) ?_
            refine AllReadyIn.cons rfl (fun K hK => ?_) ?_
            · go_simp
              refine ⟨trivial, hh.mono ?_⟩
              rintro e wq ⟨rfl, hbq⟩
              have hc9 := cell_below hbq hc9
              have c6 := cell_below hbq c6
              have c7 := cell_below hbq c7
              have z6 := ZQ.out wq hbq (xn * 10 + 6)
              have z7 := ZQ.out wq hbq (xn * 10 + 7)
              gi_wp2
              refine wpAnyIn_take (i := 10) (v := ?_) rfl rfl (by kernel_rfl) (by kernel_rfl) (by kernel_rfl) (fun _ _ _ h => h) ⟨Or.inl ⟨by rfl, ?_⟩, fun _ => rfl⟩ ?_
              rotate_left
              · intro w; go_simp; try with_reducible rfl
              refine wpAnyIn_take (i := 11) (v := ?_) rfl rfl (by kernel_rfl) (by kernel_rfl) (by kernel_rfl) (fun _ _ _ h => h) ⟨Or.inl ⟨by rfl, ?_⟩, fun _ => rfl⟩ ?_
              rotate_left
              · intro w; go_simp; try with_reducible rfl
              refine wpAnyIn_ready (rs := [12]) (by kernel_rfl) (by simp) ?_
              refine AllReadyIn.cons rfl (fun K hK => ?_) ?_
              · go_simp
                refine hK _ _ ?_
                clear hK K
                refine wpAnyIn_take (i := 13) (v := ?_) rfl rfl (by kernel_rfl) (by kernel_rfl) (by kernel_rfl) (fun _ _ _ h => h) ⟨Or.inl ⟨by rfl, ?_⟩, fun _ => rfl⟩ ?_
                rotate_left
                · intro w; go_simp; try with_reducible rfl
                refine wpAnyIn_take (i := 14) (v := ?_) rfl rfl (by kernel_rfl) (by kernel_rfl) (by kernel_rfl) (fun _ _ _ h => h) ⟨Or.inl ⟨by rfl, ?_⟩, fun _ => rfl⟩ ?_
                rotate_left
                · intro w; go_simp; try with_reducible rfl
                refine wpAnyIn_ready (rs := [15]) (by kernel_rfl) (by simp) ?_
                refine AllReadyIn.cons rfl (fun K hK => ?_) ?_
                · go_simp
                  refine hK _ _ ?_
                  clear hK K
                  refine wpAnyIn_done (by kernel_rfl) ?_ _
                  gi_wp2
                  exact ⟨(HRD.out wq hbq).ko.from _, (HRD.out wq hbq).kp, by rw [HV.out]; exact HST.out wq hbq, hB.trans (HRD.out wq hbq).kp.low⟩
                exact AllReadyIn.nil
              exact AllReadyIn.nil
            exact AllReadyIn.nil
          refine AllReadyIn.cons rfl (fun K hK => ?_) ?_
          · go_simp
            refine ⟨trivial, hh.mono ?_⟩
            rintro e wq ⟨rfl, hbq⟩
            have hc9 := cell_below hbq hc9
            have c6 := cell_below hbq c6
            have c7 := cell_below hbq c7
            have z6 := ZQ.out wq hbq (xn * 10 + 6)
            have z7 := ZQ.out wq hbq (xn * 10 + 7)
            gi_wp2
            refine wpAnyIn_take (i := 10) (v := ?_) rfl rfl (by kernel_rfl) (by kernel_rfl) (by kernel_rfl) (fun _ _ _ h => h) ⟨Or.inl ⟨by rfl, ?_⟩, fun _ => rfl⟩ ?_
            rotate_left
            · intro w; go_simp; try with_reducible rfl
            refine wpAnyIn_take (i := 11) (v := ?_) rfl rfl (by kernel_rfl) (by kernel_rfl) (by kernel_rfl) (fun _ _ _ h => h) ⟨Or.inl ⟨by rfl, ?_⟩, fun _ => rfl⟩ ?_
            rotate_left
            · intro w; go_simp; try with_reducible rfl
            refine wpAnyIn_ready (rs := [2, 12]) (by kernel_rfl) (by simp) ?_
            refine AllReadyIn.cons rfl (fun K hK => ?_) ?_
            · go_simp
              refine hK _ _ ?_
              clear hK K
              refine wpAnyIn_ready (rs := [12]) (by kernel_rfl) (by simp) ?_
              refine AllReadyIn.cons rfl (fun K hK => ?_) ?_
              · go_simp
                refine hK _ _ ?_
                clear hK K
                refine wpAnyIn_take (i := 13) (v := ?_) rfl rfl (by kernel_rfl) (by kernel_rfl) (by kernel_rfl) (fun _ _ _ h => h) ⟨Or.inl ⟨by rfl, ?_⟩, fun _ => rfl⟩ ?_
                rotate_left
                · intro w; go_simp; try with_reducible rfl
                refine wpAnyIn_take (i := 14) (v := ?_) rfl rfl (by kernel_rfl) (by kernel_rfl) (by kernel_rfl) (fun _ _ _ h => h) ⟨Or.inl ⟨by rfl, ?_⟩, fun _ => rfl⟩ ?_
                rotate_left
                · intro w; go_simp; try with_reducible rfl
                refine wpAnyIn_ready (rs := [15]) (by kernel_rfl) (by simp) ?_
                refine AllReadyIn.cons rfl (fun K hK => ?_) ?_
                · go_simp
                  refine hK _ _ ?_
                  clear hK K
                  refine wpAnyIn_done (by kernel_rfl) ?_ _
                  gi_wp2
                  exact ⟨(HRD.out wq hbq).ko.from _, (HRD.out wq hbq).kp, by rw [HV.out]; exact HST.out wq hbq, hB.trans (HRD.out wq hbq).kp.low⟩
                exact AllReadyIn.nil
              exact AllReadyIn.nil
            refine AllReadyIn.cons rfl (fun K hK => ?_) ?_
            · go_simp
              refine hK _ _ ?_
              clear hK K
              refine wpAnyIn_ready (rs := [2]) (by kernel_rfl) (by simp) ?_
              refine AllReadyIn.cons rfl (fun K hK => ?_) ?_
              · go_simp
                refine hK _ _ ?_
                clear hK K
                refine wpAnyIn_take (i := 13) (v := ?_) rfl rfl (by kernel_rfl) (by kernel_rfl) (by kernel_rfl) (fun _ _ _ h => h) ⟨Or.inl ⟨by rfl, ?_⟩, fun _ => rfl⟩ ?_
                rotate_left
                · intro w; go_simp; try with_reducible rfl
                refine wpAnyIn_take (i := 14) (v := ?_) rfl rfl (by kernel_rfl) (by kernel_rfl) (by kernel_rfl) (fun _ _ _ h => h) ⟨Or.inl ⟨by rfl, ?_⟩, fun _ => rfl⟩ ?_
                rotate_left
                · intro w; go_simp; try with_reducible rfl
                refine wpAnyIn_ready (rs := [15]) (by kernel_rfl) (by simp) ?_
                refine AllReadyIn.cons rfl (fun K hK => ?_) ?_
                · go_simp
                  refine hK _ _ ?_
                  clear hK K
                  refine wpAnyIn_done (by kernel_rfl) ?_ _
                  gi_wp2
                  exact ⟨(HRD.out wq hbq).ko.from _, (HRD.out wq hbq).kp, by rw [HV.out]; exact HST.out wq hbq, hB.trans (HRD.out wq hbq).kp.low⟩
                exact AllReadyIn.nil
              exact AllReadyIn.nil
            exact AllReadyIn.nil
          exact AllReadyIn.nil
        refine AllReadyIn.cons rfl (fun K hK => ?_) ?_
        · go_simp
          refine hK _ _ ?_
          clear hK K
          refine wpAnyIn_ready (rs := [0, 9]) (by kernel_rfl) (by simp) ?_
          refine AllReadyIn.cons rfl (fun K hK => ?_) ?_
          · go_simp
            refine hK _ _ ?_
            clear hK K
            refine wpAnyIn_ready (rs := [9]) (by kernel_rfl) (by simp) ?_
            refine AllReadyIn.cons rfl (fun K hK => ?_) ?_
            · go_simp
              refine ⟨trivial, hh.mono ?_⟩
              rintro e wq ⟨rfl, hbq⟩
              have hc9 := cell_below hbq hc9
              have c6 := cell_below hbq c6
              have c7 := cell_below hbq c7
              have z6 := ZQ.out wq hbq (xn * 10 + 6)
              have z7 := ZQ.out wq hbq (xn * 10 + 7)
              gi_wp2
              refine wpAnyIn_take (i := 10) (v := ?_) rfl rfl (by kernel_rfl) (by kernel_rfl) (by kernel_rfl) (fun _ _ _ h => h) ⟨Or.inl ⟨by rfl, ?_⟩, fun _ => rfl⟩ ?_
              rotate_left
              · intro w; go_simp; try with_reducible rfl
              refine wpAnyIn_take (i := 11) (v := ?_) rfl rfl (by kernel_rfl) (by kernel_rfl) (by kernel_rfl) (fun _ _ _ h => h) ⟨Or.inl ⟨by rfl, ?_⟩, fun _ => rfl⟩ ?_
              rotate_left
              · intro w; go_simp; try with_reducible rfl
              refine wpAnyIn_ready (rs := [12]) (by kernel_rfl) (by simp) ?_
              refine AllReadyIn.cons rfl (fun K hK => ?_) ?_
              · go_simp
                refine hK _ _ ?_
                clear hK K
                refine wpAnyIn_take (i := 13) (v := ?_) rfl rfl (by kernel_rfl) (by kernel_rfl) (by kernel_rfl) (fun _ _ _ h => h) ⟨Or.inl ⟨by rfl, ?_⟩, fun _ => rfl⟩ ?_
                rotate_left
                · intro w; go_simp; try with_reducible rfl
                refine wpAnyIn_take (i := 14) (v := ?_) rfl rfl (by kernel_rfl) (by kernel_rfl) (by kernel_rfl) (fun _ _ _ h => h) ⟨Or.inl ⟨by rfl, ?_⟩, fun _ => rfl⟩ ?_
                rotate_left
                · intro w; go_simp; try with_reducible rfl
                refine wpAnyIn_ready (rs := [15]) (by kernel_rfl) (by simp) ?_
                refine AllReadyIn.cons rfl (fun K hK => ?_) ?_
                · go_simp
                  refine hK _ _ ?_
                  clear hK K
                  refine wpAnyIn_done (by kernel_rfl) ?_ _
                  gi_wp2
                  exact ⟨(HRD.out wq hbq).ko.from _, (HRD.out wq hbq).kp, by rw [HV.out]; exact HST.out wq hbq, hB.trans (HRD.out wq hbq).kp.low⟩
                exact AllReadyIn.nil
              exact AllReadyIn.nil
            exact AllReadyIn.nil
          refine AllReadyIn.cons rfl (fun K hK => ?_) ?_
          · go_simp
            refine ⟨trivial, hh.mono ?_⟩
            rintro e wq ⟨rfl, hbq⟩
            have hc9 := cell_below hbq hc9
            have c6 := cell_below hbq c6
            have c7 := cell_below hbq c7
            have z6 := ZQ.out wq hbq (xn * 10 + 6)
            have z7 := ZQ.out wq hbq (xn * 10 + 7)
            gi_wp2
            refine wpAnyIn_ready (rs := [0]) (by kernel_rfl) (by simp) ?_
            refine AllReadyIn.cons rfl (fun K hK => ?_) ?_
            · go_simp
              refine hK _ _ ?_
              clear hK K
              refine wpAnyIn_take (i := 10) (v := ?_) rfl rfl (by kernel_rfl) (by kernel_rfl) (by kernel_rfl) (fun _ _ _ h => h) ⟨Or.inl ⟨by rfl, ?_⟩, fun _ => rfl⟩ ?_
              rotate_left
              · intro w; go_simp; try with_reducible rfl
              refine wpAnyIn_take (i := 11) (v := ?_) rfl rfl (by kernel_rfl) (by kernel_rfl) (by kernel_rfl) (fun _ _ _ h => h) ⟨Or.inl ⟨by rfl, ?_⟩, fun _ => rfl⟩ ?_
              rotate_left
              · intro w; go_simp; try with_reducible rfl
              refine wpAnyIn_ready (rs := [12]) (by kernel_rfl) (by simp) ?_
              refine AllReadyIn.cons rfl (fun K hK => ?_) ?_
              · go_simp
                refine hK _ _ ?_
                clear hK K
                refine wpAnyIn_take (i := 13) (v := ?_) rfl rfl (by kernel_rfl) (by kernel_rfl) (by kernel_rfl) (fun _ _ _ h => h) ⟨Or.inl ⟨by rfl, ?_⟩, fun _ => rfl⟩ ?_
                rotate_left
                · intro w; go_simp; try with_reducible rfl
                refine wpAnyIn_take (i := 14) (v := ?_) rfl rfl (by kernel_rfl) (by kernel_rfl) (by kernel_rfl) (fun _ _ _ h => h) ⟨Or.inl ⟨by rfl, ?_⟩, fun _ => rfl⟩ ?_
                rotate_left
                · intro w; go_simp; try with_reducible rfl
                refine wpAnyIn_ready (rs := [15]) (by kernel_rfl) (by simp) ?_
                refine AllReadyIn.cons rfl (fun K hK => ?_) ?_
                · go_simp
                  refine hK _ _ ?_
                  clear hK K
                  refine wpAnyIn_done (by kernel_rfl) ?_ _
                  gi_wp2
                  exact ⟨(HRD.out wq hbq).ko.from _, (HRD.out wq hbq).kp, by rw [HV.out]; exact HST.out wq hbq, hB.trans (HRD.out wq hbq).kp.low⟩
                exact AllReadyIn.nil
              exact AllReadyIn.nil
            exact AllReadyIn.nil
          exact AllReadyIn.nil
        refine AllReadyIn.cons rfl (fun K hK => ?_) ?_
        · go_simp
          refine ⟨trivial, hh.mono ?_⟩
          rintro e wq ⟨rfl, hbq⟩
          have hc9 := cell_below hbq hc9
          have c6 := cell_below hbq c6
          have c7 := cell_below hbq c7
          have z6 := ZQ.out wq hbq (xn * 10 + 6)
          have z7 := ZQ.out wq hbq (xn * 10 + 7)
          gi_wp2
          refine wpAnyIn_ready (rs := [0, 2]) (by kernel_rfl) (by simp) ?_
          refine AllReadyIn.cons rfl (fun K hK => ?_) ?_
          · go_simp
            refine hK _ _ ?_
            clear hK K
            refine wpAnyIn_take (i := 10) (v := ?_) rfl rfl (by kernel_rfl) (by kernel_rfl) (by kernel_rfl) (fun _ _ _ h => h) ⟨Or.inl ⟨by rfl, ?_⟩, fun _ => rfl⟩ ?_
            rotate_left
            · intro w; go_simp; try with_reducible rfl
            refine wpAnyIn_take (i := 11) (v := ?_) rfl rfl (by kernel_rfl) (by kernel_rfl) (by kernel_rfl) (fun _ _ _ h => h) ⟨Or.inl ⟨by rfl, ?_⟩, fun _ => rfl⟩ ?_
            rotate_left
            · intro w; go_simp; try with_reducible rfl
            refine wpAnyIn_ready (rs := [2, 12]) (by kernel_rfl) (by simp) ?_
            refine AllReadyIn.cons rfl (fun K hK => ?_) ?_
            · go_simp
              refine hK _ _ ?_
              clear hK K
              refine wpAnyIn_ready (rs := [12]) (by kernel_rfl) (by simp) ?_
              refine AllReadyIn.cons rfl (fun K hK => ?_) ?_
              · go_simp
                refine hK _ _ ?_
                clear hK K
                refine wpAnyIn_take (i := 13) (v := ?_) rfl rfl (by kernel_rfl) (by kernel_rfl) (by kernel_rfl) (fun _ _ _ h => h) ⟨Or.inl ⟨by rfl, ?_⟩, fun _ => rfl⟩ ?_
                rotate_left
                · intro w; go_simp; try with_reducible rfl
                refine wpAnyIn_take (i := 14) (v := ?_) rfl rfl (by kernel_rfl) (by kernel_rfl) (by kernel_rfl) (fun _ _ _ h => h) ⟨Or.inl ⟨by rfl, ?_⟩, fun _ => rfl⟩ ?_
                rotate_left
                · intro w; go_simp; try with_reducible rfl
                refine wpAnyIn_ready (rs := [15]) (by kernel_rfl) (by simp) ?_
                refine AllReadyIn.cons rfl (fun K hK => ?_) ?_
                · go_simp
                  refine hK _ _ ?_
                  clear hK K
                  refine wpAnyIn_done (by kernel_rfl) ?_ _
                  gi_wp2
                  exact ⟨(HRD.out wq hbq).ko.from _, (HRD.out wq hbq).kp, by rw [HV.out]; exact HST.out wq hbq, hB.trans (HRD.out wq hbq).kp.low⟩
                exact AllReadyIn.nil
              exact AllReadyIn.nil
            refine AllReadyIn.cons rfl (fun K hK => ?_) ?_
            · go_simp
              refine hK _ _ ?_
              clear hK K
              refine wpAnyIn_ready (rs := [2]) (by kernel_rfl) (by simp) ?_
              refine AllReadyIn.cons rfl (fun K hK => ?_) ?_
              · go_simp
                refine hK _ _ ?_
                clear hK K
                refine wpAnyIn_take (i := 13) (v := ?_) rfl rfl (by kernel_rfl) (by kernel_rfl) (by kernel_rfl) (fun _ _ _ h => h) ⟨Or.inl ⟨by rfl, ?_⟩, fun _ => rfl⟩ ?_
                rotate_left
                · intro w; go_simp; try with_reducible rfl
                refine wpAnyIn_take (i := 14) (v := ?_) rfl rfl (by kernel_rfl) (by kernel_rfl) (by kernel_rfl) (fun _ _ _ h => h) ⟨Or.inl ⟨by rfl, ?_⟩, fun _ => rfl⟩ ?_
                rotate_left
                · intro w; go_simp; try with_reducible rfl
                refine wpAnyIn_ready (rs := [15]) (by kernel_rfl) (by simp) ?_
                refine AllReadyIn.cons rfl (fun K hK => ?_) ?_
                · go_simp
                  refine hK _ _ ?_
                  clear hK K
                  refine wpAnyIn_done (by kernel_rfl) ?_ _
                  gi_wp2
                  exact ⟨(HRD.out wq hbq).ko.from _, (HRD.out wq hbq).kp, by rw [HV.out]; exact HST.out wq hbq, hB.trans (HRD.out wq hbq).kp.low⟩
                exact AllReadyIn.nil
              exact AllReadyIn.nil
            exact AllReadyIn.nil
          refine AllReadyIn.cons rfl (fun K hK => ?_) ?_
          · go_simp
            refine hK _ _ ?_
            clear hK K
            refine wpAnyIn_ready (rs := [0]) (by kernel_rfl) (by simp) ?_
            refine AllReadyIn.cons rfl (fun K hK => ?_) ?_
            · go_simp
              refine hK _ _ ?_
              clear hK K
              refine wpAnyIn_take (i := 10) (v := ?_) rfl rfl (by kernel_rfl) (by kernel_rfl) (by kernel_rfl) (fun _ _ _ h => h) ⟨Or.inl ⟨by rfl, ?_⟩, fun _ => rfl⟩ ?_
              rotate_left
              · intro w; go_simp; try with_reducible rfl
              refine wpAnyIn_take (i := 11) (v := ?_) rfl rfl (by kernel_rfl) (by kernel_rfl) (by kernel_rfl) (fun _ _ _ h => h) ⟨Or.inl ⟨by rfl, ?_⟩, fun _ => rfl⟩ ?_
              rotate_left
              · intro w; go_simp; try with_reducible rfl
              refine wpAnyIn_ready (rs := [12]) (by kernel_rfl) (by simp) ?_
              refine AllReadyIn.cons rfl (fun K hK => ?_) ?_
              · go_simp
                refine hK _ _ ?_
                clear hK K
                refine wpAnyIn_take (i := 13) (v := ?_) rfl rfl (by kernel_rfl) (by kernel_rfl) (by kernel_rfl) (fun _ _ _ h => h) ⟨Or.inl ⟨by rfl, ?_⟩, fun _ => rfl⟩ ?_
                rotate_left
                · intro w; go_simp; try with_reducible rfl
                refine wpAnyIn_take (i := 14) (v := ?_) rfl rfl (by kernel_rfl) (by kernel_rfl) (by kernel_rfl) (fun _ _ _ h => h) ⟨Or.inl ⟨by rfl, ?_⟩, fun _ => rfl⟩ ?_
                rotate_left
                · intro w; go_simp; try with_reducible rfl
                refine wpAnyIn_ready (rs := [15]) (by kernel_rfl) (by simp) ?_
                refine AllReadyIn.cons rfl (fun K hK => ?_) ?_
                · go_simp
                  refine hK _ _ ?_
                  clear hK K
                  refine wpAnyIn_done (by kernel_rfl) ?_ _
                  gi_wp2
                  exact ⟨(HRD.out wq hbq).ko.from _, (HRD.out wq hbq).kp, by rw [HV.out]; exact HST.out wq hbq, hB.trans (HRD.out wq hbq).kp.low⟩
                exact AllReadyIn.nil
              exact AllReadyIn.nil
            exact AllReadyIn.nil
          exact AllReadyIn.nil
        exact AllReadyIn.nil
      exact AllReadyIn.nil
    exact AllReadyIn.nil
  case done =>
    rintro D ys W hD hys ⟨hst, hB⟩ hK
    rw [hys] at hst
    have hc9 := hst.b0.cell
    have f0 : W.cell? ⟨w.heap.size, 0, none⟩ = some (.slice (some ⟨b, off, none⟩) l.length cap) := (hB.cell (p := ⟨w.heap.size, 0, none⟩) hlt0).trans f0
    have hfx := (callsIn_wide (n := 999)).2 (fix_any (.slice (some ⟨b, off, none⟩) l.length cap) l HD.out.fine HR.out sel hs w1 hA1 W (HG.out.below hb01) (hB0.trans hB) (.slice (some ⟨g, 0, none⟩) cs.length c9) (mapOn (resetG l) cs (optsP l (sel : Int))) fs hst.own (by rw [mapOn_len]; exact HLC.out.symm))
    clear hst
    gi_wp2
    refine ⟨trivial, hfx.mono ?_⟩
    rintro e w9 ⟨⟨u, rfl⟩, ho9, hb9, hg9⟩
    have hc9 : w9.cell? ⟨w2.heap.size, 0, none⟩ = some (.slice (some ⟨g, 0, none⟩) cs.length c9) := hg9.cell hc9 (fun e => by have e : w2.heap.size = g := Option.some.inj e; omega)
    have hK9 : w9.heap[D]? = some (.deferred (some [])) := (hg9.block D (Array.getElem?_eq_some_iff.1 hK).1 (fun e => by have e : D = g := Option.some.inj e; omega)).trans hK
    have HO9 := Lib.hid ho9
    have HB9 := Lib.hid hb9
    clear ho9 hb9 hg9 hfx
    gi_wp2
    refine ⟨by simp, .inl ⟨_, _, rfl, run_takeDeferred hK9, ?_⟩⟩
    refine ⟨_, results_tmp rfl _ _ _, _, fs, rfl, (HO9.out.keptO (grownBy_putObj' w9 D _) (fun r e => by cases e; exact ⟨_, hK9, rfl⟩)).lower hz1, ?_⟩
    exact hb01.trans ((hb17.mono hz1).trans ((hb78.mono (by omega)).trans ((hB.mono hz1).trans ((HB9.out.mono hz1).trans (belowK_b (w := w) (Nat.le_refl _) w9 D _ _ (by omega) hK9 rfl rfl)))))
end Go.Proofs.YtoajgfhcongocaaGreatDoor.doc

namespace Go.Proofs.YtoajgfhcongocaaGreatDoor.doc
open Go.ChangeShapes Go.WideShapes Go.ChangeAt Go.RowKit Go.Lib Go.Proofs.YtoajgfhcongocaaGreatDoor.atr Go.Proofs.YtoajgfhcongocaaGreatDoor.link Go.Proofs.YtoajgfhcongocaaGreatDoor.ctl

set_option maxHeartbeats 3200000 in
set_option maxRecDepth 100000 in
theorem reset_any (vn vc : Value) (l : List Nd) (cs : List Ctl) (k : Int) (w : World) (hE : GE w) (hD : DocAt w vn vc l cs) :
    Calls Tryz.prog 14 #[.agg #[vn, vc], .int .i64 k] w (RetS (resetP l cs k) w) := by
  have HX : Hid (resetP l cs k = if docR l cs then (if isP l k 23 then fixC l (mapOn (resetG l) cs (optsP l k)) k else cs) else []) := Lib.hid rfl
  by_cases hb : docR l cs = true ∧ isP l k 23 = true
  · obtain ⟨hq, hi⟩ := hb
    rw [HX.out, if_pos hq, if_pos hi]
    obtain ⟨hin, _, _⟩ := (isP_iff l k 23).1 hi
    obtain ⟨sel, rfl⟩ : ∃ sel : Nat, k = (sel : Int) := ⟨k.toNat, by have := hin.1; omega⟩
    exact reset_loop vn vc l cs w hE hD hq sel hi
  obtain ⟨oa, ca, rfl⟩ := NodesAt.lenN hD.nodes
  obtain ⟨oc, cc, rfl⟩ := CtlsAt.lenN hD.ctls
  obtain ⟨wA, hwA⟩ : ∃ wA, wA = w.alloc (.cells #[.slice oa l.length ca, .slice oc cs.length cc] 25) := ⟨_, rfl⟩
  have hB1 : Below w.heap.size w wA := by rw [hwA]; exact (Below.refl _ w).alloc (Nat.le_refl _) _
  have f0 : wA.cell? ⟨w.heap.size, 0, none⟩ = some (.slice oa l.length ca) := by rw [hwA]; exact World.cell?_alloc_new w _ _ 0
  have f1 : wA.cell? ⟨w.heap.size, 1, none⟩ = some (.slice oc cs.length cc) := by rw [hwA]; exact World.cell?_alloc_new w _ _ 1
  have hr := docright_any (.slice oa l.length ca) l hD.fine oc cs.length cc wA (hD.nodes.below hB1)
  rw [show (decide (l.length = cs.length) && rightB l) = docR l cs from rfl] at hr
  cases hq : docR l cs
  · rw [hq] at hr
    have HE : Hid (resetP l cs k = []) := Lib.hid (by rw [HX.out, if_neg (by rw [hq]; simp)])
    rw [HE.out]
    clear hD hE hq HX f0 f1 hb
    subst hwA
    go_enter Tryz.func14, Tryz.ntmps14
    go_wp2_with fail
    refine hr.mono ?_
    rintro e w1 ⟨rfl, hb1⟩
    go_wp2_with fail
    go_ret
    exact ⟨_, [], rfl, OwnC.nil _ _, below_trans hB1 hb1⟩
  · rw [hq] at hr
    have hi : isP l k 23 = false := by
      cases h : isP l k 23
      · rfl
      · exact absurd ⟨hq, h⟩ hb
    have HE : Hid (resetP l cs k = cs) := Lib.hid (by rw [HX.out, if_pos hq, if_neg (by rw [hi]; simp)])
    rw [HE.out]
    have HC := Lib.hid (fun w' h => copiedC_any (.slice oc cs.length cc) cs hD.cb hD.fb w' (hD.ctls.below (w' := w') h))
    have HI := Lib.hid (fun w' h => is_any (.slice oa l.length ca) l k 23 hD.fine w' (hD.nodes.below (w' := w') h))
    rw [hi] at HI
    clear hD hE hq HX hb hi
    subst hwA
    go_enter Tryz.func14, Tryz.ntmps14
    go_wp2_with fail
    refine hr.mono ?_
    rintro e w1 ⟨rfl, hb1⟩
    have f0 := cell_below hb1 f0
    have f1 := cell_below hb1 f1
    have hb01 := below_trans hB1 hb1
    go_wp2_with fail
    refine (HC.out w1 hb01).mono ?_
    rintro e w2 ⟨v', fs, rfl, ho2, hb2⟩
    have f0 := cell_below hb2 f0
    have HO2 := Lib.hid ho2
    obtain ⟨o2, c2, rfl⟩ := CtlsAt.lenN ho2.at
    clear ho2
    have hb3 : Below w2.heap.size w2 (w2.alloc (.cells #[.slice o2 cs.length c2] 23)) := (Below.refl _ _).alloc (Nat.le_refl _) _
    have b9 := World.cell?_alloc_new w2 #[.slice o2 cs.length c2] 23 0
    have f0 := cell_below hb3 f0
    have hb03 := below_trans (below_trans hb01 hb2) hb3
    have hi3 := HI.out _ hb03
    go_wp2_with fail
    refine hi3.mono ?_
    rintro e w4 ⟨rfl, hb4⟩
    have b9 := cell_below hb4 b9
    go_wp2_with fail
    go_ret
    exact ⟨_, fs, rfl, (HO2.out.below (below_trans hb3 hb4)).lower hb01.size, below_trans hb03 hb4⟩
end Go.Proofs.YtoajgfhcongocaaGreatDoor.doc
