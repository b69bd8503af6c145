/- option.Choose, of a select that is not multiple. The contract of option.Choose. -/
import Derived.Test.YtoajgfhcongocaaGreatDoorGl
import Derived.Test.YtoajgfhcongocaaGreatDoorGf
import Derived.Test.YtoajgfhcongocaaGreatDoorGa
import Derived.BigRegion
namespace Go.Proofs.YtoajgfhcongocaaGreatDoor.doc
open Go.ChangeShapes Go.WideShapes Go.ChangeAt Go.RowKit Go.Lib Go.Shelf Go.Proofs.YtoajgfhcongocaaGreatDoor.atr Go.Proofs.YtoajgfhcongocaaGreatDoor.link Go.Proofs.YtoajgfhcongocaaGreatDoor.ctl
attribute [local go_sem] Oper.semAt_some

/-- a state and an error handed back -/
def RetSE (cs : List Ctl) (er : Int) (w : World) (e : Ending) (w' : World) : Prop := ∃ v' fs, e = .returned (.tuple #[v', .int .i64 er]) ∧ OwnC w' w.heap.size v' cs fs ∧ Below w.heap.size w w'
theorem chooseG_idem (opt : Int) : ∀ k c, chooseG opt k (chooseG opt k c) = chooseG opt k c := fun _ _ => rfl

set_option maxHeartbeats 6400000 in
set_option maxRecDepth 100000 in
theorem choose_loop (vn vc : Value) (l : List Nd) (cs : List Ctl) (on : Bool) (w : World) (hD : DocAt w vn vc l cs) (hq : docR l cs = true) (opt sel : Nat) (ho : opt < l.length) (hi : isP l (opt : Int) 32 = true) (hw : ownerP l (opt : Int) = (sel : Int)) (hs : sel < l.length) (hof : offP l (opt : Int) = false) (hm : hasA nMultiple (nd l (sel : Int)).attrs = false) :
    Calls Tryz.prog 11 #[.agg #[vn, vc], .int .i64 (opt : Int), .bool on] w (RetSE (mapOn (chooseG (opt : Int)) cs (optsP l (sel : Int))) 0 w) := by
  obtain ⟨hlc, hR⟩ := (docR_iff l cs).1 hq
  have hRt := right_rt l hR
  have hf := hRt.few
  obtain ⟨b, off, cap, rfl, hb⟩ := nodes_addr hD.nodes (by omega)
  obtain ⟨oc, cc, rfl⟩ := CtlsAt.lenN hD.ctls
  have hfn := hD.fine.nd (sel : Int) (by omega) (by omega)
  obtain ⟨wA, hwA⟩ : ∃ wA, wA = (w.alloc (.cells #[.slice (some ⟨b, off, none⟩) l.length cap, .slice oc cs.length cc] 25)).alloc (.cells #[.int .i64 (opt : Int)] 3) := ⟨_, rfl⟩
  have hB1 : Below w.heap.size w wA := by rw [hwA]; exact ((Below.refl _ w).alloc (Nat.le_refl _) _).alloc (by simp) _
  have hbO : Boxed wA (w.heap.size + 1) 3 (.int .i64 (opt : Int)) := by
    rw [hwA]
    have := Boxed.new (w.alloc (.cells #[.slice (some ⟨b, off, none⟩) l.length cap, .slice oc cs.length cc] 25)) 3 (.int .i64 (opt : Int))
    rw [World.size_alloc] at this
    exact this
  have hf01 : wA.cell? ⟨w.heap.size, 0, none⟩ = some (.slice (some ⟨b, off, none⟩) l.length cap) ∧ wA.cell? ⟨w.heap.size, 1, none⟩ = some (.slice oc cs.length cc) := by
    rw [hwA]
    have hx := (Below.refl (w.alloc (.cells #[.slice (some ⟨b, off, none⟩) l.length cap, .slice oc cs.length cc] 25)).heap.size (w.alloc (.cells #[.slice (some ⟨b, off, none⟩) l.length cap, .slice oc cs.length cc] 25))).alloc (Nat.le_refl _) (.cells #[.int .i64 (opt : Int)] 3)
    exact ⟨cell_below hx (World.cell?_alloc_new w _ _ 0), cell_below hx (World.cell?_alloc_new w _ _ 1)⟩
  obtain ⟨f0, f1⟩ := hf01
  have fo := hbO.cell
  have hr := docright_any (.slice (some ⟨b, off, none⟩) l.length cap) l hD.fine oc cs.length cc wA (hD.nodes.below hB1)
  rw [show (decide (l.length = cs.length) && rightB l) = docR l cs from rfl, hq] at hr
  replace hr := (callsIn_wide (n := 999)).2 hr
  have HI := Lib.hid (fun w' h => (callsIn_wide (n := 999)).2 (is_any (.slice (some ⟨b, off, none⟩) l.length cap) l (opt : Int) 32 hD.fine w' (hD.nodes.below (w' := w') h)))
  have HW := Lib.hid (fun w' h => (callsIn_wide (n := 999)).2 (owner_any (.slice (some ⟨b, off, none⟩) l.length cap) l hD.fine hR opt ho w' (hD.nodes.below (w' := w') h)))
  have HOf := Lib.hid (fun w' h => (callsIn_wide (n := 999)).2 (off_any (.slice (some ⟨b, off, none⟩) l.length cap) l hD.fine hR opt ho w' (hD.nodes.below (w' := w') h)))
  have HC := Lib.hid (fun w' h => (callsIn_wide (n := 999)).2 (copiedC_any (.slice oc cs.length cc) cs hD.cb hD.fb w' (hD.ctls.below (w' := w') h)))
  rw [hi] at HI
  rw [hw] at HW
  rw [hof] at HOf
  have HD := Lib.hid hD
  have HLC := Lib.hid hlc
  have HR := Lib.hid hR
  obtain ⟨va, vk, hn0⟩ := nodes_get hD.nodes sel hs
  have HN := Lib.hid hn0
  have HH := Lib.hid (fun w' (hx : Below w.heap.size w w') => (callsIn_wide (n := 999)).2 (ohas_any (nd l (sel : Int)) va vk nMultiple hfn.attrs w' (hn0.below hx).attrs (hn0.below hx).kids))
  unfold nodeV at HH
  rw [hm] at HH
  have h0' : (0 : Int) ≤ (sel : Int) := by omega
  have hs' : (sel : Int) < (l.length : Int) := by omega
  clear hD hq hi hw hof hm hn0 hlc hR hRt
  subst hwA
  refine (callsIn_wide (n := 1000)).1 ?_
  refine callsIn_of_wp_marks Tryz.func11 rfl trivial ?_ rfl
  simp only [Tryz.ntmps11, List.size_toArray, List.length_cons, List.length_nil, Nat.reduceAdd, Nat.reduceSub, Array.replicate_succ, Array.replicate_zero, List.push_toArray, List.append_toArray, List.nil_append, List.cons_append]
  gi_wp2
  refine ⟨trivial, hr.mono ?_⟩
  rintro e w1 ⟨rfl, hb1⟩
  have f0 := cell_below hb1 f0
  have f1 := cell_below hb1 f1
  have fo := cell_below hb1 fo
  have hb01 := below_trans hB1 hb1
  clear hr
  gi_wp2
  refine ⟨trivial, (HI.out w1 hb01).mono ?_⟩
  rintro e w2 ⟨rfl, hb2⟩
  have f0 := cell_below hb2 f0
  have f1 := cell_below hb2 f1
  have fo := cell_below hb2 fo
  have hb02 := below_trans hb01 hb2
  gi_wp2
  refine ⟨trivial, (HW.out w2 hb02).mono ?_⟩
  rintro e w3 ⟨rfl, hb3⟩
  have f0 := cell_below hb3 f0
  have f1 := cell_below hb3 f1
  have fo := cell_below hb3 fo
  have hb03 := below_trans hb02 hb3
  gi_wp2
  refine ⟨trivial, (HOf.out w3 hb03).mono ?_⟩
  rintro e w4 ⟨rfl, hb4⟩
  have f0 := cell_below hb4 f0
  have f1 := cell_below hb4 f1
  have fo := cell_below hb4 fo
  have hb04 := below_trans hb03 hb4
  gi_wp2
  refine ⟨trivial, (HC.out w4 hb04).mono ?_⟩
  rintro e w5 ⟨v', fs, rfl, hO, hb5⟩
  have f0 := cell_below hb5 f0
  have f1 := cell_below hb5 f1
  have fo := cell_below hb5 fo
  have hb05 := below_trans hb04 hb5
  clear HI HW HOf HC
  have hcs0 : 0 < cs.length := by have := HLC.out; omega
  obtain ⟨g, c9, rfl, hBg, hgl⟩ := hO.addr hcs0
  have HLow := Lib.hid hO.lowF
  have HO := Lib.hid hO
  have hb6 : Below w5.heap.size w5 (w5.alloc (.cells #[.slice (some ⟨g, 0, none⟩) cs.length c9] 23)) := (Below.refl _ _).alloc (Nat.le_refl _) _
  have hb06 := below_trans hb05 hb6
  have b9 := Boxed.new w5 23 (.slice (some ⟨g, 0, none⟩) cs.length c9)
  have f0 := cell_below hb6 f0
  have fo := cell_below hb6 fo
  have hn := HN.out.below hb06
  obtain ⟨c0, c1, c2, c3, c4, _, _, _⟩ := hn
  clear hO
  gi_wp2
  refine ⟨trivial, (HH.out _ hb06).mono ?_⟩
  rintro e w7 ⟨rfl, hb7⟩
  have f0 := cell_below hb7 f0
  have fo := cell_below hb7 fo
  have b97 := boxed_below b9 hb7
  have HZO : Hid (w.heap.size + 1 < w4.heap.size) := Lib.hid (boxed_below hbO (((hb1.trans (hb2.mono hb1.size)).trans (hb3.mono (below_trans hb1 hb2).size)).trans (hb4.mono (below_trans (below_trans hb1 hb2) hb3).size))).lt
  have bO7 := boxed_below hbO (((((hb1.trans (hb2.mono hb1.size)).trans (hb3.mono (below_trans hb1 hb2).size)).trans (hb4.mono (below_trans (below_trans hb1 hb2) hb3).size)).trans (hb5.mono (below_trans (below_trans (below_trans hb1 hb2) hb3) hb4).size)).trans ((below_trans hb6 hb7).mono (below_trans (below_trans (below_trans (below_trans hb1 hb2) hb3) hb4) hb5).size))
  have hb07 := below_trans hb06 hb7
  have HO7 := Lib.hid (HO.out.below (below_trans hb6 hb7))
  have hb47 : Below w4.heap.size w4 w7 := below_trans hb5 (below_trans hb6 hb7)
  have hz7 : w5.heap.size + 1 ≤ w7.heap.size := by have := hb7.size; simpa using this
  clear HH c0 c1 c2 c3 c4 b9 hb7 hb6 hb1 hb2 hb3 hb5 hb01 hb02 hb03 hb05 hb06 hB1 hbO
  have ho := (callsIn_wide (n := 999)).2 (options_any (.slice (some ⟨b, off, none⟩) l.length cap) (sel : Int) ⟨_, _, _, rfl⟩ w7)
  gi_wp2
  refine ⟨trivial, ho.mono ?_⟩
  rintro e w' ⟨rfl, rfl⟩
  clear ho
  gi_wp2
  obtain ⟨w8, hw8⟩ : ∃ w8, w8 = (w7.alloc (.cells #[.slice (some ⟨b, off, none⟩) l.length cap] 22)).alloc (.cells #[.int .i64 (sel : Int)] 3) := ⟨_, rfl⟩
  have hsz : w8.heap.size = w7.heap.size + 1 + 1 := by rw [hw8]; simp
  have hb78 : Below w7.heap.size w7 w8 := by rw [hw8]; exact ((Below.refl _ w7).alloc (Nat.le_refl _) _).alloc (by simp) _
  have bL : Boxed w8 w7.heap.size 22 (.slice (some ⟨b, off, none⟩) l.length cap) := by rw [hw8]; exact (Boxed.new w7 _ _).alloc _
  have bS : Boxed w8 (w7.heap.size + 1) 3 (.int .i64 (sel : Int)) := by
    have := Boxed.new (w7.alloc (.cells #[.slice (some ⟨b, off, none⟩) l.length cap] 22)) 3 (.int .i64 (sel : Int))
    rw [World.size_alloc] at this
    rw [hw8]; exact this
  have hst0 : Bst w5.heap.size w4.heap.size [(w5.heap.size, 23, .slice (some ⟨g, 0, none⟩) cs.length c9), (w.heap.size + 1, 3, .int .i64 (opt : Int))] g cs.length c9 w8 (mapOn (chooseG (opt : Int)) cs (vals ([] : List (Opt l (sel : Int))))) fs :=
    ⟨bx_cons (boxed_below b97 hb78) (bx_cons (boxed_below bO7 hb78) bx_nil), by rw [show vals ([] : List (Opt l (sel : Int))) = [] from rfl, mapOn_nil]; exact HO7.out.below hb78, by rw [show vals ([] : List (Opt l (sel : Int))) = [] from rfl, mapOn_nil]; exact HLow.out⟩
  have hz4 := hb04.size
  have hzo : w.heap.size + 1 < w4.heap.size := HZO.out
  have hB0 : Below w4.heap.size w4 w8 := below_trans hb47 hb78
  have f0 := cell_below hb78 f0
  first | rw [← hw8] | (simp only [← hw8])
  clear hw8
  have hA4 := HD.out.nodes.below hb04
  refine wpIn_rangeFunc_ownG rfl (by omega) (gf := 64) (lb := #[.pointer (some ⟨w7.heap.size, 0, none⟩), .pointer (some ⟨w7.heap.size + 1, 0, none⟩)]) rfl trivial (enters_of Tryz.func64 (by kernel_rfl) rfl)
    (opts_stops l HD.out.fine HR.out sel hs _ w4 hA4 999 (by omega) w7.heap.size (w7.heap.size + 1) w8 hB0 bL.lt bS.lt bL.cell bS.cell) (fun h k => h.trans k) (Kp.put (by omega)) (Below.refl _ _) (fun _ => rfl)
    (fun pre W => Bst w5.heap.size w4.heap.size [(w5.heap.size, 23, .slice (some ⟨g, 0, none⟩) cs.length c9), (w.heap.size + 1, 3, .int .i64 (opt : Int))] g cs.length c9 W (mapOn (chooseG (opt : Int)) cs (vals pre)) fs ∧ Below w4.heap.size w8 W)
    (fun _ _ _ => False)
    (OwnFrom.and (Own.from (fun s A B row hs hg hr => hs.keptO hg hr) _) (ownFrom_below (by omega) (by omega)))
    (fun _ _ _ _ _ hs _ _ => hs)
    ⟨hst0, Below.refl _ _⟩
    (fun x => { tmps := #[.agg #[.slice (some ⟨b, off, none⟩) l.length cap, .slice oc cs.length cc], .int .i64 (opt : Int), .bool on, .pointer (some ⟨w.heap.size, 0, none⟩), .pointer (some ⟨w.heap.size + 1, 0, none⟩), undef, .slice none 0 0, .int .i64 0, .int .i64 (sel : Int), .pointer (some ⟨w5.heap.size, 0, none⟩), .int .i64 x.1, .agg #[.slice (some ⟨b, off, none⟩) l.length cap, .slice oc cs.length cc], .bool true, .bool false, .bool false, .pointer (some ⟨w.heap.size, 0, none⟩), .slice (some ⟨b, off, none⟩) l.length cap, .int .i64 (opt : Int), .bool true, .bool false, .bool false, .pointer (some ⟨w.heap.size, 0, none⟩), .slice (some ⟨b, off, none⟩) l.length cap, .int .i64 (opt : Int), .int .i64 (sel : Int), .bool (decide ((sel : Int) < 0)), .int .i64 (sel : Int), .bool (decide ((sel : Int) < 0)), .bool false, .pointer (some ⟨w.heap.size, 0, none⟩), .slice (some ⟨b, off, none⟩) l.length cap, .int .i64 (opt : Int), .bool false, .pointer (some ⟨w.heap.size, 1, none⟩), .slice oc cs.length cc, .slice (some ⟨g, 0, none⟩) cs.length c9, .pointer (some ⟨w.heap.size, 0, none⟩), .slice (some ⟨b, off, none⟩) l.length cap, .int .i64 (sel : Int), .pointer (some ⟨b, off + sel * 5, none⟩), .agg #[.string ⟨(nd l (sel : Int)).name.toArray⟩, .string ⟨(nd l (sel : Int)).text.toArray⟩, va, .int .i64 (nd l (sel : Int)).parent, vk], .bool false, undef, undef, undef, undef, undef, undef, undef, undef, undef, undef, .pointer (some ⟨w.heap.size, 0, none⟩), .slice (some ⟨b, off, none⟩) l.length cap, .int .i64 (sel : Int), .func (.func 64) #[] #[.pointer (some ⟨w7.heap.size, 0, none⟩), .pointer (some ⟨w7.heap.size + 1, 0, none⟩)], .int .i64 x.1, undef, undef, undef, undef, undef, undef, undef, undef, undef, undef, undef, undef], defers := [] }) ?assign ?body ?done ?stop
  case assign =>
    intro l x W K hK
    gi_wp2
    exact hK
  case stop =>
    rintro D c pre W _ _ h _
    exact h.elim
  case body =>
    rintro lp pre ⟨x, hx⟩ W ⟨hst, hB⟩ hlt
    obtain ⟨hxr, _⟩ := opts_mem (right_rt l HR.out) (sel : Int) ⟨h0', hs'⟩ x hx
    obtain ⟨xn, rfl⟩ : ∃ xn : Nat, x = (xn : Int) := ⟨x.toNat, by have := hxr.1; omega⟩
    have hxc : xn < cs.length := by have := hxr.2; have := HLC.out; omega
    have hxc' : (xn : Int) < (cs.length : Int) := by omega
    have hxn0 : (0 : Int) ≤ (xn : Int) := by omega
    have hWz := hB.size
    have c6 := hst.own.selOf xn (by rw [mapOn_len]; exact hxc)
    have c7 := hst.own.dselOf xn (by rw [mapOn_len]; exact hxc)
    have z6 := hst.own.frozen (by rw [mapOn_len]) (xn * 10 + 6)
    have z7 := hst.own.frozen (by rw [mapOn_len]) (xn * 10 + 7)
    have c9 := hst.b0.cell
    have co := hst.b1.cell
    have hstd := hst.below (Below.refl _ W).drew
    have HT := Lib.hid (hstd.own.turnI2 (chooseG_idem (opt : Int)) rfl xn hxc 6 7 (by decide) (by decide) (.bool ((xn : Int) == (opt : Int))) (.bool true) (fun c => { c with selected := decide ((xn : Int) = (opt : Int)) }) (fun _ => rfl) (fun _ => rfl) (fun c f => by rw [beq_dec]; rfl) (fun c f => rfl))
    have HST := Lib.hid (hstd.row2 (ne_cons (by omega) (ne_cons (by omega) (ne_nil _))) (by rw [files_mapOn (chooseG (opt : Int)) (fun _ _ => rfl), files_mapOn (chooseG (opt : Int)) (fun _ _ => rfl)]) HT.out)
    have HRD : Rd w4.heap.size w7.heap.size (w7.heap.size + 1) W ((W.drew.setCell ⟨g, xn * 10 + 6, none⟩ (.bool ((xn : Int) == (opt : Int)))).setCell ⟨g, xn * 10 + 7, none⟩ (.bool true)) := ((Rd.below (Below.refl _ W).drew (by omega)).trans (Rd.set _ hBg (by omega) (by omega) _)).trans (Rd.set _ hBg (by omega) (by omega) _)
    have HV : Hid (vals (pre ++ [(⟨(xn : Int), hx⟩ : Opt l (sel : Int))]) = vals pre ++ [(xn : Int)]) := Lib.hid (vals_snoc pre ⟨(xn : Int), hx⟩)
    have hBd := hB.trans HRD.kp.low
    generalize selB (mapOn (chooseG (opt : Int)) cs (vals pre)) (xn : Int) = sb at *
    generalize (ct (mapOn (chooseG (opt : Int)) cs (vals pre)) (xn : Int)).dselected = db at *
    clear hst hstd HT
    gi_wp2
    refine wpIn_round_any (by kernel_rfl) rfl (by kernel_rfl) ?_
    refine wpAnyIn_take (i := 1) (v := ?_) rfl rfl (by kernel_rfl) (by kernel_rfl) (by kernel_rfl) (fun _ _ _ h => h) ⟨Or.inl ⟨by rfl, ?_⟩, fun _ => rfl⟩ ?_
    rotate_left
    · intro w; go_simp; try with_reducible rfl
    refine wpAnyIn_take (i := 3) (v := ?_) rfl rfl (by kernel_rfl) (by kernel_rfl) (by kernel_rfl) (fun _ _ _ h => h) ⟨Or.inl ⟨by rfl, ?_⟩, fun _ => rfl⟩ ?_
    rotate_left
    · intro w; go_simp; try with_reducible rfl
    refine wpAnyIn_take (i := 4) (v := ?_) rfl rfl (by kernel_rfl) (by kernel_rfl) (by kernel_rfl) (fun _ _ _ h => h) ⟨Or.inl ⟨by rfl, ?_⟩, fun _ => rfl⟩ ?_
    rotate_left
    · intro w; go_simp; try with_reducible rfl
    refine wpAnyIn_ready (rs := [0, 2, 5]) (by kernel_rfl) (by simp) ?_
    refine AllReadyIn.cons rfl (fun K hK => ?_) ?_
    · go_simp
      refine hK _ _ ?_
      clear hK K
      refine wpAnyIn_ready (rs := [2, 5]) (by kernel_rfl) (by simp) ?_
      refine AllReadyIn.cons rfl (fun K hK => ?_) ?_
      · go_simp
        refine hK _ _ ?_
        clear hK K
        refine wpAnyIn_ready (rs := [5]) (by kernel_rfl) (by simp) ?_
        refine AllReadyIn.cons rfl (fun K hK => ?_) ?_
        · go_simp
          refine hK _ _ ?_
          clear hK K
          refine wpAnyIn_take (i := 6) (v := ?_) rfl rfl (by kernel_rfl) (by kernel_rfl) (by kernel_rfl) (fun _ _ _ h => h) ⟨Or.inl ⟨by rfl, ?_⟩, fun _ => rfl⟩ ?_
          rotate_left
          · intro w; go_simp; try with_reducible rfl
          refine wpAnyIn_take (i := 7) (v := ?_) rfl rfl (by kernel_rfl) (by kernel_rfl) (by kernel_rfl) (fun _ _ _ h => h) ⟨Or.inl ⟨by rfl, ?_⟩, fun _ => rfl⟩ ?_
          rotate_left
          · intro w; go_simp; try with_reducible rfl
          refine wpAnyIn_take (i := 8) (v := ?_) rfl rfl (by kernel_rfl) (by kernel_rfl) (by kernel_rfl) (fun _ _ _ h => h) ⟨Or.inl ⟨by rfl, ?_⟩, fun _ => rfl⟩ ?_
          rotate_left
          · intro w; go_simp; try with_reducible rfl
          refine wpAnyIn_ready (rs := [9]) (by kernel_rfl) (by simp) ?_
          refine AllReadyIn.cons rfl (fun K hK => ?_) ?_
          · go_simp
            refine hK _ _ ?_
            clear hK K
            refine wpAnyIn_take (i := 10) (v := ?_) rfl rfl (by kernel_rfl) (by kernel_rfl) (by kernel_rfl) (fun _ _ _ h => h) ⟨Or.inl ⟨by rfl, ?_⟩, fun _ => rfl⟩ ?_
            rotate_left
            · intro w; go_simp; try with_reducible rfl
            refine wpAnyIn_take (i := 11) (v := ?_) rfl rfl (by kernel_rfl) (by kernel_rfl) (by kernel_rfl) (fun _ _ _ h => h) ⟨Or.inl ⟨by rfl, ?_⟩, fun _ => rfl⟩ ?_
            rotate_left
            · intro w; go_simp; try with_reducible rfl
            refine wpAnyIn_ready (rs := [12]) (by kernel_rfl) (by simp) ?_
            refine AllReadyIn.cons rfl (fun K hK => ?_) ?_
            · go_simp
              refine hK _ _ ?_
              clear hK K
              refine wpAnyIn_done (by kernel_rfl) ?_ _
              gi_wp2
              exact ⟨HRD.ko.from _, HRD.kp, by rw [HV.out]; exact HST.out, hBd⟩
            exact AllReadyIn.nil
          exact AllReadyIn.nil
        exact AllReadyIn.nil
      refine AllReadyIn.cons rfl (fun K hK => ?_) ?_
      · go_simp
        refine hK _ _ ?_
        clear hK K
        refine wpAnyIn_take (i := 6) (v := ?_) rfl rfl (by kernel_rfl) (by kernel_rfl) (by kernel_rfl) (fun _ _ _ h => h) ⟨Or.inl ⟨by rfl, ?_⟩, fun _ => rfl⟩ ?_
        rotate_left
        · intro w; go_simp; try with_reducible rfl
        refine wpAnyIn_take (i := 7) (v := ?_) rfl rfl (by kernel_rfl) (by kernel_rfl) (by kernel_rfl) (fun _ _ _ h => h) ⟨Or.inl ⟨by rfl, ?_⟩, fun _ => rfl⟩ ?_
        rotate_left
        · intro w; go_simp; try with_reducible rfl
        refine wpAnyIn_take (i := 8) (v := ?_) rfl rfl (by kernel_rfl) (by kernel_rfl) (by kernel_rfl) (fun _ _ _ h => h) ⟨Or.inl ⟨by rfl, ?_⟩, fun _ => rfl⟩ ?_
        rotate_left
        · intro w; go_simp; try with_reducible rfl
        refine wpAnyIn_ready (rs := [2, 9]) (by kernel_rfl) (by simp) ?_
        refine AllReadyIn.cons rfl (fun K hK => ?_) ?_
        · go_simp
          refine hK _ _ ?_
          clear hK K
          refine wpAnyIn_ready (rs := [9]) (by kernel_rfl) (by simp) ?_
          refine AllReadyIn.cons rfl (fun K hK => ?_) ?_
          · go_simp
            refine hK _ _ ?_
            clear hK K
            refine wpAnyIn_take (i := 10) (v := ?_) rfl rfl (by kernel_rfl) (by kernel_rfl) (by kernel_rfl) (fun _ _ _ h => h) ⟨Or.inl ⟨by rfl, ?_⟩, fun _ => rfl⟩ ?_
            rotate_left
            · intro w; go_simp; try with_reducible rfl
            refine wpAnyIn_take (i := 11) (v := ?_) rfl rfl (by kernel_rfl) (by kernel_rfl) (by kernel_rfl) (fun _ _ _ h => h) ⟨Or.inl ⟨by rfl, ?_⟩, fun _ => rfl⟩ ?_
            rotate_left
            · intro w; go_simp; try with_reducible rfl
            refine wpAnyIn_ready (rs := [12]) (by kernel_rfl) (by simp) ?_
            refine AllReadyIn.cons rfl (fun K hK => ?_) ?_
            · go_simp
              refine hK _ _ ?_
              clear hK K
              refine wpAnyIn_done (by kernel_rfl) ?_ _
              gi_wp2
              exact ⟨HRD.ko.from _, HRD.kp, by rw [HV.out]; exact HST.out, hBd⟩
            exact AllReadyIn.nil
          exact AllReadyIn.nil
        refine AllReadyIn.cons rfl (fun K hK => ?_) ?_
        · go_simp
          refine hK _ _ ?_
          clear hK K
          refine wpAnyIn_ready (rs := [2]) (by kernel_rfl) (by simp) ?_
          refine AllReadyIn.cons rfl (fun K hK => ?_) ?_
          · go_simp
            refine hK _ _ ?_
            clear hK K
            refine wpAnyIn_take (i := 10) (v := ?_) rfl rfl (by kernel_rfl) (by kernel_rfl) (by kernel_rfl) (fun _ _ _ h => h) ⟨Or.inl ⟨by rfl, ?_⟩, fun _ => rfl⟩ ?_
            rotate_left
            · intro w; go_simp; try with_reducible rfl
            refine wpAnyIn_take (i := 11) (v := ?_) rfl rfl (by kernel_rfl) (by kernel_rfl) (by kernel_rfl) (fun _ _ _ h => h) ⟨Or.inl ⟨by rfl, ?_⟩, fun _ => rfl⟩ ?_
            rotate_left
            · intro w; go_simp; try with_reducible rfl
            refine wpAnyIn_ready (rs := [12]) (by kernel_rfl) (by simp) ?_
            refine AllReadyIn.cons rfl (fun K hK => ?_) ?_
            · go_simp
              refine hK _ _ ?_
              clear hK K
              refine wpAnyIn_done (by kernel_rfl) ?_ _
              gi_wp2
              exact ⟨HRD.ko.from _, HRD.kp, by rw [HV.out]; exact HST.out, hBd⟩
            exact AllReadyIn.nil
          exact AllReadyIn.nil
        exact AllReadyIn.nil
      exact AllReadyIn.nil
    refine AllReadyIn.cons rfl (fun K hK => ?_) ?_
    · go_simp
      refine hK _ _ ?_
      clear hK K
      refine wpAnyIn_ready (rs := [0, 5]) (by kernel_rfl) (by simp) ?_
      refine AllReadyIn.cons rfl (fun K hK => ?_) ?_
      · go_simp
        refine hK _ _ ?_
        clear hK K
        refine wpAnyIn_ready (rs := [5]) (by kernel_rfl) (by simp) ?_
        refine AllReadyIn.cons rfl (fun K hK => ?_) ?_
        · go_simp
          refine hK _ _ ?_
          clear hK K
          refine wpAnyIn_take (i := 6) (v := ?_) rfl rfl (by kernel_rfl) (by kernel_rfl) (by kernel_rfl) (fun _ _ _ h => h) ⟨Or.inl ⟨by rfl, ?_⟩, fun _ => rfl⟩ ?_
          rotate_left
          · intro w; go_simp; try with_reducible rfl
          refine wpAnyIn_take (i := 7) (v := ?_) rfl rfl (by kernel_rfl) (by kernel_rfl) (by kernel_rfl) (fun _ _ _ h => h) ⟨Or.inl ⟨by rfl, ?_⟩, fun _ => rfl⟩ ?_
          rotate_left
          · intro w; go_simp; try with_reducible rfl
          refine wpAnyIn_take (i := 8) (v := ?_) rfl rfl (by kernel_rfl) (by kernel_rfl) (by kernel_rfl) (fun _ _ _ h => h) ⟨Or.inl ⟨by rfl, ?_⟩, fun _ => rfl⟩ ?_
          rotate_left
          · intro w; go_simp; try with_reducible rfl
          refine wpAnyIn_ready (rs := [9]) (by kernel_rfl) (by simp) ?_
          refine AllReadyIn.cons rfl (fun K hK => ?_) ?_
          · go_simp
            refine hK _ _ ?_
            clear hK K
            refine wpAnyIn_take (i := 10) (v := ?_) rfl rfl (by kernel_rfl) (by kernel_rfl) (by kernel_rfl) (fun _ _ _ h => h) ⟨Or.inl ⟨by rfl, ?_⟩, fun _ => rfl⟩ ?_
            rotate_left
            · intro w; go_simp; try with_reducible rfl
            refine wpAnyIn_take (i := 11) (v := ?_) rfl rfl (by kernel_rfl) (by kernel_rfl) (by kernel_rfl) (fun _ _ _ h => h) ⟨Or.inl ⟨by rfl, ?_⟩, fun _ => rfl⟩ ?_
            rotate_left
            · intro w; go_simp; try with_reducible rfl
            refine wpAnyIn_ready (rs := [12]) (by kernel_rfl) (by simp) ?_
            refine AllReadyIn.cons rfl (fun K hK => ?_) ?_
            · go_simp
              refine hK _ _ ?_
              clear hK K
              refine wpAnyIn_done (by kernel_rfl) ?_ _
              gi_wp2
              exact ⟨HRD.ko.from _, HRD.kp, by rw [HV.out]; exact HST.out, hBd⟩
            exact AllReadyIn.nil
          exact AllReadyIn.nil
        exact AllReadyIn.nil
      refine AllReadyIn.cons rfl (fun K hK => ?_) ?_
      · go_simp
        refine hK _ _ ?_
        clear hK K
        refine wpAnyIn_take (i := 6) (v := ?_) rfl rfl (by kernel_rfl) (by kernel_rfl) (by kernel_rfl) (fun _ _ _ h => h) ⟨Or.inl ⟨by rfl, ?_⟩, fun _ => rfl⟩ ?_
        rotate_left
        · intro w; go_simp; try with_reducible rfl
        refine wpAnyIn_ready (rs := [0]) (by kernel_rfl) (by simp) ?_
        refine AllReadyIn.cons rfl (fun K hK => ?_) ?_
        · go_simp
          refine hK _ _ ?_
          clear hK K
          refine wpAnyIn_take (i := 7) (v := ?_) rfl rfl (by kernel_rfl) (by kernel_rfl) (by kernel_rfl) (fun _ _ _ h => h) ⟨Or.inl ⟨by rfl, ?_⟩, fun _ => rfl⟩ ?_
          rotate_left
          · intro w; go_simp; try with_reducible rfl
          refine wpAnyIn_take (i := 8) (v := ?_) rfl rfl (by kernel_rfl) (by kernel_rfl) (by kernel_rfl) (fun _ _ _ h => h) ⟨Or.inl ⟨by rfl, ?_⟩, fun _ => rfl⟩ ?_
          rotate_left
          · intro w; go_simp; try with_reducible rfl
          refine wpAnyIn_ready (rs := [9]) (by kernel_rfl) (by simp) ?_
          refine AllReadyIn.cons rfl (fun K hK => ?_) ?_
          · go_simp
            refine hK _ _ ?_
            clear hK K
            refine wpAnyIn_take (i := 10) (v := ?_) rfl rfl (by kernel_rfl) (by kernel_rfl) (by kernel_rfl) (fun _ _ _ h => h) ⟨Or.inl ⟨by rfl, ?_⟩, fun _ => rfl⟩ ?_
            rotate_left
            · intro w; go_simp; try with_reducible rfl
            refine wpAnyIn_take (i := 11) (v := ?_) rfl rfl (by kernel_rfl) (by kernel_rfl) (by kernel_rfl) (fun _ _ _ h => h) ⟨Or.inl ⟨by rfl, ?_⟩, fun _ => rfl⟩ ?_
            rotate_left
            · intro w; go_simp; try with_reducible rfl
            refine wpAnyIn_ready (rs := [12]) (by kernel_rfl) (by simp) ?_
            refine AllReadyIn.cons rfl (fun K hK => ?_) ?_
            · go_simp
              refine hK _ _ ?_
              clear hK K
              refine wpAnyIn_done (by kernel_rfl) ?_ _
              gi_wp2
              exact ⟨HRD.ko.from _, HRD.kp, by rw [HV.out]; exact HST.out, hBd⟩
            exact AllReadyIn.nil
          exact AllReadyIn.nil
        exact AllReadyIn.nil
      exact AllReadyIn.nil
    refine AllReadyIn.cons rfl (fun K hK => ?_) ?_
    · go_simp
      refine hK _ _ ?_
      clear hK K
      refine wpAnyIn_take (i := 6) (v := ?_) rfl rfl (by kernel_rfl) (by kernel_rfl) (by kernel_rfl) (fun _ _ _ h => h) ⟨Or.inl ⟨by rfl, ?_⟩, fun _ => rfl⟩ ?_
      rotate_left
      · intro w; go_simp; try with_reducible rfl
      refine wpAnyIn_ready (rs := [0, 2]) (by kernel_rfl) (by simp) ?_
      refine AllReadyIn.cons rfl (fun K hK => ?_) ?_
      · go_simp
        refine hK _ _ ?_
        clear hK K
        refine wpAnyIn_take (i := 7) (v := ?_) rfl rfl (by kernel_rfl) (by kernel_rfl) (by kernel_rfl) (fun _ _ _ h => h) ⟨Or.inl ⟨by rfl, ?_⟩, fun _ => rfl⟩ ?_
        rotate_left
        · intro w; go_simp; try with_reducible rfl
        refine wpAnyIn_take (i := 8) (v := ?_) rfl rfl (by kernel_rfl) (by kernel_rfl) (by kernel_rfl) (fun _ _ _ h => h) ⟨Or.inl ⟨by rfl, ?_⟩, fun _ => rfl⟩ ?_
        rotate_left
        · intro w; go_simp; try with_reducible rfl
        refine wpAnyIn_ready (rs := [2, 9]) (by kernel_rfl) (by simp) ?_
        refine AllReadyIn.cons rfl (fun K hK => ?_) ?_
        · go_simp
          refine hK _ _ ?_
          clear hK K
          refine wpAnyIn_ready (rs := [9]) (by kernel_rfl) (by simp) ?_
          refine AllReadyIn.cons rfl (fun K hK => ?_) ?_
          · go_simp
            refine hK _ _ ?_
            clear hK K
            refine wpAnyIn_take (i := 10) (v := ?_) rfl rfl (by kernel_rfl) (by kernel_rfl) (by kernel_rfl) (fun _ _ _ h => h) ⟨Or.inl ⟨by rfl, ?_⟩, fun _ => rfl⟩ ?_
            rotate_left
            · intro w; go_simp; try with_reducible rfl
            refine wpAnyIn_take (i := 11) (v := ?_) rfl rfl (by kernel_rfl) (by kernel_rfl) (by kernel_rfl) (fun _ _ _ h => h) ⟨Or.inl ⟨by rfl, ?_⟩, fun _ => rfl⟩ ?_
            rotate_left
            · intro w; go_simp; try with_reducible rfl
            refine wpAnyIn_ready (rs := [12]) (by kernel_rfl) (by simp) ?_
            refine AllReadyIn.cons rfl (fun K hK => ?_) ?_
            · go_simp
              refine hK _ _ ?_
              clear hK K
              refine wpAnyIn_done (by kernel_rfl) ?_ _
              gi_wp2
              exact ⟨HRD.ko.from _, HRD.kp, by rw [HV.out]; exact HST.out, hBd⟩
            exact AllReadyIn.nil
          exact AllReadyIn.nil
        refine AllReadyIn.cons rfl (fun K hK => ?_) ?_
        · go_simp
          refine hK _ _ ?_
          clear hK K
          refine wpAnyIn_ready (rs := [2]) (by kernel_rfl) (by simp) ?_
          refine AllReadyIn.cons rfl (fun K hK => ?_) ?_
          · go_simp
            refine hK _ _ ?_
            clear hK K
            refine wpAnyIn_take (i := 10) (v := ?_) rfl rfl (by kernel_rfl) (by kernel_rfl) (by kernel_rfl) (fun _ _ _ h => h) ⟨Or.inl ⟨by rfl, ?_⟩, fun _ => rfl⟩ ?_
            rotate_left
            · intro w; go_simp; try with_reducible rfl
            refine wpAnyIn_take (i := 11) (v := ?_) rfl rfl (by kernel_rfl) (by kernel_rfl) (by kernel_rfl) (fun _ _ _ h => h) ⟨Or.inl ⟨by rfl, ?_⟩, fun _ => rfl⟩ ?_
            rotate_left
            · intro w; go_simp; try with_reducible rfl
            refine wpAnyIn_ready (rs := [12]) (by kernel_rfl) (by simp) ?_
            refine AllReadyIn.cons rfl (fun K hK => ?_) ?_
            · go_simp
              refine hK _ _ ?_
              clear hK K
              refine wpAnyIn_done (by kernel_rfl) ?_ _
              gi_wp2
              exact ⟨HRD.ko.from _, HRD.kp, by rw [HV.out]; exact HST.out, hBd⟩
            exact AllReadyIn.nil
          exact AllReadyIn.nil
        exact AllReadyIn.nil
      refine AllReadyIn.cons rfl (fun K hK => ?_) ?_
      · go_simp
        refine hK _ _ ?_
        clear hK K
        refine wpAnyIn_ready (rs := [0]) (by kernel_rfl) (by simp) ?_
        refine AllReadyIn.cons rfl (fun K hK => ?_) ?_
        · go_simp
          refine hK _ _ ?_
          clear hK K
          refine wpAnyIn_take (i := 7) (v := ?_) rfl rfl (by kernel_rfl) (by kernel_rfl) (by kernel_rfl) (fun _ _ _ h => h) ⟨Or.inl ⟨by rfl, ?_⟩, fun _ => rfl⟩ ?_
          rotate_left
          · intro w; go_simp; try with_reducible rfl
          refine wpAnyIn_take (i := 8) (v := ?_) rfl rfl (by kernel_rfl) (by kernel_rfl) (by kernel_rfl) (fun _ _ _ h => h) ⟨Or.inl ⟨by rfl, ?_⟩, fun _ => rfl⟩ ?_
          rotate_left
          · intro w; go_simp; try with_reducible rfl
          refine wpAnyIn_ready (rs := [9]) (by kernel_rfl) (by simp) ?_
          refine AllReadyIn.cons rfl (fun K hK => ?_) ?_
          · go_simp
            refine hK _ _ ?_
            clear hK K
            refine wpAnyIn_take (i := 10) (v := ?_) rfl rfl (by kernel_rfl) (by kernel_rfl) (by kernel_rfl) (fun _ _ _ h => h) ⟨Or.inl ⟨by rfl, ?_⟩, fun _ => rfl⟩ ?_
            rotate_left
            · intro w; go_simp; try with_reducible rfl
            refine wpAnyIn_take (i := 11) (v := ?_) rfl rfl (by kernel_rfl) (by kernel_rfl) (by kernel_rfl) (fun _ _ _ h => h) ⟨Or.inl ⟨by rfl, ?_⟩, fun _ => rfl⟩ ?_
            rotate_left
            · intro w; go_simp; try with_reducible rfl
            refine wpAnyIn_ready (rs := [12]) (by kernel_rfl) (by simp) ?_
            refine AllReadyIn.cons rfl (fun K hK => ?_) ?_
            · go_simp
              refine hK _ _ ?_
              clear hK K
              refine wpAnyIn_done (by kernel_rfl) ?_ _
              gi_wp2
              exact ⟨HRD.ko.from _, HRD.kp, by rw [HV.out]; exact HST.out, hBd⟩
            exact AllReadyIn.nil
          exact AllReadyIn.nil
        exact AllReadyIn.nil
      exact AllReadyIn.nil
    exact AllReadyIn.nil
  case done =>
    rintro D ys W hD hys ⟨hst, hB⟩ hK
    rw [hys] at hst
    have c9 := hst.b0.cell
    have HO9 := Lib.hid hst.own
    clear hst
    gi_wp2
    refine ⟨by simp, .inl ⟨_, _, rfl, run_takeDeferred hK, ?_⟩⟩
    refine ⟨_, results_tmp2 rfl _ _ _, _, fs, rfl, (HO9.out.keptO (grownBy_putObj' W D _) (fun r e => by cases e; exact ⟨_, hK, rfl⟩)).lower hz4, ?_⟩
    exact hb04.trans ((hb47.mono hz4).trans ((hb78.mono (by omega)).trans ((hB.mono hz4).trans (belowK_b (w := w) (Nat.le_refl _) W D _ _ (by omega) hK rfl rfl))))
end Go.Proofs.YtoajgfhcongocaaGreatDoor.doc

namespace Go.Proofs.YtoajgfhcongocaaGreatDoor.doc
open Go.ChangeShapes Go.WideShapes Go.ChangeAt Go.RowKit Go.Lib Go.Shelf Go.Proofs.YtoajgfhcongocaaGreatDoor.atr Go.Proofs.YtoajgfhcongocaaGreatDoor.link Go.Proofs.YtoajgfhcongocaaGreatDoor.ctl

theorem OwnC.two {w : World} {B g cap n : Nat} {cs : List Ctl} {fs : List Value} (h : OwnC w B (.slice (some ⟨g, 0, none⟩) n cap) cs fs) (hn : n = cs.length) (o : Nat) (ho : o < cs.length) (i j : Nat) (hi : i < 10) (hj : j < 10) (u v : Value) (c1 c2 : Ctl → Ctl)
    (hf1 : ∀ c, (c1 c).files = c.files) (hf2 : ∀ c, (c2 c).files = c.files) (he1 : ∀ c f, (encC c f).set i u = encC (c1 c) f) (he : ∀ c f, (encC (c1 c) f).set j v = encC (c2 c) f) :
    OwnC ((w.setCell ⟨g, o * 10 + i, none⟩ u).setCell ⟨g, o * 10 + j, none⟩ v) B (.slice (some ⟨g, 0, none⟩) n cap) (cs.modify o c2) fs := by
  have h1 := h.set hn o ho i hi u (c1 cs[o]) (hf1 _) (fun f => he1 _ f)
  have hl2 : o < (cs.set o (c1 cs[o])).length := by rw [List.length_set]; exact ho
  have h2 := h1.set (by rw [List.length_set]; exact hn) o hl2 j hj v (c2 cs[o]) (by rw [List.getElem_set_self, hf1]; exact hf2 _) (fun f => by rw [List.getElem_set_self]; exact he _ f)
  rw [List.set_set] at h2
  rw [modify_set ho]
  exact h2
theorem owner_in {l : List Nd} (hR : rightB l = true) (k : Int) (hk : inR l k) (h : 0 ≤ ownerP l k) : ownerP l k < (l.length : Int) := by
  have hRt := right_rt l hR
  have h1 := hRt.par k hk
  unfold ownerP at h ⊢
  split at h
  · omega
  · rename_i g
    rw [if_neg g]
    unfold upP
    split
    · rename_i g2
      exact (hRt.par _ ⟨g2.1, h1.2⟩).2
    · exact h1.2

set_option maxHeartbeats 6400000 in
set_option maxRecDepth 100000 in
theorem choose_any (vn vc : Value) (l : List Nd) (cs : List Ctl) (k : Int) (on : Bool) (w : World) (hD : DocAt w vn vc l cs) :
    Calls Tryz.prog 11 #[.agg #[vn, vc], .int .i64 k, .bool on] w (RetSE (chooseP l cs k on).1 (chooseP l cs k on).2 w) := by
  have HX : Hid (chooseP l cs k on = if docR l cs = false ∨ isP l k 32 = false ∨ ownerP l k < 0 then ([], 4) else if offP l k then ([], 8) else if hasA nMultiple (nd l (ownerP l k)).attrs then (cs.modify k.toNat (fun c => { c with selected := on, dselected := true }), 0) else (mapOn (chooseG k) cs (optsP l (ownerP l k)), 0)) := Lib.hid rfl
  have hD0 := hD
  obtain ⟨oa, ca, rfl⟩ := NodesAt.lenN hD.nodes
  obtain ⟨oc, cc, rfl⟩ := CtlsAt.lenN hD.ctls
  obtain ⟨wA, hwA⟩ : ∃ wA, wA = (w.alloc (.cells #[.slice oa l.length ca, .slice oc cs.length cc] 25)).alloc (.cells #[.int .i64 k] 3) := ⟨_, rfl⟩
  have hB1 : Below w.heap.size w wA := by rw [hwA]; exact ((Below.refl _ w).alloc (Nat.le_refl _) _).alloc (by simp) _
  have hf01 : wA.cell? ⟨w.heap.size, 0, none⟩ = some (.slice oa l.length ca) ∧ wA.cell? ⟨w.heap.size, 1, none⟩ = some (.slice oc cs.length cc) ∧ wA.cell? ⟨w.heap.size + 1, 0, none⟩ = some (.int .i64 k) := by
    rw [hwA]
    have hx := (Below.refl (w.alloc (.cells #[.slice oa l.length ca, .slice oc cs.length cc] 25)).heap.size (w.alloc (.cells #[.slice oa l.length ca, .slice oc cs.length cc] 25))).alloc (Nat.le_refl _) (.cells #[.int .i64 k] 3)
    refine ⟨cell_below hx (World.cell?_alloc_new w _ _ 0), cell_below hx (World.cell?_alloc_new w _ _ 1), ?_⟩
    have := World.cell?_alloc_new (w.alloc (.cells #[.slice oa l.length ca, .slice oc cs.length cc] 25)) #[.int .i64 k] 3 0
    rw [World.size_alloc] at this
    exact this
  obtain ⟨f0, f1, fo⟩ := hf01
  have hr := docright_any (.slice oa l.length ca) l hD.fine oc cs.length cc wA (hD.nodes.below hB1)
  rw [show (decide (l.length = cs.length) && rightB l) = docR l cs from rfl] at hr
  have HI := Lib.hid (fun w' h => is_any (.slice oa l.length ca) l k 32 hD.fine w' (hD.nodes.below (w' := w') h))
  have HD := Lib.hid hD
  cases hq : docR l cs
  · rw [hq] at hr
    have HE : Hid (chooseP l cs k on = ([], 4)) := Lib.hid (by rw [HX.out, if_pos (Or.inl hq)])
    rw [HE.out]
    clear hD hD0 HX HI hq
    subst hwA
    go_enter Tryz.func11, Tryz.ntmps11
    go_wp2_with fail
    refine hr.mono ?_
    rintro e w1 ⟨rfl, hb1⟩
    have f0 := cell_below hb1 f0
    have f1 := cell_below hb1 f1
    have fo := cell_below hb1 fo
    have hb01 := below_trans hB1 hb1
    clear hr
    go_wp2_with fail
    go_ret2
    exact ⟨_, [], rfl, OwnC.nil _ _, hb01⟩
  obtain ⟨hlc, hR⟩ := (docR_iff l cs).1 hq
  rw [hq] at hr
  cases hi : isP l k 32
  · rw [hi] at HI
    have HE : Hid (chooseP l cs k on = ([], 4)) := Lib.hid (by rw [HX.out, if_pos (Or.inr (Or.inl hi))])
    rw [HE.out]
    clear hD hD0 HX hq hi hlc
    subst hwA
    go_enter Tryz.func11, Tryz.ntmps11
    go_wp2_with fail
    refine hr.mono ?_
    rintro e w1 ⟨rfl, hb1⟩
    have f0 := cell_below hb1 f0
    have f1 := cell_below hb1 f1
    have fo := cell_below hb1 fo
    have hb01 := below_trans hB1 hb1
    clear hr
    go_wp2_with fail
    refine (HI.out w1 hb01).mono ?_
    rintro e w2 ⟨rfl, hb2⟩
    have f0 := cell_below hb2 f0
    have f1 := cell_below hb2 f1
    have fo := cell_below hb2 fo
    have hb02 := below_trans hb01 hb2
    go_wp2_with fail
    go_ret2
    exact ⟨_, [], rfl, OwnC.nil _ _, hb02⟩
  rw [hi] at HI
  obtain ⟨hin, _, _⟩ := (isP_iff l k 32).1 hi
  obtain ⟨opt, rfl⟩ : ∃ opt : Nat, k = (opt : Int) := ⟨k.toNat, by have := hin.1; omega⟩
  have ho : opt < l.length := by have := hin.2; omega
  have HW := Lib.hid (fun w' h => owner_any (.slice oa l.length ca) l hD.fine hR opt ho w' (hD.nodes.below (w' := w') h))
  by_cases hw : ownerP l (opt : Int) < 0
  · have HE : Hid (chooseP l cs (opt : Int) on = ([], 4)) := Lib.hid (by rw [HX.out, if_pos (Or.inr (Or.inr hw))])
    rw [HE.out]
    generalize ownerP l (opt : Int) = ow at *
    clear hD hD0 HX hq hi hlc
    subst hwA
    go_enter Tryz.func11, Tryz.ntmps11
    go_wp2_with fail
    refine hr.mono ?_
    rintro e w1 ⟨rfl, hb1⟩
    have f0 := cell_below hb1 f0
    have f1 := cell_below hb1 f1
    have fo := cell_below hb1 fo
    have hb01 := below_trans hB1 hb1
    clear hr
    go_wp2_with fail
    refine (HI.out w1 hb01).mono ?_
    rintro e w2 ⟨rfl, hb2⟩
    have f0 := cell_below hb2 f0
    have f1 := cell_below hb2 f1
    have fo := cell_below hb2 fo
    have hb02 := below_trans hb01 hb2
    go_wp2_with fail
    refine (HW.out w2 hb02).mono ?_
    rintro e w3 ⟨rfl, hb3⟩
    have f0 := cell_below hb3 f0
    have f1 := cell_below hb3 f1
    have fo := cell_below hb3 fo
    have hb03 := below_trans hb02 hb3
    go_wp2_with fail
    go_ret2
    exact ⟨_, [], rfl, OwnC.nil _ _, hb03⟩
  have hw2 := owner_in hR (opt : Int) hin (by omega)
  have HOf := Lib.hid (fun w' h => off_any (.slice oa l.length ca) l hD.fine hR opt ho w' (hD.nodes.below (w' := w') h))
  have hno : ¬ (docR l cs = false ∨ isP l (opt : Int) 32 = false ∨ ownerP l (opt : Int) < 0) := by
    rintro (h | h | h)
    · rw [hq] at h; cases h
    · rw [hi] at h; cases h
    · exact hw h
  cases hof : offP l (opt : Int)
  case true =>
    rw [hof] at HOf
    have HE : Hid (chooseP l cs (opt : Int) on = ([], 8)) := Lib.hid (by rw [HX.out, if_neg hno, if_pos hof])
    rw [HE.out]
    generalize ownerP l (opt : Int) = ow at *
    clear hD hD0 HX hq hi hlc hno hof
    subst hwA
    go_enter Tryz.func11, Tryz.ntmps11
    go_wp2_with fail
    refine hr.mono ?_
    rintro e w1 ⟨rfl, hb1⟩
    have f0 := cell_below hb1 f0
    have f1 := cell_below hb1 f1
    have fo := cell_below hb1 fo
    have hb01 := below_trans hB1 hb1
    clear hr
    go_wp2_with fail
    refine (HI.out w1 hb01).mono ?_
    rintro e w2 ⟨rfl, hb2⟩
    have f0 := cell_below hb2 f0
    have f1 := cell_below hb2 f1
    have fo := cell_below hb2 fo
    have hb02 := below_trans hb01 hb2
    go_wp2_with fail
    refine (HW.out w2 hb02).mono ?_
    rintro e w3 ⟨rfl, hb3⟩
    have f0 := cell_below hb3 f0
    have f1 := cell_below hb3 f1
    have fo := cell_below hb3 fo
    have hb03 := below_trans hb02 hb3
    go_wp2_with fail
    refine (HOf.out w3 hb03).mono ?_
    rintro e w4 ⟨rfl, hb4⟩
    have f0 := cell_below hb4 f0
    have f1 := cell_below hb4 f1
    have fo := cell_below hb4 fo
    have hb04 := below_trans hb03 hb4
    go_wp2_with fail
    go_ret2
    exact ⟨_, [], rfl, OwnC.nil _ _, hb04⟩
  rw [hof] at HOf
  obtain ⟨sel, hsel⟩ : ∃ sel : Nat, ownerP l (opt : Int) = (sel : Int) := ⟨(ownerP l (opt : Int)).toNat, by omega⟩
  have hs : sel < l.length := by omega
  cases hm : hasA nMultiple (nd l (sel : Int)).attrs
  · rw [HX.out, if_neg hno, if_neg (by rw [hof]; simp), hsel, if_neg (by rw [hm]; simp)]
    exact choose_loop _ _ l cs on w hD0 hq opt sel ho hi hsel hs hof hm
  have HE : Hid (chooseP l cs (opt : Int) on = (cs.modify opt (fun c => { c with selected := on, dselected := true }), 0)) := Lib.hid (by rw [HX.out, if_neg hno, if_neg (by rw [hof]; simp), hsel, if_pos hm, Int.toNat_natCast])
  rw [HE.out]
  have hfn := hD.fine.nd (sel : Int) (by omega) (by omega)
  obtain ⟨b, off, cap, e, hb⟩ := nodes_addr hD.nodes (by omega)
  cases e
  obtain ⟨va, vk, hn0⟩ := nodes_get hD.nodes sel hs
  have HN := Lib.hid hn0
  have HH := Lib.hid (fun w' (hx : Below w.heap.size w w') => ohas_any (nd l (sel : Int)) va vk nMultiple hfn.attrs w' (hn0.below hx).attrs (hn0.below hx).kids)
  unfold nodeV at HH
  rw [hm] at HH
  rw [hsel] at HW
  have HC := Lib.hid (fun w' h => copiedC_any (.slice oc cs.length cc) cs hD.cb hD.fb w' (hD.ctls.below (w' := w') h))
  have h0' : (0 : Int) ≤ (sel : Int) := by omega
  have hs' : (sel : Int) < (l.length : Int) := by omega
  have HLC := Lib.hid hlc
  have hoc : opt < cs.length := by omega
  have hoc' : (opt : Int) < (cs.length : Int) := by omega
  clear hD hD0 HX hq hi hlc hno hof hn0 hsel hm hw hw2
  subst hwA
  go_enter Tryz.func11, Tryz.ntmps11
  go_wp2_with fail
  refine hr.mono ?_
  rintro e w1 ⟨rfl, hb1⟩
  have f0 := cell_below hb1 f0
  have f1 := cell_below hb1 f1
  have fo := cell_below hb1 fo
  have hb01 := below_trans hB1 hb1
  clear hr
  go_wp2_with fail
  refine (HI.out w1 hb01).mono ?_
  rintro e w2 ⟨rfl, hb2⟩
  have f0 := cell_below hb2 f0
  have f1 := cell_below hb2 f1
  have fo := cell_below hb2 fo
  have hb02 := below_trans hb01 hb2
  go_wp2_with fail
  refine (HW.out w2 hb02).mono ?_
  rintro e w3 ⟨rfl, hb3⟩
  have f0 := cell_below hb3 f0
  have f1 := cell_below hb3 f1
  have fo := cell_below hb3 fo
  have hb03 := below_trans hb02 hb3
  go_wp2_with fail
  refine (HOf.out w3 hb03).mono ?_
  rintro e w4 ⟨rfl, hb4⟩
  have f0 := cell_below hb4 f0
  have f1 := cell_below hb4 f1
  have fo := cell_below hb4 fo
  have hb04 := below_trans hb03 hb4
  go_wp2_with fail
  have HZ : Hid (w.heap.size + 1 < w4.heap.size) := Lib.hid (lt_of_cell fo)
  refine (HC.out w4 hb04).mono ?_
  rintro e w5 ⟨v', fs, rfl, hO, hb5⟩
  have f0 := cell_below hb5 f0
  have fo := cell_below hb5 fo
  have hb05 := below_trans hb04 hb5
  obtain ⟨g, c9, rfl, hBg, hgl⟩ := hO.addr (by omega)
  have HO := Lib.hid hO
  have hb6 : Below w5.heap.size w5 (w5.alloc (.cells #[.slice (some ⟨g, 0, none⟩) cs.length c9] 23)) := (Below.refl _ _).alloc (Nat.le_refl _) _
  have hb06 := below_trans hb05 hb6
  have b9 := World.cell?_alloc_new w5 #[.slice (some ⟨g, 0, none⟩) cs.length c9] 23 0
  have f0 := cell_below hb6 f0
  have fo := cell_below hb6 fo
  have hn := HN.out.below hb06
  obtain ⟨c0, c1, c2, c3, c4, _, _, _⟩ := hn
  clear hO
  go_wp2_with fail
  refine (HH.out _ hb06).mono ?_
  rintro e w7 ⟨rfl, hb7⟩
  have fo := cell_below hb7 fo
  have b9 := cell_below hb7 b9
  have hb07 := below_trans hb06 hb7
  have ho7 := HO.out.below (below_trans hb6 hb7)
  have c6 := ho7.selOf opt hoc
  have c7 := ho7.dselOf opt hoc
  have z6 := ho7.frozen rfl (opt * 10 + 6)
  have z7 := ho7.frozen rfl (opt * 10 + 7)
  have HT := Lib.hid ((ho7.below (Below.refl _ w7).drew).two rfl opt hoc 6 7 (by decide) (by decide) (.bool on) (.bool true) (fun c => { c with selected := on }) (fun c => { c with selected := on, dselected := true }) (fun _ => rfl) (fun _ => rfl) (fun _ _ => rfl) (fun _ _ => rfl))
  have HB := Lib.hid ((((hb07.drew).setCell (p := ⟨g, opt * 10 + 6, none⟩) (by show w.heap.size ≤ g; have := hb04.size; omega) (.bool on)).setCell (p := ⟨g, opt * 10 + 7, none⟩) (by show w.heap.size ≤ g; have := hb04.size; omega) (.bool true)))
  generalize selB cs (opt : Int) = sb at *
  generalize (ct cs (opt : Int)).dselected = db at *
  have hne : ¬ w5.heap.size = g := by omega
  have hne2 : ¬ w.heap.size + 1 = g := by have := HZ.out; omega
  have hz4 := hb04.size
  clear ho7 HO HH HN c0 c1 c2 c3 c4
  go_wp2_with fail
  go_region
  all_goals
    go_wp2_with fail
    go_ret2
    exact ⟨_, fs, rfl, HT.out.lower hz4, HB.out⟩
end Go.Proofs.YtoajgfhcongocaaGreatDoor.doc
