/- The contract of option.fix. The contract of option.Fix. -/
import Derived.Test.YtoajgfhcongocaaGreatDoorGj
import Derived.Test.YtoajgfhcongocaaGreatDoorGk
import Derived.Test.YtoajgfhcongocaaGreatDoorGg
import Derived.Test.YtoajgfhcongocaaGreatDoorGf
namespace Go.Proofs.YtoajgfhcongocaaGreatDoor.doc
open Go.ChangeShapes Go.WideShapes Go.ChangeAt Go.RowKit Go.Lib Go.Shelf Go.Proofs.YtoajgfhcongocaaGreatDoor.atr Go.Proofs.YtoajgfhcongocaaGreatDoor.link Go.Proofs.YtoajgfhcongocaaGreatDoor.ctl
attribute [local go_sem] Oper.semAt_some

set_option maxHeartbeats 6400000 in
set_option maxRecDepth 100000 in
theorem fix_any (v : Value) (l : List Nd) (hL : LFine l) (hR : rightB l = true) (sel : Nat) (hs : sel < l.length) (w0 : World) (hA : NodesAt w0 v l) (w : World) (hE : GE w0) (hw : Below w0.heap.size w0 w) (vc : Value) (cs : List Ctl) (fs : List Value) (hO : OwnC w w0.heap.size vc cs fs) (hcs : cs.length = l.length) :
    Calls Tryz.prog 47 #[v, vc, .int .i64 (sel : Int)] w fun e w' => (∃ u, e = .returned u) ∧ OwnC w' w0.heap.size vc (fixC l cs (sel : Int)) fs ∧ Below w0.heap.size w w' ∧ w.grownBy w' vc.ownBlock := by
  have hRt := right_rt l hR
  have hf := hRt.few
  have HD := Lib.hid (fun w' (h : Below w0.heap.size w0 w') => hA.below h)
  obtain ⟨b, off, cap, rfl, hb⟩ := nodes_addr hA (by omega)
  obtain ⟨va, vk, hn0⟩ := nodes_get hA sel hs
  have hfn := hL.nd (sel : Int) (by omega) (by omega)
  have HFx : Hid (fixC l cs (sel : Int) = if hasA nMultiple (nd l (sel : Int)).attrs then cs else onlyP cs (optsP l (sel : Int)) (pickP l cs (sel : Int))) := Lib.hid rfl
  obtain ⟨g, cc, rfl, hBg, hgw⟩ := hO.addr (by omega)
  rw [hcs] at hO ⊢
  have HCS := Lib.hid hcs
  have HLow := Lib.hid hO.lowF
  clear hcs
  obtain ⟨wB, hwB⟩ : ∃ wB, wB = (w.alloc (.cells #[.slice (some ⟨b, off, none⟩) l.length cap] 22)).alloc (.cells #[.slice (some ⟨g, 0, none⟩) l.length cc] 23) := ⟨_, rfl⟩
  have hwz := hw.size
  have hbB : Below w.heap.size w wB := by rw [hwB]; exact ((Below.refl _ w).alloc (Nat.le_refl _) _).alloc (by simp) _
  have hn := hn0.below (hw.trans (hbB.mono hwz))
  have hh := ohas_any (nd l (sel : Int)) va vk nMultiple hfn.attrs wB hn.attrs hn.kids
  unfold nodeV at hh
  obtain ⟨c0, c1, c2, c3, c4, _, _, _⟩ := hn
  have h0' : (0 : Int) ≤ (sel : Int) := by omega
  have hs' : (sel : Int) < (l.length : Int) := by omega
  cases hm : hasA nMultiple (nd l (sel : Int)).attrs
  case true =>
    rw [hm] at hh HFx
    have HX : Hid (fixC l cs (sel : Int) = cs) := Lib.hid HFx.out
    have HO := Lib.hid hO
    clear hO HFx
    subst hwB
    go_enter Tryz.func47, Tryz.ntmps47
    go_wp2_with fail
    refine hh.mono ?_
    rintro e w1 ⟨rfl, hb1⟩
    go_wp2_with fail
    refine bodyPost_ret (results_none (by rfl) _ _ _) (by rfl) ?_
    have hb01 : Below w.heap.size w w1 := hbB.trans (hb1.mono hbB.size)
    exact ⟨⟨_, rfl⟩, by rw [HX.out]; exact HO.out.below hb01, hb01.mono hwz, grownBy_below hb01⟩
  rw [hm] at hh HFx
  have hh' := (callsIn_wide (n := 999)).2 hh
  clear hh
  refine (callsIn_wide (n := 1000)).1 ?_
  refine callsIn_of_wp_marks Tryz.func47 rfl trivial ?_ rfl
  simp only [Tryz.ntmps47, List.size_toArray, List.length_cons, List.length_nil, Nat.reduceAdd, Nat.reduceSub, Array.replicate_succ, Array.replicate_zero, List.push_toArray, List.append_toArray, List.nil_append, List.cons_append]
  subst hwB
  gi_wp2
  refine ⟨trivial, hh'.mono ?_⟩
  rintro e w1 ⟨rfl, hb1⟩
  clear hh' c0 c1 c2 c3 c4
  have hb01 : Below w.heap.size w w1 := hbB.trans (hb1.mono hbB.size)
  have hlt1 : w.heap.size + 1 < w1.heap.size := by have := hb1.size; simp at this; omega
  have b3 : Boxed w1 w.heap.size 22 (.slice (some ⟨b, off, none⟩) l.length cap) := by
    have := Boxed.new w 22 (.slice (some ⟨b, off, none⟩) l.length cap)
    have h2 := this.alloc (.cells #[.slice (some ⟨g, 0, none⟩) l.length cc] 23)
    exact (hb1.block _ h2.lt).trans h2
  have b4 : Boxed w1 (w.heap.size + 1) 23 (.slice (some ⟨g, 0, none⟩) l.length cc) := by
    have := Boxed.new (w.alloc (.cells #[.slice (some ⟨b, off, none⟩) l.length cap] 22)) 23 (.slice (some ⟨g, 0, none⟩) l.length cc)
    rw [World.size_alloc] at this
    exact (hb1.block _ this.lt).trans this
  have HX : Hid (fixC l cs (sel : Int) = onlyP cs (optsP l (sel : Int)) (pickP l cs (sel : Int))) := Lib.hid HFx.out
  have HO := Lib.hid (hO.below hb01)
  clear hO
  have c3 := ((b3.alloc (.cells #[.int .i64 (-1)] 3)).alloc (.cells #[.int .i64 (-1)] 3)).cell
  have ho := fun W => (callsIn_wide (n := 999)).2 (options_any (.slice (some ⟨b, off, none⟩) l.length cap) (sel : Int) ⟨_, _, _, rfl⟩ W)
  gi_wp2
  refine ⟨trivial, (ho _).mono ?_⟩
  rintro e w' ⟨rfl, rfl⟩
  clear ho
  gi_wp2
  obtain ⟨w3, hw3⟩ : ∃ w3, w3 = (((w1.alloc (.cells #[.int .i64 (-1)] 3)).alloc (.cells #[.int .i64 (-1)] 3)).alloc (.cells #[.slice (some ⟨b, off, none⟩) l.length cap] 22)).alloc (.cells #[.int .i64 (sel : Int)] 3) := ⟨_, rfl⟩
  have hsz : w3.heap.size = w1.heap.size + 1 + 1 + 1 + 1 := by rw [hw3]; simp
  have hb13 : Below w1.heap.size w1 w3 := by rw [hw3]; exact ((((Below.refl _ w1).alloc (Nat.le_refl _) _).alloc (by simp) _).alloc (by simp; omega) _).alloc (by simp; omega) _
  have bP : Boxed w3 w1.heap.size 3 (.int .i64 (-1)) := by rw [hw3]; exact (((Boxed.new w1 _ _).alloc _).alloc _).alloc _
  have bF : Boxed w3 (w1.heap.size + 1) 3 (.int .i64 (-1)) := by
    have := Boxed.new (w1.alloc (.cells #[.int .i64 (-1)] 3)) 3 (.int .i64 (-1))
    rw [World.size_alloc] at this
    rw [hw3]; exact (this.alloc _).alloc _
  have bL : Boxed w3 (w1.heap.size + 1 + 1) 22 (.slice (some ⟨b, off, none⟩) l.length cap) := by
    have := Boxed.new ((w1.alloc (.cells #[.int .i64 (-1)] 3)).alloc (.cells #[.int .i64 (-1)] 3)) 22 (.slice (some ⟨b, off, none⟩) l.length cap)
    rw [World.size_alloc, World.size_alloc] at this
    rw [hw3]; exact this.alloc _
  have bS : Boxed w3 (w1.heap.size + 1 + 1 + 1) 3 (.int .i64 (sel : Int)) := by
    have := Boxed.new (((w1.alloc (.cells #[.int .i64 (-1)] 3)).alloc (.cells #[.int .i64 (-1)] 3)).alloc (.cells #[.slice (some ⟨b, off, none⟩) l.length cap] 22)) 3 (.int .i64 (sel : Int))
    rw [World.size_alloc, World.size_alloc, World.size_alloc] at this
    rw [hw3]; exact this
  have b33 : Boxed w3 w.heap.size 22 (.slice (some ⟨b, off, none⟩) l.length cap) := by rw [hw3]; exact (((b3.alloc _).alloc _).alloc _).alloc _
  have b43 : Boxed w3 (w.heap.size + 1) 23 (.slice (some ⟨g, 0, none⟩) l.length cc) := by rw [hw3]; exact (((b4.alloc _).alloc _).alloc _).alloc _
  have hO3 := HO.out.below hb13
  have hz1 := hb01.size
  have hst0 : Bst w.heap.size w0.heap.size [(w1.heap.size, 3, .int .i64 (lastQ cs (vals ([] : List (Opt l (sel : Int)))))), (w1.heap.size + 1, 3, .int .i64 (firstP l (vals ([] : List (Opt l (sel : Int)))))), (w.heap.size, 22, .slice (some ⟨b, off, none⟩) l.length cap), (w.heap.size + 1, 23, .slice (some ⟨g, 0, none⟩) l.length cc)] g l.length cc w3 (mapOn offG cs (vals ([] : List (Opt l (sel : Int))))) fs :=
    ⟨bx_cons bP (bx_cons bF (bx_cons b33 (bx_cons b43 bx_nil))), by rw [show vals ([] : List (Opt l (sel : Int))) = [] from rfl, mapOn_nil]; exact hO3, by rw [show vals ([] : List (Opt l (sel : Int))) = [] from rfl, mapOn_nil]; exact HLow.out⟩
  have hB0 : Below w0.heap.size w0 w3 := (hw.trans (hb01.mono hwz)).trans (hb13.mono (by omega))
  first | rw [← hw3] | (simp only [← hw3])
  clear hw3
  refine wpIn_rangeFunc_ownG rfl (by omega) (gf := 64) (lb := #[.pointer (some ⟨w1.heap.size + 1 + 1, 0, none⟩), .pointer (some ⟨w1.heap.size + 1 + 1 + 1, 0, none⟩)]) rfl trivial (enters_of Tryz.func64 (by kernel_rfl) rfl)
    (opts_stops l hL hR sel hs _ w0 hA 999 (by omega) (w1.heap.size + 1 + 1) (w1.heap.size + 1 + 1 + 1) w3 hB0 bL.lt bS.lt bL.cell bS.cell) (fun h k => h.trans k) (Kp.put (by omega)) (Below.refl _ _) (fun _ => rfl)
    (fun pre W => Bst w.heap.size w0.heap.size [(w1.heap.size, 3, .int .i64 (lastQ cs (vals pre))), (w1.heap.size + 1, 3, .int .i64 (firstP l (vals pre))), (w.heap.size, 22, .slice (some ⟨b, off, none⟩) l.length cap), (w.heap.size + 1, 23, .slice (some ⟨g, 0, none⟩) l.length cc)] g l.length cc W (mapOn offG cs (vals pre)) fs ∧ (Below w0.heap.size w3 W ∧ (w3.heap.size ≤ W.heap.size ∧ Rg w.heap.size g w3 W)))
    (fun _ _ _ => False)
    (OwnFrom.and (Own.from (fun s A B row hs hg hr => hs.keptO hg hr) _) ((ownFrom_below (by omega) (by omega)).and (Rg.own w3 (by omega) (by omega))))
    (fun _ _ _ _ _ hs _ _ => hs)
    ⟨hst0, Below.refl _ _, Nat.le_refl _, Rg.refl _ _ _⟩
    (fun x => { tmps := #[.slice (some ⟨b, off, none⟩) l.length cap, .slice (some ⟨g, 0, none⟩) l.length cc, .int .i64 (sel : Int), .pointer (some ⟨w.heap.size, 0, none⟩), .pointer (some ⟨w.heap.size + 1, 0, none⟩), undef, .pointer (some ⟨w1.heap.size, 0, none⟩), .pointer (some ⟨w1.heap.size + 1, 0, none⟩), .int .i64 x.1, .slice (some ⟨b, off, none⟩) l.length cap, .int .i64 (sel : Int), .pointer (some ⟨b, off + sel * 5, none⟩), .agg #[.string ⟨(nd l (sel : Int)).name.toArray⟩, .string ⟨(nd l (sel : Int)).text.toArray⟩, va, .int .i64 (nd l (sel : Int)).parent, vk], .bool false, .slice (some ⟨b, off, none⟩) l.length cap, .int .i64 (sel : Int), .func (.func 64) #[] #[.pointer (some ⟨w1.heap.size + 1 + 1, 0, none⟩), .pointer (some ⟨w1.heap.size + 1 + 1 + 1, 0, none⟩)], .int .i64 x.1, undef, undef, undef, undef, undef, undef, undef, undef, undef, undef, undef, undef, undef, undef, undef, undef, undef, undef, undef, undef, undef, undef, undef, undef, undef, undef, undef, undef, undef, undef, undef, undef, undef, undef], defers := [] }) ?assign ?body ?done ?stop
  case assign =>
    intro l x W K hK
    gi_wp2
    exact hK
  case stop =>
    rintro D c pre W _ _ h _
    exact h.elim
  case body =>
    rintro lp pre ⟨x, hx⟩ W ⟨hst, hB, hsW, hgW⟩ hlt
    obtain ⟨hxr, _⟩ := opts_mem hRt (sel : Int) ⟨h0', hs'⟩ x hx
    obtain ⟨xn, rfl⟩ : ∃ xn : Nat, x = (xn : Int) := ⟨x.toNat, by have := hxr.1; omega⟩
    have hxn : xn < l.length := by have := hxr.2; omega
    have hxc : xn < cs.length := by rw [HCS.out]; exact hxn
    have hxn' : (xn : Int) < (l.length : Int) := hxr.2
    have hxn0 : (0 : Int) ≤ (xn : Int) := hxr.1
    have hWz := hB.size
    have hbp := hst.b0
    have hbf := hst.b1
    have hb3 := hst.b2
    have hb4 := hst.b3
    have c6 := hst.own.selOf xn (by rw [mapOn_len]; exact hxc)
    rw [sel_off cs (vals pre) xn hxc] at c6
    have z6 := hst.own.frozen (by rw [mapOn_len, HCS.out]) (xn * 10 + 6)
    have HL := Lib.hid (lastQ_snoc cs (vals pre) (xn : Int))
    have HF := Lib.hid (firstP_snoc l (vals pre) (xn : Int))
    have HS := Lib.hid (off_same cs (vals pre) xn hxc)
    have HV : Hid (vals (pre ++ [(⟨(xn : Int), hx⟩ : Opt l (sel : Int))]) = vals pre ++ [(xn : Int)]) := Lib.hid (vals_snoc pre ⟨(xn : Int), hx⟩)
    have hsb : Hid ((decide ((xn : Int) ∉ vals pre) && selB cs (xn : Int)) = true → (xn : Int) ∉ vals pre) := Lib.hid (fun h => by
      rw [Bool.and_eq_true, decide_eq_true_eq] at h; exact h.1)
    have c3 := hb3.cell
    have c4 := hb4.cell
    have cp := hbp.cell
    have zp := hbp.frozen
    have cf := hbf.cell
    have zf := hbf.frozen
    have HR2 : Hid (∃ W2, W2 = if (decide ((xn : Int) ∉ vals pre) && selB cs (xn : Int)) then (W.setCell ⟨w1.heap.size, 0, none⟩ (.int .i64 (xn : Int))).setCell ⟨g, xn * 10 + 6, none⟩ (.bool false) else W) := Lib.hid ⟨_, rfl⟩
    have HST : Hid (∀ sb, sb = (decide ((xn : Int) ∉ vals pre) && selB cs (xn : Int)) → Bst w.heap.size w0.heap.size [(w1.heap.size, 3, .int .i64 (lastQ cs (vals pre ++ [(xn : Int)]))), (w1.heap.size + 1, 3, .int .i64 (firstP l (vals pre))), (w.heap.size, 22, .slice (some ⟨b, off, none⟩) l.length cap), (w.heap.size + 1, 23, .slice (some ⟨g, 0, none⟩) l.length cc)] g l.length cc (if sb = true then (W.setCell ⟨w1.heap.size, 0, none⟩ (.int .i64 (xn : Int))).setCell ⟨g, xn * 10 + 6, none⟩ (.bool false) else W) (mapOn offG cs (vals pre ++ [(xn : Int)])) fs) := Lib.hid (by
      rintro sb rfl
      cases hq : (decide ((xn : Int) ∉ vals pre) && selB cs (xn : Int))
      · rw [HL.out, HS.out hq, hq]
        exact hst
      · rw [HL.out, hq]
        have h1 := hst.put0 (ne_cons (by omega) (ne_cons (by omega) (ne_cons (by omega) (ne_nil _)))) (by omega) (by omega) (.int .i64 (xn : Int))
        have h2 := h1.own.turn HCS.out.symm xn hxc (hsb.out hq) 6 (by decide) (.bool false) rfl (fun f => rfl)
        exact h1.row (ne_cons (by omega) (ne_cons (by omega) (ne_cons (by omega) (ne_cons (by omega) (ne_nil _))))) (by rw [files_mapOn offG (fun _ _ => rfl), files_mapOn offG (fun _ _ => rfl)]) h2)
    have HRD : Hid (∀ sb : Bool, Rd w0.heap.size (w1.heap.size + 1 + 1) (w1.heap.size + 1 + 1 + 1) W (if sb = true then (W.setCell ⟨w1.heap.size, 0, none⟩ (.int .i64 (xn : Int))).setCell ⟨g, xn * 10 + 6, none⟩ (.bool false) else W)) := Lib.hid (fun sb => by
      cases sb
      · exact Rd.refl _ _ _ _
      · exact (Rd.set W (by omega) (by omega) (by omega) _).trans (Rd.set _ (by omega) (by omega) (by omega) _))
    have HRG : Hid (∀ sb : Bool, Rg w.heap.size g W (if sb = true then (W.setCell ⟨w1.heap.size, 0, none⟩ (.int .i64 (xn : Int))).setCell ⟨g, xn * 10 + 6, none⟩ (.bool false) else W)) := Lib.hid (fun sb => by
      cases sb
      · exact Rg.refl _ _ _
      · exact (Rg.set W (Or.inl (by omega)) _).trans (Rg.set _ (Or.inr rfl) _))
    clear hst HS hsb HR2 hbp hbf hb3 hb4
    generalize (decide ((xn : Int) ∉ vals pre) && selB cs (xn : Int)) = sb at *
    replace HST := Lib.hid (HST.out sb rfl)
    replace HRD := Lib.hid (HRD.out sb)
    replace HRG := Lib.hid (HRG.out sb)
    have hof := fun W' h => (callsIn_wide (n := 999 - 1 - 1)).2 (off_any (.slice (some ⟨b, off, none⟩) l.length cap) l hL hR xn hxn W' (HD.out W' h))
    have hB1 := hB0.trans hB
    have HG : Hid (∀ W', Rd w0.heap.size (w1.heap.size + 1 + 1) (w1.heap.size + 1 + 1 + 1) W W' → Rg w.heap.size g W W' → (Below w0.heap.size w3 W' ∧ (w3.heap.size ≤ W'.heap.size ∧ Rg w.heap.size g w3 W'))) := Lib.hid (fun W' h k => ⟨hB.trans h.kp.low, Nat.le_trans hsW h.ko.size, hgW.trans k⟩)
    obtain ⟨lq, hlq⟩ : ∃ lq, lastQ cs (vals pre ++ [(xn : Int)]) = lq := ⟨_, rfl⟩
    obtain ⟨mq, hmq⟩ : ∃ mq, mapOn offG cs (vals pre ++ [(xn : Int)]) = mq := ⟨_, rfl⟩
    have HQ := Lib.hid hlq
    have HM := Lib.hid hmq
    rw [hlq, hmq] at HST
    clear hlq hmq HL
    by_cases hf0 : firstP l (vals pre) < 0
    case neg =>
      have HFq : Hid (firstP l (vals pre ++ [(xn : Int)]) = firstP l (vals pre)) := Lib.hid (by rw [HF.out, if_neg (fun h => hf0 h.1)])
      cases sb
      all_goals
        gi_wp2
        refine ⟨trivial, ?_⟩
        gi_wp2
        exact ⟨HRD.out.ko.from _, HRD.out.kp, by rw [HV.out, HQ.out, HM.out, HFq.out]; exact HST.out, HG.out _ HRD.out HRG.out⟩
    have HFy : Hid (offP l (xn : Int) = false → firstP l (vals pre ++ [(xn : Int)]) = (xn : Int)) := Lib.hid (fun h => by rw [HF.out, if_pos ⟨hf0, h⟩])
    have HFn : Hid (offP l (xn : Int) = true → firstP l (vals pre ++ [(xn : Int)]) = firstP l (vals pre)) := Lib.hid (fun h => by rw [HF.out, if_neg (by rw [h]; simp)])
    clear HF
    generalize offP l (xn : Int) = ob at *
    cases sb
    all_goals
      have hof0 := hof _ ((hB0.trans hB).trans HRD.out.kp.low)
      simp only [Bool.false_eq_true, if_false, if_true] at hof0
      clear hof
      cases ob
      case true =>
        have HFq : Hid (firstP l (vals pre ++ [(xn : Int)]) = firstP l (vals pre)) := Lib.hid (HFn.out rfl)
        gi_wp2
        refine ⟨trivial, hof0.mono ?_⟩
        rintro e w5 ⟨rfl, hb5⟩
        gi_wp2
        have hr5 := HRD.out.trans (Rd.below hb5 (by have := HRD.out.kp.low.size; have := HRD.out.ko.size; omega))
        have hg5 := HRG.out.trans (Rg.below (g := g) hb5 (by have := HRD.out.ko.size; omega))
        exact ⟨hr5.ko.from _, hr5.kp, by rw [HV.out, HQ.out, HM.out, HFq.out]; exact HST.out.below hb5, HG.out _ hr5 hg5⟩
      case false =>
        have HFq : Hid (firstP l (vals pre ++ [(xn : Int)]) = (xn : Int)) := Lib.hid (HFy.out rfl)
        gi_wp2
        refine ⟨trivial, hof0.mono ?_⟩
        rintro e w5 ⟨rfl, hb5⟩
        have hst5 := HST.out.below hb5
        have zf5 := hst5.b1.frozen
        have cf5 := hst5.b1.cell
        have hr5 := (HRD.out.trans (Rd.below hb5 (by have := HRD.out.kp.low.size; have := HRD.out.ko.size; omega))).trans (Rd.set w5 (o := 0) (b := w1.heap.size + 1) (by omega) (by omega) (by omega) (.int .i64 (xn : Int)))
        have hg5 := (HRG.out.trans (Rg.below (g := g) hb5 (by have := HRD.out.ko.size; omega))).trans (Rg.set w5 (o := 0) (b := w1.heap.size + 1) (Or.inl (by omega)) (.int .i64 (xn : Int)))
        have HST5 := Lib.hid (hst5.put1 (ne_cons (by omega) (ne_cons (by omega) (ne_cons (by omega) (ne_nil _)))) (by omega) (by omega) (.int .i64 (xn : Int)))
        clear hst5
        gi_wp2
        exact ⟨hr5.ko.from _, hr5.kp, by rw [HV.out, HQ.out, HM.out, HFq.out]; exact HST5.out, HG.out _ hr5 hg5⟩
  case done =>
    rintro D ys W hD hys ⟨hst, hB, hsW, hgW⟩ hK
    rw [hys] at hst
    have hos := osFine hRt cs HCS.out.symm (sel : Int) ⟨h0', hs'⟩
    rw [lastQ_is cs _ hos.nodup] at hst
    have HP : Hid (pickP l cs (sel : Int) = if lastP cs (optsP l (sel : Int)) < 0 ∧ sizeP l (sel : Int) = 1 then firstP l (optsP l (sel : Int)) else lastP cs (optsP l (sel : Int))) := Lib.hid rfl
    have HWy := Lib.hid (pick_ways l cs (sel : Int) hos)
    have HOs := Lib.hid hos
    have hsz := (callsIn_wide (n := 999)).2 (size_any (.slice (some ⟨b, off, none⟩) l.length cap) l hL hR sel hs W (hE.below (hB0.trans hB)) (HD.out W (hB0.trans hB)))
    have hWz := hB.size
    have c3 := hst.b2.cell
    have c4 := hst.b3.cell
    have cp := hst.b0.cell
    have zp := hst.b0.frozen
    have cf := hst.b1.cell
    clear hos
    generalize lastP cs (optsP l (sel : Int)) = lq at *
    generalize firstP l (optsP l (sel : Int)) = fq at *
    generalize sizeP l (sel : Int) = sz at *
    have HEnd : Hid (∀ Wf, KeepsOthers W Wf → Below w0.heap.size W Wf → Rg w.heap.size g W Wf → OwnC Wf w0.heap.size (.slice (some ⟨g, 0, none⟩) l.length cc) (onlyP cs (optsP l (sel : Int)) (pickP l cs (sel : Int))) fs → Wf.heap[D]? = some (.deferred (some [])) ∧
        ∀ o, OwnC (Wf.putObj D o) w0.heap.size (.slice (some ⟨g, 0, none⟩) l.length cc) (fixC l cs (sel : Int)) fs ∧ Below w0.heap.size w (Wf.putObj D o) ∧ w.grownBy (Wf.putObj D o) (some g)) := Lib.hid (fun Wf hk hbl hgl ho => by
      have hKf := hk.same D _ hK rfl
      refine ⟨hKf, fun o => ⟨by rw [HX.out]; exact ho.keptO (grownBy_putObj' Wf D o) (fun r e => by cases e; exact ⟨_, hKf, rfl⟩), ?_⟩⟩
      have hfin := (((hb01.mono hwz).trans (hb13.mono (by omega))).trans (hB.trans hbl)).trans (belowK_b (w := w) hwz Wf D _ o (by omega) hKf rfl rfl)
      refine ⟨hfin, grownBy_of hfin ?_⟩
      have k1 : Rg w.heap.size g w w1 := Rg.below hb01 (Nat.le_refl _)
      have k2 : Rg w.heap.size g w1 w3 := Rg.below hb13 (by omega)
      refine (((k1.trans k2).trans hgW).trans hgl).trans (fun k hk' _ => (grownBy_putObj' Wf D o).block k ?_ (fun e => ?_))
      · have := hk.size; omega
      · have e := Option.some.inj e; omega)
    have HRow : Hid (∀ Wf (pn : Nat), Bst w.heap.size w0.heap.size [(w1.heap.size, 3, .int .i64 lq)] g l.length cc Wf (mapOn offG cs (optsP l (sel : Int))) fs → True) := Lib.hid (fun _ _ _ => trivial)
    clear HRow
    by_cases h0 : lq < 0
    case neg =>
      have hp : pickP l cs (sel : Int) = lq := by rw [HP.out, if_neg (fun h => h0 h.1)]
      have hin : lq ∈ optsP l (sel : Int) := by
        rcases HWy.out with h | ⟨h, _⟩
        · rw [← hp]; exact h
        · rw [hp] at h; omega
      obtain ⟨pn, rfl⟩ : ∃ pn : Nat, lq = (pn : Int) := ⟨lq.toNat, by omega⟩
      have hpc : pn < cs.length := by have := HOs.out.high _ hin; omega
      have hpl : pn < l.length := by rw [← HCS.out]; exact hpc
      have hpl' : (pn : Int) < (l.length : Int) := by omega
      have hp0' : (0 : Int) ≤ (pn : Int) := by omega
      have c6 := hst.own.selOf pn (by rw [mapOn_len]; exact hpc)
      have z6 := hst.own.frozen (by rw [mapOn_len, HCS.out]) (pn * 10 + 6)
      have HN := Lib.hid (hst.own.pick HCS.out.symm pn hin hpc)
      rw [← hp] at HN
      generalize selB (mapOn offG cs (optsP l (sel : Int))) (pn : Int) = sb at *
      clear hin hp
      gi_wp2
      refine ⟨trivial, ?_⟩
      gi_wp2
      obtain ⟨hKf, hend⟩ := HEnd.out _ (KeepsOthers.setCell W ⟨g, pn * 10 + 6, none⟩ (.bool true)) ((Below.refl _ W).setCell (p := ⟨g, pn * 10 + 6, none⟩) hBg (.bool true)) (Rg.set W (Or.inr rfl) _) HN.out
      refine ⟨by simp, .inl ⟨_, _, rfl, run_takeDeferred hKf, ?_⟩⟩
      exact ⟨_, results_none rfl _ _ _, ⟨_, rfl⟩, hend _⟩
    case pos =>
      have HNo : Hid (∀ p : Int, p < 0 → ∀ o ∈ optsP l (sel : Int), o ≠ p) := Lib.hid (fun p hp o ho e => by have := HOs.out.low o ho; omega)
      by_cases hs1 : sz = 1
      case neg =>
        have hs1' : (sz == 1) = false := beq_false_of_ne hs1
        have hp : pickP l cs (sel : Int) = lq := by rw [HP.out, if_neg (fun h => hs1 h.2)]
        have HPk := Lib.hid (show onlyP cs (optsP l (sel : Int)) (pickP l cs (sel : Int)) = mapOn offG cs (optsP l (sel : Int)) from only_none _ _ _ (by rw [hp]; exact HNo.out lq h0))
        clear hs1 hp
        gi_wp2
        refine ⟨trivial, hsz.mono ?_⟩
        rintro e w5 ⟨rfl, hb5⟩
        have hst5 := hst.below hb5
        have cp5 := hst5.b0.cell
        have HO5 := Lib.hid hst5.own
        clear hst5
        gi_wp2
        obtain ⟨hKf, hend⟩ := HEnd.out w5 (KeepsOthers.of_grownBy (grownBy_below (row := none) hb5) (fun _ _ e => by cases e)) (hb5.mono (by omega)) (Rg.below hb5 (by omega)) (by rw [HPk.out]; exact HO5.out)
        refine ⟨by simp, .inl ⟨_, _, rfl, run_takeDeferred hKf, ?_⟩⟩
        exact ⟨_, results_none rfl _ _ _, ⟨_, rfl⟩, hend _⟩
      subst hs1
      have hp : pickP l cs (sel : Int) = fq := by rw [HP.out, if_pos ⟨h0, rfl⟩]
      by_cases hf0 : fq < 0
      case pos =>
        have HPk := Lib.hid (show onlyP cs (optsP l (sel : Int)) (pickP l cs (sel : Int)) = mapOn offG cs (optsP l (sel : Int)) from only_none _ _ _ (by rw [hp]; exact HNo.out fq hf0))
        clear hp
        gi_wp2
        refine ⟨trivial, hsz.mono ?_⟩
        rintro e w5 ⟨rfl, hb5⟩
        have hst5 := hst.below hb5
        have cp5 := hst5.b0.cell
        have zp5 := hst5.b0.frozen
        have cf5 := hst5.b1.cell
        have hst6 := hst5.put0 (ne_cons (by omega) (ne_cons (by omega) (ne_cons (by omega) (ne_nil _)))) (by omega) (by omega) (.int .i64 fq)
        have HO6 := Lib.hid hst6.own
        clear hst5 hst6
        gi_wp2
        obtain ⟨hKf, hend⟩ := HEnd.out (w5.setCell ⟨w1.heap.size, 0, none⟩ (.int .i64 fq)) ((KeepsOthers.of_grownBy (grownBy_below (row := none) hb5) (fun _ _ e => by cases e)).trans (KeepsOthers.setCell _ _ _)) ((hb5.mono (by omega)).setCell (p := ⟨w1.heap.size, 0, none⟩) (by show w0.heap.size ≤ w1.heap.size; omega) _) ((Rg.below hb5 (by omega)).trans (Rg.set _ (Or.inl (by omega)) _)) (by rw [HPk.out]; exact HO6.out)
        refine ⟨by simp, .inl ⟨_, _, rfl, run_takeDeferred hKf, ?_⟩⟩
        exact ⟨_, results_none rfl _ _ _, ⟨_, rfl⟩, hend _⟩
      case neg =>
        have hin : fq ∈ optsP l (sel : Int) := by
          rcases HWy.out with h | ⟨h, _⟩
          · rw [← hp]; exact h
          · rw [hp] at h; omega
        obtain ⟨pn, rfl⟩ : ∃ pn : Nat, fq = (pn : Int) := ⟨fq.toNat, by omega⟩
        have hpc : pn < cs.length := by have := HOs.out.high _ hin; omega
        have hpl : pn < l.length := by rw [← HCS.out]; exact hpc
        have hpl' : (pn : Int) < (l.length : Int) := by omega
        have hp0' : (0 : Int) ≤ (pn : Int) := by omega
        have HPn := Lib.hid hp
        have HIn := Lib.hid hin
        clear hp hin
        gi_wp2
        refine ⟨trivial, hsz.mono ?_⟩
        rintro e w5 ⟨rfl, hb5⟩
        have hst5 := hst.below hb5
        have cp5 := hst5.b0.cell
        have zp5 := hst5.b0.frozen
        have cf5 := hst5.b1.cell
        have c45 := hst5.b3.cell
        have c65 := hst5.own.selOf pn (by rw [mapOn_len]; exact hpc)
        have z65 := hst5.own.frozen (by rw [mapOn_len, HCS.out]) (pn * 10 + 6)
        have hst6 := hst5.put0 (ne_cons (by omega) (ne_cons (by omega) (ne_cons (by omega) (ne_nil _)))) (by omega) (by omega) (.int .i64 (pn : Int))
        have HN := Lib.hid (hst6.own.pick HCS.out.symm pn HIn.out hpc)
        generalize selB (mapOn offG cs (optsP l (sel : Int))) (pn : Int) = sb at *
        clear hst5 hst6
        gi_wp2
        obtain ⟨hKf, hend⟩ := HEnd.out ((w5.setCell ⟨w1.heap.size, 0, none⟩ (.int .i64 (pn : Int))).setCell ⟨g, pn * 10 + 6, none⟩ (.bool true)) (((KeepsOthers.of_grownBy (grownBy_below (row := none) hb5) (fun _ _ e => by cases e)).trans (KeepsOthers.setCell _ _ _)).trans (KeepsOthers.setCell _ _ _)) (((hb5.mono (by omega)).setCell (p := ⟨w1.heap.size, 0, none⟩) (by show w0.heap.size ≤ w1.heap.size; omega) _).setCell (p := ⟨g, pn * 10 + 6, none⟩) hBg _) (((Rg.below hb5 (by omega)).trans (Rg.set _ (Or.inl (by omega)) _)).trans (Rg.set _ (Or.inr rfl) _)) (by rw [HPn.out]; exact HN.out)
        refine ⟨by simp, .inl ⟨_, _, rfl, run_takeDeferred hKf, ?_⟩⟩
        exact ⟨_, results_none rfl _ _ _, ⟨_, rfl⟩, hend _⟩
end Go.Proofs.YtoajgfhcongocaaGreatDoor.doc

namespace Go.Proofs.YtoajgfhcongocaaGreatDoor.doc
open Go.ChangeShapes Go.WideShapes Go.ChangeAt Go.RowKit Go.Lib Go.Proofs.YtoajgfhcongocaaGreatDoor.atr Go.Proofs.YtoajgfhcongocaaGreatDoor.link Go.Proofs.YtoajgfhcongocaaGreatDoor.ctl

theorem OwnC.nil (w : World) (B : Nat) : OwnC w B (.slice none 0 0) [] [] := ⟨rfl, World.ownsRow_nil _ _ _ _, fun _ a => absurd a (Nat.not_lt_zero _), fun _ a => absurd a (Nat.not_lt_zero _)⟩
theorem OwnC.lower {w : World} {B B' : Nat} {v : Value} {cs : List Ctl} {fs : List Value} (h : OwnC w B v cs fs) (hb : B' ≤ B) : OwnC w B' v cs fs := ⟨h.len, ownsRow_lower h.row hb, h.files, h.apart⟩
/-- a document in memory: right sizes -/
structure DocAt (w : World) (vn vc : Value) (l : List Nd) (cs : List Ctl) : Prop where
  fine : LFine l
  nodes : NodesAt w vn l
  ctls : CtlsAt w vc cs
  cb : cs.length * 64 ≤ 140737488355328
  fb : ∀ c ∈ cs, c.files.length * 72 ≤ 140737488355328
theorem DocAt.below {w w' : World} {vn vc : Value} {l : List Nd} {cs : List Ctl} (h : DocAt w vn vc l cs) (hb : Below w.heap.size w w') : DocAt w' vn vc l cs := ⟨h.fine, h.nodes.below hb, h.ctls.below hb, h.cb, h.fb⟩

/-- a state handed back, in memory of the call's own -/
def RetS (cs : List Ctl) (w : World) (e : Ending) (w' : World) : Prop := ∃ v' fs, e = .returned v' ∧ OwnC w' w.heap.size v' cs fs ∧ Below w.heap.size w w'

set_option maxHeartbeats 3200000 in
set_option maxRecDepth 100000 in
theorem fixU_any (vn vc : Value) (l : List Nd) (cs : List Ctl) (k : Int) (w : World) (hE : GE w) (hD : DocAt w vn vc l cs) :
    Calls Tryz.prog 16 #[.agg #[vn, vc], .int .i64 k] w (RetS (FixP l cs k) w) := by
  obtain ⟨oa, ca, rfl⟩ := NodesAt.lenN hD.nodes
  obtain ⟨oc, cc, rfl⟩ := CtlsAt.lenN hD.ctls
  obtain ⟨wA, hwA⟩ : ∃ wA, wA = w.alloc (.cells #[.slice oa l.length ca, .slice oc cs.length cc] 25) := ⟨_, rfl⟩
  have hB1 : Below w.heap.size w wA := by rw [hwA]; exact (Below.refl _ w).alloc (Nat.le_refl _) _
  have f0 : wA.cell? ⟨w.heap.size, 0, none⟩ = some (.slice oa l.length ca) := by rw [hwA]; exact World.cell?_alloc_new w _ _ 0
  have f1 : wA.cell? ⟨w.heap.size, 1, none⟩ = some (.slice oc cs.length cc) := by rw [hwA]; exact World.cell?_alloc_new w _ _ 1
  have hr := docright_any (.slice oa l.length ca) l hD.fine oc cs.length cc wA (hD.nodes.below hB1)
  have HX : Hid (FixP l cs k = if docR l cs then (if isP l k 23 then fixC l cs k else cs) else []) := Lib.hid rfl
  rw [show (decide (l.length = cs.length) && rightB l) = docR l cs from rfl] at hr
  cases hq : docR l cs
  · rw [hq] at hr HX
    have HE : Hid (FixP l cs k = []) := Lib.hid HX.out
    rw [HE.out]
    clear hD hE hq HX f0 f1
    subst hwA
    go_enter Tryz.func16, Tryz.ntmps16
    go_wp2_with fail
    refine hr.mono ?_
    rintro e w1 ⟨rfl, hb1⟩
    go_wp2_with fail
    go_ret
    exact ⟨_, [], rfl, OwnC.nil _ _, below_trans hB1 hb1⟩
  · obtain ⟨hlc, hR⟩ := (docR_iff l cs).1 hq
    rw [hq] at hr HX
    have HE : Hid (FixP l cs k = if isP l k 23 then fixC l cs k else cs) := Lib.hid HX.out
    rw [HE.out]
    have HC := Lib.hid (fun w' h => copiedC_any (.slice oc cs.length cc) cs hD.cb hD.fb w' (hD.ctls.below (w' := w') h))
    have HI := Lib.hid (fun w' h => is_any (.slice oa l.length ca) l k 23 hD.fine w' (hD.nodes.below (w' := w') h))
    have HD := Lib.hid hD
    have HG := Lib.hid hE
    have HLC := Lib.hid hlc
    clear hD hE hq HX hlc
    cases hi : isP l k 23
    · rw [hi] at HI
      subst hwA
      go_enter Tryz.func16, Tryz.ntmps16
      go_wp2_with fail
      refine hr.mono ?_
      rintro e w1 ⟨rfl, hb1⟩
      have f0 := cell_below hb1 f0
      have f1 := cell_below hb1 f1
      have hb01 := below_trans hB1 hb1
      go_wp2_with fail
      refine (HC.out w1 hb01).mono ?_
      rintro e w2 ⟨v', fs, rfl, ho2, hb2⟩
      have f0 := cell_below hb2 f0
      have f1 := cell_below hb2 f1
      have hb02 := below_trans hb01 hb2
      have HO2 := Lib.hid ho2
      obtain ⟨o2, c2, rfl⟩ := CtlsAt.lenN ho2.at
      clear ho2
      go_wp2_with fail
      refine (HI.out w2 hb02).mono ?_
      rintro e w3 ⟨rfl, hb3⟩
      go_wp2_with fail
      go_ret
      exact ⟨_, fs, rfl, (HO2.out.below hb3).lower hb01.size, below_trans hb02 hb3⟩
    · rw [hi] at HI
      obtain ⟨⟨h0, h1⟩, _, _⟩ := (isP_iff l k 23).1 hi
      obtain ⟨sel, rfl⟩ : ∃ sel : Nat, k = (sel : Int) := ⟨k.toNat, by omega⟩
      have hs : sel < l.length := by omega
      subst hwA
      go_enter Tryz.func16, Tryz.ntmps16
      go_wp2_with fail
      refine hr.mono ?_
      rintro e w1 ⟨rfl, hb1⟩
      have f0 := cell_below hb1 f0
      have f1 := cell_below hb1 f1
      have hb01 := below_trans hB1 hb1
      go_wp2_with fail
      refine (HC.out w1 hb01).mono ?_
      rintro e w2 ⟨v', fs, rfl, ho2, hb2⟩
      have f0 := cell_below hb2 f0
      have f1 := cell_below hb2 f1
      have hb02 := below_trans hb01 hb2
      have HO2 := Lib.hid ho2
      obtain ⟨o2, c2, rfl⟩ := CtlsAt.lenN ho2.at
      clear ho2
      go_wp2_with fail
      refine (HI.out w2 hb02).mono ?_
      rintro e w3 ⟨rfl, hb3⟩
      have f0 := cell_below hb3 f0
      have hb13 : Below w1.heap.size w1 w3 := below_trans hb2 hb3
      have hf := fix_any (.slice oa l.length ca) l HD.out.fine hR sel hs w1 (HD.out.nodes.below hb01) w3 (HG.out.below hb01) hb13 _ cs fs (HO2.out.below hb3) HLC.out.symm
      clear HO2
      go_wp2_with fail
      refine hf.mono ?_
      rintro e w4 ⟨⟨u, rfl⟩, ho4, hb4, _⟩
      clear hf
      have HO4 := Lib.hid ho4
      have HB4 := Lib.hid (below_trans hb01 (hb13.trans hb4))
      clear ho4
      go_wp2_with fail
      go_ret
      exact ⟨_, fs, rfl, HO4.out.lower hb01.size, HB4.out⟩
end Go.Proofs.YtoajgfhcongocaaGreatDoor.doc
