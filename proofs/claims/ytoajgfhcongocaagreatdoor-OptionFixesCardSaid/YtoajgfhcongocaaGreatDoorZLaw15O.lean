/- OptionOne: the walk. -/
import Derived.Test.YtoajgfhcongocaaGreatDoorZLaw15K
import Derived.Test.YtoajgfhcongocaaGreatDoorGs
import Derived.Deep.RegionHeld3
namespace Go.Proofs.YtoajgfhcongocaaGreatDoor.doc
open Go.ChangeShapes Go.WideShapes Go.ChangeAt Go.RowKit Go.Lib Go.Proofs.YtoajgfhcongocaaGreatDoor.atr Go.Proofs.YtoajgfhcongocaaGreatDoor.link Go.Proofs.YtoajgfhcongocaaGreatDoor.ctl

def OneL (l : List Nd) (os : List Int) (sz : Int) (L : List Ctl) : Prop := L.length = l.length ∧ selCount L os ≤ 1 ∧ ((∃ o ∈ os, OffP l o = false) → sz = 1 → selCount L os ≠ 0)
theorem one_fixC (l : List Nd) (cs : List Ctl) (k : Int) (hc : l.length = cs.length) (hi : isP l k 23 = true) (hm : hasA nMultiple (nd l k).attrs = false) : OneL l (listP l k) (SizeP l k) (fixC l cs k) := by
  obtain ⟨h1, _, h3⟩ := (isP_iff l k 23).1 hi
  have hf := osFine (right_rt l h3) cs hc k h1
  obtain ⟨a, b⟩ := fix_one l cs k hf hm
  have e1 : listP l k = optsP l k := by unfold listP; rw [if_pos hi]
  have e2 : SizeP l k = sizeP l k := by unfold SizeP; rw [if_pos hi]
  refine ⟨by rw [fixC_len]; exact hc.symm, by rw [e1]; exact a, ?_⟩
  rw [e2]
  rintro ⟨o, ho, hoff⟩ hs
  have h32 := (list_mem ho).2
  rw [e1] at ho ⊢
  refine b ⟨o, ho, ?_⟩ hs
  unfold OffP at hoff
  rw [h32] at hoff
  simpa using hoff
theorem one_fix (l : List Nd) (cs : List Ctl) (k : Int) (hq : docR l cs = true) (hi : isP l k 23 = true) (hm : hasA nMultiple (nd l k).attrs = false) : OneL l (listP l k) (SizeP l k) (FixP l cs k) := by
  have e : FixP l cs k = fixC l cs k := by unfold FixP; rw [if_pos hq, if_pos hi]
  rw [e]; exact one_fixC l cs k ((docR_iff l cs).1 hq).1 hi hm
theorem one_reset (l : List Nd) (cs : List Ctl) (k : Int) (hq : docR l cs = true) (hi : isP l k 23 = true) (hm : hasA nMultiple (nd l k).attrs = false) : OneL l (listP l k) (SizeP l k) (resetP l cs k) := by
  have e : resetP l cs k = fixC l (mapOn (resetG l) cs (optsP l k)) k := by unfold resetP; rw [if_pos hq, if_pos hi]
  rw [e]; exact one_fixC l _ k (by rw [mapOn_len]; exact ((docR_iff l cs).1 hq).1) hi hm
theorem selCount_snoc (L : List Ctl) (os : List Int) (m : Nat) (h : m < os.length) : selCount L (os.take (m + 1)) = selCount L (os.take m) + (if selB L os[m] then 1 else 0) := by
  unfold selCount
  rw [take_snocI os m h, List.filter_append, List.length_append]
  by_cases g : selB L os[m] = true <;> simp [g]
theorem b2_drew {w0 w1 : World} {b : Nat} {a0 a1 : Value} (h : w1.cell? ⟨b, 0, none⟩ = some a0 ∧ w1.cell? ⟨b, 1, none⟩ = some a1 ∧ Below w0.heap.size w0 w1) : w1.drew.cell? ⟨b, 0, none⟩ = some a0 ∧ w1.drew.cell? ⟨b, 1, none⟩ = some a1 ∧ Below w0.heap.size w0 w1.drew := ⟨h.1, h.2.1, h.2.2.drew⟩
theorem b2_below {w0 w1 w2 : World} {b : Nat} {a0 a1 : Value} (hb : Below w1.heap.size w1 w2) (h : w1.cell? ⟨b, 0, none⟩ = some a0 ∧ w1.cell? ⟨b, 1, none⟩ = some a1 ∧ Below w0.heap.size w0 w1) : w2.cell? ⟨b, 0, none⟩ = some a0 ∧ w2.cell? ⟨b, 1, none⟩ = some a1 ∧ Below w0.heap.size w0 w2 := ⟨cell_below hb h.1, cell_below hb h.2.1, below_trans h.2.2 hb⟩
theorem b2_last {w0 w1 : World} {b : Nat} {a0 a1 : Value} (h : w1.cell? ⟨b, 0, none⟩ = some a0 ∧ w1.cell? ⟨b, 1, none⟩ = some a1 ∧ Below w0.heap.size w0 w1) : Below w0.heap.size w0 w1 := h.2.2
/-- behind the two calls -/
def CutOne (F R : List Ctl) (w5 wx : World) (s39 s40 : Value) : Prop := ∃ o6 c6 o8 c8, s39 = .agg #[.slice o6 F.length c6, .slice o8 R.length c8] ∧ s40 = .int .i64 0 ∧ CtlsAt wx (.slice o6 F.length c6) F ∧ CtlsAt wx (.slice o8 R.length c8) R ∧ Below w5.heap.size w5 wx

set_option maxHeartbeats 6400000 in
set_option maxRecDepth 100000 in
theorem one_walk (vn vc : Value) (l : List Nd) (cs : List Ctl) (k : Int) (_hk : (Lit.int .i64 k).wf = true) (w : World) (hD : DocAt w vn vc l cs) (hLb : LBytes l) (hE : GE w) :
    Calls Tryz.prog 5 #[docV vn vc, .int .i64 k] w fun e w' => e = .returned (.bool true) ∧ Below w.heap.size w w' := by
  unfold docV
  have H1 := Lib.hid (fun w' h => copiedD_any vn vc l cs hLb w' (hD.below (w' := w') h))
  have H2 := Lib.hid (fun vn' vc' w' (h : DocAt w' vn' vc' l cs) (h2 : Below w.heap.size w w') => fixU_any vn' vc' l cs k w' (hE.below h2) h)
  have H3 := Lib.hid (fun vn' vc' w' (h : DocAt w' vn' vc' l cs) (h2 : Below w.heap.size w w') => reset_any vn' vc' l cs k w' (hE.below h2) h)
  have HI := Lib.hid (fun w' h => ris_any vn l k 23 hD.fine w' (hD.nodes.below (w' := w') h))
  have HL := Lib.hid (fun w' h => rlist_any vn l hD.fine k w' (hD.nodes.below (w' := w') h))
  have HM := Lib.hid (fun o (ho : o ∈ listP l k) => list_mem ho)
  have HOf := Lib.hid (fun (o : Int) w' h => roff_any vn l hD.fine o w' (hD.nodes.below (w' := w') h))
  have HSz := Lib.hid (fun w' h => rsize_any vn l hD.fine k w' (hD.nodes.below (w' := w') h))
  have HN := Lib.hid (fun w' h => hD.nodes.below (w' := w') h)
  have HN0 := Lib.hid hD.nodes
  have HF := Lib.hid hD.fine
  have hol := list_le l k
  have HO1 := Lib.hid (one_fix l cs k)
  have HO2 := Lib.hid (one_reset l cs k)
  have HDl := Lib.hid ((docR_iff l cs).1)
  obtain ⟨oa, ca, rfl⟩ := NodesAt.lenN hD.nodes
  obtain ⟨oc, cc, rfl⟩ := CtlsAt.lenN hD.ctls
  generalize FixP l cs k = F at *
  generalize resetP l cs k = R at *
  generalize listP l k = os at *
  generalize SizeP l k = sz at *
  obtain ⟨wA, hwA⟩ : ∃ wA, wA = w.alloc (.cells #[.slice oa l.length ca, .slice oc cs.length cc] 25) := ⟨_, rfl⟩
  have hB1 : Below w.heap.size w wA := by rw [hwA]; exact (Below.refl _ w).alloc (Nat.le_refl _) _
  have p0 : wA.cell? ⟨w.heap.size, 0, none⟩ = some (.slice oa l.length ca) := by rw [hwA]; exact World.cell?_alloc_new w _ _ 0
  have p1 : wA.cell? ⟨w.heap.size, 1, none⟩ = some (.slice oc cs.length cc) := by rw [hwA]; exact World.cell?_alloc_new w _ _ 1
  have hW := wakes_any wA (hE.below hB1)
  clear hD hE
  subst hwA
  go_enter Tryz.func5, Tryz.ntmps5
  go_wp2_with fail
  refine hW.mono ?_
  rintro e w1 ⟨rfl, hb1⟩
  have f0a := cell_below hb1 p0
  have f1a := cell_below hb1 p1
  have hb01 := below_trans hB1 hb1
  clear hW
  have h5 := rdocright_any (.slice oa l.length ca) l HF.out oc cs.length cc w1 (HN.out w1 hb01)
  rw [show (decide (l.length = cs.length) && rightB l) = docR l cs from rfl] at h5
  cases hq : docR l cs
  · rw [hq] at h5
    clear hq
    go_wp2_with fail
    refine h5.mono ?_
    rintro e w2 ⟨rfl, hb2⟩
    go_wp2_with fail
    go_ret
    exact ⟨rfl, below_trans hb01 hb2⟩
  rw [hq] at h5
  have HO1 := Lib.hid (HO1.out hq)
  have HO2 := Lib.hid (HO2.out hq)
  clear hq
  go_wp2_with fail
  refine h5.mono ?_
  rintro e w2 ⟨rfl, hb2⟩
  have f0b := cell_below hb2 f0a
  have f1b := cell_below hb2 f1a
  have hb02 := below_trans hb01 hb2
  clear h5
  cases hi : isP l k 23
  · rw [hi] at HI
    clear hi
    go_wp2_with fail
    refine (HI.out w2 hb02).mono ?_
    rintro e w3 ⟨rfl, hb3⟩
    go_wp2_with fail
    go_ret
    exact ⟨rfl, below_trans hb02 hb3⟩
  rw [hi] at HI
  obtain ⟨hin, _, _⟩ := (isP_iff l k 23).1 hi
  have HO1 := Lib.hid (HO1.out hi)
  have HO2 := Lib.hid (HO2.out hi)
  obtain ⟨sel, rfl⟩ : ∃ sel : Nat, k = (sel : Int) := ⟨k.toNat, by have := hin.1; omega⟩
  have hs : sel < l.length := by have := hin.2; omega
  obtain ⟨b, off, cap, e, hb⟩ := nodes_addr HN0.out (by omega)
  cases e
  have hfn := HF.out.nd (sel : Int) (by omega) (by omega)
  obtain ⟨va, vk, hn0⟩ := nodes_get HN0.out sel hs
  have HNd := Lib.hid hn0
  have HH := Lib.hid (fun w' (hx : Below w.heap.size w w') => rhas15_any (nd l (sel : Int)) va vk nMultiple hfn.attrs w' (hn0.below hx).attrs (hn0.below hx).kids)
  unfold nodeV at HH
  have h0' : (0 : Int) ≤ (sel : Int) := by omega
  have hs' : (sel : Int) < (l.length : Int) := by omega
  clear hi hin hn0 hfn
  go_wp2_with fail
  refine (HI.out w2 hb02).mono ?_
  rintro e w3 ⟨rfl, hb3⟩
  have f0c := cell_below hb3 f0b
  have f1c := cell_below hb3 f1b
  have hb03 := below_trans hb02 hb3
  obtain ⟨c0, c1, c2, c3, c4, _, _, _⟩ := HNd.out.below hb03
  cases hm : hasA nMultiple (nd l (sel : Int)).attrs
  case true =>
    rw [hm] at HH
    clear hm
    go_wp2_with fail
    refine (HH.out w3 hb03).mono ?_
    rintro e w4 ⟨rfl, hb4⟩
    go_wp2_with fail
    go_ret
    exact ⟨rfl, below_trans hb03 hb4⟩
  rw [hm] at HH
  have HO1 := Lib.hid (HO1.out hm)
  have HO2 := Lib.hid (HO2.out hm)
  clear hm
  go_wp2_with fail
  refine (HH.out w3 hb03).mono ?_
  rintro e w5 ⟨rfl, hb5⟩
  have f0 := cell_below hb5 f0c
  have f1 := cell_below hb5 f1c
  have hb05 := below_trans hb03 hb5
  clear c0 c1 c2 c3 c4 HH HNd HI
  go_upto_region 5 with fail
  go_cut [39, 40] (fun s39 s40 wx => CutOne F R w5 wx s39 s40)
  case first =>
    have hh : w5.cell? ⟨w.heap.size, 0, none⟩ = some (.slice (some ⟨b, off, none⟩) l.length ca) ∧ w5.cell? ⟨w.heap.size, 1, none⟩ = some (.slice oc cs.length cc) ∧ Below w5.heap.size w5 w5 := ⟨f0, f1, Below.refl _ _⟩
    go_region_held3 (fun w' => w'.cell? ⟨w.heap.size, 0, none⟩ = some (.slice (some ⟨b, off, none⟩) l.length ca) ∧ w'.cell? ⟨w.heap.size, 1, none⟩ = some (.slice oc cs.length cc) ∧ Below w5.heap.size w5 w')
      (first | assumption | exact b2_drew hh | exact b2_drew (by assumption) | exact b2_below (by assumption) (by assumption))
      (first
        | (go_at_call 10; refine (H1.out _ (below_trans hb05 (b2_last (by assumption)))).mono ?_; rintro e wn ⟨vn9, vc9, rfl, hDn, hbn⟩; obtain ⟨on9, cn9, rfl⟩ := NodesAt.lenN hDn.nodes; obtain ⟨oc9, cc9, rfl⟩ := CtlsAt.lenN hDn.ctls; have hPn := b2_below hbn (by assumption); (try have HDb := Lib.hid (HDa.out.below hbn)); have HDa := Lib.hid hDn; (try have HCf := Lib.hid (HCf.out.below hbn)); (try have HCr := Lib.hid (HCr.out.below hbn)); clear hDn)
        | (go_at_call 16; refine (H2.out _ _ _ (by first | exact HDa.out | exact HDb.out) (below_trans hb05 (b2_last (by assumption)))).mono ?_; rintro e wn ⟨v6, fs6, rfl, ho6, hbn⟩; have HCf := Lib.hid ho6.at; obtain ⟨o6, c6, rfl⟩ := CtlsAt.lenN ho6.at; have hPn := b2_below hbn (by assumption); (try have HDa := Lib.hid (HDa.out.below hbn)); (try have HDb := Lib.hid (HDb.out.below hbn)); (try have HCr := Lib.hid (HCr.out.below hbn)); clear ho6)
        | (go_at_call 14; refine (H3.out _ _ _ (by first | exact HDa.out | exact HDb.out) (below_trans hb05 (b2_last (by assumption)))).mono ?_; rintro e wn ⟨v8, fs8, rfl, ho8, hbn⟩; have HCr := Lib.hid ho8.at; obtain ⟨o8, c8, rfl⟩ := CtlsAt.lenN ho8.at; have hPn := b2_below hbn (by assumption); (try have HDa := Lib.hid (HDa.out.below hbn)); (try have HDb := Lib.hid (HDb.out.below hbn)); (try have HCf := Lib.hid (HCf.out.below hbn)); clear ho8))
    all_goals
      go_wp2_with fail
      go_meet
      exact ⟨_, _, _, _, rfl, rfl, HCf.out, HCr.out, b2_last (by assumption)⟩
  case rest =>
  obtain ⟨o6, c6, o8, c8, rfl, rfl, hCf, hCr, hb56⟩ := hcut
  have HCf := Lib.hid (fun w' h => hCf.below (w' := w') h)
  have HCr := Lib.hid (fun w' h => hCr.below (w' := w') h)
  have hb06 := below_trans hb05 hb56
  have f0 := cell_below hb56 f0
  clear hCf hCr f1 H1 H2 H3
  have hx0 : ∀ (a b : Value) (w' : World), (Instr.index 44 (.agg #[a, b]) (.int .i64 0)).run Tryz.prog w' = .ok a w' := fun _ _ _ => by kernel_rfl
  have hx1 : ∀ (a b : Value) (w' : World), (Instr.index 44 (.agg #[a, b]) (.int .i64 1)).run Tryz.prog w' = .ok b w' := fun _ _ _ => by kernel_rfl
  go_wp2_with fail
  go_loopw [40] (fun s40 wr => ∃ m : Nat, s40 = .int .i64 m ∧ m ≤ 2 ∧ Below wc.heap.size wc wr) (fun s40 _ => 2 - (RowKit.intOf s40).toNat)
  case atStart => exact ⟨0, rfl, Nat.zero_le _, Below.refl _ _⟩
  case round =>
    obtain ⟨m, rfl, hm2, hbw⟩ := hrel
    have hww := below_trans hb06 hbw
    have g0 := cell_below hbw f0
    rcases (show m = 2 ∨ m = 0 ∨ m = 1 by omega) with rfl | hm01
    · go_wp2_with fail
      go_ret
      exact ⟨rfl, hww⟩
    rcases hm01 with rfl | rfl
    · have hcl : 0 < F.length := by have := HO1.out.1; omega
      have hCx := HCf.out wr hbw
      obtain ⟨cb, co, ccap, e, hcb⟩ := ctls_addr hCx hcl
      cases e
      have HCx := Lib.hid hCx
      clear hCx
      go_wp2_with fail
      refine (HL.out wr hww).mono ?_
      rintro e w7 ⟨v7, rfl, hown, hb7⟩
      have r0 := cell_below hb7 g0
      have hos := hown.ints
      obtain ⟨sa, sc, rfl⟩ := RowAt.lenN hos
      clear hown
      go_wp2_with fail
      go_loopw [7, 8, 48] (fun s7 s8 s48 wq => ∃ (j n : Nat) (b : Bool), s7 = .int .i64 n ∧ s8 = .bool b ∧ s48 = .int .i64 j ∧ j ≤ os.length ∧ n ≤ j ∧ Hid (n = selCount F (os.take j) ∧ (b = true → ∃ o ∈ os, OffP l o = false)) ∧ Below w7.heap.size w7 wq) (fun _ _ s48 _ => os.length - (RowKit.intOf s48).toNat)
      case atStart => exact ⟨0, 0, false, rfl, rfl, rfl, Nat.zero_le _, Nat.le_refl _, Lib.hid ⟨rfl, fun h => by cases h⟩, Below.refl _ _⟩
      case round =>
        obtain ⟨j, n, b, rfl, rfl, rfl, hj, hn, HS, hbq⟩ := hrel
        have hwq := below_trans (below_trans hww hb7) hbq
        have hbr := below_trans (below_trans hbw hb7) hbq
        have q0 := cell_below hbq r0
        by_cases hlt : j < os.length
        case neg =>
          obtain rfl : j = os.length := by omega
          have hn1 : n ≤ 1 := by have h1 := HS.out.1; rw [List.take_length] at h1; have := HO1.out.2.1; omega
          rcases (show n = 1 ∨ n = 0 by omega) with rfl | rfl
          · clear HS
            go_wp2_with fail
            go_roundw
            case rel => exact ⟨0 + 1, by first | rfl | go_num, by omega, hbr⟩
            case measure => simp [RowKit.intOf]
          cases b
          · clear HS
            go_wp2_with fail
            go_roundw
            case rel => exact ⟨0 + 1, by first | rfl | go_num, by omega, hbr⟩
            case measure => simp [RowKit.intOf]
          have hz : sz ≠ 1 := fun h => by have h1 := HS.out.1; rw [List.take_length] at h1; exact HO1.out.2.2 (HS.out.2 rfl) h h1.symm
          have hz0 : (sz == 1) = false := beq_false_of_ne hz
          clear HS
          go_wp2_with fail
          refine (HSz.out _ hwq).mono ?_
          rintro e w8 ⟨rfl, hb8⟩
          go_wp2_with fail
          go_roundw
          case rel => exact ⟨0 + 1, by first | rfl | go_num, by omega, below_trans hbr hb8⟩
          case measure => simp [RowKit.intOf]
        obtain ⟨kb, ko, kcap, e, hkb⟩ := IntsAt.addr hos (by omega)
        cases e
        have e0 := cell_below hbq (IntsAt.cellAt hos j hlt)
        have hmem := HM.out os[j] (List.getElem_mem hlt)
        have HI := Lib.hid (List.getElem_mem hlt)
        have HSn := Lib.hid (selCount_snoc F os j hlt)
        generalize os[j] = x at *
        obtain ⟨⟨hc0, hc1⟩, _⟩ := hmem
        obtain ⟨cn, rfl⟩ : ∃ cn : Nat, x = (cn : Int) := ⟨x.toNat, by omega⟩
        have hcc : cn < F.length := by have := HO1.out.1; omega
        have hcc' : (cn : Int) < (F.length : Int) := by omega
        have c6 := ctls_sel (HCx.out.below (below_trans hb7 hbq)) cn hcc
        have hof := HOf.out (cn : Int) _ hwq
        cases hsb : selB F (cn : Int)
        all_goals
          rw [hsb] at c6 HSn
          clear hsb
          cases b
        all_goals
          cases hoff : OffP l (cn : Int)
        all_goals
          rw [hoff] at hof
        · have HO := Lib.hid hoff
          have HS2 := Lib.hid (⟨by rw [HSn.out, ← HS.out.1]; rfl, fun h => ⟨_, HI.out, HO.out⟩⟩ : n = selCount F (os.take (j + 1)) ∧ (true = true → ∃ o ∈ os, OffP l o = false))
          clear HS HSn HI hoff
          go_wp2_with fail
          refine hof.mono ?_
          rintro e w8 ⟨rfl, hb8⟩
          go_wp2_with fail
          go_roundw
          case rel => exact ⟨j + 1, n, true, by first | rfl | go_num, by first | rfl | go_num, by first | rfl | go_num, by omega, by omega, Lib.hid ⟨HS2.out.1, fun _ => HS2.out.2 (by first | rfl | trivial)⟩, below_trans hbq hb8⟩
          case measure => simp [RowKit.intOf]; omega
        · have HO := Lib.hid hoff
          have HS2 := Lib.hid (⟨by rw [HSn.out, ← HS.out.1]; rfl, fun h => by cases h⟩ : n = selCount F (os.take (j + 1)) ∧ (false = true → ∃ o ∈ os, OffP l o = false))
          clear HS HSn HI hoff
          go_wp2_with fail
          refine hof.mono ?_
          rintro e w8 ⟨rfl, hb8⟩
          go_wp2_with fail
          go_roundw
          case rel => exact ⟨j + 1, n, false, by first | rfl | go_num, by first | rfl | go_num, by first | rfl | go_num, by omega, by omega, Lib.hid ⟨HS2.out.1, fun h => by cases h⟩, below_trans hbq hb8⟩
          case measure => simp [RowKit.intOf]; omega
        · have HO := Lib.hid hoff
          have HS2 := Lib.hid (⟨by rw [HSn.out, ← HS.out.1]; rfl, fun h => HS.out.2 rfl⟩ : n = selCount F (os.take (j + 1)) ∧ (true = true → ∃ o ∈ os, OffP l o = false))
          clear HS HSn HI hoff
          go_wp2_with fail
          go_roundw
          case rel => exact ⟨j + 1, n, true, by first | rfl | go_num, by first | rfl | go_num, by first | rfl | go_num, by omega, by omega, Lib.hid ⟨HS2.out.1, fun _ => HS2.out.2 (by first | rfl | trivial)⟩, hbq⟩
          case measure => simp [RowKit.intOf]; omega
        · have HO := Lib.hid hoff
          have HS2 := Lib.hid (⟨by rw [HSn.out, ← HS.out.1]; rfl, fun h => HS.out.2 rfl⟩ : n = selCount F (os.take (j + 1)) ∧ (true = true → ∃ o ∈ os, OffP l o = false))
          clear HS HSn HI hoff
          go_wp2_with fail
          go_roundw
          case rel => exact ⟨j + 1, n, true, by first | rfl | go_num, by first | rfl | go_num, by first | rfl | go_num, by omega, by omega, Lib.hid ⟨HS2.out.1, fun _ => HS2.out.2 (by first | rfl | trivial)⟩, hbq⟩
          case measure => simp [RowKit.intOf]; omega
        · have HO := Lib.hid hoff
          have HS2 := Lib.hid (⟨by rw [HSn.out, ← HS.out.1]; rfl, fun h => ⟨_, HI.out, HO.out⟩⟩ : n + 1 = selCount F (os.take (j + 1)) ∧ (true = true → ∃ o ∈ os, OffP l o = false))
          clear HS HSn HI hoff
          go_wp2_with fail
          refine hof.mono ?_
          rintro e w8 ⟨rfl, hb8⟩
          go_wp2_with fail
          go_roundw
          case rel => exact ⟨j + 1, n + 1, true, by first | rfl | go_num, by first | rfl | go_num, by first | rfl | go_num, by omega, by omega, Lib.hid ⟨HS2.out.1, fun _ => HS2.out.2 (by first | rfl | trivial)⟩, below_trans hbq hb8⟩
          case measure => simp [RowKit.intOf]; omega
        · have HO := Lib.hid hoff
          have HS2 := Lib.hid (⟨by rw [HSn.out, ← HS.out.1]; rfl, fun h => by cases h⟩ : n + 1 = selCount F (os.take (j + 1)) ∧ (false = true → ∃ o ∈ os, OffP l o = false))
          clear HS HSn HI hoff
          go_wp2_with fail
          refine hof.mono ?_
          rintro e w8 ⟨rfl, hb8⟩
          go_wp2_with fail
          go_roundw
          case rel => exact ⟨j + 1, n + 1, false, by first | rfl | go_num, by first | rfl | go_num, by first | rfl | go_num, by omega, by omega, Lib.hid ⟨HS2.out.1, fun h => by cases h⟩, below_trans hbq hb8⟩
          case measure => simp [RowKit.intOf]; omega
        · have HO := Lib.hid hoff
          have HS2 := Lib.hid (⟨by rw [HSn.out, ← HS.out.1]; rfl, fun h => HS.out.2 rfl⟩ : n + 1 = selCount F (os.take (j + 1)) ∧ (true = true → ∃ o ∈ os, OffP l o = false))
          clear HS HSn HI hoff
          go_wp2_with fail
          go_roundw
          case rel => exact ⟨j + 1, n + 1, true, by first | rfl | go_num, by first | rfl | go_num, by first | rfl | go_num, by omega, by omega, Lib.hid ⟨HS2.out.1, fun _ => HS2.out.2 (by first | rfl | trivial)⟩, hbq⟩
          case measure => simp [RowKit.intOf]; omega
        · have HO := Lib.hid hoff
          have HS2 := Lib.hid (⟨by rw [HSn.out, ← HS.out.1]; rfl, fun h => HS.out.2 rfl⟩ : n + 1 = selCount F (os.take (j + 1)) ∧ (true = true → ∃ o ∈ os, OffP l o = false))
          clear HS HSn HI hoff
          go_wp2_with fail
          go_roundw
          case rel => exact ⟨j + 1, n + 1, true, by first | rfl | go_num, by first | rfl | go_num, by first | rfl | go_num, by omega, by omega, Lib.hid ⟨HS2.out.1, fun _ => HS2.out.2 (by first | rfl | trivial)⟩, hbq⟩
          case measure => simp [RowKit.intOf]; omega
    · have hcl : 0 < R.length := by have := HO2.out.1; omega
      have hCx := HCr.out wr hbw
      obtain ⟨cb, co, ccap, e, hcb⟩ := ctls_addr hCx hcl
      cases e
      have HCx := Lib.hid hCx
      clear hCx
      go_wp2_with fail
      refine (HL.out wr hww).mono ?_
      rintro e w7 ⟨v7, rfl, hown, hb7⟩
      have r0 := cell_below hb7 g0
      have hos := hown.ints
      obtain ⟨sa, sc, rfl⟩ := RowAt.lenN hos
      clear hown
      go_wp2_with fail
      go_loopw [7, 8, 48] (fun s7 s8 s48 wq => ∃ (j n : Nat) (b : Bool), s7 = .int .i64 n ∧ s8 = .bool b ∧ s48 = .int .i64 j ∧ j ≤ os.length ∧ n ≤ j ∧ Hid (n = selCount R (os.take j) ∧ (b = true → ∃ o ∈ os, OffP l o = false)) ∧ Below w7.heap.size w7 wq) (fun _ _ s48 _ => os.length - (RowKit.intOf s48).toNat)
      case atStart => exact ⟨0, 0, false, rfl, rfl, rfl, Nat.zero_le _, Nat.le_refl _, Lib.hid ⟨rfl, fun h => by cases h⟩, Below.refl _ _⟩
      case round =>
        obtain ⟨j, n, b, rfl, rfl, rfl, hj, hn, HS, hbq⟩ := hrel
        have hwq := below_trans (below_trans hww hb7) hbq
        have hbr := below_trans (below_trans hbw hb7) hbq
        have q0 := cell_below hbq r0
        by_cases hlt : j < os.length
        case neg =>
          obtain rfl : j = os.length := by omega
          have hn1 : n ≤ 1 := by have h1 := HS.out.1; rw [List.take_length] at h1; have := HO2.out.2.1; omega
          rcases (show n = 1 ∨ n = 0 by omega) with rfl | rfl
          · clear HS
            go_wp2_with fail
            go_roundw
            case rel => exact ⟨1 + 1, by first | rfl | go_num, by omega, hbr⟩
            case measure => simp [RowKit.intOf]
          cases b
          · clear HS
            go_wp2_with fail
            go_roundw
            case rel => exact ⟨1 + 1, by first | rfl | go_num, by omega, hbr⟩
            case measure => simp [RowKit.intOf]
          have hz : sz ≠ 1 := fun h => by have h1 := HS.out.1; rw [List.take_length] at h1; exact HO2.out.2.2 (HS.out.2 rfl) h h1.symm
          have hz0 : (sz == 1) = false := beq_false_of_ne hz
          clear HS
          go_wp2_with fail
          refine (HSz.out _ hwq).mono ?_
          rintro e w8 ⟨rfl, hb8⟩
          go_wp2_with fail
          go_roundw
          case rel => exact ⟨1 + 1, by first | rfl | go_num, by omega, below_trans hbr hb8⟩
          case measure => simp [RowKit.intOf]
        obtain ⟨kb, ko, kcap, e, hkb⟩ := IntsAt.addr hos (by omega)
        cases e
        have e0 := cell_below hbq (IntsAt.cellAt hos j hlt)
        have hmem := HM.out os[j] (List.getElem_mem hlt)
        have HI := Lib.hid (List.getElem_mem hlt)
        have HSn := Lib.hid (selCount_snoc R os j hlt)
        generalize os[j] = x at *
        obtain ⟨⟨hc0, hc1⟩, _⟩ := hmem
        obtain ⟨cn, rfl⟩ : ∃ cn : Nat, x = (cn : Int) := ⟨x.toNat, by omega⟩
        have hcc : cn < R.length := by have := HO2.out.1; omega
        have hcc' : (cn : Int) < (R.length : Int) := by omega
        have c6 := ctls_sel (HCx.out.below (below_trans hb7 hbq)) cn hcc
        have hof := HOf.out (cn : Int) _ hwq
        cases hsb : selB R (cn : Int)
        all_goals
          rw [hsb] at c6 HSn
          clear hsb
          cases b
        all_goals
          cases hoff : OffP l (cn : Int)
        all_goals
          rw [hoff] at hof
        · have HO := Lib.hid hoff
          have HS2 := Lib.hid (⟨by rw [HSn.out, ← HS.out.1]; rfl, fun h => ⟨_, HI.out, HO.out⟩⟩ : n = selCount R (os.take (j + 1)) ∧ (true = true → ∃ o ∈ os, OffP l o = false))
          clear HS HSn HI hoff
          go_wp2_with fail
          refine hof.mono ?_
          rintro e w8 ⟨rfl, hb8⟩
          go_wp2_with fail
          go_roundw
          case rel => exact ⟨j + 1, n, true, by first | rfl | go_num, by first | rfl | go_num, by first | rfl | go_num, by omega, by omega, Lib.hid ⟨HS2.out.1, fun _ => HS2.out.2 (by first | rfl | trivial)⟩, below_trans hbq hb8⟩
          case measure => simp [RowKit.intOf]; omega
        · have HO := Lib.hid hoff
          have HS2 := Lib.hid (⟨by rw [HSn.out, ← HS.out.1]; rfl, fun h => by cases h⟩ : n = selCount R (os.take (j + 1)) ∧ (false = true → ∃ o ∈ os, OffP l o = false))
          clear HS HSn HI hoff
          go_wp2_with fail
          refine hof.mono ?_
          rintro e w8 ⟨rfl, hb8⟩
          go_wp2_with fail
          go_roundw
          case rel => exact ⟨j + 1, n, false, by first | rfl | go_num, by first | rfl | go_num, by first | rfl | go_num, by omega, by omega, Lib.hid ⟨HS2.out.1, fun h => by cases h⟩, below_trans hbq hb8⟩
          case measure => simp [RowKit.intOf]; omega
        · have HO := Lib.hid hoff
          have HS2 := Lib.hid (⟨by rw [HSn.out, ← HS.out.1]; rfl, fun h => HS.out.2 rfl⟩ : n = selCount R (os.take (j + 1)) ∧ (true = true → ∃ o ∈ os, OffP l o = false))
          clear HS HSn HI hoff
          go_wp2_with fail
          go_roundw
          case rel => exact ⟨j + 1, n, true, by first | rfl | go_num, by first | rfl | go_num, by first | rfl | go_num, by omega, by omega, Lib.hid ⟨HS2.out.1, fun _ => HS2.out.2 (by first | rfl | trivial)⟩, hbq⟩
          case measure => simp [RowKit.intOf]; omega
        · have HO := Lib.hid hoff
          have HS2 := Lib.hid (⟨by rw [HSn.out, ← HS.out.1]; rfl, fun h => HS.out.2 rfl⟩ : n = selCount R (os.take (j + 1)) ∧ (true = true → ∃ o ∈ os, OffP l o = false))
          clear HS HSn HI hoff
          go_wp2_with fail
          go_roundw
          case rel => exact ⟨j + 1, n, true, by first | rfl | go_num, by first | rfl | go_num, by first | rfl | go_num, by omega, by omega, Lib.hid ⟨HS2.out.1, fun _ => HS2.out.2 (by first | rfl | trivial)⟩, hbq⟩
          case measure => simp [RowKit.intOf]; omega
        · have HO := Lib.hid hoff
          have HS2 := Lib.hid (⟨by rw [HSn.out, ← HS.out.1]; rfl, fun h => ⟨_, HI.out, HO.out⟩⟩ : n + 1 = selCount R (os.take (j + 1)) ∧ (true = true → ∃ o ∈ os, OffP l o = false))
          clear HS HSn HI hoff
          go_wp2_with fail
          refine hof.mono ?_
          rintro e w8 ⟨rfl, hb8⟩
          go_wp2_with fail
          go_roundw
          case rel => exact ⟨j + 1, n + 1, true, by first | rfl | go_num, by first | rfl | go_num, by first | rfl | go_num, by omega, by omega, Lib.hid ⟨HS2.out.1, fun _ => HS2.out.2 (by first | rfl | trivial)⟩, below_trans hbq hb8⟩
          case measure => simp [RowKit.intOf]; omega
        · have HO := Lib.hid hoff
          have HS2 := Lib.hid (⟨by rw [HSn.out, ← HS.out.1]; rfl, fun h => by cases h⟩ : n + 1 = selCount R (os.take (j + 1)) ∧ (false = true → ∃ o ∈ os, OffP l o = false))
          clear HS HSn HI hoff
          go_wp2_with fail
          refine hof.mono ?_
          rintro e w8 ⟨rfl, hb8⟩
          go_wp2_with fail
          go_roundw
          case rel => exact ⟨j + 1, n + 1, false, by first | rfl | go_num, by first | rfl | go_num, by first | rfl | go_num, by omega, by omega, Lib.hid ⟨HS2.out.1, fun h => by cases h⟩, below_trans hbq hb8⟩
          case measure => simp [RowKit.intOf]; omega
        · have HO := Lib.hid hoff
          have HS2 := Lib.hid (⟨by rw [HSn.out, ← HS.out.1]; rfl, fun h => HS.out.2 rfl⟩ : n + 1 = selCount R (os.take (j + 1)) ∧ (true = true → ∃ o ∈ os, OffP l o = false))
          clear HS HSn HI hoff
          go_wp2_with fail
          go_roundw
          case rel => exact ⟨j + 1, n + 1, true, by first | rfl | go_num, by first | rfl | go_num, by first | rfl | go_num, by omega, by omega, Lib.hid ⟨HS2.out.1, fun _ => HS2.out.2 (by first | rfl | trivial)⟩, hbq⟩
          case measure => simp [RowKit.intOf]; omega
        · have HO := Lib.hid hoff
          have HS2 := Lib.hid (⟨by rw [HSn.out, ← HS.out.1]; rfl, fun h => HS.out.2 rfl⟩ : n + 1 = selCount R (os.take (j + 1)) ∧ (true = true → ∃ o ∈ os, OffP l o = false))
          clear HS HSn HI hoff
          go_wp2_with fail
          go_roundw
          case rel => exact ⟨j + 1, n + 1, true, by first | rfl | go_num, by first | rfl | go_num, by first | rfl | go_num, by omega, by omega, Lib.hid ⟨HS2.out.1, fun _ => HS2.out.2 (by first | rfl | trivial)⟩, hbq⟩
          case measure => simp [RowKit.intOf]; omega
end Go.Proofs.YtoajgfhcongocaaGreatDoor.doc
