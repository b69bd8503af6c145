/- What the reference's Fix picks: plain. The contract of the reference's Fix. The contract of the reference's Reset. -/
import Derived.Test.YtoajgfhcongocaaGreatDoorZRWriteU
import Derived.Test.YtoajgfhcongocaaGreatDoorGr
import Derived.Test.YtoajgfhcongocaaGreatDoorGg
import Derived.Test.YtoajgfhcongocaaGreatDoorGf
namespace Go.Proofs.YtoajgfhcongocaaGreatDoor.doc
open Go.ChangeShapes Go.WideShapes Go.ChangeAt Go.RowKit Go.Lib Go.Proofs.YtoajgfhcongocaaGreatDoor.atr Go.Proofs.YtoajgfhcongocaaGreatDoor.link Go.Proofs.YtoajgfhcongocaaGreatDoor.ctl

/-- the pick of the backward loop, from a place on -/
def backP (l : List Nd) (cs : List Ctl) (os : List Int) (m : Nat) : Int := if 0 ≤ lastP cs os then lastP cs os else pickD (fun o => !offP l o) os m
theorem backP_end (l : List Nd) (cs : List Ctl) (os : List Int) (h : OsFine cs os) : backP l cs os os.length = lastP cs os := by
  unfold backP
  split
  · rfl
  · rw [pickD_end]
    rw [lastP_is] at *
    rcases last_ways (selB cs) os with ⟨h1, _⟩ | ⟨h1, _⟩
    · exact h1.symm
    · have := h.low _ h1; omega
/-- a step back: the test of the code -/
theorem backP_step (l : List Nd) (cs : List Ctl) (os : List Int) (h : OsFine cs os) (m : Nat) (hm : m < os.length) :
    backP l cs os m = if offP l os[m] = false ∧ (backP l cs os (m + 1) < 0 ∨ selB cs (backP l cs os (m + 1)) = false) then os[m] else backP l cs os (m + 1) := by
  have h0 := h.low _ (List.getElem_mem hm)
  unfold backP
  by_cases hl : 0 ≤ lastP cs os
  · rw [if_pos hl, if_pos hl]
    have hs : selB cs (lastP cs os) = true := by
      rw [lastP_is] at *
      rcases last_ways (selB cs) os with ⟨h1, _⟩ | ⟨_, h2⟩
      · omega
      · exact h2
    rw [if_neg (by rintro ⟨_, h | h⟩; omega; rw [hs] at h; cases h)]
  · rw [if_neg hl, if_neg hl, pickD_step _ _ _ hm h0]
    have hall : ∀ o ∈ os, selB cs o = false := by
      rw [lastP_is] at *
      rcases last_ways (selB cs) os with ⟨_, h2⟩ | ⟨h1, _⟩
      · exact h2
      · have := h.low _ h1; omega
    have hd : pickD (fun o => !offP l o) os (m + 1) < 0 ∨ selB cs (pickD (fun o => !offP l o) os (m + 1)) = false := by
      unfold pickD
      rcases first_ways (fun o => !offP l o) (os.drop (m + 1)) (fun o ho => h.low o (List.mem_of_mem_drop ho)) with ⟨h1, _⟩ | ⟨h1, _⟩
      · left; omega
      · right; exact hall _ (List.mem_of_mem_drop h1)
    cases ho : offP l os[m]
    · rw [if_pos (by simp), if_pos ⟨rfl, hd⟩]
    · rw [if_neg (by simp), if_neg (by rintro ⟨h, _⟩; cases h)]
theorem lastP_ways (cs : List Ctl) (os : List Int) : lastP cs os = -1 ∨ lastP cs os ∈ os := by
  rw [lastP_is]
  rcases last_ways (selB cs) os with ⟨h, _⟩ | ⟨h, _⟩
  · exact .inl h
  · exact .inr h
theorem backP_ways (l : List Nd) (cs : List Ctl) (os : List Int) (h : OsFine cs os) (m : Nat) : backP l cs os m < 0 ∨ backP l cs os m ∈ os := by
  unfold backP
  split
  · rcases lastP_ways cs os with h | h
    · omega
    · exact .inr h
  · unfold pickD
    rcases first_ways (fun o => !offP l o) (os.drop m) (fun o ho => h.low o (List.mem_of_mem_drop ho)) with ⟨h1, _⟩ | ⟨h1, _⟩
    · left; omega
    · right; exact List.mem_of_mem_drop h1
/-- what the code picks -/
def rpick (l : List Nd) (cs : List Ctl) (k : Int) : Int := if SizeP l k = 1 then backP l cs (listP l k) 0 else lastP cs (listP l k)
theorem rpick_is (l : List Nd) (cs : List Ctl) (k : Int) (hi : isP l k 23 = true) : rpick l cs k = pickP l cs k := by
  unfold rpick pickP backP SizeP listP
  rw [if_pos hi, if_pos hi, pickD_zero, ← firstP_is]
  by_cases h1 : sizeP l k = 1
  · rw [if_pos h1]
    by_cases h2 : 0 ≤ lastP cs (optsP l k)
    · rw [if_pos h2, if_neg (by omega)]
    · rw [if_neg h2, if_pos ⟨by omega, h1⟩]
  · rw [if_neg h1, if_neg (fun h => h1 h.2)]
theorem lastP_take (cs : List Ctl) (os : List Int) (m : Nat) (h : m < os.length) : lastP cs (os.take (m + 1)) = if selB cs os[m] then os[m] else lastP cs (os.take m) := by
  rw [take_snocI os m h, lastP_snoc]
end Go.Proofs.YtoajgfhcongocaaGreatDoor.doc

namespace Go.Proofs.YtoajgfhcongocaaGreatDoor.doc
open Go.ChangeShapes Go.WideShapes Go.ChangeAt Go.RowKit Go.Lib Go.Proofs.YtoajgfhcongocaaGreatDoor.atr Go.Proofs.YtoajgfhcongocaaGreatDoor.link Go.Proofs.YtoajgfhcongocaaGreatDoor.ctl

theorem offP_val {l : List Nd} {o : Int} (h : isP l o 32 = true) : OffP l o = offP l o := by unfold OffP; rw [h, Bool.true_and]
set_option maxHeartbeats 4000000 in
set_option maxRecDepth 100000 in
theorem rfix_any (vn vc : Value) (l : List Nd) (cs : List Ctl) (k : Int) (w : World) (hD : DocAt w vn vc l cs) :
    Calls Tryz.prog 24 #[.agg #[vn, vc], .int .i64 k] w (RetS (FixP l cs k) w) := by
  have HX : Hid (FixP l cs k = if docR l cs then (if isP l k 23 then fixC l cs k else cs) else []) := Lib.hid rfl
  obtain ⟨oa, ca, rfl⟩ := NodesAt.lenN hD.nodes
  obtain ⟨oc, cc, rfl⟩ := CtlsAt.lenN hD.ctls
  obtain ⟨wA, hwA⟩ : ∃ wA, wA = w.alloc (.cells #[.slice oa l.length ca, .slice oc cs.length cc] 25) := ⟨_, rfl⟩
  have hB1 : Below w.heap.size w wA := by rw [hwA]; exact (Below.refl _ w).alloc (Nat.le_refl _) _
  have f0 : wA.cell? ⟨w.heap.size, 0, none⟩ = some (.slice oa l.length ca) := by rw [hwA]; exact World.cell?_alloc_new w _ _ 0
  have f1 : wA.cell? ⟨w.heap.size, 1, none⟩ = some (.slice oc cs.length cc) := by rw [hwA]; exact World.cell?_alloc_new w _ _ 1
  have hr := rdocright_any (.slice oa l.length ca) l hD.fine oc cs.length cc wA (hD.nodes.below hB1)
  rw [show (decide (l.length = cs.length) && rightB l) = docR l cs from rfl] at hr
  have HC := Lib.hid (fun w' h => rcopiedC_any (.slice oc cs.length cc) cs hD.cb w' (hD.ctls.below (w' := w') h))
  have HI := Lib.hid (fun w' h => ris_any (.slice oa l.length ca) l k 23 hD.fine w' (hD.nodes.below (w' := w') h))
  cases hq : docR l cs
  · rw [hq] at hr
    have HE : Hid (FixP l cs k = []) := Lib.hid (by rw [HX.out, if_neg (by rw [hq]; simp)])
    rw [HE.out]
    clear hD hq f0 f1 HX HC HI
    subst hwA
    go_enter Tryz.func24, Tryz.ntmps24
    go_wp2_with fail
    refine hr.mono ?_
    rintro e w1 ⟨rfl, hb1⟩
    go_wp2_with fail
    go_ret
    exact ⟨_, [], rfl, OwnC.nil _ _, below_trans hB1 hb1⟩
  obtain ⟨hlc, hR⟩ := (docR_iff l cs).1 hq
  rw [hq] at hr
  cases hi : isP l k 23
  · rw [hi] at HI
    have HE : Hid (FixP l cs k = cs) := Lib.hid (by rw [HX.out, if_pos hq, if_neg (by rw [hi]; simp)])
    rw [HE.out]
    clear hD hq HX hlc hR hi
    subst hwA
    go_enter Tryz.func24, Tryz.ntmps24
    go_wp2_with fail
    refine hr.mono ?_
    rintro e w1 ⟨rfl, hb1⟩
    have f0 := cell_below hb1 f0
    have f1 := cell_below hb1 f1
    have hb01 := below_trans hB1 hb1
    go_wp2_with fail
    refine (HC.out w1 hb01).mono ?_
    rintro e w2 ⟨v', fs, rfl, ho2, hb2⟩
    have f0 := cell_below hb2 f0
    have HO2 := Lib.hid ho2
    obtain ⟨o2, c2, rfl⟩ := CtlsAt.lenN ho2.at
    clear ho2
    have hb02 := below_trans hb01 hb2
    go_wp2_with fail
    refine (HI.out w2 hb02).mono ?_
    rintro e w4 ⟨rfl, hb4⟩
    go_wp2_with fail
    go_ret
    exact ⟨_, fs, rfl, (HO2.out.below hb4).lower hb01.size, below_trans hb02 hb4⟩
  obtain ⟨hin, _, _⟩ := (isP_iff l k 23).1 hi
  obtain ⟨sel, rfl⟩ : ∃ sel : Nat, k = (sel : Int) := ⟨k.toNat, by have := hin.1; omega⟩
  have hs : sel < l.length := by have := hin.2; omega
  rw [hi] at HI
  obtain ⟨b, off, cap, e, hb⟩ := nodes_addr hD.nodes (by omega)
  cases e
  have hfn := hD.fine.nd (sel : Int) (by omega) (by omega)
  obtain ⟨va, vk, hn0⟩ := nodes_get hD.nodes sel hs
  have HN := Lib.hid hn0
  have HH := Lib.hid (fun w' (hx : Below w.heap.size w w') => rhas15_any (nd l (sel : Int)) va vk nMultiple hfn.attrs w' (hn0.below hx).attrs (hn0.below hx).kids)
  unfold nodeV at HH
  have h0' : (0 : Int) ≤ (sel : Int) := by omega
  have hs' : (sel : Int) < (l.length : Int) := by omega
  have HFx : Hid (FixP l cs (sel : Int) = if hasA nMultiple (nd l (sel : Int)).attrs then cs else onlyP cs (optsP l (sel : Int)) (pickP l cs (sel : Int))) := Lib.hid (by rw [HX.out, if_pos hq, if_pos hi]; rfl)
  cases hm : hasA nMultiple (nd l (sel : Int)).attrs
  case true =>
    rw [hm] at HH HFx
    have HE : Hid (FixP l cs (sel : Int) = cs) := Lib.hid HFx.out
    rw [HE.out]
    clear hD hq HX hlc hR hi hn0 hm hin
    subst hwA
    go_enter Tryz.func24, Tryz.ntmps24
    go_wp2_with fail
    refine hr.mono ?_
    rintro e w1 ⟨rfl, hb1⟩
    have f0 := cell_below hb1 f0
    have f1 := cell_below hb1 f1
    have hb01 := below_trans hB1 hb1
    go_wp2_with fail
    refine (HC.out w1 hb01).mono ?_
    rintro e w2 ⟨v', fs, rfl, ho2, hb2⟩
    have f0 := cell_below hb2 f0
    have HO2 := Lib.hid ho2
    obtain ⟨o2, c2, rfl⟩ := CtlsAt.lenN ho2.at
    clear ho2
    have hb02 := below_trans hb01 hb2
    go_wp2_with fail
    refine (HI.out w2 hb02).mono ?_
    rintro e w4 ⟨rfl, hb4⟩
    have f0 := cell_below hb4 f0
    have hb04 := below_trans hb02 hb4
    obtain ⟨c0, c1, c2, c3, c4, _, _, _⟩ := HN.out.below hb04
    go_wp2_with fail
    refine (HH.out w4 hb04).mono ?_
    rintro e w5 ⟨rfl, hb5⟩
    go_wp2_with fail
    go_ret
    exact ⟨_, fs, rfl, (HO2.out.below (below_trans hb4 hb5)).lower hb01.size, below_trans hb04 hb5⟩
  rw [hm] at HH HFx
  have HE : Hid (FixP l cs (sel : Int) = onlyP cs (listP l (sel : Int)) (rpick l cs (sel : Int))) := Lib.hid (by
    rw [HFx.out, if_neg (by simp), rpick_is l cs _ hi]
    unfold listP
    rw [if_pos hi])
  rw [HE.out]
  have HL := Lib.hid (fun w' h => rlist_any (.slice (some ⟨b, off, none⟩) l.length ca) l hD.fine (sel : Int) w' (hD.nodes.below (w' := w') h))
  have HM := Lib.hid (fun o (ho : o ∈ listP l (sel : Int)) => list_mem ho)
  have HOf := Lib.hid (fun (o : Int) w' h => roff_any (.slice (some ⟨b, off, none⟩) l.length ca) l hD.fine o w' (hD.nodes.below (w' := w') h))
  have HSz := Lib.hid (fun w' h => rsize_any (.slice (some ⟨b, off, none⟩) l.length ca) l hD.fine (sel : Int) w' (hD.nodes.below (w' := w') h))
  have HF := Lib.hid (list_fine cs hlc (sel : Int))
  have hol := list_le l (sel : Int)
  have hcs0 : 0 < cs.length := by omega
  have HRp : Hid (rpick l cs (sel : Int) = if SizeP l (sel : Int) = 1 then backP l cs (listP l (sel : Int)) 0 else lastP cs (listP l (sel : Int))) := Lib.hid rfl
  generalize rpick l cs (sel : Int) = rp at *
  generalize listP l (sel : Int) = os at *
  generalize SizeP l (sel : Int) = sz at *
  clear hD hq HX hlc hR hi hn0 hm hin HFx HE
  subst hwA
  go_enter Tryz.func24, Tryz.ntmps24
  go_wp2_with fail
  refine hr.mono ?_
  rintro e w1 ⟨rfl, hb1⟩
  have f0 := cell_below hb1 f0
  have f1 := cell_below hb1 f1
  have hb01 := below_trans hB1 hb1
  go_wp2_with fail
  refine (HC.out w1 hb01).mono ?_
  rintro e w2 ⟨v', fs, rfl, ho2, hb2⟩
  have f0 := cell_below hb2 f0
  have HO2 := Lib.hid ho2
  obtain ⟨g, cg, rfl, hBg, hgl⟩ := ho2.addr hcs0
  clear ho2
  have hb02 := below_trans hb01 hb2
  go_wp2_with fail
  refine (HI.out w2 hb02).mono ?_
  rintro e w4 ⟨rfl, hb4⟩
  have f0 := cell_below hb4 f0
  have hb04 := below_trans hb02 hb4
  obtain ⟨c0, c1, c2, c3, c4, _, _, _⟩ := HN.out.below hb04
  go_wp2_with fail
  refine (HH.out w4 hb04).mono ?_
  rintro e w5 ⟨rfl, hb5⟩
  have f0 := cell_below hb5 f0
  have hb05 := below_trans hb04 hb5
  clear c0 c1 c2 c3 c4
  go_wp2_with fail
  refine (HL.out w5 hb05).mono ?_
  rintro e w6 ⟨v6, rfl, hown, hb6⟩
  have f0 := cell_below hb6 f0
  have hb06 := below_trans hb05 hb6
  have hos := hown.ints
  have HLt := Lib.hid hown.lt
  have hO6 := HO2.out.below (below_trans (below_trans hb4 hb5) hb6)
  obtain ⟨sa, sc, rfl⟩ := RowAt.lenN hos
  clear hown HL HC HI HH HN hr
  have HOlt := Lib.hid hO6.row.lt
  have hOc := fun (j : Nat) (hj : j < cs.length) => hO6.selOf j hj
  have HOc := Lib.hid hOc
  have HO6 := Lib.hid hO6
  have hz16 : w1.heap.size ≤ w6.heap.size := by have := hb2.size; have := hb4.size; have := hb5.size; have := hb6.size; omega
  clear hOc hO6
  go_wp2_with fail
  go_loopw [7, 8] (fun s7 s8 wr => ∃ m : Nat, s7 = .int .i64 (lastP cs (os.take m)) ∧ s8 = .int .i64 m ∧ m ≤ os.length ∧ w6 = wr) (fun _ s8 _ => os.length - (RowKit.intOf s8).toNat)
  case atStart => exact ⟨0, rfl, rfl, Nat.zero_le _, rfl⟩
  case round =>
    obtain ⟨m, rfl, rfl, hm, rfl⟩ := hrel
    by_cases hlt : m < os.length
    case pos =>
      obtain ⟨kb, ko, kcap, e, hkb⟩ := IntsAt.addr hos (by omega)
      cases e
      have e0 := IntsAt.cellAt hos m hlt
      have h1 := HF.out.low os[m] (List.getElem_mem hlt)
      have h2 := HF.out.high os[m] (List.getElem_mem hlt)
      have HLs := Lib.hid (lastP_take cs os m hlt)
      generalize os[m] = c at *
      obtain ⟨cn, rfl⟩ : ∃ cn : Nat, c = (cn : Int) := ⟨c.toNat, by omega⟩
      have hcc : cn < cs.length := by omega
      have c6 := HOc.out cn hcc
      cases hsb : selB cs (cn : Int)
      case false =>
        rw [hsb] at c6
        have HE : Hid (lastP cs (os.take (m + 1)) = lastP cs (os.take m)) := Lib.hid (by rw [HLs.out, if_neg (by rw [hsb]; simp)])
        clear hsb HLs
        go_wp2_with fail
        go_roundw
        case rel => exact ⟨m + 1, by rw [HE.out], by go_num, by omega, by first | rfl | trivial⟩
        case measure => simp [RowKit.intOf]; omega
      case true =>
        rw [hsb] at c6
        have HE : Hid (lastP cs (os.take (m + 1)) = (cn : Int)) := Lib.hid (by rw [HLs.out, if_pos hsb])
        clear hsb HLs
        go_wp2_with fail
        go_roundw
        case rel => exact ⟨m + 1, by rw [HE.out], by go_num, by omega, by first | rfl | trivial⟩
        case measure => simp [RowKit.intOf]; omega
    case neg =>
      obtain rfl : m = os.length := by omega
      rw [List.take_length, ← backP_end l cs os HF.out]
      go_wp2_with fail
      go_loopw [7, 9] (fun s7 s9 wr => ∃ m : Nat, s7 = .int .i64 (backP l cs os m) ∧ s9 = .int .i64 ((m : Int) - 1) ∧ m ≤ os.length ∧ (sz ≠ 1 → m = os.length) ∧ Below w6.heap.size w6 wr) (fun _ s9 _ => (RowKit.intOf s9 + 1).toNat)
      case atStart => exact ⟨os.length, rfl, rfl, Nat.le_refl _, fun _ => rfl, Below.refl _ _⟩
      case round =>
        obtain ⟨m, rfl, rfl, hm, hsm, hbw⟩ := hrel
        have hww := below_trans hb06 hbw
        have g0 := cell_below hbw f0
        have HOn := Lib.hid (fun (p : Int) wq (hq : Below w6.heap.size w6 wq) => only_any (.slice (some ⟨g, 0, none⟩) cs.length cg) cs fs (.slice sa os.length sc) os p w1.heap.size wq (HO6.out.below hq) (hos.below hq) HF.out (by omega) (fun j e1 e2 => by
          have h1 : g = j := Option.some.inj e1
          have h2 := (HLt.out j e2).1
          have := hb4.size
          have := hb5.size
          omega))
        have HFin := Lib.hid (fun wq wn (hq : Below w6.heap.size w6 wq) (hg : wq.grownBy wn (some g)) => below_grownO (n := w.heap.size) ((hb06).trans (hq.mono hb06.size)) hg (by have := hb06.size; have := hq.size; omega) (fun r e => by cases e; have := hb01.size; omega))
        rcases Nat.eq_zero_or_pos m with h0 | h0
        · subst h0
          have HE : Hid (backP l cs os 0 = rp) := Lib.hid (by
            rw [HRp.out]
            by_cases h1 : sz = 1
            · rw [if_pos h1]
            · rw [if_neg h1, ← backP_end l cs os HF.out, ← hsm h1])
          rw [HE.out]
          have hon := HOn.out rp wr hbw
          clear hsm HE HRp
          go_wp2_with fail
          refine hon.mono ?_
          rintro e wn ⟨⟨u, rfl⟩, hoN, hgN⟩
          have HN2 := Lib.hid hoN
          have HB2 := Lib.hid (HFin.out wr wn hbw hgN)
          clear hoN hgN hon
          go_wp2_with fail
          go_ret
          exact ⟨_, fs, rfl, HN2.out.lower hb01.size, HB2.out⟩
        obtain ⟨j, rfl⟩ : ∃ j, m = j + 1 := ⟨m - 1, by omega⟩
        have hj : ((j + 1 : Nat) : Int) - 1 = (j : Int) := by omega
        rw [hj]
        clear hj
        have hlt2 : j < os.length := by omega
        have hsz := HSz.out wr hww
        by_cases h1 : sz = 1
        case neg =>
          have hs1 : (sz == 1) = false := beq_false_of_ne h1
          have HE : Hid (backP l cs os (j + 1) = rp) := Lib.hid (by rw [HRp.out, if_neg h1, ← backP_end l cs os HF.out, ← hsm h1])
          rw [HE.out]
          clear hsm HE HRp h1
          go_wp2_with fail
          refine hsz.mono ?_
          rintro e w7 ⟨rfl, hb7⟩
          have hb67 := below_trans hbw hb7
          have hon := HOn.out rp w7 hb67
          go_wp2_with fail
          refine hon.mono ?_
          rintro e wn ⟨⟨u, rfl⟩, hoN, hgN⟩
          have HN2 := Lib.hid hoN
          have HB2 := Lib.hid (HFin.out w7 wn hb67 hgN)
          clear hoN hgN hon
          go_wp2_with fail
          go_ret
          exact ⟨_, fs, rfl, HN2.out.lower hb01.size, HB2.out⟩
        subst h1
        obtain ⟨kb, ko, kcap, e, hkb⟩ := IntsAt.addr hos (by omega)
        cases e
        have e0 := cell_below hbw (IntsAt.cellAt hos j hlt2)
        have hm1 := HM.out os[j] (List.getElem_mem hlt2)
        have HBs := Lib.hid (backP_step l cs os HF.out j hlt2)
        have HWy := Lib.hid (backP_ways l cs os HF.out (j + 1))
        go_wp2_with fail
        refine hsz.mono ?_
        rintro e w7 ⟨rfl, hb7⟩
        have hb67 := below_trans hbw hb7
        have hw7 := below_trans hww hb7
        have g7 : w7.drew.cell? ⟨w.heap.size, 0, none⟩ = some (.slice (some ⟨b, off, none⟩) l.length ca) := cell_below hb7 g0
        have e7 : w7.drew.cell? ⟨kb, ko + j, none⟩ = some (.int .i64 os[j]) := cell_below hb7 e0
        have hof := HOf.out os[j] w7.drew hw7.drew
        rw [offP_val hm1.2] at hof
        have HO7 := Lib.hid (fun wq (hq : Below w7.drew.heap.size w7.drew wq) (pn : Nat) (hp : pn < cs.length) => (HO6.out.below (below_trans hb67.drew hq)).selOf pn hp)
        have hg8 : Hid (∀ w8, Below w7.drew.heap.size w7.drew w8 → Below w6.heap.size w6 w8) := Lib.hid (fun w8 h => below_trans hb67.drew h)
        generalize os[j] = c at *
        generalize backP l cs os (j + 1) = pk at *
        clear hsz hm1 e0 g0 hsm
        cases ho : offP l c
        case true =>
          rw [ho] at hof
          have HE : Hid (backP l cs os j = pk) := Lib.hid (by rw [HBs.out, if_neg (by rw [ho]; rintro ⟨h, _⟩; cases h)])
          clear HBs ho HWy
          go_wp2_with fail
          refine wp_region_any (by kernel_rfl) ?_
          change wpAny _ _ _ _ _ _ _ w7.drew
          refine wpAny_take (i := 0) (v := ?_) rfl (by kernel_rfl) (by kernel_rfl) (by kernel_rfl) (fun _ _ _ h => h) (Or.inl ⟨by kernel_rfl, ?_⟩) ?_
          rotate_left
          · intro w; go_simp; try with_reducible rfl
          change wpAny _ _ _ _ _ _ (Act.put _ (some 66) _) _
          refine wpAny_take (i := 2) (v := ?_) rfl (by kernel_rfl) (by kernel_rfl) (by kernel_rfl) (fun _ _ _ h => h) (Or.inl ⟨by kernel_rfl, ?_⟩) ?_
          rotate_left
          · intro w; go_simp; try with_reducible rfl
          change wpAny _ _ _ _ _ _ (Act.put _ (some 68) _) _
          refine wpAny_take (i := 3) (v := ?_) rfl (by kernel_rfl) (by kernel_rfl) (by kernel_rfl) (fun _ _ _ h => h) (Or.inl ⟨by kernel_rfl, ?_⟩) ?_
          rotate_left
          · intro w; go_simp; try with_reducible rfl
          change wpAny _ _ _ _ _ _ (Act.put _ (some 69) _) _
          refine wpAny_take (i := 4) (v := ?_) rfl (by kernel_rfl) (by kernel_rfl) (by kernel_rfl) (fun _ _ _ h => h) (Or.inl ⟨by kernel_rfl, ?_⟩) ?_
          rotate_left
          · intro w; go_simp; try with_reducible rfl
          change wpAny _ _ _ _ _ _ (Act.put _ (some 70) _) _
          refine wpAny_ready (rs := [1, 5]) (by kernel_rfl) (by simp) ?_
          refine AllReady.cons rfl (fun K hK => ?_) ?_
          · go_simp
            refine hK _ _ ?_
            clear hK K
            refine wpAny_ready (rs := [5]) (by kernel_rfl) (by simp) ?_
            refine AllReady.cons rfl (fun K hK => ?_) ?_
            · go_simp
              refine hK _ _ ?_
              clear hK K
              refine wpAny_ready (rs := [6]) (by kernel_rfl) (by simp) ?_
              refine AllReady.cons rfl (fun K hK => ?_) ?_
              · go_simp
                go_wp2_with (go_at_call 21; refine hof.mono ?_; rintro e w8 ⟨rfl, hb8⟩)
                refine wpAny_take (i := 7) (v := ?_) rfl (by kernel_rfl) (by kernel_rfl) (by kernel_rfl) (fun _ _ _ h => h) (Or.inl ⟨by kernel_rfl, ?_⟩) ?_
                rotate_left
                · intro w; go_simp; try with_reducible rfl
                change wpAny _ _ _ _ _ _ (Act.put _ (some 73) _) _
                refine wpAny_take (i := 8) (v := ?_) rfl (by kernel_rfl) (by kernel_rfl) (by kernel_rfl) (fun _ _ _ h => h) (Or.inl ⟨by kernel_rfl, ?_⟩) ?_
                rotate_left
                · intro w; go_simp; try with_reducible rfl
                change wpAny _ _ _ _ _ _ (Act.put _ (some 74) _) _
                refine wpAny_take (i := 9) (v := undef) rfl (by kernel_rfl) (by kernel_rfl) (by kernel_rfl) (fun _ _ _ h => h) (Or.inr ⟨by kernel_rfl, rfl⟩) ?_
                change wpAny _ _ _ _ _ _ (Act.put _ (some 75) _) _
                refine wpAny_take (i := 10) (v := undef) rfl (by kernel_rfl) (by kernel_rfl) (by kernel_rfl) (fun _ _ _ h => h) (Or.inr ⟨by kernel_rfl, rfl⟩) ?_
                change wpAny _ _ _ _ _ _ (Act.put _ (some 76) _) _
                refine wpAny_take (i := 11) (v := undef) rfl (by kernel_rfl) (by kernel_rfl) (by kernel_rfl) (fun _ _ _ h => h) (Or.inr ⟨by kernel_rfl, rfl⟩) ?_
                change wpAny _ _ _ _ _ _ (Act.put _ (some 77) _) _
                refine wpAny_take (i := 12) (v := undef) rfl (by kernel_rfl) (by kernel_rfl) (by kernel_rfl) (fun _ _ _ h => h) (Or.inr ⟨by kernel_rfl, rfl⟩) ?_
                change wpAny _ _ _ _ _ _ (Act.put _ (some 78) _) _
                refine wpAny_take (i := 13) (v := undef) rfl (by kernel_rfl) (by kernel_rfl) (by kernel_rfl) (fun _ _ _ h => h) (Or.inr ⟨by kernel_rfl, rfl⟩) ?_
                change wpAny _ _ _ _ _ _ (Act.put _ (some 79) _) _
                refine wpAny_take (i := 14) (v := undef) rfl (by kernel_rfl) (by kernel_rfl) (by kernel_rfl) (fun _ _ _ h => h) (Or.inr ⟨by kernel_rfl, rfl⟩) ?_
                change wpAny _ _ _ _ _ _ (Act.put _ (some 80) _) _
                refine wpAny_take (i := 15) (v := undef) rfl (by kernel_rfl) (by kernel_rfl) (by kernel_rfl) (fun _ _ _ h => h) (Or.inr ⟨by kernel_rfl, rfl⟩) ?_
                change wpAny _ _ _ _ _ _ (Act.put _ (some 81) _) _
                refine wpAny_take (i := 16) (v := undef) rfl (by kernel_rfl) (by kernel_rfl) (by kernel_rfl) (fun _ _ _ h => h) (Or.inr ⟨by kernel_rfl, rfl⟩) ?_
                change wpAny _ _ _ _ _ _ (Act.put _ (some 82) _) _
                refine wpAny_take (i := 17) (v := undef) rfl (by kernel_rfl) (by kernel_rfl) (by kernel_rfl) (fun _ _ _ h => h) (Or.inr ⟨by kernel_rfl, rfl⟩) ?_
                change wpAny _ _ _ _ _ _ (Act.put _ (some 83) _) _
                refine wpAny_take (i := 18) (v := undef) rfl (by kernel_rfl) (by kernel_rfl) (by kernel_rfl) (fun _ _ _ h => h) (Or.inr ⟨by kernel_rfl, rfl⟩) ?_
                change wpAny _ _ _ _ _ _ (Act.put _ (some 84) _) _
                refine wpAny_take (i := 19) (v := ?_) rfl (by kernel_rfl) (by kernel_rfl) (by kernel_rfl) (fun _ _ _ h => h) (Or.inl ⟨by kernel_rfl, ?_⟩) ?_
                rotate_left
                · intro w; go_simp; try with_reducible rfl
                change wpAny _ _ _ _ _ _ (Act.put _ (some 85) _) _
                refine wpAny_done (by kernel_rfl) ?_ _
                simp only [Act.put, List.setIfInBounds_toArray, List.set_cons_zero, List.set_cons_succ]
                go_wp2_with fail
                go_roundw
                case rel => exact ⟨j, by rw [HE.out], by go_num, by omega, (fun h => absurd rfl h), hg8.out _ hb8⟩
                case measure => simp [RowKit.intOf]
              exact AllReady.nil
            exact AllReady.nil
          refine AllReady.cons rfl (fun K hK => ?_) ?_
          · go_simp
            refine hK _ _ ?_
            clear hK K
            refine wpAny_ready (rs := [1]) (by kernel_rfl) (by simp) ?_
            refine AllReady.cons rfl (fun K hK => ?_) ?_
            · go_simp
              refine hK _ _ ?_
              clear hK K
              refine wpAny_ready (rs := [6]) (by kernel_rfl) (by simp) ?_
              refine AllReady.cons rfl (fun K hK => ?_) ?_
              · go_simp
                go_wp2_with (go_at_call 21; refine hof.mono ?_; rintro e w8 ⟨rfl, hb8⟩)
                refine wpAny_take (i := 7) (v := ?_) rfl (by kernel_rfl) (by kernel_rfl) (by kernel_rfl) (fun _ _ _ h => h) (Or.inl ⟨by kernel_rfl, ?_⟩) ?_
                rotate_left
                · intro w; go_simp; try with_reducible rfl
                change wpAny _ _ _ _ _ _ (Act.put _ (some 73) _) _
                refine wpAny_take (i := 8) (v := ?_) rfl (by kernel_rfl) (by kernel_rfl) (by kernel_rfl) (fun _ _ _ h => h) (Or.inl ⟨by kernel_rfl, ?_⟩) ?_
                rotate_left
                · intro w; go_simp; try with_reducible rfl
                change wpAny _ _ _ _ _ _ (Act.put _ (some 74) _) _
                refine wpAny_take (i := 9) (v := undef) rfl (by kernel_rfl) (by kernel_rfl) (by kernel_rfl) (fun _ _ _ h => h) (Or.inr ⟨by kernel_rfl, rfl⟩) ?_
                change wpAny _ _ _ _ _ _ (Act.put _ (some 75) _) _
                refine wpAny_take (i := 10) (v := undef) rfl (by kernel_rfl) (by kernel_rfl) (by kernel_rfl) (fun _ _ _ h => h) (Or.inr ⟨by kernel_rfl, rfl⟩) ?_
                change wpAny _ _ _ _ _ _ (Act.put _ (some 76) _) _
                refine wpAny_take (i := 11) (v := undef) rfl (by kernel_rfl) (by kernel_rfl) (by kernel_rfl) (fun _ _ _ h => h) (Or.inr ⟨by kernel_rfl, rfl⟩) ?_
                change wpAny _ _ _ _ _ _ (Act.put _ (some 77) _) _
                refine wpAny_take (i := 12) (v := undef) rfl (by kernel_rfl) (by kernel_rfl) (by kernel_rfl) (fun _ _ _ h => h) (Or.inr ⟨by kernel_rfl, rfl⟩) ?_
                change wpAny _ _ _ _ _ _ (Act.put _ (some 78) _) _
                refine wpAny_take (i := 13) (v := undef) rfl (by kernel_rfl) (by kernel_rfl) (by kernel_rfl) (fun _ _ _ h => h) (Or.inr ⟨by kernel_rfl, rfl⟩) ?_
                change wpAny _ _ _ _ _ _ (Act.put _ (some 79) _) _
                refine wpAny_take (i := 14) (v := undef) rfl (by kernel_rfl) (by kernel_rfl) (by kernel_rfl) (fun _ _ _ h => h) (Or.inr ⟨by kernel_rfl, rfl⟩) ?_
                change wpAny _ _ _ _ _ _ (Act.put _ (some 80) _) _
                refine wpAny_take (i := 15) (v := undef) rfl (by kernel_rfl) (by kernel_rfl) (by kernel_rfl) (fun _ _ _ h => h) (Or.inr ⟨by kernel_rfl, rfl⟩) ?_
                change wpAny _ _ _ _ _ _ (Act.put _ (some 81) _) _
                refine wpAny_take (i := 16) (v := undef) rfl (by kernel_rfl) (by kernel_rfl) (by kernel_rfl) (fun _ _ _ h => h) (Or.inr ⟨by kernel_rfl, rfl⟩) ?_
                change wpAny _ _ _ _ _ _ (Act.put _ (some 82) _) _
                refine wpAny_take (i := 17) (v := undef) rfl (by kernel_rfl) (by kernel_rfl) (by kernel_rfl) (fun _ _ _ h => h) (Or.inr ⟨by kernel_rfl, rfl⟩) ?_
                change wpAny _ _ _ _ _ _ (Act.put _ (some 83) _) _
                refine wpAny_take (i := 18) (v := undef) rfl (by kernel_rfl) (by kernel_rfl) (by kernel_rfl) (fun _ _ _ h => h) (Or.inr ⟨by kernel_rfl, rfl⟩) ?_
                change wpAny _ _ _ _ _ _ (Act.put _ (some 84) _) _
                refine wpAny_take (i := 19) (v := ?_) rfl (by kernel_rfl) (by kernel_rfl) (by kernel_rfl) (fun _ _ _ h => h) (Or.inl ⟨by kernel_rfl, ?_⟩) ?_
                rotate_left
                · intro w; go_simp; try with_reducible rfl
                change wpAny _ _ _ _ _ _ (Act.put _ (some 85) _) _
                refine wpAny_done (by kernel_rfl) ?_ _
                simp only [Act.put, List.setIfInBounds_toArray, List.set_cons_zero, List.set_cons_succ]
                go_wp2_with fail
                go_roundw
                case rel => exact ⟨j, by rw [HE.out], by go_num, by omega, (fun h => absurd rfl h), hg8.out _ hb8⟩
                case measure => simp [RowKit.intOf]
              exact AllReady.nil
            exact AllReady.nil
          exact AllReady.nil
        rw [ho] at hof
        by_cases hp : pk < 0
        · have HE : Hid (backP l cs os j = c) := Lib.hid (by rw [HBs.out, if_pos ⟨ho, Or.inl hp⟩])
          have hd : decide (pk < 0) = true := decide_eq_true hp
          clear HBs ho HWy
          go_wp2_with fail
          refine wp_region_any (by kernel_rfl) ?_
          change wpAny _ _ _ _ _ _ _ w7.drew
          refine wpAny_take (i := 0) (v := ?_) rfl (by kernel_rfl) (by kernel_rfl) (by kernel_rfl) (fun _ _ _ h => h) (Or.inl ⟨by kernel_rfl, ?_⟩) ?_
          rotate_left
          · intro w; go_simp; try with_reducible rfl
          change wpAny _ _ _ _ _ _ (Act.put _ (some 66) _) _
          refine wpAny_take (i := 2) (v := ?_) rfl (by kernel_rfl) (by kernel_rfl) (by kernel_rfl) (fun _ _ _ h => h) (Or.inl ⟨by kernel_rfl, ?_⟩) ?_
          rotate_left
          · intro w; go_simp; try with_reducible rfl
          change wpAny _ _ _ _ _ _ (Act.put _ (some 68) _) _
          refine wpAny_take (i := 3) (v := ?_) rfl (by kernel_rfl) (by kernel_rfl) (by kernel_rfl) (fun _ _ _ h => h) (Or.inl ⟨by kernel_rfl, ?_⟩) ?_
          rotate_left
          · intro w; go_simp; try with_reducible rfl
          change wpAny _ _ _ _ _ _ (Act.put _ (some 69) _) _
          refine wpAny_take (i := 4) (v := ?_) rfl (by kernel_rfl) (by kernel_rfl) (by kernel_rfl) (fun _ _ _ h => h) (Or.inl ⟨by kernel_rfl, ?_⟩) ?_
          rotate_left
          · intro w; go_simp; try with_reducible rfl
          change wpAny _ _ _ _ _ _ (Act.put _ (some 70) _) _
          refine wpAny_ready (rs := [1, 5]) (by kernel_rfl) (by simp) ?_
          refine AllReady.cons rfl (fun K hK => ?_) ?_
          · go_simp
            refine hK _ _ ?_
            clear hK K
            refine wpAny_ready (rs := [5]) (by kernel_rfl) (by simp) ?_
            refine AllReady.cons rfl (fun K hK => ?_) ?_
            · go_simp
              refine hK _ _ ?_
              clear hK K
              refine wpAny_ready (rs := [6]) (by kernel_rfl) (by simp) ?_
              refine AllReady.cons rfl (fun K hK => ?_) ?_
              · go_simp
                go_wp2_with (go_at_call 21; refine hof.mono ?_; rintro e w8 ⟨rfl, hb8⟩; have e8 := cell_below hb8 e7)
                refine wpAny_take (i := 7) (v := ?_) rfl (by kernel_rfl) (by kernel_rfl) (by kernel_rfl) (fun _ _ _ h => h) (Or.inl ⟨by kernel_rfl, ?_⟩) ?_
                rotate_left
                · intro w; go_simp; try with_reducible rfl
                change wpAny _ _ _ _ _ _ (Act.put _ (some 73) _) _
                refine wpAny_take (i := 8) (v := ?_) rfl (by kernel_rfl) (by kernel_rfl) (by kernel_rfl) (fun _ _ _ h => h) (Or.inl ⟨by kernel_rfl, ?_⟩) ?_
                rotate_left
                · intro w; go_simp; try with_reducible rfl
                change wpAny _ _ _ _ _ _ (Act.put _ (some 74) _) _
                refine wpAny_take (i := 9) (v := ?_) rfl (by kernel_rfl) (by kernel_rfl) (by kernel_rfl) (fun _ _ _ h => h) (Or.inl ⟨by kernel_rfl, ?_⟩) ?_
                rotate_left
                · intro w; go_simp; try with_reducible rfl
                change wpAny _ _ _ _ _ _ (Act.put _ (some 75) _) _
                refine wpAny_take (i := 10) (v := ?_) rfl (by kernel_rfl) (by kernel_rfl) (by kernel_rfl) (fun _ _ _ h => h) (Or.inl ⟨by kernel_rfl, ?_⟩) ?_
                rotate_left
                · intro w; go_simp; try with_reducible rfl
                change wpAny _ _ _ _ _ _ (Act.put _ (some 76) _) _
                refine wpAny_take (i := 11) (v := ?_) rfl (by kernel_rfl) (by kernel_rfl) (by kernel_rfl) (fun _ _ _ h => h) (Or.inl ⟨by kernel_rfl, ?_⟩) ?_
                rotate_left
                · intro w; go_simp; try with_reducible rfl
                change wpAny _ _ _ _ _ _ (Act.put _ (some 77) _) _
                refine wpAny_take (i := 12) (v := undef) rfl (by kernel_rfl) (by kernel_rfl) (by kernel_rfl) (fun _ _ _ h => h) (Or.inr ⟨by kernel_rfl, rfl⟩) ?_
                change wpAny _ _ _ _ _ _ (Act.put _ (some 78) _) _
                refine wpAny_take (i := 13) (v := undef) rfl (by kernel_rfl) (by kernel_rfl) (by kernel_rfl) (fun _ _ _ h => h) (Or.inr ⟨by kernel_rfl, rfl⟩) ?_
                change wpAny _ _ _ _ _ _ (Act.put _ (some 79) _) _
                refine wpAny_take (i := 14) (v := undef) rfl (by kernel_rfl) (by kernel_rfl) (by kernel_rfl) (fun _ _ _ h => h) (Or.inr ⟨by kernel_rfl, rfl⟩) ?_
                change wpAny _ _ _ _ _ _ (Act.put _ (some 80) _) _
                refine wpAny_take (i := 15) (v := undef) rfl (by kernel_rfl) (by kernel_rfl) (by kernel_rfl) (fun _ _ _ h => h) (Or.inr ⟨by kernel_rfl, rfl⟩) ?_
                change wpAny _ _ _ _ _ _ (Act.put _ (some 81) _) _
                refine wpAny_take (i := 16) (v := undef) rfl (by kernel_rfl) (by kernel_rfl) (by kernel_rfl) (fun _ _ _ h => h) (Or.inr ⟨by kernel_rfl, rfl⟩) ?_
                change wpAny _ _ _ _ _ _ (Act.put _ (some 82) _) _
                refine wpAny_take (i := 17) (v := undef) rfl (by kernel_rfl) (by kernel_rfl) (by kernel_rfl) (fun _ _ _ h => h) (Or.inr ⟨by kernel_rfl, rfl⟩) ?_
                change wpAny _ _ _ _ _ _ (Act.put _ (some 83) _) _
                refine wpAny_take (i := 18) (v := ?_) rfl (by kernel_rfl) (by kernel_rfl) (by kernel_rfl) (fun _ _ _ h => h) (Or.inl ⟨by kernel_rfl, ?_⟩) ?_
                rotate_left
                · intro w; go_simp; try with_reducible rfl
                change wpAny _ _ _ _ _ _ (Act.put _ (some 84) _) _
                refine wpAny_take (i := 19) (v := ?_) rfl (by kernel_rfl) (by kernel_rfl) (by kernel_rfl) (fun _ _ _ h => h) (Or.inl ⟨by kernel_rfl, ?_⟩) ?_
                rotate_left
                · intro w; go_simp; try with_reducible rfl
                change wpAny _ _ _ _ _ _ (Act.put _ (some 85) _) _
                refine wpAny_done (by kernel_rfl) ?_ _
                simp only [Act.put, List.setIfInBounds_toArray, List.set_cons_zero, List.set_cons_succ]
                go_wp2_with fail
                go_roundw
                case rel => exact ⟨j, by rw [HE.out], by go_num, by omega, (fun h => absurd rfl h), hg8.out _ hb8⟩
                case measure => simp [RowKit.intOf]
              exact AllReady.nil
            exact AllReady.nil
          refine AllReady.cons rfl (fun K hK => ?_) ?_
          · go_simp
            refine hK _ _ ?_
            clear hK K
            refine wpAny_ready (rs := [1]) (by kernel_rfl) (by simp) ?_
            refine AllReady.cons rfl (fun K hK => ?_) ?_
            · go_simp
              refine hK _ _ ?_
              clear hK K
              refine wpAny_ready (rs := [6]) (by kernel_rfl) (by simp) ?_
              refine AllReady.cons rfl (fun K hK => ?_) ?_
              · go_simp
                go_wp2_with (go_at_call 21; refine hof.mono ?_; rintro e w8 ⟨rfl, hb8⟩; have e8 := cell_below hb8 e7)
                refine wpAny_take (i := 7) (v := ?_) rfl (by kernel_rfl) (by kernel_rfl) (by kernel_rfl) (fun _ _ _ h => h) (Or.inl ⟨by kernel_rfl, ?_⟩) ?_
                rotate_left
                · intro w; go_simp; try with_reducible rfl
                change wpAny _ _ _ _ _ _ (Act.put _ (some 73) _) _
                refine wpAny_take (i := 8) (v := ?_) rfl (by kernel_rfl) (by kernel_rfl) (by kernel_rfl) (fun _ _ _ h => h) (Or.inl ⟨by kernel_rfl, ?_⟩) ?_
                rotate_left
                · intro w; go_simp; try with_reducible rfl
                change wpAny _ _ _ _ _ _ (Act.put _ (some 74) _) _
                refine wpAny_take (i := 9) (v := ?_) rfl (by kernel_rfl) (by kernel_rfl) (by kernel_rfl) (fun _ _ _ h => h) (Or.inl ⟨by kernel_rfl, ?_⟩) ?_
                rotate_left
                · intro w; go_simp; try with_reducible rfl
                change wpAny _ _ _ _ _ _ (Act.put _ (some 75) _) _
                refine wpAny_take (i := 10) (v := ?_) rfl (by kernel_rfl) (by kernel_rfl) (by kernel_rfl) (fun _ _ _ h => h) (Or.inl ⟨by kernel_rfl, ?_⟩) ?_
                rotate_left
                · intro w; go_simp; try with_reducible rfl
                change wpAny _ _ _ _ _ _ (Act.put _ (some 76) _) _
                refine wpAny_take (i := 11) (v := ?_) rfl (by kernel_rfl) (by kernel_rfl) (by kernel_rfl) (fun _ _ _ h => h) (Or.inl ⟨by kernel_rfl, ?_⟩) ?_
                rotate_left
                · intro w; go_simp; try with_reducible rfl
                change wpAny _ _ _ _ _ _ (Act.put _ (some 77) _) _
                refine wpAny_take (i := 12) (v := undef) rfl (by kernel_rfl) (by kernel_rfl) (by kernel_rfl) (fun _ _ _ h => h) (Or.inr ⟨by kernel_rfl, rfl⟩) ?_
                change wpAny _ _ _ _ _ _ (Act.put _ (some 78) _) _
                refine wpAny_take (i := 13) (v := undef) rfl (by kernel_rfl) (by kernel_rfl) (by kernel_rfl) (fun _ _ _ h => h) (Or.inr ⟨by kernel_rfl, rfl⟩) ?_
                change wpAny _ _ _ _ _ _ (Act.put _ (some 79) _) _
                refine wpAny_take (i := 14) (v := undef) rfl (by kernel_rfl) (by kernel_rfl) (by kernel_rfl) (fun _ _ _ h => h) (Or.inr ⟨by kernel_rfl, rfl⟩) ?_
                change wpAny _ _ _ _ _ _ (Act.put _ (some 80) _) _
                refine wpAny_take (i := 15) (v := undef) rfl (by kernel_rfl) (by kernel_rfl) (by kernel_rfl) (fun _ _ _ h => h) (Or.inr ⟨by kernel_rfl, rfl⟩) ?_
                change wpAny _ _ _ _ _ _ (Act.put _ (some 81) _) _
                refine wpAny_take (i := 16) (v := undef) rfl (by kernel_rfl) (by kernel_rfl) (by kernel_rfl) (fun _ _ _ h => h) (Or.inr ⟨by kernel_rfl, rfl⟩) ?_
                change wpAny _ _ _ _ _ _ (Act.put _ (some 82) _) _
                refine wpAny_take (i := 17) (v := undef) rfl (by kernel_rfl) (by kernel_rfl) (by kernel_rfl) (fun _ _ _ h => h) (Or.inr ⟨by kernel_rfl, rfl⟩) ?_
                change wpAny _ _ _ _ _ _ (Act.put _ (some 83) _) _
                refine wpAny_take (i := 18) (v := ?_) rfl (by kernel_rfl) (by kernel_rfl) (by kernel_rfl) (fun _ _ _ h => h) (Or.inl ⟨by kernel_rfl, ?_⟩) ?_
                rotate_left
                · intro w; go_simp; try with_reducible rfl
                change wpAny _ _ _ _ _ _ (Act.put _ (some 84) _) _
                refine wpAny_take (i := 19) (v := ?_) rfl (by kernel_rfl) (by kernel_rfl) (by kernel_rfl) (fun _ _ _ h => h) (Or.inl ⟨by kernel_rfl, ?_⟩) ?_
                rotate_left
                · intro w; go_simp; try with_reducible rfl
                change wpAny _ _ _ _ _ _ (Act.put _ (some 85) _) _
                refine wpAny_done (by kernel_rfl) ?_ _
                simp only [Act.put, List.setIfInBounds_toArray, List.set_cons_zero, List.set_cons_succ]
                go_wp2_with fail
                go_roundw
                case rel => exact ⟨j, by rw [HE.out], by go_num, by omega, (fun h => absurd rfl h), hg8.out _ hb8⟩
                case measure => simp [RowKit.intOf]
              exact AllReady.nil
            exact AllReady.nil
          exact AllReady.nil
        · have hin : pk ∈ os := by
            rcases HWy.out with h | h
            · exact absurd h hp
            · exact h
          have hlo := HF.out.low pk hin
          have hhi := HF.out.high pk hin
          obtain ⟨pn, rfl⟩ : ∃ pn : Nat, pk = (pn : Int) := ⟨pk.toNat, by omega⟩
          have hpc : pn < cs.length := by omega
          have hd : decide ((pn : Int) < 0) = false := decide_eq_false hp
          have HC6 := Lib.hid (fun wq hq => HO7.out wq hq pn hpc)
          have hdr : Below w7.drew.heap.size w7.drew w7.drew := Below.refl _ _
          cases hsb : selB cs (pn : Int)
          case false =>
            rw [hsb] at HC6
            have HE : Hid (backP l cs os j = c) := Lib.hid (by rw [HBs.out, if_pos ⟨ho, Or.inr hsb⟩])
            clear HBs ho HWy hsb hin hp
            go_wp2_with fail
            refine wp_region_any (by kernel_rfl) ?_
            change wpAny _ _ _ _ _ _ _ w7.drew
            refine wpAny_take (i := 0) (v := ?_) rfl (by kernel_rfl) (by kernel_rfl) (by kernel_rfl) (fun _ _ _ h => h) (Or.inl ⟨by kernel_rfl, ?_⟩) ?_
            rotate_left
            · intro w; go_simp; try with_reducible rfl
            change wpAny _ _ _ _ _ _ (Act.put _ (some 66) _) _
            refine wpAny_take (i := 2) (v := ?_) rfl (by kernel_rfl) (by kernel_rfl) (by kernel_rfl) (fun _ _ _ h => h) (Or.inl ⟨by kernel_rfl, ?_⟩) ?_
            rotate_left
            · intro w; go_simp; try with_reducible rfl
            change wpAny _ _ _ _ _ _ (Act.put _ (some 68) _) _
            refine wpAny_take (i := 3) (v := ?_) rfl (by kernel_rfl) (by kernel_rfl) (by kernel_rfl) (fun _ _ _ h => h) (Or.inl ⟨by kernel_rfl, ?_⟩) ?_
            rotate_left
            · intro w; go_simp; try with_reducible rfl
            change wpAny _ _ _ _ _ _ (Act.put _ (some 69) _) _
            refine wpAny_take (i := 4) (v := ?_) rfl (by kernel_rfl) (by kernel_rfl) (by kernel_rfl) (fun _ _ _ h => h) (Or.inl ⟨by kernel_rfl, ?_⟩) ?_
            rotate_left
            · intro w; go_simp; try with_reducible rfl
            change wpAny _ _ _ _ _ _ (Act.put _ (some 70) _) _
            refine wpAny_ready (rs := [1, 5]) (by kernel_rfl) (by simp) ?_
            refine AllReady.cons rfl (fun K hK => ?_) ?_
            · go_simp
              refine hK _ _ ?_
              clear hK K
              refine wpAny_ready (rs := [5]) (by kernel_rfl) (by simp) ?_
              refine AllReady.cons rfl (fun K hK => ?_) ?_
              · go_simp
                refine hK _ _ ?_
                clear hK K
                refine wpAny_ready (rs := [6]) (by kernel_rfl) (by simp) ?_
                refine AllReady.cons rfl (fun K hK => ?_) ?_
                · go_simp
                  go_wp2_with (go_at_call 21; refine hof.mono ?_; rintro e w8 ⟨rfl, hb8⟩; have e8 := cell_below hb8 e7; have c68 := HC6.out w8 hb8)
                  refine wpAny_take (i := 7) (v := ?_) rfl (by kernel_rfl) (by kernel_rfl) (by kernel_rfl) (fun _ _ _ h => h) (Or.inl ⟨by kernel_rfl, ?_⟩) ?_
                  rotate_left
                  · intro w; go_simp; try with_reducible rfl
                  change wpAny _ _ _ _ _ _ (Act.put _ (some 73) _) _
                  refine wpAny_take (i := 8) (v := ?_) rfl (by kernel_rfl) (by kernel_rfl) (by kernel_rfl) (fun _ _ _ h => h) (Or.inl ⟨by kernel_rfl, ?_⟩) ?_
                  rotate_left
                  · intro w; go_simp; try with_reducible rfl
                  change wpAny _ _ _ _ _ _ (Act.put _ (some 74) _) _
                  refine wpAny_take (i := 9) (v := ?_) rfl (by kernel_rfl) (by kernel_rfl) (by kernel_rfl) (fun _ _ _ h => h) (Or.inl ⟨by kernel_rfl, ?_⟩) ?_
                  rotate_left
                  · intro w; go_simp; try with_reducible rfl
                  change wpAny _ _ _ _ _ _ (Act.put _ (some 75) _) _
                  refine wpAny_take (i := 10) (v := ?_) rfl (by kernel_rfl) (by kernel_rfl) (by kernel_rfl) (fun _ _ _ h => h) (Or.inl ⟨by kernel_rfl, ?_⟩) ?_
                  rotate_left
                  · intro w; go_simp; try with_reducible rfl
                  change wpAny _ _ _ _ _ _ (Act.put _ (some 76) _) _
                  refine wpAny_take (i := 11) (v := ?_) rfl (by kernel_rfl) (by kernel_rfl) (by kernel_rfl) (fun _ _ _ h => h) (Or.inl ⟨by kernel_rfl, ?_⟩) ?_
                  rotate_left
                  · intro w; go_simp; try with_reducible rfl
                  change wpAny _ _ _ _ _ _ (Act.put _ (some 77) _) _
                  refine wpAny_take (i := 12) (v := ?_) rfl (by kernel_rfl) (by kernel_rfl) (by kernel_rfl) (fun _ _ _ h => h) (Or.inl ⟨by kernel_rfl, ?_⟩) ?_
                  rotate_left
                  · intro w; go_simp; try with_reducible rfl
                  change wpAny _ _ _ _ _ _ (Act.put _ (some 78) _) _
                  refine wpAny_take (i := 13) (v := ?_) rfl (by kernel_rfl) (by kernel_rfl) (by kernel_rfl) (fun _ _ _ h => h) (Or.inl ⟨by kernel_rfl, ?_⟩) ?_
                  rotate_left
                  · intro w; go_simp; try with_reducible rfl
                  change wpAny _ _ _ _ _ _ (Act.put _ (some 79) _) _
                  refine wpAny_take (i := 14) (v := ?_) rfl (by kernel_rfl) (by kernel_rfl) (by kernel_rfl) (fun _ _ _ h => h) (Or.inl ⟨by kernel_rfl, ?_⟩) ?_
                  rotate_left
                  · intro w; go_simp; try with_reducible rfl
                  change wpAny _ _ _ _ _ _ (Act.put _ (some 80) _) _
                  refine wpAny_take (i := 15) (v := ?_) rfl (by kernel_rfl) (by kernel_rfl) (by kernel_rfl) (fun _ _ _ h => h) (Or.inl ⟨by kernel_rfl, ?_⟩) ?_
                  rotate_left
                  · intro w; go_simp; try with_reducible rfl
                  change wpAny _ _ _ _ _ _ (Act.put _ (some 81) _) _
                  refine wpAny_ready (rs := [16]) (by kernel_rfl) (by simp) ?_
                  refine AllReady.cons rfl (fun K hK => ?_) ?_
                  · go_simp
                    refine hK _ _ ?_
                    clear hK K
                    refine wpAny_take (i := 17) (v := ?_) rfl (by kernel_rfl) (by kernel_rfl) (by kernel_rfl) (fun _ _ _ h => h) (Or.inl ⟨by kernel_rfl, ?_⟩) ?_
                    rotate_left
                    · intro w; go_simp; try with_reducible rfl
                    change wpAny _ _ _ _ _ _ (Act.put _ (some 83) _) _
                    refine wpAny_take (i := 18) (v := ?_) rfl (by kernel_rfl) (by kernel_rfl) (by kernel_rfl) (fun _ _ _ h => h) (Or.inl ⟨by kernel_rfl, ?_⟩) ?_
                    rotate_left
                    · intro w; go_simp; try with_reducible rfl
                    change wpAny _ _ _ _ _ _ (Act.put _ (some 84) _) _
                    refine wpAny_take (i := 19) (v := ?_) rfl (by kernel_rfl) (by kernel_rfl) (by kernel_rfl) (fun _ _ _ h => h) (Or.inl ⟨by kernel_rfl, ?_⟩) ?_
                    rotate_left
                    · intro w; go_simp; try with_reducible rfl
                    change wpAny _ _ _ _ _ _ (Act.put _ (some 85) _) _
                    refine wpAny_done (by kernel_rfl) ?_ _
                    simp only [Act.put, List.setIfInBounds_toArray, List.set_cons_zero, List.set_cons_succ]
                    go_wp2_with fail
                    go_roundw
                    case rel => exact ⟨j, by rw [HE.out], by go_num, by omega, (fun h => absurd rfl h), hg8.out _ hb8⟩
                    case measure => simp [RowKit.intOf]
                  exact AllReady.nil
                exact AllReady.nil
              exact AllReady.nil
            refine AllReady.cons rfl (fun K hK => ?_) ?_
            · go_simp
              refine hK _ _ ?_
              clear hK K
              refine wpAny_ready (rs := [1]) (by kernel_rfl) (by simp) ?_
              refine AllReady.cons rfl (fun K hK => ?_) ?_
              · go_simp
                refine hK _ _ ?_
                clear hK K
                refine wpAny_ready (rs := [6]) (by kernel_rfl) (by simp) ?_
                refine AllReady.cons rfl (fun K hK => ?_) ?_
                · go_simp
                  go_wp2_with (go_at_call 21; refine hof.mono ?_; rintro e w8 ⟨rfl, hb8⟩; have e8 := cell_below hb8 e7; have c68 := HC6.out w8 hb8)
                  refine wpAny_take (i := 7) (v := ?_) rfl (by kernel_rfl) (by kernel_rfl) (by kernel_rfl) (fun _ _ _ h => h) (Or.inl ⟨by kernel_rfl, ?_⟩) ?_
                  rotate_left
                  · intro w; go_simp; try with_reducible rfl
                  change wpAny _ _ _ _ _ _ (Act.put _ (some 73) _) _
                  refine wpAny_take (i := 8) (v := ?_) rfl (by kernel_rfl) (by kernel_rfl) (by kernel_rfl) (fun _ _ _ h => h) (Or.inl ⟨by kernel_rfl, ?_⟩) ?_
                  rotate_left
                  · intro w; go_simp; try with_reducible rfl
                  change wpAny _ _ _ _ _ _ (Act.put _ (some 74) _) _
                  refine wpAny_take (i := 9) (v := ?_) rfl (by kernel_rfl) (by kernel_rfl) (by kernel_rfl) (fun _ _ _ h => h) (Or.inl ⟨by kernel_rfl, ?_⟩) ?_
                  rotate_left
                  · intro w; go_simp; try with_reducible rfl
                  change wpAny _ _ _ _ _ _ (Act.put _ (some 75) _) _
                  refine wpAny_take (i := 10) (v := ?_) rfl (by kernel_rfl) (by kernel_rfl) (by kernel_rfl) (fun _ _ _ h => h) (Or.inl ⟨by kernel_rfl, ?_⟩) ?_
                  rotate_left
                  · intro w; go_simp; try with_reducible rfl
                  change wpAny _ _ _ _ _ _ (Act.put _ (some 76) _) _
                  refine wpAny_take (i := 11) (v := ?_) rfl (by kernel_rfl) (by kernel_rfl) (by kernel_rfl) (fun _ _ _ h => h) (Or.inl ⟨by kernel_rfl, ?_⟩) ?_
                  rotate_left
                  · intro w; go_simp; try with_reducible rfl
                  change wpAny _ _ _ _ _ _ (Act.put _ (some 77) _) _
                  refine wpAny_take (i := 12) (v := ?_) rfl (by kernel_rfl) (by kernel_rfl) (by kernel_rfl) (fun _ _ _ h => h) (Or.inl ⟨by kernel_rfl, ?_⟩) ?_
                  rotate_left
                  · intro w; go_simp; try with_reducible rfl
                  change wpAny _ _ _ _ _ _ (Act.put _ (some 78) _) _
                  refine wpAny_take (i := 13) (v := ?_) rfl (by kernel_rfl) (by kernel_rfl) (by kernel_rfl) (fun _ _ _ h => h) (Or.inl ⟨by kernel_rfl, ?_⟩) ?_
                  rotate_left
                  · intro w; go_simp; try with_reducible rfl
                  change wpAny _ _ _ _ _ _ (Act.put _ (some 79) _) _
                  refine wpAny_take (i := 14) (v := ?_) rfl (by kernel_rfl) (by kernel_rfl) (by kernel_rfl) (fun _ _ _ h => h) (Or.inl ⟨by kernel_rfl, ?_⟩) ?_
                  rotate_left
                  · intro w; go_simp; try with_reducible rfl
                  change wpAny _ _ _ _ _ _ (Act.put _ (some 80) _) _
                  refine wpAny_take (i := 15) (v := ?_) rfl (by kernel_rfl) (by kernel_rfl) (by kernel_rfl) (fun _ _ _ h => h) (Or.inl ⟨by kernel_rfl, ?_⟩) ?_
                  rotate_left
                  · intro w; go_simp; try with_reducible rfl
                  change wpAny _ _ _ _ _ _ (Act.put _ (some 81) _) _
                  refine wpAny_ready (rs := [16]) (by kernel_rfl) (by simp) ?_
                  refine AllReady.cons rfl (fun K hK => ?_) ?_
                  · go_simp
                    refine hK _ _ ?_
                    clear hK K
                    refine wpAny_take (i := 17) (v := ?_) rfl (by kernel_rfl) (by kernel_rfl) (by kernel_rfl) (fun _ _ _ h => h) (Or.inl ⟨by kernel_rfl, ?_⟩) ?_
                    rotate_left
                    · intro w; go_simp; try with_reducible rfl
                    change wpAny _ _ _ _ _ _ (Act.put _ (some 83) _) _
                    refine wpAny_take (i := 18) (v := ?_) rfl (by kernel_rfl) (by kernel_rfl) (by kernel_rfl) (fun _ _ _ h => h) (Or.inl ⟨by kernel_rfl, ?_⟩) ?_
                    rotate_left
                    · intro w; go_simp; try with_reducible rfl
                    change wpAny _ _ _ _ _ _ (Act.put _ (some 84) _) _
                    refine wpAny_take (i := 19) (v := ?_) rfl (by kernel_rfl) (by kernel_rfl) (by kernel_rfl) (fun _ _ _ h => h) (Or.inl ⟨by kernel_rfl, ?_⟩) ?_
                    rotate_left
                    · intro w; go_simp; try with_reducible rfl
                    change wpAny _ _ _ _ _ _ (Act.put _ (some 85) _) _
                    refine wpAny_done (by kernel_rfl) ?_ _
                    simp only [Act.put, List.setIfInBounds_toArray, List.set_cons_zero, List.set_cons_succ]
                    go_wp2_with fail
                    go_roundw
                    case rel => exact ⟨j, by rw [HE.out], by go_num, by omega, (fun h => absurd rfl h), hg8.out _ hb8⟩
                    case measure => simp [RowKit.intOf]
                  exact AllReady.nil
                exact AllReady.nil
              exact AllReady.nil
            exact AllReady.nil
          case true =>
            rw [hsb] at HC6
            have HE : Hid (backP l cs os j = (pn : Int)) := Lib.hid (by rw [HBs.out, if_neg (by rintro ⟨_, h | h⟩; omega; rw [hsb] at h; cases h)])
            clear HBs ho HWy hsb hin hp
            go_wp2_with fail
            refine wp_region_any (by kernel_rfl) ?_
            change wpAny _ _ _ _ _ _ _ w7.drew
            refine wpAny_take (i := 0) (v := ?_) rfl (by kernel_rfl) (by kernel_rfl) (by kernel_rfl) (fun _ _ _ h => h) (Or.inl ⟨by kernel_rfl, ?_⟩) ?_
            rotate_left
            · intro w; go_simp; try with_reducible rfl
            change wpAny _ _ _ _ _ _ (Act.put _ (some 66) _) _
            refine wpAny_take (i := 2) (v := ?_) rfl (by kernel_rfl) (by kernel_rfl) (by kernel_rfl) (fun _ _ _ h => h) (Or.inl ⟨by kernel_rfl, ?_⟩) ?_
            rotate_left
            · intro w; go_simp; try with_reducible rfl
            change wpAny _ _ _ _ _ _ (Act.put _ (some 68) _) _
            refine wpAny_take (i := 3) (v := ?_) rfl (by kernel_rfl) (by kernel_rfl) (by kernel_rfl) (fun _ _ _ h => h) (Or.inl ⟨by kernel_rfl, ?_⟩) ?_
            rotate_left
            · intro w; go_simp; try with_reducible rfl
            change wpAny _ _ _ _ _ _ (Act.put _ (some 69) _) _
            refine wpAny_take (i := 4) (v := ?_) rfl (by kernel_rfl) (by kernel_rfl) (by kernel_rfl) (fun _ _ _ h => h) (Or.inl ⟨by kernel_rfl, ?_⟩) ?_
            rotate_left
            · intro w; go_simp; try with_reducible rfl
            change wpAny _ _ _ _ _ _ (Act.put _ (some 70) _) _
            refine wpAny_ready (rs := [1, 5]) (by kernel_rfl) (by simp) ?_
            refine AllReady.cons rfl (fun K hK => ?_) ?_
            · go_simp
              refine hK _ _ ?_
              clear hK K
              refine wpAny_ready (rs := [5]) (by kernel_rfl) (by simp) ?_
              refine AllReady.cons rfl (fun K hK => ?_) ?_
              · go_simp
                refine hK _ _ ?_
                clear hK K
                refine wpAny_ready (rs := [6]) (by kernel_rfl) (by simp) ?_
                refine AllReady.cons rfl (fun K hK => ?_) ?_
                · go_simp
                  go_wp2_with (go_at_call 21; refine hof.mono ?_; rintro e w8 ⟨rfl, hb8⟩; have e8 := cell_below hb8 e7; have c68 := HC6.out w8 hb8)
                  refine wpAny_take (i := 7) (v := ?_) rfl (by kernel_rfl) (by kernel_rfl) (by kernel_rfl) (fun _ _ _ h => h) (Or.inl ⟨by kernel_rfl, ?_⟩) ?_
                  rotate_left
                  · intro w; go_simp; try with_reducible rfl
                  change wpAny _ _ _ _ _ _ (Act.put _ (some 73) _) _
                  refine wpAny_take (i := 8) (v := ?_) rfl (by kernel_rfl) (by kernel_rfl) (by kernel_rfl) (fun _ _ _ h => h) (Or.inl ⟨by kernel_rfl, ?_⟩) ?_
                  rotate_left
                  · intro w; go_simp; try with_reducible rfl
                  change wpAny _ _ _ _ _ _ (Act.put _ (some 74) _) _
                  refine wpAny_take (i := 9) (v := ?_) rfl (by kernel_rfl) (by kernel_rfl) (by kernel_rfl) (fun _ _ _ h => h) (Or.inl ⟨by kernel_rfl, ?_⟩) ?_
                  rotate_left
                  · intro w; go_simp; try with_reducible rfl
                  change wpAny _ _ _ _ _ _ (Act.put _ (some 75) _) _
                  refine wpAny_take (i := 10) (v := ?_) rfl (by kernel_rfl) (by kernel_rfl) (by kernel_rfl) (fun _ _ _ h => h) (Or.inl ⟨by kernel_rfl, ?_⟩) ?_
                  rotate_left
                  · intro w; go_simp; try with_reducible rfl
                  change wpAny _ _ _ _ _ _ (Act.put _ (some 76) _) _
                  refine wpAny_take (i := 11) (v := ?_) rfl (by kernel_rfl) (by kernel_rfl) (by kernel_rfl) (fun _ _ _ h => h) (Or.inl ⟨by kernel_rfl, ?_⟩) ?_
                  rotate_left
                  · intro w; go_simp; try with_reducible rfl
                  change wpAny _ _ _ _ _ _ (Act.put _ (some 77) _) _
                  refine wpAny_take (i := 12) (v := ?_) rfl (by kernel_rfl) (by kernel_rfl) (by kernel_rfl) (fun _ _ _ h => h) (Or.inl ⟨by kernel_rfl, ?_⟩) ?_
                  rotate_left
                  · intro w; go_simp; try with_reducible rfl
                  change wpAny _ _ _ _ _ _ (Act.put _ (some 78) _) _
                  refine wpAny_take (i := 13) (v := ?_) rfl (by kernel_rfl) (by kernel_rfl) (by kernel_rfl) (fun _ _ _ h => h) (Or.inl ⟨by kernel_rfl, ?_⟩) ?_
                  rotate_left
                  · intro w; go_simp; try with_reducible rfl
                  change wpAny _ _ _ _ _ _ (Act.put _ (some 79) _) _
                  refine wpAny_take (i := 14) (v := ?_) rfl (by kernel_rfl) (by kernel_rfl) (by kernel_rfl) (fun _ _ _ h => h) (Or.inl ⟨by kernel_rfl, ?_⟩) ?_
                  rotate_left
                  · intro w; go_simp; try with_reducible rfl
                  change wpAny _ _ _ _ _ _ (Act.put _ (some 80) _) _
                  refine wpAny_take (i := 15) (v := ?_) rfl (by kernel_rfl) (by kernel_rfl) (by kernel_rfl) (fun _ _ _ h => h) (Or.inl ⟨by kernel_rfl, ?_⟩) ?_
                  rotate_left
                  · intro w; go_simp; try with_reducible rfl
                  change wpAny _ _ _ _ _ _ (Act.put _ (some 81) _) _
                  refine wpAny_ready (rs := [16]) (by kernel_rfl) (by simp) ?_
                  refine AllReady.cons rfl (fun K hK => ?_) ?_
                  · go_simp
                    refine hK _ _ ?_
                    clear hK K
                    refine wpAny_take (i := 17) (v := ?_) rfl (by kernel_rfl) (by kernel_rfl) (by kernel_rfl) (fun _ _ _ h => h) (Or.inl ⟨by kernel_rfl, ?_⟩) ?_
                    rotate_left
                    · intro w; go_simp; try with_reducible rfl
                    change wpAny _ _ _ _ _ _ (Act.put _ (some 83) _) _
                    refine wpAny_take (i := 18) (v := ?_) rfl (by kernel_rfl) (by kernel_rfl) (by kernel_rfl) (fun _ _ _ h => h) (Or.inl ⟨by kernel_rfl, ?_⟩) ?_
                    rotate_left
                    · intro w; go_simp; try with_reducible rfl
                    change wpAny _ _ _ _ _ _ (Act.put _ (some 84) _) _
                    refine wpAny_take (i := 19) (v := ?_) rfl (by kernel_rfl) (by kernel_rfl) (by kernel_rfl) (fun _ _ _ h => h) (Or.inl ⟨by kernel_rfl, ?_⟩) ?_
                    rotate_left
                    · intro w; go_simp; try with_reducible rfl
                    change wpAny _ _ _ _ _ _ (Act.put _ (some 85) _) _
                    refine wpAny_done (by kernel_rfl) ?_ _
                    simp only [Act.put, List.setIfInBounds_toArray, List.set_cons_zero, List.set_cons_succ]
                    go_wp2_with fail
                    go_roundw
                    case rel => exact ⟨j, by rw [HE.out], by go_num, by omega, (fun h => absurd rfl h), hg8.out _ hb8⟩
                    case measure => simp [RowKit.intOf]
                  exact AllReady.nil
                exact AllReady.nil
              exact AllReady.nil
            refine AllReady.cons rfl (fun K hK => ?_) ?_
            · go_simp
              refine hK _ _ ?_
              clear hK K
              refine wpAny_ready (rs := [1]) (by kernel_rfl) (by simp) ?_
              refine AllReady.cons rfl (fun K hK => ?_) ?_
              · go_simp
                refine hK _ _ ?_
                clear hK K
                refine wpAny_ready (rs := [6]) (by kernel_rfl) (by simp) ?_
                refine AllReady.cons rfl (fun K hK => ?_) ?_
                · go_simp
                  go_wp2_with (go_at_call 21; refine hof.mono ?_; rintro e w8 ⟨rfl, hb8⟩; have e8 := cell_below hb8 e7; have c68 := HC6.out w8 hb8)
                  refine wpAny_take (i := 7) (v := ?_) rfl (by kernel_rfl) (by kernel_rfl) (by kernel_rfl) (fun _ _ _ h => h) (Or.inl ⟨by kernel_rfl, ?_⟩) ?_
                  rotate_left
                  · intro w; go_simp; try with_reducible rfl
                  change wpAny _ _ _ _ _ _ (Act.put _ (some 73) _) _
                  refine wpAny_take (i := 8) (v := ?_) rfl (by kernel_rfl) (by kernel_rfl) (by kernel_rfl) (fun _ _ _ h => h) (Or.inl ⟨by kernel_rfl, ?_⟩) ?_
                  rotate_left
                  · intro w; go_simp; try with_reducible rfl
                  change wpAny _ _ _ _ _ _ (Act.put _ (some 74) _) _
                  refine wpAny_take (i := 9) (v := ?_) rfl (by kernel_rfl) (by kernel_rfl) (by kernel_rfl) (fun _ _ _ h => h) (Or.inl ⟨by kernel_rfl, ?_⟩) ?_
                  rotate_left
                  · intro w; go_simp; try with_reducible rfl
                  change wpAny _ _ _ _ _ _ (Act.put _ (some 75) _) _
                  refine wpAny_take (i := 10) (v := ?_) rfl (by kernel_rfl) (by kernel_rfl) (by kernel_rfl) (fun _ _ _ h => h) (Or.inl ⟨by kernel_rfl, ?_⟩) ?_
                  rotate_left
                  · intro w; go_simp; try with_reducible rfl
                  change wpAny _ _ _ _ _ _ (Act.put _ (some 76) _) _
                  refine wpAny_take (i := 11) (v := ?_) rfl (by kernel_rfl) (by kernel_rfl) (by kernel_rfl) (fun _ _ _ h => h) (Or.inl ⟨by kernel_rfl, ?_⟩) ?_
                  rotate_left
                  · intro w; go_simp; try with_reducible rfl
                  change wpAny _ _ _ _ _ _ (Act.put _ (some 77) _) _
                  refine wpAny_take (i := 12) (v := ?_) rfl (by kernel_rfl) (by kernel_rfl) (by kernel_rfl) (fun _ _ _ h => h) (Or.inl ⟨by kernel_rfl, ?_⟩) ?_
                  rotate_left
                  · intro w; go_simp; try with_reducible rfl
                  change wpAny _ _ _ _ _ _ (Act.put _ (some 78) _) _
                  refine wpAny_take (i := 13) (v := ?_) rfl (by kernel_rfl) (by kernel_rfl) (by kernel_rfl) (fun _ _ _ h => h) (Or.inl ⟨by kernel_rfl, ?_⟩) ?_
                  rotate_left
                  · intro w; go_simp; try with_reducible rfl
                  change wpAny _ _ _ _ _ _ (Act.put _ (some 79) _) _
                  refine wpAny_take (i := 14) (v := ?_) rfl (by kernel_rfl) (by kernel_rfl) (by kernel_rfl) (fun _ _ _ h => h) (Or.inl ⟨by kernel_rfl, ?_⟩) ?_
                  rotate_left
                  · intro w; go_simp; try with_reducible rfl
                  change wpAny _ _ _ _ _ _ (Act.put _ (some 80) _) _
                  refine wpAny_take (i := 15) (v := ?_) rfl (by kernel_rfl) (by kernel_rfl) (by kernel_rfl) (fun _ _ _ h => h) (Or.inl ⟨by kernel_rfl, ?_⟩) ?_
                  rotate_left
                  · intro w; go_simp; try with_reducible rfl
                  change wpAny _ _ _ _ _ _ (Act.put _ (some 81) _) _
                  refine wpAny_ready (rs := [16]) (by kernel_rfl) (by simp) ?_
                  refine AllReady.cons rfl (fun K hK => ?_) ?_
                  · go_simp
                    refine hK _ _ ?_
                    clear hK K
                    refine wpAny_take (i := 17) (v := ?_) rfl (by kernel_rfl) (by kernel_rfl) (by kernel_rfl) (fun _ _ _ h => h) (Or.inl ⟨by kernel_rfl, ?_⟩) ?_
                    rotate_left
                    · intro w; go_simp; try with_reducible rfl
                    change wpAny _ _ _ _ _ _ (Act.put _ (some 83) _) _
                    refine wpAny_take (i := 18) (v := ?_) rfl (by kernel_rfl) (by kernel_rfl) (by kernel_rfl) (fun _ _ _ h => h) (Or.inl ⟨by kernel_rfl, ?_⟩) ?_
                    rotate_left
                    · intro w; go_simp; try with_reducible rfl
                    change wpAny _ _ _ _ _ _ (Act.put _ (some 84) _) _
                    refine wpAny_take (i := 19) (v := ?_) rfl (by kernel_rfl) (by kernel_rfl) (by kernel_rfl) (fun _ _ _ h => h) (Or.inl ⟨by kernel_rfl, ?_⟩) ?_
                    rotate_left
                    · intro w; go_simp; try with_reducible rfl
                    change wpAny _ _ _ _ _ _ (Act.put _ (some 85) _) _
                    refine wpAny_done (by kernel_rfl) ?_ _
                    simp only [Act.put, List.setIfInBounds_toArray, List.set_cons_zero, List.set_cons_succ]
                    go_wp2_with fail
                    go_roundw
                    case rel => exact ⟨j, by rw [HE.out], by go_num, by omega, (fun h => absurd rfl h), hg8.out _ hb8⟩
                    case measure => simp [RowKit.intOf]
                  exact AllReady.nil
                exact AllReady.nil
              exact AllReady.nil
            exact AllReady.nil
end Go.Proofs.YtoajgfhcongocaaGreatDoor.doc

namespace Go.Proofs.YtoajgfhcongocaaGreatDoor.doc
open Go.ChangeShapes Go.WideShapes Go.ChangeAt Go.RowKit Go.Lib Go.Proofs.YtoajgfhcongocaaGreatDoor.atr Go.Proofs.YtoajgfhcongocaaGreatDoor.link Go.Proofs.YtoajgfhcongocaaGreatDoor.ctl

theorem resetP_list (l : List Nd) (cs : List Ctl) (k : Int) (hq : docR l cs = true) : resetP l cs k = FixP l (mapOn (resetG l) cs (listP l k)) k := by
  unfold resetP FixP listP
  rw [docR_len l _ cs (mapOn_len _ _ _), hq]
  cases h : isP l k 23
  · rw [if_pos rfl, if_neg (by simp), if_pos rfl, if_neg (by simp), if_neg (by simp), mapOn_nil]
  · rw [if_pos rfl, if_pos rfl, if_pos rfl, if_pos rfl, if_pos rfl]
theorem mapOn_files (G : Int → Ctl → Ctl) (hG : ∀ k c, (G k c).files = c.files) (cs : List Ctl) (os : List Int) (P : List Ent → Prop) (h : ∀ c ∈ cs, P c.files) : ∀ c ∈ mapOn G cs os, P c.files := by
  intro c hc
  have hm : c.files ∈ (mapOn G cs os).map (·.files) := List.mem_map.2 ⟨c, hc, rfl⟩
  rw [files_mapOn G hG] at hm
  obtain ⟨d, hd, e⟩ := List.mem_map.1 hm
  rw [← e]; exact h d hd

set_option maxHeartbeats 3200000 in
set_option maxRecDepth 100000 in
theorem rreset_any (vn vc : Value) (l : List Nd) (cs : List Ctl) (k : Int) (w : World) (hD : DocAt w vn vc l cs) :
    Calls Tryz.prog 15 #[.agg #[vn, vc], .int .i64 k] w (RetS (resetP l cs k) w) := by
  obtain ⟨oa, ca, rfl⟩ := NodesAt.lenN hD.nodes
  obtain ⟨oc, cc, rfl⟩ := CtlsAt.lenN hD.ctls
  obtain ⟨wA, hwA⟩ : ∃ wA, wA = w.alloc (.cells #[.slice oa l.length ca, .slice oc cs.length cc] 25) := ⟨_, rfl⟩
  have hB1 : Below w.heap.size w wA := by rw [hwA]; exact (Below.refl _ w).alloc (Nat.le_refl _) _
  have f0 : wA.cell? ⟨w.heap.size, 0, none⟩ = some (.slice oa l.length ca) := by rw [hwA]; exact World.cell?_alloc_new w _ _ 0
  have f1 : wA.cell? ⟨w.heap.size, 1, none⟩ = some (.slice oc cs.length cc) := by rw [hwA]; exact World.cell?_alloc_new w _ _ 1
  have hr := rdocright_any (.slice oa l.length ca) l hD.fine oc cs.length cc wA (hD.nodes.below hB1)
  rw [show (decide (l.length = cs.length) && rightB l) = docR l cs from rfl] at hr
  cases hq : docR l cs
  · rw [hq] at hr
    have HE : Hid (resetP l cs k = []) := Lib.hid (by unfold resetP; rw [if_neg (by rw [hq]; simp)])
    rw [HE.out]
    clear hD hq f0 f1
    subst hwA
    go_enter Tryz.func15, Tryz.ntmps15
    go_wp2_with fail
    refine hr.mono ?_
    rintro e w1 ⟨rfl, hb1⟩
    go_wp2_with fail
    go_ret
    exact ⟨_, [], rfl, OwnC.nil _ _, below_trans hB1 hb1⟩
  obtain ⟨hlc, hR⟩ := (docR_iff l cs).1 hq
  rw [hq] at hr
  have HX := Lib.hid (resetP_list l cs k hq)
  have HL := Lib.hid (fun w' h => rlist_any (.slice oa l.length ca) l hD.fine k w' (hD.nodes.below (w' := w') h))
  have HM := Lib.hid (fun o (ho : o ∈ listP l k) => list_mem ho)
  have HC := Lib.hid (fun w' h => rcopiedC_any (.slice oc cs.length cc) cs hD.cb w' (hD.ctls.below (w' := w') h))
  have HF := Lib.hid (list_fine cs hlc k)
  have hol := list_le l k
  have HD := Lib.hid hD
  have hl1 : 1 ≤ l.length := (right_rt l hR).some1
  obtain ⟨b, off, cap, e, hb⟩ := nodes_addr hD.nodes (by omega)
  cases e
  have hcs0 : 0 < cs.length := by omega
  have HLC := Lib.hid hlc
  rw [HX.out]
  generalize listP l k = os at *
  clear hD hq hlc hR HX
  subst hwA
  go_enter Tryz.func15, Tryz.ntmps15
  go_wp2_with fail
  refine hr.mono ?_
  rintro e w1 ⟨rfl, hb1⟩
  have f0 := cell_below hb1 f0
  have f1 := cell_below hb1 f1
  have hb01 := below_trans hB1 hb1
  have hlt0 := lt_of_cell f0
  clear hr
  go_wp2_with fail
  refine (HC.out w1 hb01).mono ?_
  rintro e w2 ⟨v', fs, rfl, hO, hb2⟩
  have f0 := cell_below hb2 f0
  have hb02 := below_trans hb01 hb2
  have HO := Lib.hid hO
  obtain ⟨g, cb, rfl, hBg, hgl⟩ := hO.addr hcs0
  clear hO HC
  go_wp2_with fail
  refine (HL.out w2 hb02).mono ?_
  rintro e w3 ⟨v6, rfl, hown, hb3⟩
  have f0 := cell_below hb3 f0
  have hb03 := below_trans hb02 hb3
  have hos := hown.ints
  have HLt := Lib.hid hown.lt
  obtain ⟨sa, sc, rfl⟩ := RowAt.lenN hos
  have HI := Lib.hid hos
  have HO3 := Lib.hid (HO.out.below hb3)
  have hb13 := below_trans hb2 hb3
  have hz13 := hb13.size
  clear hown HL HO
  go_wp2_with fail
  go_loopw [7] (fun s7 wr => ∃ m : Nat, s7 = .int .i64 m ∧ m ≤ os.length ∧ Hid (OwnC wr w1.heap.size (.slice (some ⟨g, 0, none⟩) cs.length cb) (mapOn (resetG l) cs (os.take m)) fs) ∧ Hid (w3.grownBy wr (some g))) (fun s7 _ => os.length - (RowKit.intOf s7).toNat)
  case atStart => exact ⟨0, rfl, Nat.zero_le _, Lib.hid (by rw [List.take_zero, mapOn_nil]; exact HO3.out), Lib.hid (grownBy_below (Below.refl _ w3))⟩
  case round =>
    obtain ⟨m, rfl, hm, ho, hg⟩ := hrel
    have hsz := hg.out.size
    have hb1w : Below w1.heap.size w1 wr := below_grownO hb13 hg.out hz13 (fun r e => by cases e; exact hBg)
    have hb0w : Below w.heap.size w wr := hb01.trans (hb1w.mono hb01.size)
    have g0 : wr.cell? ⟨w.heap.size, 0, none⟩ = some (.slice (some ⟨b, off, none⟩) l.length ca) := hg.out.cell f0 (fun e => by have e : w.heap.size = g := Option.some.inj e; omega)
    by_cases hlt : m < os.length
    case neg =>
      obtain rfl : m = os.length := by omega
      have ho2 := ho.out
      rw [List.take_length] at ho2
      have hDw : DocAt wr (.slice (some ⟨b, off, none⟩) l.length ca) (.slice (some ⟨g, 0, none⟩) cs.length cb) l (mapOn (resetG l) cs os) :=
        ⟨HD.out.fine, HD.out.nodes.below hb0w, ho2.at, by rw [mapOn_len]; exact HD.out.cb, mapOn_files (resetG l) (fun _ _ => rfl) cs os (fun f => f.length * 72 ≤ 140737488355328) HD.out.fb⟩
      have hfx := rfix_any _ _ l (mapOn (resetG l) cs os) k wr hDw
      clear ho ho2 hDw hg
      go_wp2_with fail
      refine hfx.mono ?_
      rintro e w5 ⟨v5, fs5, rfl, ho5, hb5⟩
      have HO5 := Lib.hid ho5
      obtain ⟨o5, c5, rfl⟩ := CtlsAt.lenN ho5.at
      clear ho5 hfx
      go_wp2_with fail
      go_ret
      exact ⟨_, fs5, rfl, HO5.out.lower hb0w.size, below_trans hb0w hb5⟩
    have hiw : IntsAt wr (.slice sa os.length sc) os := rowAt_grownO HI.out hg.out (fun r e e2 => by
      have e : g = r := Option.some.inj e
      have := (HLt.out r e2).1
      omega)
    obtain ⟨kb, ko, kcap, e, hkb⟩ := IntsAt.addr hiw (by omega)
    cases e
    have e0 := IntsAt.cellAt hiw m hlt
    have hne : ¬ kb = g := fun e => by
      have := (HLt.out kb rfl).1
      omega
    have HNw := Lib.hid (take_new HF.out.nodup m hlt)
    have HSn := Lib.hid (take_snocI os m hlt)
    have hmem := HM.out os[m] (List.getElem_mem hlt)
    have h1 := HF.out.low os[m] (List.getElem_mem hlt)
    have h2 := HF.out.high os[m] (List.getElem_mem hlt)
    clear hiw
    generalize os[m] = c at *
    obtain ⟨cn, rfl⟩ : ∃ cn : Nat, c = (cn : Int) := ⟨c.toNat, by omega⟩
    have hcn : cn < cs.length := by omega
    have hcl : cn < l.length := by have := HLC.out; omega
    have hcl' : (cn : Int) < (l.length : Int) := by omega
    have c6 := ho.out.selOf cn (by rw [mapOn_len]; exact hcn)
    have c7 := ho.out.dselOf cn (by rw [mapOn_len]; exact hcn)
    have z6 := ho.out.frozen (by rw [mapOn_len]) (cn * 10 + 6)
    have hd := (Below.refl wr.heap.size wr).drew
    obtain ⟨va, vk, hn⟩ := nodes_get (HD.out.nodes.below (hb0w.drew)) cn hcl
    have hfn := HD.out.fine.nd (cn : Int) (by omega) (by omega)
    have hh := rhas15_any (nd l (cn : Int)) va vk nSelected hfn.attrs wr.drew hn.attrs hn.kids
    unfold nodeV at hh
    obtain ⟨n0, n1, n2, n3, n4, _, _, _⟩ := hn
    have g0d : wr.drew.cell? ⟨w.heap.size, 0, none⟩ = some (.slice (some ⟨b, off, none⟩) l.length ca) := g0
    have e0d : wr.drew.cell? ⟨kb, ko + m, none⟩ = some (.int .i64 (cn : Int)) := e0
    have c6d : wr.drew.cell? ⟨g, cn * 10 + 6, none⟩ = _ := c6
    have hod := ho.out.below hd
    have ZQ := Lib.hid (fun wq (hq : Below wr.drew.heap.size wr.drew wq) (j : Nat) => (hod.below hq).frozen (by rw [mapOn_len]) j)
    have CQ := Lib.hid (fun wq (hq : Below wr.drew.heap.size wr.drew wq) => (hod.below hq).dselOf cn (by rw [mapOn_len]; exact hcn))
    have HT := Lib.hid (fun wq (hq : Below wr.drew.heap.size wr.drew wq) => (hod.below hq).turnI2 (resetG_idem l) rfl cn hcn 6 7 (by decide) (by decide) (.bool (hasA nSelected (nd l (cn : Int)).attrs)) (.bool false) (fun c => { c with selected := hasA nSelected (nd l (cn : Int)).attrs }) (fun _ => rfl) (fun _ => rfl) (fun c f => rfl) (fun c f => rfl))
    rw [← HSn.out] at HT
    have HG2 := Lib.hid (fun wq (hq : Below wr.drew.heap.size wr.drew wq) u v => grownBy_trans (grownBy_trans (grownBy_trans (grownBy_trans hg.out (grownBy_below hd)) (grownBy_below hq)) (grownBy_set wq g (cn * 10 + 6) u)) (grownBy_set _ g (cn * 10 + 7) v))
    generalize selB (mapOn (resetG l) cs (os.take m)) (cn : Int) = sb at *
    generalize (ct (mapOn (resetG l) cs (os.take m)) (cn : Int)).dselected = db at *
    generalize hasA nSelected (nd l (cn : Int)).attrs = hv at *
    generalize (nd l (cn : Int)).name = q0 at *
    generalize (nd l (cn : Int)).text = q1 at *
    generalize (nd l (cn : Int)).parent = q3 at *
    clear ho hg hod hmem
    go_wp2_with fail
    refine wp_region_any (by kernel_rfl) ?_
    change wpAny _ _ _ _ _ _ _ wr.drew
    refine wpAny_take (i := 0) (v := ?_) rfl (by kernel_rfl) (by kernel_rfl) (by kernel_rfl) (fun _ _ _ h => h) (Or.inl ⟨by kernel_rfl, ?_⟩) ?_
    rotate_left
    · intro w; go_simp; try with_reducible rfl
    change wpAny _ _ _ _ _ _ (Act.put _ (some 24) _) _
    refine wpAny_take (i := 1) (v := ?_) rfl (by kernel_rfl) (by kernel_rfl) (by kernel_rfl) (fun _ _ _ h => h) (Or.inl ⟨by kernel_rfl, ?_⟩) ?_
    rotate_left
    · intro w; go_simp; try with_reducible rfl
    change wpAny _ _ _ _ _ _ (Act.put _ (some 25) _) _
    refine wpAny_take (i := 2) (v := ?_) rfl (by kernel_rfl) (by kernel_rfl) (by kernel_rfl) (fun _ _ _ h => h) (Or.inl ⟨by kernel_rfl, ?_⟩) ?_
    rotate_left
    · intro w; go_simp; try with_reducible rfl
    change wpAny _ _ _ _ _ _ (Act.put _ (some 26) _) _
    refine wpAny_take (i := 3) (v := ?_) rfl (by kernel_rfl) (by kernel_rfl) (by kernel_rfl) (fun _ _ _ h => h) (Or.inl ⟨by kernel_rfl, ?_⟩) ?_
    rotate_left
    · intro w; go_simp; try with_reducible rfl
    change wpAny _ _ _ _ _ _ (Act.put _ (some 27) _) _
    refine wpAny_take (i := 5) (v := ?_) rfl (by kernel_rfl) (by kernel_rfl) (by kernel_rfl) (fun _ _ _ h => h) (Or.inl ⟨by kernel_rfl, ?_⟩) ?_
    rotate_left
    · intro w; go_simp; try with_reducible rfl
    change wpAny _ _ _ _ _ _ (Act.put _ (some 29) _) _
    refine wpAny_take (i := 7) (v := ?_) rfl (by kernel_rfl) (by kernel_rfl) (by kernel_rfl) (fun _ _ _ h => h) (Or.inl ⟨by kernel_rfl, ?_⟩) ?_
    rotate_left
    · intro w; go_simp; try with_reducible rfl
    change wpAny _ _ _ _ _ _ (Act.put _ (some 31) _) _
    refine wpAny_take (i := 8) (v := ?_) rfl (by kernel_rfl) (by kernel_rfl) (by kernel_rfl) (fun _ _ _ h => h) (Or.inl ⟨by kernel_rfl, ?_⟩) ?_
    rotate_left
    · intro w; go_simp; try with_reducible rfl
    change wpAny _ _ _ _ _ _ (Act.put _ (some 32) _) _
    refine wpAny_take (i := 9) (v := ?_) rfl (by kernel_rfl) (by kernel_rfl) (by kernel_rfl) (fun _ _ _ h => h) (Or.inl ⟨by kernel_rfl, ?_⟩) ?_
    rotate_left
    · intro w; go_simp; try with_reducible rfl
    change wpAny _ _ _ _ _ _ (Act.put _ (some 33) _) _
    refine wpAny_ready (rs := [4, 6, 10]) (by kernel_rfl) (by simp) ?_
    refine AllReady.cons rfl (fun K hK => ?_) ?_
    · go_simp
      refine hK _ _ ?_
      clear hK K
      refine wpAny_ready (rs := [6, 10]) (by kernel_rfl) (by simp) ?_
      refine AllReady.cons rfl (fun K hK => ?_) ?_
      · go_simp
        refine hK _ _ ?_
        clear hK K
        refine wpAny_ready (rs := [10]) (by kernel_rfl) (by simp) ?_
        refine AllReady.cons rfl (fun K hK => ?_) ?_
        · go_simp
          refine hK _ _ ?_
          clear hK K
          refine wpAny_take (i := 11) (v := ?_) rfl (by kernel_rfl) (by kernel_rfl) (by kernel_rfl) (fun _ _ _ h => h) (Or.inl ⟨by kernel_rfl, ?_⟩) ?_
          rotate_left
          · intro w; go_simp; try with_reducible rfl
          change wpAny _ _ _ _ _ _ (Act.put _ (some 35) _) _
          refine wpAny_ready (rs := [12]) (by kernel_rfl) (by simp) ?_
          refine AllReady.cons rfl (fun K hK => ?_) ?_
          · go_simp
            refine hK _ _ ?_
            clear hK K
            refine wpAny_ready (rs := [13]) (by kernel_rfl) (by simp) ?_
            refine AllReady.cons rfl (fun K hK => ?_) ?_
            · go_simp
              go_wp2_with (go_at_call 19; refine hh.mono ?_; rintro e wq ⟨rfl, hbq⟩; have e0q := cell_below hbq e0d; have c6q := cell_below hbq c6d; have c7q := CQ.out wq hbq; have z6q := ZQ.out wq hbq (cn * 10 + 6); have z7q := ZQ.out wq hbq (cn * 10 + 7))
              refine wpAny_take (i := 14) (v := ?_) rfl (by kernel_rfl) (by kernel_rfl) (by kernel_rfl) (fun _ _ _ h => h) (Or.inl ⟨by kernel_rfl, ?_⟩) ?_
              rotate_left
              · intro w; go_simp; try with_reducible rfl
              change wpAny _ _ _ _ _ _ (Act.put _ (some 38) _) _
              refine wpAny_take (i := 15) (v := ?_) rfl (by kernel_rfl) (by kernel_rfl) (by kernel_rfl) (fun _ _ _ h => h) (Or.inl ⟨by kernel_rfl, ?_⟩) ?_
              rotate_left
              · intro w; go_simp; try with_reducible rfl
              change wpAny _ _ _ _ _ _ (Act.put _ (some 39) _) _
              refine wpAny_ready (rs := [16]) (by kernel_rfl) (by simp) ?_
              refine AllReady.cons rfl (fun K hK => ?_) ?_
              · go_simp
                refine hK _ _ ?_
                clear hK K
                refine wpAny_done (by kernel_rfl) ?_ _
                (try simp only [Act.put, List.setIfInBounds_toArray, List.set_cons_zero, List.set_cons_succ])
                go_wp2_with fail
                go_roundw
                case rel => exact ⟨m + 1, by go_num, by omega, Lib.hid (HT.out wq hbq), Lib.hid (HG2.out wq hbq _ _)⟩
                case measure => simp [RowKit.intOf]; omega
              exact AllReady.nil
            exact AllReady.nil
          exact AllReady.nil
        exact AllReady.nil
      refine AllReady.cons rfl (fun K hK => ?_) ?_
      · go_simp
        refine hK _ _ ?_
        clear hK K
        refine wpAny_ready (rs := [6]) (by kernel_rfl) (by simp) ?_
        refine AllReady.cons rfl (fun K hK => ?_) ?_
        · go_simp
          refine hK _ _ ?_
          clear hK K
          refine wpAny_take (i := 11) (v := ?_) rfl (by kernel_rfl) (by kernel_rfl) (by kernel_rfl) (fun _ _ _ h => h) (Or.inl ⟨by kernel_rfl, ?_⟩) ?_
          rotate_left
          · intro w; go_simp; try with_reducible rfl
          change wpAny _ _ _ _ _ _ (Act.put _ (some 35) _) _
          refine wpAny_ready (rs := [12]) (by kernel_rfl) (by simp) ?_
          refine AllReady.cons rfl (fun K hK => ?_) ?_
          · go_simp
            refine hK _ _ ?_
            clear hK K
            refine wpAny_ready (rs := [13]) (by kernel_rfl) (by simp) ?_
            refine AllReady.cons rfl (fun K hK => ?_) ?_
            · go_simp
              go_wp2_with (go_at_call 19; refine hh.mono ?_; rintro e wq ⟨rfl, hbq⟩; have e0q := cell_below hbq e0d; have c6q := cell_below hbq c6d; have c7q := CQ.out wq hbq; have z6q := ZQ.out wq hbq (cn * 10 + 6); have z7q := ZQ.out wq hbq (cn * 10 + 7))
              refine wpAny_take (i := 14) (v := ?_) rfl (by kernel_rfl) (by kernel_rfl) (by kernel_rfl) (fun _ _ _ h => h) (Or.inl ⟨by kernel_rfl, ?_⟩) ?_
              rotate_left
              · intro w; go_simp; try with_reducible rfl
              change wpAny _ _ _ _ _ _ (Act.put _ (some 38) _) _
              refine wpAny_take (i := 15) (v := ?_) rfl (by kernel_rfl) (by kernel_rfl) (by kernel_rfl) (fun _ _ _ h => h) (Or.inl ⟨by kernel_rfl, ?_⟩) ?_
              rotate_left
              · intro w; go_simp; try with_reducible rfl
              change wpAny _ _ _ _ _ _ (Act.put _ (some 39) _) _
              refine wpAny_ready (rs := [16]) (by kernel_rfl) (by simp) ?_
              refine AllReady.cons rfl (fun K hK => ?_) ?_
              · go_simp
                refine hK _ _ ?_
                clear hK K
                refine wpAny_done (by kernel_rfl) ?_ _
                (try simp only [Act.put, List.setIfInBounds_toArray, List.set_cons_zero, List.set_cons_succ])
                go_wp2_with fail
                go_roundw
                case rel => exact ⟨m + 1, by go_num, by omega, Lib.hid (HT.out wq hbq), Lib.hid (HG2.out wq hbq _ _)⟩
                case measure => simp [RowKit.intOf]; omega
              exact AllReady.nil
            exact AllReady.nil
          exact AllReady.nil
        exact AllReady.nil
      exact AllReady.nil
    refine AllReady.cons rfl (fun K hK => ?_) ?_
    · go_simp
      refine hK _ _ ?_
      clear hK K
      refine wpAny_ready (rs := [4, 10]) (by kernel_rfl) (by simp) ?_
      refine AllReady.cons rfl (fun K hK => ?_) ?_
      · go_simp
        refine hK _ _ ?_
        clear hK K
        refine wpAny_ready (rs := [10]) (by kernel_rfl) (by simp) ?_
        refine AllReady.cons rfl (fun K hK => ?_) ?_
        · go_simp
          refine hK _ _ ?_
          clear hK K
          refine wpAny_take (i := 11) (v := ?_) rfl (by kernel_rfl) (by kernel_rfl) (by kernel_rfl) (fun _ _ _ h => h) (Or.inl ⟨by kernel_rfl, ?_⟩) ?_
          rotate_left
          · intro w; go_simp; try with_reducible rfl
          change wpAny _ _ _ _ _ _ (Act.put _ (some 35) _) _
          refine wpAny_ready (rs := [12]) (by kernel_rfl) (by simp) ?_
          refine AllReady.cons rfl (fun K hK => ?_) ?_
          · go_simp
            refine hK _ _ ?_
            clear hK K
            refine wpAny_ready (rs := [13]) (by kernel_rfl) (by simp) ?_
            refine AllReady.cons rfl (fun K hK => ?_) ?_
            · go_simp
              go_wp2_with (go_at_call 19; refine hh.mono ?_; rintro e wq ⟨rfl, hbq⟩; have e0q := cell_below hbq e0d; have c6q := cell_below hbq c6d; have c7q := CQ.out wq hbq; have z6q := ZQ.out wq hbq (cn * 10 + 6); have z7q := ZQ.out wq hbq (cn * 10 + 7))
              refine wpAny_take (i := 14) (v := ?_) rfl (by kernel_rfl) (by kernel_rfl) (by kernel_rfl) (fun _ _ _ h => h) (Or.inl ⟨by kernel_rfl, ?_⟩) ?_
              rotate_left
              · intro w; go_simp; try with_reducible rfl
              change wpAny _ _ _ _ _ _ (Act.put _ (some 38) _) _
              refine wpAny_take (i := 15) (v := ?_) rfl (by kernel_rfl) (by kernel_rfl) (by kernel_rfl) (fun _ _ _ h => h) (Or.inl ⟨by kernel_rfl, ?_⟩) ?_
              rotate_left
              · intro w; go_simp; try with_reducible rfl
              change wpAny _ _ _ _ _ _ (Act.put _ (some 39) _) _
              refine wpAny_ready (rs := [16]) (by kernel_rfl) (by simp) ?_
              refine AllReady.cons rfl (fun K hK => ?_) ?_
              · go_simp
                refine hK _ _ ?_
                clear hK K
                refine wpAny_done (by kernel_rfl) ?_ _
                (try simp only [Act.put, List.setIfInBounds_toArray, List.set_cons_zero, List.set_cons_succ])
                go_wp2_with fail
                go_roundw
                case rel => exact ⟨m + 1, by go_num, by omega, Lib.hid (HT.out wq hbq), Lib.hid (HG2.out wq hbq _ _)⟩
                case measure => simp [RowKit.intOf]; omega
              exact AllReady.nil
            exact AllReady.nil
          exact AllReady.nil
        exact AllReady.nil
      refine AllReady.cons rfl (fun K hK => ?_) ?_
      · go_simp
        refine hK _ _ ?_
        clear hK K
        refine wpAny_take (i := 11) (v := ?_) rfl (by kernel_rfl) (by kernel_rfl) (by kernel_rfl) (fun _ _ _ h => h) (Or.inl ⟨by kernel_rfl, ?_⟩) ?_
        rotate_left
        · intro w; go_simp; try with_reducible rfl
        change wpAny _ _ _ _ _ _ (Act.put _ (some 35) _) _
        refine wpAny_ready (rs := [4, 12]) (by kernel_rfl) (by simp) ?_
        refine AllReady.cons rfl (fun K hK => ?_) ?_
        · go_simp
          refine hK _ _ ?_
          clear hK K
          refine wpAny_ready (rs := [12]) (by kernel_rfl) (by simp) ?_
          refine AllReady.cons rfl (fun K hK => ?_) ?_
          · go_simp
            refine hK _ _ ?_
            clear hK K
            refine wpAny_ready (rs := [13]) (by kernel_rfl) (by simp) ?_
            refine AllReady.cons rfl (fun K hK => ?_) ?_
            · go_simp
              go_wp2_with (go_at_call 19; refine hh.mono ?_; rintro e wq ⟨rfl, hbq⟩; have e0q := cell_below hbq e0d; have c6q := cell_below hbq c6d; have c7q := CQ.out wq hbq; have z6q := ZQ.out wq hbq (cn * 10 + 6); have z7q := ZQ.out wq hbq (cn * 10 + 7))
              refine wpAny_take (i := 14) (v := ?_) rfl (by kernel_rfl) (by kernel_rfl) (by kernel_rfl) (fun _ _ _ h => h) (Or.inl ⟨by kernel_rfl, ?_⟩) ?_
              rotate_left
              · intro w; go_simp; try with_reducible rfl
              change wpAny _ _ _ _ _ _ (Act.put _ (some 38) _) _
              refine wpAny_take (i := 15) (v := ?_) rfl (by kernel_rfl) (by kernel_rfl) (by kernel_rfl) (fun _ _ _ h => h) (Or.inl ⟨by kernel_rfl, ?_⟩) ?_
              rotate_left
              · intro w; go_simp; try with_reducible rfl
              change wpAny _ _ _ _ _ _ (Act.put _ (some 39) _) _
              refine wpAny_ready (rs := [16]) (by kernel_rfl) (by simp) ?_
              refine AllReady.cons rfl (fun K hK => ?_) ?_
              · go_simp
                refine hK _ _ ?_
                clear hK K
                refine wpAny_done (by kernel_rfl) ?_ _
                (try simp only [Act.put, List.setIfInBounds_toArray, List.set_cons_zero, List.set_cons_succ])
                go_wp2_with fail
                go_roundw
                case rel => exact ⟨m + 1, by go_num, by omega, Lib.hid (HT.out wq hbq), Lib.hid (HG2.out wq hbq _ _)⟩
                case measure => simp [RowKit.intOf]; omega
              exact AllReady.nil
            exact AllReady.nil
          exact AllReady.nil
        refine AllReady.cons rfl (fun K hK => ?_) ?_
        · go_simp
          refine hK _ _ ?_
          clear hK K
          refine wpAny_ready (rs := [4, 13]) (by kernel_rfl) (by simp) ?_
          refine AllReady.cons rfl (fun K hK => ?_) ?_
          · go_simp
            refine hK _ _ ?_
            clear hK K
            refine wpAny_ready (rs := [13]) (by kernel_rfl) (by simp) ?_
            refine AllReady.cons rfl (fun K hK => ?_) ?_
            · go_simp
              go_wp2_with (go_at_call 19; refine hh.mono ?_; rintro e wq ⟨rfl, hbq⟩; have e0q := cell_below hbq e0d; have c6q := cell_below hbq c6d; have c7q := CQ.out wq hbq; have z6q := ZQ.out wq hbq (cn * 10 + 6); have z7q := ZQ.out wq hbq (cn * 10 + 7))
              refine wpAny_take (i := 14) (v := ?_) rfl (by kernel_rfl) (by kernel_rfl) (by kernel_rfl) (fun _ _ _ h => h) (Or.inl ⟨by kernel_rfl, ?_⟩) ?_
              rotate_left
              · intro w; go_simp; try with_reducible rfl
              change wpAny _ _ _ _ _ _ (Act.put _ (some 38) _) _
              refine wpAny_take (i := 15) (v := ?_) rfl (by kernel_rfl) (by kernel_rfl) (by kernel_rfl) (fun _ _ _ h => h) (Or.inl ⟨by kernel_rfl, ?_⟩) ?_
              rotate_left
              · intro w; go_simp; try with_reducible rfl
              change wpAny _ _ _ _ _ _ (Act.put _ (some 39) _) _
              refine wpAny_ready (rs := [16]) (by kernel_rfl) (by simp) ?_
              refine AllReady.cons rfl (fun K hK => ?_) ?_
              · go_simp
                refine hK _ _ ?_
                clear hK K
                refine wpAny_done (by kernel_rfl) ?_ _
                (try simp only [Act.put, List.setIfInBounds_toArray, List.set_cons_zero, List.set_cons_succ])
                go_wp2_with fail
                go_roundw
                case rel => exact ⟨m + 1, by go_num, by omega, Lib.hid (HT.out wq hbq), Lib.hid (HG2.out wq hbq _ _)⟩
                case measure => simp [RowKit.intOf]; omega
              exact AllReady.nil
            exact AllReady.nil
          refine AllReady.cons rfl (fun K hK => ?_) ?_
          · go_simp
            go_wp2_with (go_at_call 19; refine hh.mono ?_; rintro e wq ⟨rfl, hbq⟩; have e0q := cell_below hbq e0d; have c6q := cell_below hbq c6d; have c7q := CQ.out wq hbq; have z6q := ZQ.out wq hbq (cn * 10 + 6); have z7q := ZQ.out wq hbq (cn * 10 + 7))
            refine wpAny_ready (rs := [4]) (by kernel_rfl) (by simp) ?_
            refine AllReady.cons rfl (fun K hK => ?_) ?_
            · go_simp
              refine hK _ _ ?_
              clear hK K
              refine wpAny_take (i := 14) (v := ?_) rfl (by kernel_rfl) (by kernel_rfl) (by kernel_rfl) (fun _ _ _ h => h) (Or.inl ⟨by kernel_rfl, ?_⟩) ?_
              rotate_left
              · intro w; go_simp; try with_reducible rfl
              change wpAny _ _ _ _ _ _ (Act.put _ (some 38) _) _
              refine wpAny_take (i := 15) (v := ?_) rfl (by kernel_rfl) (by kernel_rfl) (by kernel_rfl) (fun _ _ _ h => h) (Or.inl ⟨by kernel_rfl, ?_⟩) ?_
              rotate_left
              · intro w; go_simp; try with_reducible rfl
              change wpAny _ _ _ _ _ _ (Act.put _ (some 39) _) _
              refine wpAny_ready (rs := [16]) (by kernel_rfl) (by simp) ?_
              refine AllReady.cons rfl (fun K hK => ?_) ?_
              · go_simp
                refine hK _ _ ?_
                clear hK K
                refine wpAny_done (by kernel_rfl) ?_ _
                (try simp only [Act.put, List.setIfInBounds_toArray, List.set_cons_zero, List.set_cons_succ])
                go_wp2_with fail
                go_roundw
                case rel => exact ⟨m + 1, by go_num, by omega, Lib.hid (HT.out wq hbq), Lib.hid (HG2.out wq hbq _ _)⟩
                case measure => simp [RowKit.intOf]; omega
              exact AllReady.nil
            exact AllReady.nil
          exact AllReady.nil
        exact AllReady.nil
      exact AllReady.nil
    refine AllReady.cons rfl (fun K hK => ?_) ?_
    · go_simp
      refine hK _ _ ?_
      clear hK K
      refine wpAny_ready (rs := [4, 6]) (by kernel_rfl) (by simp) ?_
      refine AllReady.cons rfl (fun K hK => ?_) ?_
      · go_simp
        refine hK _ _ ?_
        clear hK K
        refine wpAny_ready (rs := [6]) (by kernel_rfl) (by simp) ?_
        refine AllReady.cons rfl (fun K hK => ?_) ?_
        · go_simp
          refine hK _ _ ?_
          clear hK K
          refine wpAny_take (i := 11) (v := ?_) rfl (by kernel_rfl) (by kernel_rfl) (by kernel_rfl) (fun _ _ _ h => h) (Or.inl ⟨by kernel_rfl, ?_⟩) ?_
          rotate_left
          · intro w; go_simp; try with_reducible rfl
          change wpAny _ _ _ _ _ _ (Act.put _ (some 35) _) _
          refine wpAny_ready (rs := [12]) (by kernel_rfl) (by simp) ?_
          refine AllReady.cons rfl (fun K hK => ?_) ?_
          · go_simp
            refine hK _ _ ?_
            clear hK K
            refine wpAny_ready (rs := [13]) (by kernel_rfl) (by simp) ?_
            refine AllReady.cons rfl (fun K hK => ?_) ?_
            · go_simp
              go_wp2_with (go_at_call 19; refine hh.mono ?_; rintro e wq ⟨rfl, hbq⟩; have e0q := cell_below hbq e0d; have c6q := cell_below hbq c6d; have c7q := CQ.out wq hbq; have z6q := ZQ.out wq hbq (cn * 10 + 6); have z7q := ZQ.out wq hbq (cn * 10 + 7))
              refine wpAny_take (i := 14) (v := ?_) rfl (by kernel_rfl) (by kernel_rfl) (by kernel_rfl) (fun _ _ _ h => h) (Or.inl ⟨by kernel_rfl, ?_⟩) ?_
              rotate_left
              · intro w; go_simp; try with_reducible rfl
              change wpAny _ _ _ _ _ _ (Act.put _ (some 38) _) _
              refine wpAny_take (i := 15) (v := ?_) rfl (by kernel_rfl) (by kernel_rfl) (by kernel_rfl) (fun _ _ _ h => h) (Or.inl ⟨by kernel_rfl, ?_⟩) ?_
              rotate_left
              · intro w; go_simp; try with_reducible rfl
              change wpAny _ _ _ _ _ _ (Act.put _ (some 39) _) _
              refine wpAny_ready (rs := [16]) (by kernel_rfl) (by simp) ?_
              refine AllReady.cons rfl (fun K hK => ?_) ?_
              · go_simp
                refine hK _ _ ?_
                clear hK K
                refine wpAny_done (by kernel_rfl) ?_ _
                (try simp only [Act.put, List.setIfInBounds_toArray, List.set_cons_zero, List.set_cons_succ])
                go_wp2_with fail
                go_roundw
                case rel => exact ⟨m + 1, by go_num, by omega, Lib.hid (HT.out wq hbq), Lib.hid (HG2.out wq hbq _ _)⟩
                case measure => simp [RowKit.intOf]; omega
              exact AllReady.nil
            exact AllReady.nil
          exact AllReady.nil
        exact AllReady.nil
      refine AllReady.cons rfl (fun K hK => ?_) ?_
      · go_simp
        refine hK _ _ ?_
        clear hK K
        refine wpAny_take (i := 11) (v := ?_) rfl (by kernel_rfl) (by kernel_rfl) (by kernel_rfl) (fun _ _ _ h => h) (Or.inl ⟨by kernel_rfl, ?_⟩) ?_
        rotate_left
        · intro w; go_simp; try with_reducible rfl
        change wpAny _ _ _ _ _ _ (Act.put _ (some 35) _) _
        refine wpAny_ready (rs := [4, 12]) (by kernel_rfl) (by simp) ?_
        refine AllReady.cons rfl (fun K hK => ?_) ?_
        · go_simp
          refine hK _ _ ?_
          clear hK K
          refine wpAny_ready (rs := [12]) (by kernel_rfl) (by simp) ?_
          refine AllReady.cons rfl (fun K hK => ?_) ?_
          · go_simp
            refine hK _ _ ?_
            clear hK K
            refine wpAny_ready (rs := [13]) (by kernel_rfl) (by simp) ?_
            refine AllReady.cons rfl (fun K hK => ?_) ?_
            · go_simp
              go_wp2_with (go_at_call 19; refine hh.mono ?_; rintro e wq ⟨rfl, hbq⟩; have e0q := cell_below hbq e0d; have c6q := cell_below hbq c6d; have c7q := CQ.out wq hbq; have z6q := ZQ.out wq hbq (cn * 10 + 6); have z7q := ZQ.out wq hbq (cn * 10 + 7))
              refine wpAny_take (i := 14) (v := ?_) rfl (by kernel_rfl) (by kernel_rfl) (by kernel_rfl) (fun _ _ _ h => h) (Or.inl ⟨by kernel_rfl, ?_⟩) ?_
              rotate_left
              · intro w; go_simp; try with_reducible rfl
              change wpAny _ _ _ _ _ _ (Act.put _ (some 38) _) _
              refine wpAny_take (i := 15) (v := ?_) rfl (by kernel_rfl) (by kernel_rfl) (by kernel_rfl) (fun _ _ _ h => h) (Or.inl ⟨by kernel_rfl, ?_⟩) ?_
              rotate_left
              · intro w; go_simp; try with_reducible rfl
              change wpAny _ _ _ _ _ _ (Act.put _ (some 39) _) _
              refine wpAny_ready (rs := [16]) (by kernel_rfl) (by simp) ?_
              refine AllReady.cons rfl (fun K hK => ?_) ?_
              · go_simp
                refine hK _ _ ?_
                clear hK K
                refine wpAny_done (by kernel_rfl) ?_ _
                (try simp only [Act.put, List.setIfInBounds_toArray, List.set_cons_zero, List.set_cons_succ])
                go_wp2_with fail
                go_roundw
                case rel => exact ⟨m + 1, by go_num, by omega, Lib.hid (HT.out wq hbq), Lib.hid (HG2.out wq hbq _ _)⟩
                case measure => simp [RowKit.intOf]; omega
              exact AllReady.nil
            exact AllReady.nil
          exact AllReady.nil
        refine AllReady.cons rfl (fun K hK => ?_) ?_
        · go_simp
          refine hK _ _ ?_
          clear hK K
          refine wpAny_ready (rs := [4, 13]) (by kernel_rfl) (by simp) ?_
          refine AllReady.cons rfl (fun K hK => ?_) ?_
          · go_simp
            refine hK _ _ ?_
            clear hK K
            refine wpAny_ready (rs := [13]) (by kernel_rfl) (by simp) ?_
            refine AllReady.cons rfl (fun K hK => ?_) ?_
            · go_simp
              go_wp2_with (go_at_call 19; refine hh.mono ?_; rintro e wq ⟨rfl, hbq⟩; have e0q := cell_below hbq e0d; have c6q := cell_below hbq c6d; have c7q := CQ.out wq hbq; have z6q := ZQ.out wq hbq (cn * 10 + 6); have z7q := ZQ.out wq hbq (cn * 10 + 7))
              refine wpAny_take (i := 14) (v := ?_) rfl (by kernel_rfl) (by kernel_rfl) (by kernel_rfl) (fun _ _ _ h => h) (Or.inl ⟨by kernel_rfl, ?_⟩) ?_
              rotate_left
              · intro w; go_simp; try with_reducible rfl
              change wpAny _ _ _ _ _ _ (Act.put _ (some 38) _) _
              refine wpAny_take (i := 15) (v := ?_) rfl (by kernel_rfl) (by kernel_rfl) (by kernel_rfl) (fun _ _ _ h => h) (Or.inl ⟨by kernel_rfl, ?_⟩) ?_
              rotate_left
              · intro w; go_simp; try with_reducible rfl
              change wpAny _ _ _ _ _ _ (Act.put _ (some 39) _) _
              refine wpAny_ready (rs := [16]) (by kernel_rfl) (by simp) ?_
              refine AllReady.cons rfl (fun K hK => ?_) ?_
              · go_simp
                refine hK _ _ ?_
                clear hK K
                refine wpAny_done (by kernel_rfl) ?_ _
                (try simp only [Act.put, List.setIfInBounds_toArray, List.set_cons_zero, List.set_cons_succ])
                go_wp2_with fail
                go_roundw
                case rel => exact ⟨m + 1, by go_num, by omega, Lib.hid (HT.out wq hbq), Lib.hid (HG2.out wq hbq _ _)⟩
                case measure => simp [RowKit.intOf]; omega
              exact AllReady.nil
            exact AllReady.nil
          refine AllReady.cons rfl (fun K hK => ?_) ?_
          · go_simp
            go_wp2_with (go_at_call 19; refine hh.mono ?_; rintro e wq ⟨rfl, hbq⟩; have e0q := cell_below hbq e0d; have c6q := cell_below hbq c6d; have c7q := CQ.out wq hbq; have z6q := ZQ.out wq hbq (cn * 10 + 6); have z7q := ZQ.out wq hbq (cn * 10 + 7))
            refine wpAny_ready (rs := [4]) (by kernel_rfl) (by simp) ?_
            refine AllReady.cons rfl (fun K hK => ?_) ?_
            · go_simp
              refine hK _ _ ?_
              clear hK K
              refine wpAny_take (i := 14) (v := ?_) rfl (by kernel_rfl) (by kernel_rfl) (by kernel_rfl) (fun _ _ _ h => h) (Or.inl ⟨by kernel_rfl, ?_⟩) ?_
              rotate_left
              · intro w; go_simp; try with_reducible rfl
              change wpAny _ _ _ _ _ _ (Act.put _ (some 38) _) _
              refine wpAny_take (i := 15) (v := ?_) rfl (by kernel_rfl) (by kernel_rfl) (by kernel_rfl) (fun _ _ _ h => h) (Or.inl ⟨by kernel_rfl, ?_⟩) ?_
              rotate_left
              · intro w; go_simp; try with_reducible rfl
              change wpAny _ _ _ _ _ _ (Act.put _ (some 39) _) _
              refine wpAny_ready (rs := [16]) (by kernel_rfl) (by simp) ?_
              refine AllReady.cons rfl (fun K hK => ?_) ?_
              · go_simp
                refine hK _ _ ?_
                clear hK K
                refine wpAny_done (by kernel_rfl) ?_ _
                (try simp only [Act.put, List.setIfInBounds_toArray, List.set_cons_zero, List.set_cons_succ])
                go_wp2_with fail
                go_roundw
                case rel => exact ⟨m + 1, by go_num, by omega, Lib.hid (HT.out wq hbq), Lib.hid (HG2.out wq hbq _ _)⟩
                case measure => simp [RowKit.intOf]; omega
              exact AllReady.nil
            exact AllReady.nil
          exact AllReady.nil
        exact AllReady.nil
      exact AllReady.nil
    exact AllReady.nil
end Go.Proofs.YtoajgfhcongocaaGreatDoor.doc
