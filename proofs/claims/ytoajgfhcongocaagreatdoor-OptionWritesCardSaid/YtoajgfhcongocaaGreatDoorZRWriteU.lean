/- The contract of the reference's Write. -/
import Derived.Test.YtoajgfhcongocaaGreatDoorGn
import Derived.Test.YtoajgfhcongocaaGreatDoorGp
import Derived.BigRegion
namespace Go.Proofs.YtoajgfhcongocaaGreatDoor.doc
open Go.ChangeShapes Go.WideShapes Go.ChangeAt Go.RowKit Go.Lib Go.Proofs.YtoajgfhcongocaaGreatDoor.atr Go.Proofs.YtoajgfhcongocaaGreatDoor.link Go.Proofs.YtoajgfhcongocaaGreatDoor.ctl

/-- the first from a place on -/
def pickD (q : Int → Bool) (os : List Int) (m : Nat) : Int := firstF q (os.drop m)
theorem pickD_end (q : Int → Bool) (os : List Int) : pickD q os os.length = -1 := by unfold pickD; rw [List.drop_length]; rfl
theorem pickD_step (q : Int → Bool) (os : List Int) (m : Nat) (h : m < os.length) (h0 : 0 ≤ os[m]) : pickD q os m = if q os[m] then os[m] else pickD q os (m + 1) := by
  unfold pickD
  rw [List.drop_eq_getElem_cons h, first_cons q _ _ h0]
theorem pickD_zero (q : Int → Bool) (os : List Int) : pickD q os 0 = firstF q os := by unfold pickD; rw [List.drop_zero]
theorem listP_write (l : List Nd) (cs : List Ctl) (k : Int) (s : List UInt8) (hq : docR l cs = true) : writeP l cs k s = mapOn (writeG (pickT l (listP l k) s)) cs (listP l k) := by
  unfold writeP listP
  rw [if_pos hq]
  cases h : isP l k 23
  · rw [if_neg (by simp), if_neg (by simp), mapOn_nil]
  · rw [if_pos rfl, if_pos rfl]
theorem only_write (cs : List Ctl) (os : List Int) (h0 : ∀ o ∈ os, 0 ≤ o) : onlyP cs os (-1) = mapOn (writeG (-1)) cs os := by
  unfold onlyP
  refine mapOn_congr _ _ cs os (fun o ho c => ?_)
  have := h0 o ho
  unfold onlyG writeG
  rw [decide_eq_false (show ¬ o = -1 by omega), Bool.or_false]
theorem only_write_set (cs : List Ctl) (os : List Int) (pn : Nat) (hp : (pn : Int) ∈ os) : (onlyP cs os (pn : Int)).modify pn dselT = mapOn (writeG (pn : Int)) cs os := by
  apply List.ext_getElem?
  intro i
  unfold onlyP
  rw [List.getElem?_modify, mapOn_get, mapOn_get]
  cases cs[i]? with
  | none => rfl
  | some c =>
    simp only [Option.map_some, Option.map_eq_map]
    by_cases e : pn = i
    · subst e
      rw [if_pos rfl, if_pos hp, if_pos hp]
      simp [onlyG, writeG, dselT]
    · rw [if_neg e]
      have : ¬ (i : Int) = (pn : Int) := by omega
      split
      · simp [onlyG, writeG, this]
      · rfl

set_option maxHeartbeats 3200000 in
set_option maxRecDepth 100000 in
theorem rwrite_any (vn vc : Value) (l : List Nd) (cs : List Ctl) (k : Int) (s : List UInt8) (w : World) (hD : DocAt w vn vc l cs) :
    Calls Tryz.prog 35 #[.agg #[vn, vc], .int .i64 k, .string ⟨s.toArray⟩] w (RetS (writeP l cs k s) w) := by
  obtain ⟨oa, ca, rfl⟩ := NodesAt.lenN hD.nodes
  obtain ⟨oc, cc, rfl⟩ := CtlsAt.lenN hD.ctls
  obtain ⟨wA, hwA⟩ : ∃ wA, wA = w.alloc (.cells #[.slice oa l.length ca, .slice oc cs.length cc] 25) := ⟨_, rfl⟩
  have hB1 : Below w.heap.size w wA := by rw [hwA]; exact (Below.refl _ w).alloc (Nat.le_refl _) _
  have f0 : wA.cell? ⟨w.heap.size, 0, none⟩ = some (.slice oa l.length ca) := by rw [hwA]; exact World.cell?_alloc_new w _ _ 0
  have f1 : wA.cell? ⟨w.heap.size, 1, none⟩ = some (.slice oc cs.length cc) := by rw [hwA]; exact World.cell?_alloc_new w _ _ 1
  have hr := rdocright_any (.slice oa l.length ca) l hD.fine oc cs.length cc wA (hD.nodes.below hB1)
  rw [show (decide (l.length = cs.length) && rightB l) = docR l cs from rfl] at hr
  cases hq : docR l cs
  · rw [hq] at hr
    have HE : Hid (writeP l cs k s = []) := Lib.hid (by unfold writeP; rw [if_neg (by rw [hq]; simp)])
    rw [HE.out]
    clear hD hq f0 f1
    subst hwA
    go_enter Tryz.func35, Tryz.ntmps35
    go_wp2_with fail
    refine hr.mono ?_
    rintro e w1 ⟨rfl, hb1⟩
    go_wp2_with fail
    go_ret
    exact ⟨_, [], rfl, OwnC.nil _ _, below_trans hB1 hb1⟩
  obtain ⟨hlc, hR⟩ := (docR_iff l cs).1 hq
  rw [hq] at hr
  have HX := Lib.hid (listP_write l cs k s hq)
  have HL := Lib.hid (fun w' h => rlist_any (.slice oa l.length ca) l hD.fine k w' (hD.nodes.below (w' := w') h))
  have HM := Lib.hid (fun o (ho : o ∈ listP l k) => list_mem ho)
  have HT := Lib.hid (fun (o : Int) w' h => rtextU_any (.slice oa l.length ca) l hD.fine o w' (hD.nodes.below (w' := w') h))
  have HC := Lib.hid (fun w' h => rcopiedC_any (.slice oc cs.length cc) cs hD.cb w' (hD.ctls.below (w' := w') h))
  have HF := Lib.hid (list_fine cs hlc k)
  have HPw := Lib.hid (pickT_ways l (listP l k) s HF.out.low)
  have HPt := Lib.hid (pickT_is l (listP l k) s)
  have hol := list_le l k
  rw [HX.out]
  generalize listP l k = os at *
  clear hD hq hlc hR HX
  subst hwA
  go_enter Tryz.func35, Tryz.ntmps35
  go_wp2_with fail
  refine hr.mono ?_
  rintro e w1 ⟨rfl, hb1⟩
  have f0 := cell_below hb1 f0
  have f1 := cell_below hb1 f1
  have hb01 := below_trans hB1 hb1
  clear hr
  go_wp2_with fail
  refine (HC.out w1 hb01).mono ?_
  rintro e w2 ⟨v', fs, rfl, hO, hb2⟩
  have f0 := cell_below hb2 f0
  have hb02 := below_trans hb01 hb2
  have HO := Lib.hid hO
  obtain ⟨ob, cb, rfl⟩ := CtlsAt.lenN hO.at
  clear hO HC
  go_wp2_with fail
  refine (HL.out w2 hb02).mono ?_
  rintro e w3 ⟨v6, rfl, hown, hb3⟩
  have f0 := cell_below hb3 f0
  have hb03 := below_trans hb02 hb3
  have hos := hown.ints
  have HLt := Lib.hid hown.lt
  have HOlt := Lib.hid HO.out.row.lt
  obtain ⟨sa, sc, rfl⟩ := RowAt.lenN hos
  clear hown HL
  go_wp2_with fail
  go_loopw [9, 10] (fun s9 s10 wr => ∃ m : Nat, s9 = .int .i64 (pickD (fun o => decide (valueP l o = s)) os m) ∧ s10 = .int .i64 ((m : Int) - 1) ∧ m ≤ os.length ∧ Below w3.heap.size w3 wr) (fun _ s10 _ => (RowKit.intOf s10 + 1).toNat)
  case atStart => exact ⟨os.length, by rw [pickD_end], rfl, Nat.le_refl _, Below.refl _ _⟩
  case round =>
    obtain ⟨m, rfl, rfl, hm, hbw⟩ := hrel
    have hww := below_trans hb03 hbw
    have g0 := cell_below hbw f0
    rcases Nat.eq_zero_or_pos m with h0 | h0
    · subst h0
      have hoW := HO.out.below (below_trans hb3 hbw)
      have hon := only_any (.slice ob cs.length cb) cs fs (.slice sa os.length sc) os (pickT l os s) w1.heap.size wr hoW (hos.below hbw) HF.out (by omega) (fun j e1 e2 => by
        have h1 := (HOlt.out j e1).2
        have h2 := (HLt.out j e2).1
        omega)
      rw [pickD_zero, ← HPt.out]
      have HE0 : Hid (pickT l os s = -1 → mapOn (writeG (pickT l os s)) cs os = onlyP cs os (pickT l os s)) := Lib.hid (fun h => by rw [h]; exact (only_write cs os HF.out.low).symm)
      have HE1 : Hid (∀ pn : Nat, pickT l os s = (pn : Int) → (pn : Int) ∈ os → mapOn (writeG (pickT l os s)) cs os = (onlyP cs os (pickT l os s)).modify pn dselT) := Lib.hid (fun pn h h2 => by rw [h]; exact (only_write_set cs os pn h2).symm)
      generalize pickT l os s = p at *
      by_cases hp : p < 0
      · have hm1 : p = -1 := by
          rcases HPw.out with h | h
          · exact h
          · have := HF.out.low p h; omega
        have HE2 := Lib.hid (HE0.out hm1)
        clear hm1
        go_wp2_with fail
        refine hon.mono ?_
        rintro e w5 ⟨⟨u, rfl⟩, ho5, hg5⟩
        have HO5 := Lib.hid ho5
        have HB5 := Lib.hid (below_grownO hww hg5 (by have := hww.size; omega) (fun r e => by have := (HOlt.out r e).1; have := hb01.size; omega))
        clear ho5 hg5 hon
        go_wp2_with fail
        go_ret
        exact ⟨_, fs, rfl, by rw [HE2.out]; exact HO5.out.lower hb01.size, HB5.out⟩
      · have hin : p ∈ os := by
          rcases HPw.out with h | h
          · omega
          · exact h
        obtain ⟨pn, rfl⟩ : ∃ pn : Nat, p = (pn : Int) := ⟨p.toNat, by omega⟩
        have hpc : pn < cs.length := by have := HF.out.high _ hin; omega
        have hpc' : (pn : Int) < (cs.length : Int) := by omega
        have hp0 : (0 : Int) ≤ (pn : Int) := by omega
        have HE2 := Lib.hid (HE1.out pn rfl hin)
        obtain ⟨g, cg, e, hBg, hgl⟩ := HO.out.addr (by omega)
        cases e
        clear hin
        go_wp2_with fail
        refine hon.mono ?_
        rintro e w5 ⟨⟨u, rfl⟩, ho5, hg5⟩
        have hol5 : pn < (onlyP cs os (pn : Int)).length := by rw [only_len]; exact hpc
        have c7 := ho5.dselOf pn hol5
        have z7 := ho5.frozen (by rw [only_len]) (pn * 10 + 7)
        have HO5 := Lib.hid (ho5.mod (by rw [only_len]) pn hol5 7 (by decide) (.bool true) dselT (fun _ => rfl) (fun _ _ => rfl))
        have HB5 := Lib.hid ((below_grownO hww hg5 (by have := hww.size; omega) (fun r e => by have := (HOlt.out r e).1; have := hb01.size; omega)).setCell (p := ⟨g, pn * 10 + 7, none⟩) (by show w.heap.size ≤ g; have := hb01.size; omega) (.bool true))
        generalize (ct (onlyP cs os (pn : Int)) (pn : Int)).dselected = db at *
        clear ho5 hg5 hon
        go_wp2_with fail
        go_ret
        exact ⟨_, fs, rfl, by rw [HE2.out]; exact HO5.out.lower hb01.size, HB5.out⟩
    obtain ⟨j, rfl⟩ : ∃ j, m = j + 1 := ⟨m - 1, by omega⟩
    have hj : ((j + 1 : Nat) : Int) - 1 = (j : Int) := by omega
    rw [hj]
    have hlt : j < os.length := by omega
    obtain ⟨kb, ko, kcap, e, hkb⟩ := IntsAt.addr hos (by omega)
    cases e
    have e0 := cell_below hbw (IntsAt.cellAt hos j hlt)
    have hlow := HF.out.low os[j] (List.getElem_mem hlt)
    have HSt := Lib.hid (pickD_step (fun o => decide (valueP l o = s)) os j hlt hlow)
    have ht := fun w' h => HT.out os[j] w' h
    have hT2 := Lib.hid (textP_val (HM.out os[j] (List.getElem_mem hlt)).2)
    rw [hT2.out] at ht
    have g0d : wr.drew.cell? ⟨w.heap.size, 0, none⟩ = some (.slice oa l.length ca) := g0
    have e0d : wr.drew.cell? ⟨kb, ko + j, none⟩ = some (.int .i64 os[j]) := e0
    have htd := ht wr.drew hww.drew
    generalize os[j] = c at *
    generalize pickD (fun o => decide (valueP l o = s)) os (j + 1) = pk at *
    have hbd := hbw.drew
    clear ht hT2 hj
    by_cases hv : valueP l c = s
    · have HP : Hid (pickD (fun o => decide (valueP l o = s)) os j = c) := Lib.hid (by rw [HSt.out, if_pos (decide_eq_true hv)])
      rw [hv] at htd
      clear HSt hv
      go_wp2_with fail
      go_region_with (go_at_call 33; refine htd.mono ?_; rintro e w5 ⟨rfl, hb5⟩; have e05 := cell_below hb5 e0d)
      all_goals
        go_wp2_with fail
        go_roundw
        case rel => exact ⟨j, by rw [HP.out], by go_num, by omega, below_trans hbd hb5⟩
        case measure => simp [RowKit.intOf]
    · have HP : Hid (pickD (fun o => decide (valueP l o = s)) os j = pk) := Lib.hid (by rw [HSt.out, if_neg (by simpa using hv)])
      have hv0 : (valueP l c == s) = false := beq_false_of_ne hv
      generalize valueP l c = vv at *
      clear HSt hv
      go_wp2_with fail
      go_region_with (go_at_call 33; refine htd.mono ?_; rintro e w5 ⟨rfl, hb5⟩)
      all_goals
        go_wp2_with fail
        go_roundw
        case rel => exact ⟨j, by rw [HP.out], by go_num, by omega, below_trans hbd hb5⟩
        case measure => simp [RowKit.intOf]
end Go.Proofs.YtoajgfhcongocaaGreatDoor.doc
