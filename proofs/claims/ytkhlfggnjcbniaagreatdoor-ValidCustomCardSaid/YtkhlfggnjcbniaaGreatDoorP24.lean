/- A part of the proofs: lemmas and contracts. -/
import Derived.Test.YtkhlfggnjcbniaaGreatDoorP16
set_option maxHeartbeats 12800000
set_option maxRecDepth 1000000
namespace Go.Proofs.YtkhlfggnjcbniaaGreatDoor.doc
open Go.ChangeShapes Go.WideShapes Go.ChangeAt Go.RowKit Go.Lib atr link

theorem not_inj {a b : Bool} (h : a = !b) : b = !a := by cases a <;> cases b <;> simp_all
theorem disR_no (l : List Nd) (k : Int) (h : (subP (kN l k) || kN l k == 29) = false) : disR l k = false := by unfold disR; rw [h]; rfl
theorem disR_own (l : List Nd) (k : Int) (h : (subP (kN l k) || kN l k == 29) = true) (g : hasA nDisabled (nd l k).attrs = true) : disR l k = true := by unfold disR; rw [h, g]; rfl
theorem disR_up (l : List Nd) (k : Int) (h : (subP (kN l k) || kN l k == 29) = true) (g : hasA nDisabled (nd l k).attrs = false) : disR l k = disU l (fsB l) (lgB l) k := by unfold disR; rw [h, g]; rfl
theorem disabled_any (v : Value) (l : List Nd) (hL : LFine l) (hR : rightB l = true) (k : Nat) (hk : k < l.length) (w : World) (hA : NodesAt w v l) :
  Calls Tryz.prog 71 #[v, .int .i64 k] w fun e w' => e = .returned (.bool (disR l (k : Int))) ∧ Below w.heap.size w w' := by
 have hRt := right_rt l hR
 have hf := hRt.few
 obtain ⟨b, off, cap, rfl, hb⟩ := nodes_addr hA (by omega)
 have HN := Lib.hid (fun w' (h : Below w.heap.size w w') j hj => nodes_get (hA.below h) j hj)
 have HKd := Lib.hid (fun w' (h : Below w.heap.size w w') (j : Nat) (hj : j < l.length) => by
  have := okind_any _ l hL (j : Int) w' (hA.below h)
  rwa [kO_in l (j : Int) (by omega) (by omega)] at this)
 have HLg := Lib.hid (fun w' (h : Below w.heap.size w w') (j : Nat) (hj : j < l.length) => legend_any _ l hL hR j hj w' (hA.below h))
 have HHas := Lib.hid (fun w' (j : Nat) (hj : j < l.length) va vk h1 h2 => ownhas_any (nd l (j : Int)) va vk nDisabled (hL.nd _ (by omega) (by omega)).attrs w' h1 h2)
 have HRi := Lib.hid (fun w' (h : Below w.heap.size w w') => by
  have := right_any _ l hL w' (hA.below h)
  rwa [hR] at this)
 have HP := Lib.hid (fun (j : Nat) (hj : j < l.length) => hRt.par (j : Int) ⟨by omega, by omega⟩)
 have HU := Lib.hid (fun (j : Nat) (hj : j < l.length) => disU_eq hRt (fsB l) (lgB l) (j : Int) ⟨by omega, by omega⟩)
 have HDe := Lib.hid (fun (j : Nat) (hj : j < l.length) => dep_up hRt j hj)
 have R1 := Lib.hid (disR_no l (k : Int))
 have R2 := Lib.hid (disR_own l (k : Int))
 have R3 := Lib.hid (disR_up l (k : Int))
 have HFs : Hid (∀ j : Int, fsB l j = (kN l j == 29 && hasA nDisabled (nd l j).attrs)) := Lib.hid (fun j => rfl)
 have hkd := HKd.out w (Below.refl _ _) k hk
 have hsub := fun w => submits_any (kN l (k : Int)) w
 have h0 : (0 : Int) ≤ (k : Int) := by omega
 have hk' : (k : Int) < (l.length : Int) := by omega
 generalize disR l (k : Int) = res at *
 generalize kN l (k : Int) = kd at *
 obtain ⟨sb, hsb⟩ : ∃ sb, sb = subP kd := ⟨_, rfl⟩
 rw [← hsb] at hsub R1 R2 R3
 clear hRt hR hL hA hsb
 go_enter Tryz.func71, Tryz.ntmps71
 go_wp2_with fail
 go_step3
 go_wp2_with fail
 refine hkd.mono ?_
 rintro e w1 ⟨rfl, hb1⟩
 have hri := HRi.out w1 hb1
 clear hkd
 go_upto_region 2 with fail
 go_cut [23] (fun s23 wx => ∃ q, s23 = .bool q ∧ Hid (q = !(sb || kd == 29)) ∧ Below w.heap.size w wx)
 case first =>
  cases sb
  ·by_cases g : kd = 29
   ·have gb : (kd != 29) = false := by simp [g]
    have HQ : Hid (false = !(false || kd == 29)) := Lib.hid (by simp [g])
    clear g
    go_wp2_with fail
    refine (hsub w1).mono ?_
    rintro e w2 ⟨rfl, rfl⟩
    go_wp2_with fail
    refine hri.mono ?_
    rintro e w3 ⟨rfl, hb3⟩
    go_wp2_with fail
    go_meet
    exact ⟨_, rfl, HQ, below_trans hb1 hb3⟩
   ·have gb : (kd != 29) = true := by simpa using g
    have HQ : Hid (true = !(false || kd == 29)) := Lib.hid (by simp [g])
    clear g hri
    go_wp2_with fail
    refine (hsub w1).mono ?_
    rintro e w2 ⟨rfl, rfl⟩
    go_wp2_with fail
    go_meet
    exact ⟨_, rfl, HQ, hb1⟩
  ·have HQ : Hid (false = !(true || kd == 29)) := Lib.hid (by simp)
   go_wp2_with fail
   refine (hsub w1).mono ?_
   rintro e w2 ⟨rfl, rfl⟩
   go_wp2_with fail
   refine hri.mono ?_
   rintro e w3 ⟨rfl, hb3⟩
   go_wp2_with fail
   go_meet
   exact ⟨_, rfl, HQ, below_trans hb1 hb3⟩
 case rest =>
 obtain ⟨q, rfl, hq, hbc⟩ := hcut
 clear hri hsub
 cases q
 case true =>
  have HX := Lib.hid (R1.out (not_inj hq.out))
  clear hq R1 R2 R3
  go_wp2_with fail
  (try rw [Exit.noGoto_ret])
  go_ret
  exact ⟨ret_bool HX.out.symm, hbc⟩
 have HQ : Hid ((sb || kd == 29) = true) := Lib.hid (not_inj hq.out)
 clear hq R1
 obtain ⟨va, vk, hn⟩ := HN.out wc hbc k hk
 have hhas := HHas.out wc k hk va vk hn.attrs hn.kids
 have d3 := hn.c3
 have hpk := HP.out k hk
 unfold nodeV at hhas
 obtain ⟨c0, c1, c2, c3, c4, _, _, _⟩ := hn
 have HR2 := Lib.hid (R2.out HQ.out)
 have HR3 := Lib.hid (R3.out HQ.out)
 have HU0 := Lib.hid (HU.out k hk)
 clear R2 R3 HQ
 obtain ⟨p, hp⟩ : ∃ p, p = (nd l (k : Int)).parent := ⟨_, rfl⟩
 rw [← hp] at d3 hpk
 have HPk := Lib.hid hp
 clear hp HU0
 generalize hasA nDisabled (nd l (k : Int)).attrs = hd at *
 cases hd
 case true =>
  have HX := Lib.hid (HR2.out rfl)
  clear HR2 HR3 HPk d3
  generalize nd l (k : Int) = n at *
  go_wp2_with fail
  refine hhas.mono ?_
  rintro e w2 ⟨rfl, hb2⟩
  go_wp2_with fail
  (try rw [Exit.noGoto_ret])
  go_ret
  exact ⟨ret_bool HX.out.symm, below_trans hbc hb2⟩
 have HX := Lib.hid (HR3.out rfl)
 clear HR2 HR3
 go_wp2_with fail
 refine hhas.mono ?_
 rintro e w2 ⟨rfl, hb2⟩
 have hb02 := below_trans hbc hb2
 have d3 := cell_below hb2 d3
 clear hhas c0 c1 c2 c3 c4
 go_upto_region 7 with fail
 go_step3
 go_upto_region 7 with fail
 go_quiet (fail)
 go_wp2_with fail
 go_loopw [6, 7, 8] (fun s6 s7 s8 wr => ∃ (a : Nat) (q : Int), s6 = .bool false ∧ s7 = .int .i64 a ∧ s8 = .int .i64 q ∧ a < l.length ∧ -1 ≤ q ∧ q < (l.length : Int) ∧ Hid (q = (nd l (a : Int)).parent) ∧ Hid (res = disU l (fsB l) (lgB l) (a : Int)) ∧ Below w.heap.size w wr) (fun _ s7 _ _ => dep l (RowKit.intOf s7))
 case atStart => exact ⟨k, _, rfl, rfl, rfl, hk, hpk.1, hpk.2, HPk, HX, by first | exact below_drewN hb02 _ | exact hb02⟩
 case round =>
  obtain ⟨a, q, rfl, rfl, rfl, ha, hq1, hq2, hqp, hres, hbr⟩ := hrel
  clear d3 hb02 hbc HPk HX hpk hb1 hb2
  have HU1 := Lib.hid (HU.out a ha)
  have HD := Lib.hid (HDe.out a ha)
  by_cases g : q < 0
  ·have HX : Hid (res = false) := Lib.hid (by rw [hres.out, HU1.out, ← hqp.out, if_pos g])
   clear hres hqp HU1
   go_wp2_with fail
   (try rw [Exit.noGoto_ret])
   go_ret
   exact ⟨ret_bool HX.out.symm, hbr⟩
  obtain ⟨qn, rfl⟩ : ∃ qn : Nat, q = (qn : Int) := ⟨q.toNat, by omega⟩
  have hql : qn < l.length := by omega
  have HX : Hid (res = ((fsB l (qn : Int) && decide (legP l (lgB l) (qn : Int) ≠ (a : Int))) || disU l (fsB l) (lgB l) (qn : Int))) := Lib.hid (by rw [hres.out, HU1.out, ← hqp.out, if_neg g])
  have HD2 : Hid (dep l (qn : Int) < dep l (a : Int)) := Lib.hid (by rw [hqp.out]; exact HD.out)
  have hkq := HKd.out wr hbr qn hql
  have HFq := Lib.hid (HFs.out (qn : Int))
  have hpq := HP.out qn hql
  clear hres hqp HU1 HD HU HFs
  go_upto_region 10 with fail
  go_cut [44] (fun s44 wx => ∃ t, s44 = .bool t ∧ Hid (t = (fsB l (qn : Int) && decide (legP l (lgB l) (qn : Int) ≠ (a : Int)))) ∧ Below w.heap.size w wx)
  case first =>
   have HLe := Lib.hid (fun w' h => HLg.out w' h qn hql)
   generalize legP l (lgB l) (qn : Int) = lg at *
   by_cases g29 : kN l (qn : Int) = 29
   case neg =>
    have gb : (kN l (qn : Int) == 29) = false := by simpa using g29
    have HQ : Hid (false = (fsB l (qn : Int) && decide (lg ≠ (a : Int)))) := Lib.hid (by rw [HFq.out, gb]; rfl)
    generalize kN l (qn : Int) = kq at *
    clear g29
    go_wp2_with fail
    refine hkq.mono ?_
    rintro e w3 ⟨rfl, hb3⟩
    go_wp2_with fail
    go_meet
    exact ⟨_, rfl, HQ, below_trans hbr hb3⟩
   have gb : (kN l (qn : Int) == 29) = true := by simpa using g29
   have HF2 : Hid (fsB l (qn : Int) = hasA nDisabled (nd l (qn : Int)).attrs) := Lib.hid (by rw [HFq.out, gb]; rfl)
   generalize kN l (qn : Int) = kq at *
   clear g29 HFq
   go_wp2_with fail
   refine hkq.mono ?_
   rintro e w3 ⟨rfl, hb3⟩
   have hb03 := below_trans hbr hb3
   obtain ⟨va, vk, hn⟩ := HN.out w3 hb03 qn hql
   have hhas := HHas.out w3 qn hql va vk hn.attrs hn.kids
   unfold nodeV at hhas
   obtain ⟨c0, c1, c2, c3, c4, _, _, _⟩ := hn
   generalize fsB l (qn : Int) = fb at *
   generalize hasA nDisabled (nd l (qn : Int)).attrs = hd at *
   obtain rfl := HF2.out
   generalize nd l (qn : Int) = nq at *
   clear hkq
   cases fb
   ·have HQ : Hid (false = (false && decide (lg ≠ (a : Int)))) := Lib.hid rfl
    go_wp2_with fail
    refine hhas.mono ?_
    rintro e w4 ⟨rfl, hb4⟩
    go_wp2_with fail
    go_meet
    exact ⟨_, rfl, HQ, below_trans hb03 hb4⟩
   ·go_wp2_with fail
    refine hhas.mono ?_
    rintro e w4 ⟨rfl, hb4⟩
    have hb04 := below_trans hb03 hb4
    have hle := HLe.out w4 hb04
    clear hhas c0 c1 c2 c3 c4
    by_cases g5 : lg = (a : Int)
    ·have gb2 : (lg != (a : Int)) = false := by simpa using g5
     have HQ : Hid (false = (true && decide (lg ≠ (a : Int)))) := Lib.hid (by rw [decide_eq_false (fun h => h g5)]; rfl)
     clear g5
     go_wp2_with fail
     refine hle.mono ?_
     rintro e w5 ⟨rfl, hb5⟩
     go_wp2_with fail
     go_meet
     exact ⟨_, rfl, HQ, below_trans hb04 hb5⟩
    ·have gb2 : (lg != (a : Int)) = true := by simpa using g5
     have HQ : Hid (true = (true && decide (lg ≠ (a : Int)))) := Lib.hid (by rw [decide_eq_true g5]; rfl)
     clear g5
     go_wp2_with fail
     refine hle.mono ?_
     rintro e w5 ⟨rfl, hb5⟩
     go_wp2_with fail
     go_meet
     exact ⟨_, rfl, HQ, below_trans hb04 hb5⟩
  case rest =>
  obtain ⟨t, rfl, ht, hbc⟩ := hcut
  clear hkq
  cases t
  case true =>
   have HX2 : Hid (res = true) := Lib.hid (by rw [HX.out, ← ht.out]; rfl)
   clear HX ht
   go_wp2_with fail
   (try rw [Exit.noGoto_ret])
   go_ret
   exact ⟨ret_bool HX2.out.symm, hbc⟩
  have HX2 : Hid (res = disU l (fsB l) (lgB l) (qn : Int)) := Lib.hid (by rw [HX.out, ← ht.out, Bool.false_or])
  obtain ⟨va, vk, hn⟩ := HN.out wc hbc qn hql
  have c3 := hn.c3
  obtain ⟨pq, hpq2⟩ : ∃ p, p = (nd l (qn : Int)).parent := ⟨_, rfl⟩
  rw [← hpq2] at c3 hpq
  have HPq := Lib.hid hpq2
  clear HX ht hn hpq2
  go_upto_region 8 with fail
  go_quiet (fail)
  go_wp2_with fail
  go_roundw
  case rel => exact ⟨qn, pq, rfl, rfl, rfl, hql, hpq.1, hpq.2, HPq, HX2, by first | exact below_drewN hbc _ | exact hbc⟩
  case measure => exact HD2.out
theorem barR_push (l : List Nd) (k : Int) (h : pushR (kN l k) = true) : barR l k = true := by unfold barR; rw [h]; rfl
theorem barR_sub (l : List Nd) (k : Int) (h : subP (kN l k) = false) : barR l k = true := by unfold barR; rw [h]; simp
theorem barR_fix (l : List Nd) (k : Int) (h : fixR l k = true) : barR l k = true := by unfold barR; rw [h]; simp
theorem barR_near (l : List Nd) (k : Int) (h1 : pushR (kN l k) = false) (h2 : subP (kN l k) = true) (h3 : fixR l k = false) : barR l k = decide (0 ≤ nearP l k nDatalist) := by unfold barR; rw [h1, h2, h3]; rfl
theorem fixR_dis (l : List Nd) (k : Int) (h : disR l k = true) : fixR l k = true := by unfold fixR; rw [h]; rfl
theorem fixR_ro (l : List Nd) (k : Int) (h : disR l k = false) (g : roP (kN l k) = false) : fixR l k = false := by unfold fixR; rw [h, g]; rfl
theorem fixR_has (l : List Nd) (k : Int) (h : disR l k = false) (g : roP (kN l k) = true) : fixR l k = hasA nReadonly (nd l k).attrs := by unfold fixR; rw [h, g]; rfl
theorem fixed_any (v : Value) (l : List Nd) (hL : LFine l) (hR : rightB l = true) (k : Nat) (hk : k < l.length) (w : World) (hA : NodesAt w v l) :
  Calls Tryz.prog 32 #[v, .int .i64 k, .int .i64 (kN l (k : Int))] w fun e w' => e = .returned (.bool (fixR l (k : Int))) ∧ Below w.heap.size w w' := by
 have hdis := disabled_any v l hL hR k hk w hA
 obtain ⟨b, off, cap, rfl, hb⟩ := nodes_addr hA (by omega)
 have HN := Lib.hid (fun w' (h : Below w.heap.size w w') => nodes_get (hA.below h) k hk)
 have HHas := Lib.hid (fun w' va vk h1 h2 => vhas_any (nd l (k : Int)) va vk nReadonly (hL.nd _ (by omega) (by omega)).attrs w' h1 h2)
 have hro := fun w => readonly_any (kN l (k : Int)) w
 have F1 := Lib.hid (fixR_dis l (k : Int))
 have F2 := Lib.hid (fixR_ro l (k : Int))
 have F3 := Lib.hid (fixR_has l (k : Int))
 have h0 : (0 : Int) ≤ (k : Int) := by omega
 have hk' : (k : Int) < (l.length : Int) := by omega
 generalize fixR l (k : Int) = res at *
 generalize disR l (k : Int) = d at *
 generalize kN l (k : Int) = kd at *
 generalize roP kd = ro at *
 clear hL hR hA
 cases d
 case true =>
  have HX := Lib.hid (F1.out rfl)
  clear F1 F2 F3
  go_enter Tryz.func32, Tryz.ntmps32
  go_wp2_with fail
  refine hdis.mono ?_
  rintro e w1 ⟨rfl, hb1⟩
  go_wp2_with fail
  go_ret
  exact ⟨ret_bool HX.out.symm, hb1⟩
 cases ro
 case false =>
  have HX := Lib.hid (F2.out rfl rfl)
  clear F1 F2 F3
  go_enter Tryz.func32, Tryz.ntmps32
  go_wp2_with fail
  refine hdis.mono ?_
  rintro e w1 ⟨rfl, hb1⟩
  go_wp2_with fail
  refine (hro w1).mono ?_
  rintro e w2 ⟨rfl, rfl⟩
  go_wp2_with fail
  go_ret
  exact ⟨ret_bool HX.out.symm, hb1⟩
 have HX := Lib.hid (F3.out rfl rfl)
 clear F1 F2 F3
 go_enter Tryz.func32, Tryz.ntmps32
 go_wp2_with fail
 refine hdis.mono ?_
 rintro e w1 ⟨rfl, hb1⟩
 go_wp2_with fail
 refine (hro w1).mono ?_
 rintro e w2 ⟨rfl, rfl⟩
 obtain ⟨va, vk, hn⟩ := HN.out w1 hb1
 have hhas := HHas.out w1 va vk hn.attrs hn.kids
 unfold nodeV at hhas
 obtain ⟨c0, c1, c2, c3, c4, _, _, _⟩ := hn
 generalize hasA nReadonly (nd l (k : Int)).attrs = hh at *
 generalize nd l (k : Int) = n at *
 clear hdis hro
 go_wp2_with fail
 refine hhas.mono ?_
 rintro e w3 ⟨rfl, hb3⟩
 go_wp2_with fail
 go_ret
 exact ⟨ret_bool HX.out.symm, below_trans hb1 hb3⟩

theorem barP_out (l : List Nd) (k : Int) (h : (decide (0 ≤ k) && decide (k < (l.length : Int)) && rightB l) = false) : barP l k = true := by unfold barP; rw [h]; rfl
theorem barP_in (l : List Nd) (k : Int) (h0 : 0 ≤ k) (h1 : k < (l.length : Int)) (hR : rightB l = true) : barP l k = barR l k := by unfold barP; rw [decide_eq_true h0, decide_eq_true h1, hR]; rfl
theorem push_cases (k : Int) : (pushR k = true ∧ (k = 1 ∨ k = 21 ∨ k = 22 ∨ k = 26 ∨ k = 27)) ∨ (pushR k = false ∧ (k == 1) = false ∧ (k == 21) = false ∧ (k == 22) = false ∧ (k == 26) = false ∧ (k == 27) = false) := by
 unfold pushR
 by_cases h : k = 1 ∨ k = 21 ∨ k = 22 ∨ k = 26 ∨ k = 27
 ·exact .inl ⟨decide_eq_true h, h⟩
 ·refine .inr ⟨decide_eq_false h, ?_, ?_, ?_, ?_, ?_⟩ <;> (simp; omega)
theorem barred_in (v : Value) (l : List Nd) (hL : LFine l) (hR : rightB l = true) (k : Nat) (hk : k < l.length) (w : World) (hA : NodesAt w v l) :
  Calls Tryz.prog 10 #[v, .int .i64 k] w fun e w' => e = .returned (.bool (barR l (k : Int))) ∧ Below w.heap.size w w' := by
 have hri := right_any v l hL w hA
 rw [hR] at hri
 have hlen := hL.len
 have HFix := Lib.hid (fun w' (h : Below w.heap.size w w') => fixed_any v l hL hR k hk w' (hA.below h))
 have HUp := Lib.hid (fun w' (h : Below w.heap.size w w') => up_any v l hL hR k hk nDatalist w' (hA.below h))
 obtain ⟨b, off, cap, rfl, hb⟩ := nodes_addr hA (by omega)
 have HN := Lib.hid (fun w' (h : Below w.heap.size w w') => nodes_get (hA.below h) k hk)
 have HOf := Lib.hid (fun w' va vk h1 h2 => of_any (nd l (k : Int)) va vk (hL.nd _ (by omega) (by omega)) w' h1 h2)
 have HK : Hid (kindP (nd l (k : Int)).name (nd l (k : Int)).attrs = kN l (k : Int)) := Lib.hid rfl
 have hsub := fun w => submits_any (kN l (k : Int)) w
 have B1 := Lib.hid (barR_push l (k : Int))
 have B2 := Lib.hid (barR_sub l (k : Int))
 have B3 := Lib.hid (barR_fix l (k : Int))
 have B4 := Lib.hid (barR_near l (k : Int))
 have hpc := push_cases (kN l (k : Int))
 have h0 : (0 : Int) ≤ (k : Int) := by omega
 have hk' : (k : Int) < (l.length : Int) := by omega
 rw [HK.out] at HOf
 generalize barR l (k : Int) = res at *
 generalize fixR l (k : Int) = fx at *
 generalize nearP l (k : Int) nDatalist = np at *
 generalize kN l (k : Int) = kd at *
 generalize subP kd = sb at *
 generalize nd l (k : Int) = n at *
 clear hL hR hA HK
 rcases hpc with ⟨hp, hc⟩ | ⟨hp, t1, t21, t22, t26, t27⟩
 ·have HX := Lib.hid (B1.out hp)
  clear B1 B2 B3 B4 hp hsub HFix HUp
  rcases hc with rfl | rfl | rfl | rfl | rfl
  all_goals
   go_enter Tryz.func10, Tryz.ntmps10
   go_wp2_with fail
   refine hri.mono ?_
   rintro e w1 ⟨rfl, hb1⟩
   obtain ⟨va, vk, hn⟩ := HN.out w1 hb1
   have hof := HOf.out w1 va vk hn.attrs hn.kids
   unfold nodeV at hof
   obtain ⟨c0, c1, c2, c3, c4, _, _, _⟩ := hn
   clear hri
   go_wp2_with fail
   refine hof.mono ?_
   rintro e w2 ⟨rfl, hb2⟩
   go_wp2_with fail
   go_ret
   exact ⟨ret_bool HX.out.symm, below_trans hb1 hb2⟩
 have HB4 := Lib.hid (B4.out hp)
 clear B1 B4 hp
 go_enter Tryz.func10, Tryz.ntmps10
 go_wp2_with fail
 refine hri.mono ?_
 rintro e w1 ⟨rfl, hb1⟩
 obtain ⟨va, vk, hn⟩ := HN.out w1 hb1
 have hof := HOf.out w1 va vk hn.attrs hn.kids
 unfold nodeV at hof
 obtain ⟨c0, c1, c2, c3, c4, _, _, _⟩ := hn
 clear hri
 go_wp2_with fail
 refine hof.mono ?_
 rintro e w2 ⟨rfl, hb2⟩
 have hb02 := below_trans hb1 hb2
 clear hof c0 c1 c2 c3 c4
 go_wp2_with fail
 refine (hsub w2).mono ?_
 rintro e w3 ⟨rfl, rfl⟩
 clear hsub
 cases sb
 case false =>
  have HX := Lib.hid (B2.out rfl)
  clear B2 B3 HB4
  go_wp2_with fail
  go_ret
  exact ⟨ret_bool HX.out.symm, hb02⟩
 go_wp2_with fail
 refine (HFix.out w2 hb02).mono ?_
 rintro e w4 ⟨rfl, hb4⟩
 have hb04 := below_trans hb02 hb4
 cases fx
 case true =>
  have HX := Lib.hid (B3.out rfl)
  clear B2 B3 HB4
  go_wp2_with fail
  go_ret
  exact ⟨ret_bool HX.out.symm, hb04⟩
 have HX := Lib.hid (HB4.out (by first | rfl | trivial) (by first | rfl | trivial))
 clear B2 B3 HB4
 go_wp2_with fail
 refine (HUp.out w4 hb04).mono ?_
 rintro e w5 ⟨rfl, hb5⟩
 go_wp2_with fail
 go_ret
 exact ⟨ret_bool HX.out.symm, below_trans hb04 hb5⟩
theorem barred_any (v : Value) (l : List Nd) (hL : LFine l) (k : Int) (w : World) (hA : NodesAt w v l) :
  Calls Tryz.prog 10 #[v, .int .i64 k] w fun e w' => e = .returned (.bool (barP l k)) ∧ Below w.heap.size w w' := by
 have hri := right_any v l hL w hA
 have hlen := hL.len
 by_cases g0 : 0 ≤ k
 case neg =>
  have HX : Hid (barP l k = true) := Lib.hid (barP_out l k (by rw [decide_eq_false g0]; rfl))
  obtain ⟨oa, cap, rfl⟩ := NodesAt.lenN hA
  rw [HX.out]
  clear hL hA hri
  go_enter Tryz.func10, Tryz.ntmps10
  go_wp2_with fail
  go_ret
  exact ⟨rfl, Below.refl _ _⟩
 by_cases g1 : k < (l.length : Int)
 case neg =>
  have HX : Hid (barP l k = true) := Lib.hid (barP_out l k (by rw [decide_eq_false g1]; simp))
  obtain ⟨oa, cap, rfl⟩ := NodesAt.lenN hA
  rw [HX.out]
  clear hL hA hri
  go_enter Tryz.func10, Tryz.ntmps10
  go_wp2_with fail
  go_ret
  exact ⟨rfl, Below.refl _ _⟩
 cases hR : rightB l
 ·have HX : Hid (barP l k = true) := Lib.hid (barP_out l k (by rw [hR]; simp))
  rw [hR] at hri
  obtain ⟨oa, cap, rfl⟩ := NodesAt.lenN hA
  rw [HX.out]
  clear hL hA hR
  go_enter Tryz.func10, Tryz.ntmps10
  go_wp2_with fail
  refine hri.mono ?_
  rintro e w1 ⟨rfl, hb1⟩
  go_wp2_with fail
  go_ret
  exact ⟨rfl, hb1⟩
 ·rw [barP_in l k g0 g1 hR]
  obtain ⟨kn, rfl⟩ : ∃ kn : Nat, k = (kn : Int) := ⟨k.toNat, by omega⟩
  exact barred_in v l hL hR kn (by omega) w hA
end Go.Proofs.YtkhlfggnjcbniaaGreatDoor.doc
