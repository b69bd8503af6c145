/- A part of the proofs: lemmas and contracts. -/
import Derived.Test.YtkhlfggnjcbniaaGreatDoorP16
set_option maxHeartbeats 12800000
set_option maxRecDepth 1000000
namespace Go.Proofs.YtkhlfggnjcbniaaGreatDoor.doc
open Go.ChangeShapes Go.WideShapes Go.ChangeAt Go.RowKit Go.Lib atr link

theorem not_inj {a b : Bool} (h : a = !b) : b = !a := by cases a <;> cases b <;> simp_all
theorem disR_no (l : List Nd) (k : Int) (h : (subP (kN l k) || kN l k == 29) = false) : disR l k = false := by unfold disR; rw [h]; rfl
theorem disR_own (l : List Nd) (k : Int) (h : (subP (kN l k) || kN l k == 29) = true) (g : hasA nDisabled (nd l k).attrs = true) : disR l k = true := by unfold disR; rw [h, g]; rfl
theorem disR_up (l : List Nd) (k : Int) (h : (subP (kN l k) || kN l k == 29) = true) (g : hasA nDisabled (nd l k).attrs = false) : disR l k = disU l (fsB l) (lgB l) k := by unfold disR; rw [h, g]; rfl
theorem disabled_any (v : Value) (l : List Nd) (hL : LFine l) (hR : rightB l = true) (k : Nat) (hk : k < l.length) (w : World) (hA : NodesAt w v l) :
  Calls Tryz.prog 71 #[v, .int .i64 k] w fun e w' => e = .returned (.bool (disR l (k : Int))) ∧ Below w.heap.size w w' := by
 have hRt := right_rt l hR
 have hf := hRt.few
 obtain ⟨b, off, cap, rfl, hb⟩ := nodes_addr hA (by omega)
 have HN := Lib.hid (fun w' (h : Below w.heap.size w w') j hj => nodes_get (hA.below h) j hj)
 have HKd := Lib.hid (fun w' (h : Below w.heap.size w w') (j : Nat) (hj : j < l.length) => by
  have := okind_any _ l hL (j : Int) w' (hA.below h)
  rwa [kO_in l (j : Int) (by omega) (by omega)] at this)
 have HLg := Lib.hid (fun w' (h : Below w.heap.size w w') (j : Nat) (hj : j < l.length) => legend_any _ l hL hR j hj w' (hA.below h))
 have HHas := Lib.hid (fun w' (j : Nat) (hj : j < l.length) va vk h1 h2 => ownhas_any (nd l (j : Int)) va vk nDisabled (hL.nd _ (by omega) (by omega)).attrs w' h1 h2)
 have HRi := Lib.hid (fun w' (h : Below w.heap.size w w') => by
  have := right_any _ l hL w' (hA.below h)
  rwa [hR] at this)
 have HP := Lib.hid (fun (j : Nat) (hj : j < l.length) => hRt.par (j : Int) ⟨by omega, by omega⟩)
 have HU := Lib.hid (fun (j : Nat) (hj : j < l.length) => disU_eq hRt (fsB l) (lgB l) (j : Int) ⟨by omega, by omega⟩)
 have HDe := Lib.hid (fun (j : Nat) (hj : j < l.length) => dep_up hRt j hj)
 have R1 := Lib.hid (disR_no l (k : Int))
 have R2 := Lib.hid (disR_own l (k : Int))
 have R3 := Lib.hid (disR_up l (k : Int))
 have HFs : Hid (∀ j : Int, fsB l j = (kN l j == 29 && hasA nDisabled (nd l j).attrs)) := Lib.hid (fun j => rfl)
 have hkd := HKd.out w (Below.refl _ _) k hk
 have hsub := fun w => submits_any (kN l (k : Int)) w
 have h0 : (0 : Int) ≤ (k : Int) := by omega
 have hk' : (k : Int) < (l.length : Int) := by omega
 generalize disR l (k : Int) = res at *
 generalize kN l (k : Int) = kd at *
 obtain ⟨sb, hsb⟩ : ∃ sb, sb = subP kd := ⟨_, rfl⟩
 rw [← hsb] at hsub R1 R2 R3
 clear hRt hR hL hA hsb
 go_enter Tryz.func71, Tryz.ntmps71
 go_wp2_with fail
 go_step3
 go_wp2_with fail
 refine hkd.mono ?_
 rintro e w1 ⟨rfl, hb1⟩
 have hri := HRi.out w1 hb1
 clear hkd
 go_upto_region 2 with fail
 go_cut [23] (fun s23 wx => ∃ q, s23 = .bool q ∧ Hid (q = !(sb || kd == 29)) ∧ Below w.heap.size w wx)
 case first =>
  cases sb
  ·by_cases g : kd = 29
   ·have gb : (kd != 29) = false := by simp [g]
    have HQ : Hid (false = !(false || kd == 29)) := Lib.hid (by simp [g])
    clear g
    go_wp2_with fail
    refine (hsub w1).mono ?_
    rintro e w2 ⟨rfl, rfl⟩
    go_wp2_with fail
    refine hri.mono ?_
    rintro e w3 ⟨rfl, hb3⟩
    go_wp2_with fail
    go_meet
    exact ⟨_, rfl, HQ, below_trans hb1 hb3⟩
   ·have gb : (kd != 29) = true := by simpa using g
    have HQ : Hid (true = !(false || kd == 29)) := Lib.hid (by simp [g])
    clear g hri
    go_wp2_with fail
    refine (hsub w1).mono ?_
    rintro e w2 ⟨rfl, rfl⟩
    go_wp2_with fail
    go_meet
    exact ⟨_, rfl, HQ, hb1⟩
  ·have HQ : Hid (false = !(true || kd == 29)) := Lib.hid (by simp)
   go_wp2_with fail
   refine (hsub w1).mono ?_
   rintro e w2 ⟨rfl, rfl⟩
   go_wp2_with fail
   refine hri.mono ?_
   rintro e w3 ⟨rfl, hb3⟩
   go_wp2_with fail
   go_meet
   exact ⟨_, rfl, HQ, below_trans hb1 hb3⟩
 case rest =>
 obtain ⟨q, rfl, hq, hbc⟩ := hcut
 clear hri hsub
 cases q
 case true =>
  have HX := Lib.hid (R1.out (not_inj hq.out))
  clear hq R1 R2 R3
  go_wp2_with fail
  (try rw [Exit.noGoto_ret])
  go_ret
  exact ⟨ret_bool HX.out.symm, hbc⟩
 have HQ : Hid ((sb || kd == 29) = true) := Lib.hid (not_inj hq.out)
 clear hq R1
 obtain ⟨va, vk, hn⟩ := HN.out wc hbc k hk
 have hhas := HHas.out wc k hk va vk hn.attrs hn.kids
 have d3 := hn.c3
 have hpk := HP.out k hk
 unfold nodeV at hhas
 obtain ⟨c0, c1, c2, c3, c4, _, _, _⟩ := hn
 have HR2 := Lib.hid (R2.out HQ.out)
 have HR3 := Lib.hid (R3.out HQ.out)
 have HU0 := Lib.hid (HU.out k hk)
 clear R2 R3 HQ
 obtain ⟨p, hp⟩ : ∃ p, p = (nd l (k : Int)).parent := ⟨_, rfl⟩
 rw [← hp] at d3 hpk
 have HPk := Lib.hid hp
 clear hp HU0
 generalize hasA nDisabled (nd l (k : Int)).attrs = hd at *
 cases hd
 case true =>
  have HX := Lib.hid (HR2.out rfl)
  clear HR2 HR3 HPk d3
  generalize nd l (k : Int) = n at *
  go_wp2_with fail
  refine hhas.mono ?_
  rintro e w2 ⟨rfl, hb2⟩
  go_wp2_with fail
  (try rw [Exit.noGoto_ret])
  go_ret
  exact ⟨ret_bool HX.out.symm, below_trans hbc hb2⟩
 have HX := Lib.hid (HR3.out rfl)
 clear HR2 HR3
 go_wp2_with fail
 refine hhas.mono ?_
 rintro e w2 ⟨rfl, hb2⟩
 have hb02 := below_trans hbc hb2
 have d3 := cell_below hb2 d3
 clear hhas c0 c1 c2 c3 c4
 go_upto_region 7 with fail
 go_step3
 go_upto_region 7 with fail
 go_quiet (fail)
 go_wp2_with fail
 go_loopw [6, 7, 8] (fun s6 s7 s8 wr => ∃ (a : Nat) (q : Int), s6 = .bool false ∧ s7 = .int .i64 a ∧ s8 = .int .i64 q ∧ a < l.length ∧ -1 ≤ q ∧ q < (l.length : Int) ∧ Hid (q = (nd l (a : Int)).parent) ∧ Hid (res = disU l (fsB l) (lgB l) (a : Int)) ∧ Below w.heap.size w wr) (fun _ s7 _ _ => dep l (RowKit.intOf s7))
 case atStart => exact ⟨k, _, rfl, rfl, rfl, hk, hpk.1, hpk.2, HPk, HX, by first | exact below_drewN hb02 _ | exact hb02⟩
 case round =>
  obtain ⟨a, q, rfl, rfl, rfl, ha, hq1, hq2, hqp, hres, hbr⟩ := hrel
  clear d3 hb02 hbc HPk HX hpk hb1 hb2
  have HU1 := Lib.hid (HU.out a ha)
  have HD := Lib.hid (HDe.out a ha)
  by_cases g : q < 0
  ·have HX : Hid (res = false) := Lib.hid (by rw [hres.out, HU1.out, ← hqp.out, if_pos g])
   clear hres hqp HU1
   go_wp2_with fail
   (try rw [Exit.noGoto_ret])
   go_ret
   exact ⟨ret_bool HX.out.symm, hbr⟩
  obtain ⟨qn, rfl⟩ : ∃ qn : Nat, q = (qn : Int) := ⟨q.toNat, by omega⟩
  have hql : qn < l.length := by omega
  have HX : Hid (res = ((fsB l (qn : Int) && decide (legP l (lgB l) (qn : Int) ≠ (a : Int))) || disU l (fsB l) (lgB l) (qn : Int))) := Lib.hid (by rw [hres.out, HU1.out, ← hqp.out, if_neg g])
  have HD2 : Hid (dep l (qn : Int) < dep l (a : Int)) := Lib.hid (by rw [hqp.out]; exact HD.out)
  have hkq := HKd.out wr hbr qn hql
  have HFq := Lib.hid (HFs.out (qn : Int))
  have hpq := HP.out qn hql
  clear hres hqp HU1 HD HU HFs
  go_upto_region 10 with fail
  go_cut [44] (fun s44 wx => ∃ t, s44 = .bool t ∧ Hid (t = (fsB l (qn : Int) && decide (legP l (lgB l) (qn : Int) ≠ (a : Int)))) ∧ Below w.heap.size w wx)
  case first =>
   have HLe := Lib.hid (fun w' h => HLg.out w' h qn hql)
   generalize legP l (lgB l) (qn : Int) = lg at *
   by_cases g29 : kN l (qn : Int) = 29
   case neg =>
    have gb : (kN l (qn : Int) == 29) = false := by simpa using g29
    have HQ : Hid (false = (fsB l (qn : Int) && decide (lg ≠ (a : Int)))) := Lib.hid (by rw [HFq.out, gb]; rfl)
    generalize kN l (qn : Int) = kq at *
    clear g29
    go_wp2_with fail
    refine hkq.mono ?_
    rintro e w3 ⟨rfl, hb3⟩
    go_wp2_with fail
    go_meet
    exact ⟨_, rfl, HQ, below_trans hbr hb3⟩
   have gb : (kN l (qn : Int) == 29) = true := by simpa using g29
   have HF2 : Hid (fsB l (qn : Int) = hasA nDisabled (nd l (qn : Int)).attrs) := Lib.hid (by rw [HFq.out, gb]; rfl)
   generalize kN l (qn : Int) = kq at *
   clear g29 HFq
   go_wp2_with fail
   refine hkq.mono ?_
   rintro e w3 ⟨rfl, hb3⟩
   have hb03 := below_trans hbr hb3
   obtain ⟨va, vk, hn⟩ := HN.out w3 hb03 qn hql
   have hhas := HHas.out w3 qn hql va vk hn.attrs hn.kids
   unfold nodeV at hhas
   obtain ⟨c0, c1, c2, c3, c4, _, _, _⟩ := hn
   generalize fsB l (qn : Int) = fb at *
   generalize hasA nDisabled (nd l (qn : Int)).attrs = hd at *
   obtain rfl := HF2.out
   generalize nd l (qn : Int) = nq at *
   clear hkq
   cases fb
   ·have HQ : Hid (false = (false && decide (lg ≠ (a : Int)))) := Lib.hid rfl
    go_wp2_with fail
    refine hhas.mono ?_
    rintro e w4 ⟨rfl, hb4⟩
    go_wp2_with fail
    go_meet
    exact ⟨_, rfl, HQ, below_trans hb03 hb4⟩
   ·go_wp2_with fail
    refine hhas.mono ?_
    rintro e w4 ⟨rfl, hb4⟩
    have hb04 := below_trans hb03 hb4
    have hle := HLe.out w4 hb04
    clear hhas c0 c1 c2 c3 c4
    by_cases g5 : lg = (a : Int)
    ·have gb2 : (lg != (a : Int)) = false := by simpa using g5
     have HQ : Hid (false = (true && decide (lg ≠ (a : Int)))) := Lib.hid (by rw [decide_eq_false (fun h => h g5)]; rfl)
     clear g5
     go_wp2_with fail
     refine hle.mono ?_
     rintro e w5 ⟨rfl, hb5⟩
     go_wp2_with fail
     go_meet
     exact ⟨_, rfl, HQ, below_trans hb04 hb5⟩
    ·have gb2 : (lg != (a : Int)) = true := by simpa using g5
     have HQ : Hid (true = (true && decide (lg ≠ (a : Int)))) := Lib.hid (by rw [decide_eq_true g5]; rfl)
     clear g5
     go_wp2_with fail
     refine hle.mono ?_
     rintro e w5 ⟨rfl, hb5⟩
     go_wp2_with fail
     go_meet
     exact ⟨_, rfl, HQ, below_trans hb04 hb5⟩
  case rest =>
  obtain ⟨t, rfl, ht, hbc⟩ := hcut
  clear hkq
  cases t
  case true =>
   have HX2 : Hid (res = true) := Lib.hid (by rw [HX.out, ← ht.out]; rfl)
   clear HX ht
   go_wp2_with fail
   (try rw [Exit.noGoto_ret])
   go_ret
   exact ⟨ret_bool HX2.out.symm, hbc⟩
  have HX2 : Hid (res = disU l (fsB l) (lgB l) (qn : Int)) := Lib.hid (by rw [HX.out, ← ht.out, Bool.false_or])
  obtain ⟨va, vk, hn⟩ := HN.out wc hbc qn hql
  have c3 := hn.c3
  obtain ⟨pq, hpq2⟩ : ∃ p, p = (nd l (qn : Int)).parent := ⟨_, rfl⟩
  rw [← hpq2] at c3 hpq
  have HPq := Lib.hid hpq2
  clear HX ht hn hpq2
  go_upto_region 8 with fail
  go_quiet (fail)
  go_wp2_with fail
  go_roundw
  case rel => exact ⟨qn, pq, rfl, rfl, rfl, hql, hpq.1, hpq.2, HPq, HX2, by first | exact below_drewN hbc _ | exact hbc⟩
  case measure => exact HD2.out
theorem barR_push (l : List Nd) (k : Int) (h : pushR (kN l k) = true) : barR l k = true := by unfold barR; rw [h]; rfl
theorem barR_sub (l : List Nd) (k : Int) (h : subP (kN l k) = false) : barR l k = true := by unfold barR; rw [h]; simp
theorem barR_fix (l : List Nd) (k : Int) (h : fixR l k = true) : barR l k = true := by unfold barR; rw [h]; simp
theorem barR_near (l : List Nd) (k : Int) (h1 : pushR (kN l k) = false) (h2 : subP (kN l k) = true) (h3 : fixR l k = false) : barR l k = decide (0 ≤ nearP l k nDatalist) := by unfold barR; rw [h1, h2, h3]; rfl
theorem fixR_dis (l : List Nd) (k : Int) (h : disR l k = true) : fixR l k = true := by unfold fixR; rw [h]; rfl
theorem fixR_ro (l : List Nd) (k : Int) (h : disR l k = false) (g : roP (kN l k) = false) : fixR l k = false := by unfold fixR; rw [h, g]; rfl
theorem fixR_has (l : List Nd) (k : Int) (h : disR l k = false) (g : roP (kN l k) = true) : fixR l k = hasA nReadonly (nd l k).attrs := by unfold fixR; rw [h, g]; rfl
theorem fixed_any (v : Value) (l : List Nd) (hL : LFine l) (hR : rightB l = true) (k : Nat) (hk : k < l.length) (w : World) (hA : NodesAt w v l) :
  Calls Tryz.prog 32 #[v, .int .i64 k, .int .i64 (kN l (k : Int))] w fun e w' => e = .returned (.bool (fixR l (k : Int))) ∧ Below w.heap.size w w' := by
 have hdis := disabled_any v l hL hR k hk w hA
 obtain ⟨b, off, cap, rfl, hb⟩ := nodes_addr hA (by omega)
 have HN := Lib.hid (fun w' (h : Below w.heap.size w w') => nodes_get (hA.below h) k hk)
 have HHas := Lib.hid (fun w' va vk h1 h2 => vhas_any (nd l (k : Int)) va vk nReadonly (hL.nd _ (by omega) (by omega)).attrs w' h1 h2)
 have hro := fun w => readonly_any (kN l (k : Int)) w
 have F1 := Lib.hid (fixR_dis l (k : Int))
 have F2 := Lib.hid (fixR_ro l (k : Int))
 have F3 := Lib.hid (fixR_has l (k : Int))
 have h0 : (0 : Int) ≤ (k : Int) := by omega
 have hk' : (k : Int) < (l.length : Int) := by omega
 generalize fixR l (k : Int) = res at *
 generalize disR l (k : Int) = d at *
 generalize kN l (k : Int) = kd at *
 generalize roP kd = ro at *
 clear hL hR hA
 cases d
 case true =>
  have HX := Lib.hid (F1.out rfl)
  clear F1 F2 F3
  go_enter Tryz.func32, Tryz.ntmps32
  go_wp2_with fail
  refine hdis.mono ?_
  rintro e w1 ⟨rfl, hb1⟩
  go_wp2_with fail
  go_ret
  exact ⟨ret_bool HX.out.symm, hb1⟩
 cases ro
 case false =>
  have HX := Lib.hid (F2.out rfl rfl)
  clear F1 F2 F3
  go_enter Tryz.func32, Tryz.ntmps32
  go_wp2_with fail
  refine hdis.mono ?_
  rintro e w1 ⟨rfl, hb1⟩
  go_wp2_with fail
  refine (hro w1).mono ?_
  rintro e w2 ⟨rfl, rfl⟩
  go_wp2_with fail
  go_ret
  exact ⟨ret_bool HX.out.symm, hb1⟩
 have HX := Lib.hid (F3.out rfl rfl)
 clear F1 F2 F3
 go_enter Tryz.func32, Tryz.ntmps32
 go_wp2_with fail
 refine hdis.mono ?_
 rintro e w1 ⟨rfl, hb1⟩
 go_wp2_with fail
 refine (hro w1).mono ?_
 rintro e w2 ⟨rfl, rfl⟩
 obtain ⟨va, vk, hn⟩ := HN.out w1 hb1
 have hhas := HHas.out w1 va vk hn.attrs hn.kids
 unfold nodeV at hhas
 obtain ⟨c0, c1, c2, c3, c4, _, _, _⟩ := hn
 generalize hasA nReadonly (nd l (k : Int)).attrs = hh at *
 generalize nd l (k : Int) = n at *
 clear hdis hro
 go_wp2_with fail
 refine hhas.mono ?_
 rintro e w3 ⟨rfl, hb3⟩
 go_wp2_with fail
 go_ret
 exact ⟨ret_bool HX.out.symm, below_trans hb1 hb3⟩

theorem barP_out (l : List Nd) (k : Int) (h : (decide (0 ≤ k) && decide (k < (l.length : Int)) && rightB l) = false) : barP l k = true := by unfold barP; rw [h]; rfl
theorem barP_in (l : List Nd) (k : Int) (h0 : 0 ≤ k) (h1 : k < (l.length : Int)) (hR : rightB l = true) : barP l k = barR l k := by unfold barP; rw [decide_eq_true h0, decide_eq_true h1, hR]; rfl
theorem push_cases (k : Int) : (pushR k = true ∧ (k = 1 ∨ k = 21 ∨ k = 22 ∨ k = 26 ∨ k = 27)) ∨ (pushR k = false ∧ (k == 1) = false ∧ (k == 21) = false ∧ (k == 22) = false ∧ (k == 26) = false ∧ (k == 27) = false) := by
 unfold pushR
 by_cases h : k = 1 ∨ k = 21 ∨ k = 22 ∨ k = 26 ∨ k = 27
 ·exact .inl ⟨decide_eq_true h, h⟩
 ·refine .inr ⟨decide_eq_false h, ?_, ?_, ?_, ?_, ?_⟩ <;> (simp; omega)
theorem barred_in (v : Value) (l : List Nd) (hL : LFine l) (hR : rightB l = true) (k : Nat) (hk : k < l.length) (w : World) (hA : NodesAt w v l) :
  Calls Tryz.prog 10 #[v, .int .i64 k] w fun e w' => e = .returned (.bool (barR l (k : Int))) ∧ Below w.heap.size w w' := by
 have hri := right_any v l hL w hA
 rw [hR] at hri
 have hlen := hL.len
 have HFix := Lib.hid (fun w' (h : Below w.heap.size w w') => fixed_any v l hL hR k hk w' (hA.below h))
 have HUp := Lib.hid (fun w' (h : Below w.heap.size w w') => up_any v l hL hR k hk nDatalist w' (hA.below h))
 obtain ⟨b, off, cap, rfl, hb⟩ := nodes_addr hA (by omega)
 have HN := Lib.hid (fun w' (h : Below w.heap.size w w') => nodes_get (hA.below h) k hk)
 have HOf := Lib.hid (fun w' va vk h1 h2 => of_any (nd l (k : Int)) va vk (hL.nd _ (by omega) (by omega)) w' h1 h2)
 have HK : Hid (kindP (nd l (k : Int)).name (nd l (k : Int)).attrs = kN l (k : Int)) := Lib.hid rfl
 have hsub := fun w => submits_any (kN l (k : Int)) w
 have B1 := Lib.hid (barR_push l (k : Int))
 have B2 := Lib.hid (barR_sub l (k : Int))
 have B3 := Lib.hid (barR_fix l (k : Int))
 have B4 := Lib.hid (barR_near l (k : Int))
 have hpc := push_cases (kN l (k : Int))
 have h0 : (0 : Int) ≤ (k : Int) := by omega
 have hk' : (k : Int) < (l.length : Int) := by omega
 rw [HK.out] at HOf
 generalize barR l (k : Int) = res at *
 generalize fixR l (k : Int) = fx at *
 generalize nearP l (k : Int) nDatalist = np at *
 generalize kN l (k : Int) = kd at *
 generalize subP kd = sb at *
 generalize nd l (k : Int) = n at *
 clear hL hR hA HK
 rcases hpc with ⟨hp, hc⟩ | ⟨hp, t1, t21, t22, t26, t27⟩
 ·have HX := Lib.hid (B1.out hp)
  clear B1 B2 B3 B4 hp hsub HFix HUp
  rcases hc with rfl | rfl | rfl | rfl | rfl
  all_goals
   go_enter Tryz.func10, Tryz.ntmps10
   go_wp2_with fail
   refine hri.mono ?_
   rintro e w1 ⟨rfl, hb1⟩
   obtain ⟨va, vk, hn⟩ := HN.out w1 hb1
   have hof := HOf.out w1 va vk hn.attrs hn.kids
   unfold nodeV at hof
   obtain ⟨c0, c1, c2, c3, c4, _, _, _⟩ := hn
   clear hri
   go_wp2_with fail
   refine hof.mono ?_
   rintro e w2 ⟨rfl, hb2⟩
   go_wp2_with fail
   go_ret
   exact ⟨ret_bool HX.out.symm, below_trans hb1 hb2⟩
 have HB4 := Lib.hid (B4.out hp)
 clear B1 B4 hp
 go_enter Tryz.func10, Tryz.ntmps10
 go_wp2_with fail
 refine hri.mono ?_
 rintro e w1 ⟨rfl, hb1⟩
 obtain ⟨va, vk, hn⟩ := HN.out w1 hb1
 have hof := HOf.out w1 va vk hn.attrs hn.kids
 unfold nodeV at hof
 obtain ⟨c0, c1, c2, c3, c4, _, _, _⟩ := hn
 clear hri
 go_wp2_with fail
 refine hof.mono ?_
 rintro e w2 ⟨rfl, hb2⟩
 have hb02 := below_trans hb1 hb2
 clear hof c0 c1 c2 c3 c4
 go_wp2_with fail
 refine (hsub w2).mono ?_
 rintro e w3 ⟨rfl, rfl⟩
 clear hsub
 cases sb
 case false =>
  have HX := Lib.hid (B2.out rfl)
  clear B2 B3 HB4
  go_wp2_with fail
  go_ret
  exact ⟨ret_bool HX.out.symm, hb02⟩
 go_wp2_with fail
 refine (HFix.out w2 hb02).mono ?_
 rintro e w4 ⟨rfl, hb4⟩
 have hb04 := below_trans hb02 hb4
 cases fx
 case true =>
  have HX := Lib.hid (B3.out rfl)
  clear B2 B3 HB4
  go_wp2_with fail
  go_ret
  exact ⟨ret_bool HX.out.symm, hb04⟩
 have HX := Lib.hid (HB4.out (by first | rfl | trivial) (by first | rfl | trivial))
 clear B2 B3 HB4
 go_wp2_with fail
 refine (HUp.out w4 hb04).mono ?_
 rintro e w5 ⟨rfl, hb5⟩
 go_wp2_with fail
 go_ret
 exact ⟨ret_bool HX.out.symm, below_trans hb04 hb5⟩
theorem barred_any (v : Value) (l : List Nd) (hL : LFine l) (k : Int) (w : World) (hA : NodesAt w v l) :
  Calls Tryz.prog 10 #[v, .int .i64 k] w fun e w' => e = .returned (.bool (barP l k)) ∧ Below w.heap.size w w' := by
 have hri := right_any v l hL w hA
 have hlen := hL.len
 by_cases g0 : 0 ≤ k
 case neg =>
  have HX : Hid (barP l k = true) := Lib.hid (barP_out l k (by rw [decide_eq_false g0]; rfl))
  obtain ⟨oa, cap, rfl⟩ := NodesAt.lenN hA
  rw [HX.out]
  clear hL hA hri
  go_enter Tryz.func10, Tryz.ntmps10
  go_wp2_with fail
  go_ret
  exact ⟨rfl, Below.refl _ _⟩
 by_cases g1 : k < (l.length : Int)
 case neg =>
  have HX : Hid (barP l k = true) := Lib.hid (barP_out l k (by rw [decide_eq_false g1]; simp))
  obtain ⟨oa, cap, rfl⟩ := NodesAt.lenN hA
  rw [HX.out]
  clear hL hA hri
  go_enter Tryz.func10, Tryz.ntmps10
  go_wp2_with fail
  go_ret
  exact ⟨rfl, Below.refl _ _⟩
 cases hR : rightB l
 ·have HX : Hid (barP l k = true) := Lib.hid (barP_out l k (by rw [hR]; simp))
  rw [hR] at hri
  obtain ⟨oa, cap, rfl⟩ := NodesAt.lenN hA
  rw [HX.out]
  clear hL hA hR
  go_enter Tryz.func10, Tryz.ntmps10
  go_wp2_with fail
  refine hri.mono ?_
  rintro e w1 ⟨rfl, hb1⟩
  go_wp2_with fail
  go_ret
  exact ⟨rfl, hb1⟩
 ·rw [barP_in l k g0 g1 hR]
  obtain ⟨kn, rfl⟩ : ∃ kn : Nat, k = (kn : Int) := ⟨k.toNat, by omega⟩
  exact barred_in v l hL hR kn (by omega) w hA

def lgN (l : List Nd) (x : Int) : Bool := decide ((nd l x).name = [108, 101, 103, 101, 110, 100])
theorem rspared_any (v : Value) (l : List Nd) (hL : LFine l) (hR : rightB l = true) (k f : Nat) (hk : k < l.length) (hf : f < l.length) (w : World) (hA : NodesAt w v l) :
  Calls Tryz.prog 142 #[v, .int .i64 k, .int .i64 f] w fun e w' => e = .returned (.bool (sparedP l (lgN l) (k : Int) (f : Int))) ∧ Below w.heap.size w w' := by
 have hRt := right_rt l hR
 have hkk : ∀ x ∈ (nd l (f : Int)).kids, inR l x := fun x hx => (hRt.kid _ x ⟨by omega, by omega⟩ hx).1
 have hkl := (hL.nd (f : Int) (by omega) (by omega)).kids
 obtain ⟨b, off, cap, rfl, hb⟩ := nodes_addr hA (by omega)
 have HN := Lib.hid (fun j hj => nodes_get hA j hj)
 have HWi := Lib.hid (fun (o : Int) => rwithin_any (.slice (some ⟨b, off, none⟩) l.length cap) l hR k hk o w hA)
 obtain ⟨va, vk, hn⟩ := HN.out f hf
 have c4 := hn.c4
 have HKs := Lib.hid hn.kids
 have hw := pidx_ways (lgN l) (nd l (f : Int)).kids
 have HS : Hid (sparedP l (lgN l) (k : Int) (f : Int) = match (nd l (f : Int)).kids.find? (lgN l) with | some c => decide (c = (k : Int)) || withinP l (k : Int) c | none => false) := Lib.hid rfl
 obtain ⟨res, hres⟩ : ∃ r, r = sparedP l (lgN l) (k : Int) (f : Int) := ⟨_, rfl⟩
 rw [← hres] at HS ⊢
 have HKK := Lib.hid hkk
 have HW := Lib.hid hw
 have hlen := hL.len
 obtain ⟨ks, hks⟩ : ∃ ks, ks = (nd l (f : Int)).kids := ⟨_, rfl⟩
 rw [← hks] at HS HKK HW HKs hkl
 obtain ⟨ko, kc, rfl⟩ := RowAt.lenN HKs.out
 clear hres hn hRt hR hL hA hkk hw hks
 go_enter Tryz.func142, Tryz.ntmps142
 go_wp2_with fail
 go_loopw [7] (fun s7 wr => ∃ i : Nat, s7 = .int .i64 i ∧ i ≤ ks.length ∧ Hid (∀ j (hj : j < i) (h : j < ks.length), lgN l ks[j] = false) ∧ wr = w) (fun s7 _ => (17592186044417 - RowKit.intOf s7).toNat)
 case atStart => exact ⟨0, rfl, by omega, Lib.hid (fun j hj => absurd hj (Nat.not_lt_zero _)), rfl⟩
 case round =>
  obtain ⟨i, rfl, hi, hno, rfl⟩ := hrel
  by_cases hlt : i < ks.length
  ·obtain ⟨kb, ko2, kcap, e, hkb⟩ := IntsAt.addr HKs.out (by omega)
   cases e
   have e0 := IntsAt.cellAt HKs.out i hlt
   have hin := HKK.out ks[i] (List.getElem_mem hlt)
   have HQ : Hid (lgN l ks[i] = lgN l ks[i]) := Lib.hid rfl
   obtain ⟨cn, hcn⟩ : ∃ cn : Nat, ks[i] = (cn : Int) := ⟨ks[i].toNat, by have := hin.1; omega⟩
   obtain ⟨vc, vck, hc⟩ := HN.out cn (by have := hin.2; omega)
   have d0 := hc.c0
   have hwi := HWi.out (cn : Int)
   have hc1 : (cn : Int) < (l.length : Int) := by have := hin.2; omega
   have hc2 : cn < l.length := by omega
   have hc0 : (0 : Int) ≤ (cn : Int) := by omega
   have hq0 := lst_eq (nd l (cn : Int)).name [108, 101, 103, 101, 110, 100]
   clear hc
   by_cases g3 : lgN l (cn : Int) = true
   ·have g4 : (nd l (cn : Int)).name = [108, 101, 103, 101, 110, 100] := of_decide_eq_true g3
    have HX : Hid (res = (decide ((cn : Int) = (k : Int)) || withinP l (k : Int) (cn : Int))) := Lib.hid (by
     rw [HS.out]
     rcases HW.out with ⟨m, hm, h1, h2, h3, h4, _⟩ | ⟨_, h2, _⟩
     ·have : m = i := by
       rcases Nat.lt_trichotomy m i with g | g | g
       ·have := hno.out m g hm; rw [h2] at this; cases this
       ·exact g
       ·have := h3 i g; rw [hcn, g3] at this; cases this
      subst this
      rw [h4, hcn]
     ·have := h2 i hlt; rw [hcn, g3] at this; cases this)
    rw [decide_eq_true g4] at hq0
    rw [hcn] at e0
    clear hin
    generalize (nd l (cn : Int)).name = x at *
    generalize withinP l (k : Int) (cn : Int) = wi at *
    clear g3 g4 hno hcn HQ
    by_cases g5 : (cn : Int) = (k : Int)
    ·have gb : ((cn : Int) == (k : Int)) = true := by simpa using g5
     have HX2 : Hid (res = true) := Lib.hid (by rw [HX.out, decide_eq_true g5]; rfl)
     clear g5 HX
     go_wp2_with fail
     go_ret
     exact ⟨ret_bool HX2.out.symm, Below.refl _ _⟩
    ·have gb : ((cn : Int) == (k : Int)) = false := by simpa using g5
     have HX2 : Hid (res = wi) := Lib.hid (by rw [HX.out, decide_eq_false g5]; rfl)
     clear g5 HX
     go_wp2_with fail
     refine hwi.mono ?_
     rintro e w1 ⟨rfl, hb1⟩
     go_wp2_with fail
     go_ret
     exact ⟨ret_bool HX2.out.symm, hb1⟩
   ·have g3 : lgN l (cn : Int) = false := by simpa using g3
    have g4 : ¬ (nd l (cn : Int)).name = [108, 101, 103, 101, 110, 100] := of_decide_eq_false g3
    have HN2 : Hid (∀ j (hj : j < i + 1) (h : j < ks.length), lgN l ks[j] = false) := Lib.hid (fun j hj h => by
     rcases Nat.lt_or_ge j i with g | g
     ·exact hno.out j g h
     ·have : j = i := by omega
      subst this; rw [hcn]; exact g3)
    rw [decide_eq_false g4] at hq0
    rw [hcn] at e0
    clear hin
    generalize (nd l (cn : Int)).name = x at *
    clear g3 g4 hno hcn HQ hwi
    go_wp2_with fail
    go_roundw
    case rel => exact ⟨i + 1, by go_num, by omega, HN2, by first | rfl | trivial⟩
    case measure => simp [RowKit.intOf]; omega
  ·have HX : Hid (res = false) := Lib.hid (by
    rw [HS.out]
    rcases HW.out with ⟨m, hm, h1, h2, _⟩ | ⟨_, _, h3, _⟩
    ·have := hno.out m (by omega) hm; rw [h2] at this; cases this
    ·rw [h3])
   clear hno
   go_wp2_with fail
   go_ret
   exact ⟨ret_bool HX.out.symm, Below.refl _ _⟩
theorem rkind_any (v : Value) (l : List Nd) (hL : LFine l) (k : Nat) (hk : k < l.length) (w : World) (hA : NodesAt w v l) :
  Calls Tryz.prog 129 #[v, .int .i64 k] w fun e w' => e = .returned (.int .i64 (kN l (k : Int))) ∧ Below w.heap.size w w' := by
 have hlen := hL.len
 obtain ⟨b, off, cap, rfl, hb⟩ := nodes_addr hA (by omega)
 obtain ⟨va, vk, hn⟩ := nodes_get hA k hk
 have hof := rof_any (nd l (k : Int)) va vk (hL.nd _ (by omega) (by omega)) w hn.attrs hn.kids
 have HK : Hid (kindP (nd l (k : Int)).name (nd l (k : Int)).attrs = kN l (k : Int)) := Lib.hid rfl
 rw [HK.out] at hof
 unfold nodeV at hof
 obtain ⟨c0, c1, c2, c3, c4, _, _, _⟩ := hn
 have h0 : (0 : Int) ≤ (k : Int) := by omega
 have hk' : (k : Int) < (l.length : Int) := by omega
 generalize kN l (k : Int) = r at *
 generalize nd l (k : Int) = n at *
 clear hA hL HK
 go_enter Tryz.func129, Tryz.ntmps129
 go_wp2_with fail
 refine hof.mono ?_
 rintro e w1 ⟨rfl, hb1⟩
 go_wp2_with fail
 go_ret
 exact ⟨rfl, hb1⟩
def testF (l : List Nd) (k : Int) (f : Int) : Bool := decide ((nd l f).name = [102, 105, 101, 108, 100, 115, 101, 116]) && hasA nDisabled (nd l f).attrs && withinP l k f && !sparedP l (lgN l) k f
theorem dis_test {l : List Nd} (h : rightB l = true) (k : Int) (hk : inR l k) : disU l (fsB l) (lgB l) k = (List.range l.length).any (fun i => testF l k (i : Int)) := dis_ref h k hk
theorem any_range_no (n : Nat) (p : Nat → Bool) (h : ∀ j, j < n → p j = false) : (List.range n).any p = false := by
 rw [List.any_eq_false]
 intro x hx
 rw [h x (List.mem_range.1 hx)]; exact Bool.false_ne_true
theorem any_range_yes (n : Nat) (p : Nat → Bool) (j : Nat) (hj : j < n) (h : p j = true) : (List.range n).any p = true := List.any_eq_true.2 ⟨j, List.mem_range.2 hj, h⟩
theorem rdisabled_any (v : Value) (l : List Nd) (hL : LFine l) (hR : rightB l = true) (k : Nat) (hk : k < l.length) (w : World) (hA : NodesAt w v l) :
  Calls Tryz.prog 77 #[v, .int .i64 k] w fun e w' => e = .returned (.bool (disR l (k : Int))) ∧ Below w.heap.size w w' := by
 have hRt := right_rt l hR
 have hf := hRt.few
 have hha := rhas_any v l (k : Int) hL w hA
 rw [hR, decide_eq_true (by omega : (0 : Int) ≤ (k : Int)), decide_eq_true (by omega : (k : Int) < (l.length : Int))] at hha
 obtain ⟨b, off, cap, rfl, hb⟩ := nodes_addr hA (by omega)
 have HN := Lib.hid (fun w' (h : Below w.heap.size w w') j hj => nodes_get (hA.below h) j hj)
 have HKd := Lib.hid (fun w' (h : Below w.heap.size w w') => rkind_any _ l hL k hk w' (hA.below h))
 have HWi := Lib.hid (fun w' (h : Below w.heap.size w w') (o : Int) => rwithin_any _ l hR k hk o w' (hA.below h))
 have HSp := Lib.hid (fun w' (h : Below w.heap.size w w') (f : Nat) (hf : f < l.length) => rspared_any _ l hL hR k f hk hf w' (hA.below h))
 have HHas := Lib.hid (fun w' (j : Nat) (hj : j < l.length) va vk h1 h2 => rhas15_any (nd l (j : Int)) va vk nDisabled (hL.nd _ (by omega) (by omega)).attrs w' h1 h2)
 have HU := Lib.hid (dis_test hR (k : Int) ⟨by omega, by omega⟩)
 have R1 := Lib.hid (disR_no l (k : Int))
 have R2 := Lib.hid (disR_own l (k : Int))
 have R3 := Lib.hid (disR_up l (k : Int))
 have HTs : Hid (∀ j : Int, testF l (k : Int) j = (decide ((nd l j).name = [102, 105, 101, 108, 100, 115, 101, 116]) && hasA nDisabled (nd l j).attrs && withinP l (k : Int) j && !sparedP l (lgN l) (k : Int) j)) := Lib.hid (fun j => rfl)
 have hsub := fun w => ris2_any (kN l (k : Int)) w
 have h0 : (0 : Int) ≤ (k : Int) := by omega
 have hk' : (k : Int) < (l.length : Int) := by omega
 generalize disR l (k : Int) = res at *
 generalize kN l (k : Int) = kd at *
 obtain ⟨sb, hsb⟩ : ∃ sb, sb = subP kd := ⟨_, rfl⟩
 rw [← hsb] at hsub R1 R2 R3
 clear hRt hR hL hA hsb
 go_enter Tryz.func77, Tryz.ntmps77
 go_wp2_with fail
 refine hha.mono ?_
 rintro e w0 ⟨rfl, hb0⟩
 clear hha
 go_wp2_with fail
 refine (HKd.out w0 hb0).mono ?_
 rintro e w1 ⟨rfl, hb1'⟩
 have hb1 := below_trans hb0 hb1'
 go_upto_region 4 with fail
 go_cut [20] (fun s20 wx => ∃ q, s20 = .bool q ∧ Hid (q = !(sb || kd == 29)) ∧ wx = w1)
 case first =>
  cases sb
  ·by_cases g : kd = 29
   ·have gb : (kd != 29) = false := by simp [g]
    have HQ : Hid (false = !(false || kd == 29)) := Lib.hid (by simp [g])
    clear g
    go_wp2_with fail
    refine (hsub w1).mono ?_
    rintro e w2 ⟨rfl, rfl⟩
    go_wp2_with fail
    go_meet
    exact ⟨_, rfl, HQ, rfl⟩
   ·have gb : (kd != 29) = true := by simpa using g
    have HQ : Hid (true = !(false || kd == 29)) := Lib.hid (by simp [g])
    clear g
    go_wp2_with fail
    refine (hsub w1).mono ?_
    rintro e w2 ⟨rfl, rfl⟩
    go_wp2_with fail
    go_meet
    exact ⟨_, rfl, HQ, rfl⟩
  ·have HQ : Hid (false = !(true || kd == 29)) := Lib.hid (by simp)
   go_wp2_with fail
   refine (hsub w1).mono ?_
   rintro e w2 ⟨rfl, rfl⟩
   go_wp2_with fail
   go_meet
   exact ⟨_, rfl, HQ, rfl⟩
 case rest =>
 obtain ⟨q, rfl, hq, hwc⟩ := hcut
 subst hwc
 clear hsub
 cases q
 case true =>
  have HX := Lib.hid (R1.out (not_inj hq.out))
  clear hq R1 R2 R3
  go_wp2_with fail
  go_ret
  exact ⟨ret_bool HX.out.symm, hb1⟩
 have HQ : Hid ((sb || kd == 29) = true) := Lib.hid (not_inj hq.out)
 clear hq R1
 obtain ⟨va, vk, hn⟩ := HN.out _ hb1 k hk
 have hhas := HHas.out _ k hk va vk hn.attrs hn.kids
 unfold nodeV at hhas
 obtain ⟨c0, c1, c2, c3, c4, _, _, _⟩ := hn
 have HR2 := Lib.hid (R2.out HQ.out)
 have HR3 := Lib.hid (R3.out HQ.out)
 clear R2 R3 HQ
 generalize hasA nDisabled (nd l (k : Int)).attrs = hd at *
 cases hd
 case true =>
  have HX := Lib.hid (HR2.out rfl)
  clear HR2 HR3
  generalize nd l (k : Int) = n at *
  go_wp2_with fail
  refine hhas.mono ?_
  rintro e w2 ⟨rfl, hb2⟩
  go_wp2_with fail
  go_ret
  exact ⟨ret_bool HX.out.symm, below_trans hb1 hb2⟩
 have HX : Hid (res = (List.range l.length).any (fun i => testF l (k : Int) (i : Int))) := Lib.hid ((HR3.out rfl).trans HU.out)
 clear HR2 HR3 HU
 go_wp2_with fail
 refine hhas.mono ?_
 rintro e w2 ⟨rfl, hb2⟩
 have hb02 := below_trans hb1 hb2
 clear hhas c0 c1 c2 c3 c4
 go_wp2_with fail
 go_loopw [6] (fun s6 wr => ∃ i : Nat, s6 = .int .i64 i ∧ i ≤ l.length ∧ Hid (∀ j, j < i → testF l (k : Int) (j : Int) = false) ∧ Below w.heap.size w wr) (fun s6 _ => 401 - (RowKit.intOf s6).toNat)
 case atStart => exact ⟨0, rfl, by omega, Lib.hid (fun j hj => absurd hj (Nat.not_lt_zero _)), hb02⟩
 case round =>
  obtain ⟨i, rfl, hi, hno, hbr⟩ := hrel
  clear hb02 hb1 hb2
  by_cases hlt : i < l.length
  case neg =>
   have HX2 : Hid (res = false) := Lib.hid (by rw [HX.out]; exact any_range_no _ _ (fun j hj => hno.out j (by omega)))
   clear HX hno
   go_wp2_with fail
   go_ret
   exact ⟨ret_bool HX2.out.symm, hbr⟩
  have HT := Lib.hid (HTs.out (i : Int))
  have hwi := HWi.out wr
  go_upto_region 11 with fail
  go_cut [57] (fun s57 wx => ∃ t, s57 = .bool t ∧ Hid (t = testF l (k : Int) (i : Int)) ∧ Below w.heap.size w wx)
  case first =>
   obtain ⟨va, vk, hn⟩ := HN.out wr hbr i hlt
   have hhas := HHas.out wr i hlt va vk hn.attrs hn.kids
   unfold nodeV at hhas
   obtain ⟨c0, c1, c2, c3, c4, _, _, _⟩ := hn
   have hq0 := lst_eq (nd l (i : Int)).name [102, 105, 101, 108, 100, 115, 101, 116]
   have HWq := Lib.hid (fun w' h => HWi.out w' h (i : Int))
   have HSq := Lib.hid (fun w' h => HSp.out w' h i hlt)
   generalize testF l (k : Int) (i : Int) = tf at *
   generalize withinP l (k : Int) (i : Int) = wi at *
   generalize sparedP l (lgN l) (k : Int) (i : Int) = sp at *
   generalize hasA nDisabled (nd l (i : Int)).attrs = hd at *
   generalize decide ((nd l (i : Int)).name = [102, 105, 101, 108, 100, 115, 101, 116]) = nm at *
   generalize nd l (i : Int) = ni at *
   cases nm
   ·have HQ : Hid (false = tf) := Lib.hid (by rw [HT.out]; rfl)
    clear hhas
    go_wp2_with fail
    go_meet
    exact ⟨_, rfl, HQ, hbr⟩
   cases hd
   ·have HQ : Hid (false = tf) := Lib.hid (by rw [HT.out]; rfl)
    go_wp2_with fail
    refine hhas.mono ?_
    rintro e w3 ⟨rfl, hb3⟩
    go_wp2_with fail
    go_meet
    exact ⟨_, rfl, HQ, below_trans hbr hb3⟩
   go_wp2_with fail
   refine hhas.mono ?_
   rintro e w3 ⟨rfl, hb3⟩
   have hb03 := below_trans hbr hb3
   have hw3 := HWq.out w3 hb03
   clear hhas c0 c1 c2 c3 c4
   cases wi
   ·have HQ : Hid (false = tf) := Lib.hid (by rw [HT.out]; rfl)
    go_wp2_with fail
    refine hw3.mono ?_
    rintro e w4 ⟨rfl, hb4⟩
    go_wp2_with fail
    go_meet
    exact ⟨_, rfl, HQ, below_trans hb03 hb4⟩
   go_wp2_with fail
   refine hw3.mono ?_
   rintro e w4 ⟨rfl, hb4⟩
   have hb04 := below_trans hb03 hb4
   have hs4 := HSq.out w4 hb04
   clear hw3
   have HQ : Hid ((!sp) = tf) := Lib.hid (by rw [HT.out]; rfl)
   go_wp2_with fail
   refine hs4.mono ?_
   rintro e w5 ⟨rfl, hb5⟩
   go_wp2_with fail
   go_meet
   exact ⟨_, rfl, HQ, below_trans hb04 hb5⟩
  case rest =>
  obtain ⟨t, rfl, ht, hbc⟩ := hcut
  cases t
  case true =>
   have HX2 : Hid (res = true) := Lib.hid (by rw [HX.out]; exact any_range_yes _ _ i hlt ht.out.symm)
   clear HX ht hno
   go_wp2_with fail
   go_ret
   exact ⟨ret_bool HX2.out.symm, hbc⟩
  have HN2 : Hid (∀ j, j < i + 1 → testF l (k : Int) (j : Int) = false) := Lib.hid (fun j hj => by
   rcases Nat.lt_or_ge j i with g | g
   ·exact hno.out j g
   ·have : j = i := by omega
    subst this; exact ht.out.symm)
  clear ht hno HT
  go_wp2_with fail
  go_roundw
  case rel => exact ⟨i + 1, by go_num, by omega, HN2, hbc⟩
  case measure => simp [RowKit.intOf]; omega
theorem rfixed_any (v : Value) (l : List Nd) (hL : LFine l) (hR : rightB l = true) (k : Nat) (hk : k < l.length) (w : World) (hA : NodesAt w v l) :
  Calls Tryz.prog 34 #[v, .int .i64 k] w fun e w' => e = .returned (.bool (fixR l (k : Int))) ∧ Below w.heap.size w w' := by
 have hlen := hL.len
 obtain ⟨b, off, cap, rfl, hb⟩ := nodes_addr hA (by omega)
 have HN := Lib.hid (fun w' (h : Below w.heap.size w w') => nodes_get (hA.below h) k hk)
 have HOf := Lib.hid (fun w' va vk h1 h2 => rof_any (nd l (k : Int)) va vk (hL.nd _ (by omega) (by omega)) w' h1 h2)
 have HK : Hid (kindP (nd l (k : Int)).name (nd l (k : Int)).attrs = kN l (k : Int)) := Lib.hid rfl
 rw [HK.out] at HOf
 have HHas := Lib.hid (fun w' va vk h1 h2 => rhas15_any (nd l (k : Int)) va vk nReadonly (hL.nd _ (by omega) (by omega)).attrs w' h1 h2)
 have HDi := Lib.hid (fun w' (h : Below w.heap.size w w') => rdisabled_any _ l hL hR k hk w' (hA.below h))
 have hro := fun w => rreadonly_any (kN l (k : Int)) w
 have HF : Hid (fixR l (k : Int) = (disR l (k : Int) || (roP (kN l (k : Int)) && hasA nReadonly (nd l (k : Int)).attrs))) := Lib.hid rfl
 have h0 : (0 : Int) ≤ (k : Int) := by omega
 have hk' : (k : Int) < (l.length : Int) := by omega
 generalize fixR l (k : Int) = res at *
 generalize disR l (k : Int) = d at *
 generalize kN l (k : Int) = kd at *
 generalize roP kd = ro at *
 generalize hasA nReadonly (nd l (k : Int)).attrs = hh at *
 obtain ⟨va, vk, hn⟩ := HN.out w (Below.refl _ _)
 have hof := HOf.out w va vk hn.attrs hn.kids
 unfold nodeV at hof
 obtain ⟨c0, c1, c2, c3, c4, _, _, _⟩ := hn
 clear hL hR hA HK
 cases ro
 case false =>
  have HX : Hid (res = d) := Lib.hid (by rw [HF.out]; simp)
  generalize nd l (k : Int) = n at *
  clear HF HHas
  go_enter Tryz.func34, Tryz.ntmps34
  go_wp2_with fail
  refine hof.mono ?_
  rintro e w1 ⟨rfl, hb1⟩
  go_wp2_with fail
  refine (hro w1).mono ?_
  rintro e w2 ⟨rfl, rfl⟩
  have hdi := HDi.out w1 hb1
  clear hof
  go_wp2_with fail
  refine hdi.mono ?_
  rintro e w3 ⟨rfl, hb3⟩
  go_wp2_with fail
  go_ret
  exact ⟨ret_bool HX.out.symm, below_trans hb1 hb3⟩
 case true =>
  have HX : Hid (res = (d || hh)) := Lib.hid (by rw [HF.out, Bool.true_and])
  clear HF
  generalize nd l (k : Int) = n at *
  go_enter Tryz.func34, Tryz.ntmps34
  go_wp2_with fail
  refine hof.mono ?_
  rintro e w1 ⟨rfl, hb1⟩
  go_wp2_with fail
  refine (hro w1).mono ?_
  rintro e w2 ⟨rfl, rfl⟩
  obtain ⟨va2, vk2, hn⟩ := HN.out w1 hb1
  have hhas := HHas.out w1 va2 vk2 hn.attrs hn.kids
  unfold nodeV at hhas
  obtain ⟨d0, d1, d2, d3, d4, _, _, _⟩ := hn
  clear hof hro
  go_wp2_with fail
  refine hhas.mono ?_
  rintro e w3 ⟨rfl, hb3⟩
  have hb03 := below_trans hb1 hb3
  have hdi := HDi.out w3 hb03
  clear hhas
  cases hh
  ·have HX2 : Hid (res = d) := Lib.hid (by rw [HX.out, Bool.or_false])
   go_wp2_with fail
   refine hdi.mono ?_
   rintro e w4 ⟨rfl, hb4⟩
   go_wp2_with fail
   go_ret
   exact ⟨ret_bool HX2.out.symm, below_trans hb03 hb4⟩
  ·have HX2 : Hid (res = true) := Lib.hid (by rw [HX.out, Bool.or_true])
   go_wp2_with fail
   go_ret
   exact ⟨ret_bool HX2.out.symm, hb03⟩
end Go.Proofs.YtkhlfggnjcbniaaGreatDoor.doc
