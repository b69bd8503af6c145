/- A part of the proofs: lemmas and contracts. -/
import Derived.Test.YtkhlfggnjcbniaaGreatDoorP18
import Derived.Test.YtkhlfggnjcbniaaGreatDoorP20
set_option maxHeartbeats 12800000
set_option maxRecDepth 1000000
namespace Go.Proofs.YtkhlfggnjcbniaaGreatDoor.doc
open Go.ChangeShapes Go.WideShapes Go.ChangeAt Go.RowKit Go.Lib Go.Shelf atr link
attribute [local go_sem] Oper.semAt_some
theorem opts_stops (l : List Nd) (hL : LFine l) (hR : rightB l = true) (sel : Nat) (hs : sel < l.length) (v : Value) (w0 : World) (hA : NodesAt w0 v l) (n : Nat) (hn1 : 1 ≤ n) (Bl Bs : Nat) (w : World) (hb : Below w0.heap.size w0 w)
  (_hBl : Bl < w.heap.size) (_hBs : Bs < w.heap.size) (hcl : w.cell? ⟨Bl, 0, none⟩ = some v) (hcs : w.cell? ⟨Bs, 0, none⟩ = some (.int .i64 (sel : Int))) :
  SeqStopsK Fence.wide n Tryz.prog 222 #[.pointer (some ⟨Bl, 0, none⟩), .pointer (some ⟨Bs, 0, none⟩)] (fun x : Opt l (sel : Int) => #[Value.int .i64 x.1]) (Kp w0.heap.size Bl Bs) (fun xs => vals xs = optsP l (sel : Int)) (fun pre => vals pre <+: optsP l (sel : Int)) (optsP l (sel : Int)).length w :=
 fun lp J Jx W hW hJ _ hY h0 => iter_in l hL hR sel hs v w0 hA n hn1 Bl Bs lp J Jx W (hb.trans (hW.mono hb.size)) (cell_below hW hcl) (cell_below hW hcs) hJ hY h0

theorem appended2 {W w1 : World} {n₁ B : Nat} {t e : TypeId} {size : Nat} {v v' : Value} {k m : Nat} {xs ys : List Value} {tmp : Obj}
  (hv : Boxed W B t v) (hte : t ≠ e) (hrow : W.ownsRow n₁ e size v k xs) (hn₁ : n₁ ≤ W.heap.size)
  (hown' : w1.ownsRow n₁ e size v' m ys) (hgrow : (W.alloc tmp).grownBy w1 v.ownBlock) :
  Boxed w1 B t v ∧ Boxed (w1.setCell ⟨B, 0, none⟩ v') B t v' ∧ (w1.setCell ⟨B, 0, none⟩ v').ownsRow n₁ e size v' m ys ∧ KeepsOthers W (w1.setCell ⟨B, 0, none⟩ v') ∧ Below n₁ W w1 := by
 have hv1 : Boxed w1 B t v := (hv.alloc tmp).kept hgrow (hv.not_row hte hrow)
 refine ⟨hv1, hv1.set v', hown'.kept (grownBy_setCell' w1 B v') (.inr (hv1.not_row hte hown').symm), ?_, ?_⟩
 ·refine ((KeepsOthers.alloc W tmp).trans (KeepsOthers.of_grownBy hgrow fun j o ej hj => ?_)).trans (KeepsOthers.setCell _ _ _)
  rcases (hrow.alloc tmp).2 with ⟨rfl, _⟩ | ⟨g, cap, cur, rfl, _, hgb, _⟩
  ·simp [Value.ownBlock] at ej
  ·obtain rfl : g = j := by simpa [Value.ownBlock] using ej
   rw [hgb] at hj; cases hj; rfl
 ·refine ((Below.refl n₁ W).alloc hn₁ tmp).grown hgrow (by simp; omega) fun j ej => ?_
  rcases hrow.2 with ⟨rfl, _⟩ | ⟨g, cap, cur, rfl, hb, _, _⟩
  ·simp [Value.ownBlock] at ej
  ·obtain rfl : g = j := by simpa [Value.ownBlock] using ej
   exact hb
theorem cell_set_other {W w1 : World} {n₁ B b : Nat} (v' : Value) (hb : Below n₁ W w1) (h : b < n₁) (hne : b ≠ B) (u : Value) (hc : W.cell? ⟨b, 0, none⟩ = some u) : (w1.setCell ⟨B, 0, none⟩ v').cell? ⟨b, 0, none⟩ = some u := by
 have e1 := (hb.cell (p := ⟨b, 0, none⟩) h).trans hc
 rw [← e1]
 unfold World.cell?
 rw [Below.heap_setCell w1 ⟨B, 0, none⟩ v' b hne]
theorem kp_set {W w1 : World} {n₀ n₁ B Bl Bs : Nat} (v' : Value) (hb : Below n₁ W w1) (h0 : n₀ ≤ n₁) (hB : n₀ ≤ B) (h1 : Bl < n₁) (h2 : Bs < n₁) (n1 : Bl ≠ B) (n2 : Bs ≠ B) : Kp n₀ Bl Bs W (w1.setCell ⟨B, 0, none⟩ v') :=
 ⟨(hb.mono h0).setCell (p := ⟨B, 0, none⟩) hB v', fun u h => cell_set_other v' hb h1 n1 u h, fun u h => cell_set_other v' hb h2 n2 u h⟩
theorem opts_le (l : List Nd) (hR : rightB l = true) (sel : Int) (hs : inR l sel) : (optsP l sel).length ≤ 400 := by
 have hRt := right_rt l hR
 have := seen_le l _ (opts_nodup hRt sel hs) (fun x hx => (opts_mem hRt sel hs x hx).1)
 have := hRt.few
 omega
theorem below_set {w W w1 : World} {n₀ n₁ B : Nat} (v' : Value) (h : Below n₀ w W) (hb : Below n₁ W w1) (h0 : n₀ ≤ n₁) (hB : n₀ ≤ B) : Below n₀ w (w1.setCell ⟨B, 0, none⟩ v') :=
 h.trans ((hb.mono h0).setCell (p := ⟨B, 0, none⟩) hB v')

theorem list_any (v : Value) (l : List Nd) (hL : LFine l) (k : Int) (w : World) (hA : NodesAt w v l) :
  Calls Tryz.prog 153 #[v, .int .i64 k] w fun e w' => ∃ v', e = .returned v' ∧ OwnI w' w.heap.size v' (listP l k) ∧ Below w.heap.size w w' := by
 have hi := is_any v l k 23 hL w hA
 have HP : Hid (listP l k = if isP l k 23 then optsP l k else []) := Lib.hid rfl
 cases hq : isP l k 23
 ·rw [hq] at hi HP
  have HX : Hid (listP l k = []) := Lib.hid HP.out
  obtain ⟨oa, cap, rfl⟩ := NodesAt.lenN hA
  generalize listP l k = r at *
  obtain rfl := HX.out
  clear hA hq HP hL HX
  go_enter Tryz.func153, Tryz.ntmps153
  go_wp2_with fail
  refine hi.mono ?_
  rintro e w1 ⟨rfl, hb1⟩
  go_wp2_with fail
  go_ret
  exact ⟨_, rfl, OwnI.nil _ _, hb1⟩
 ·obtain ⟨⟨h0, h1⟩, _, hR⟩ := (isP_iff l k 23).1 hq
  rw [hq] at hi HP
  have HX : Hid (listP l k = optsP l k) := Lib.hid HP.out
  obtain ⟨sel, rfl⟩ : ∃ sel : Nat, k = (sel : Int) := ⟨k.toNat, by omega⟩
  have hs : sel < l.length := by omega
  rw [HX.out]
  have hol := opts_le l hR (sel : Int) ⟨h0, h1⟩
  have HSt := Lib.hid (fun Bl Bs W hb h1 h2 h3 h4 => opts_stops l hL hR sel hs v w hA 999 (by omega) Bl Bs W hb h1 h2 h3 h4)
  have HO := Lib.hid (fun W => options_any v (sel : Int) (by obtain ⟨oa, c, rfl⟩ := NodesAt.lenN hA; exact ⟨_, _, _, rfl⟩) W)
  obtain ⟨i0, hi0, hz0, hz1, hz2⟩ := info_parts infoI
  obtain ⟨oa, cap, rfl⟩ := NodesAt.lenN hA
  clear hA hq HP hL HX hR
  refine (callsIn_wide (n := 1000)).1 ?_
  refine callsIn_of_wp_marks Tryz.func153 rfl trivial ?_ rfl
  simp only [Tryz.ntmps153, List.size_toArray, List.length_cons, List.length_nil, Nat.reduceAdd, Nat.reduceSub, Array.replicate_succ, Array.replicate_zero, List.push_toArray, List.append_toArray, List.nil_append, List.cons_append]
  have hi' := (callsIn_wide (n := 999)).2 hi
  gi_wp2
  refine ⟨trivial, hi'.mono ?_⟩
  rintro e w1 ⟨rfl, hb1⟩
  have ho := (callsIn_wide (n := 999)).2 (HO.out (w1.alloc (.cells #[.slice none 0 0] 39)))
  clear hi hi'
  gi_wp2
  refine ⟨trivial, ho.mono ?_⟩
  rintro e w' ⟨rfl, rfl⟩
  clear ho
  gi_wp2
  obtain ⟨w3, hw3⟩ : ∃ w3, w3 = ((w1.alloc (.cells #[.slice none 0 0] 39)).alloc (.cells #[.slice oa l.length cap] 22)).alloc (.cells #[.int .i64 (sel : Int)] 3) := ⟨_, rfl⟩
  have hsz : w3.heap.size = w1.heap.size + 1 + 1 + 1 := by rw [hw3]; simp
  have hwz := hb1.size
  have bO : Boxed w3 w1.heap.size 39 (.slice none 0 0) := by rw [hw3]; exact ((Boxed.new w1 _ _).alloc _).alloc _
  have bL : Boxed w3 (w1.heap.size + 1) 22 (.slice oa l.length cap) := by
   have := Boxed.new (w1.alloc (.cells #[.slice none 0 0] 39)) 22 (.slice oa l.length cap)
   rw [World.size_alloc] at this
   rw [hw3]; exact this.alloc _
  have bS : Boxed w3 (w1.heap.size + 1 + 1) 3 (.int .i64 (sel : Int)) := by
   have := Boxed.new ((w1.alloc (.cells #[.slice none 0 0] 39)).alloc (.cells #[.slice oa l.length cap] 22)) 3 (.int .i64 (sel : Int))
   rw [World.size_alloc, World.size_alloc] at this
   rw [hw3]; exact this
  have hB0 : Below w.heap.size w w3 := by rw [hw3]; exact ((hb1.alloc (by omega) _).alloc (by simp; omega) _).alloc (by simp; omega) _
  first | rw [← hw3] | (simp only [← hw3])
  clear hw3
  refine wpIn_rangeFunc_ownG rfl (by omega) (gf := 222) (lb := #[.pointer (some ⟨w1.heap.size + 1, 0, none⟩), .pointer (some ⟨w1.heap.size + 1 + 1, 0, none⟩)]) rfl trivial (enters_of Tryz.func222 (by kernel_rfl) rfl)
   (HSt.out (w1.heap.size + 1) (w1.heap.size + 1 + 1) w3 hB0 bL.lt bS.lt bL.cell bS.cell) (fun h k => h.trans k) (Kp.put (by omega)) (Below.refl _ _) (fun _ => rfl)
   (fun pre W => (∃ u, Boxed W w1.heap.size 39 u ∧ W.ownsRow w3.heap.size 3 1 u (vals pre).length (intsV (vals pre)) ∧ True) ∧ Below w.heap.size w3 W)
   (fun _ _ _ => False)
   (OwnFrom.and (Own.from (holdsRow_own w3.heap.size w1.heap.size 39 3 1 (fun pre : List (Opt l (sel : Int)) => (vals pre).length) (fun pre => intsV (vals pre)) (fun _ _ => True)) _) (ownFrom_below (by omega) (by omega)))
   (fun _ _ _ _ _ hs _ _ => hs)
   ⟨⟨_, bO, World.ownsRow_nil _ _ _ _, trivial⟩, Below.refl _ _⟩
   (fun x => { tmps := #[.slice oa l.length cap, .int .i64 (sel : Int), undef, undef, .slice none 0 0, .pointer (some ⟨w1.heap.size, 0, none⟩), .int .i64 x.1, .slice oa l.length cap, .int .i64 (sel : Int), .bool true, .bool false, .slice oa l.length cap, .int .i64 (sel : Int), .func (.func 222) #[] #[.pointer (some ⟨w1.heap.size + 1, 0, none⟩), .pointer (some ⟨w1.heap.size + 1 + 1, 0, none⟩)], .int .i64 x.1, undef, undef, undef, undef, undef], defers := [] }) ?assign ?body ?done ?stop
  case assign =>
   intro l x W K hK
   gi_wp2
   exact hK
  case body =>
   rintro lp pre ⟨x, hx⟩ W ⟨⟨u, hv, hrow, _⟩, hB⟩ hlt
   have hc := hv.cell
   have hpl : Hid ((vals pre).length = pre.length) := Lib.hid (by unfold vals; rw [List.length_map])
   have hBz := hB.size
   have HSZ := Lib.hid hsz
   clear hsz
   gi_wp2_with (gi_at_builtin; refine wpListIn_append_own _ rfl _ _ 39 rfl w3.heap.size 3 i0 (.int .i64 0) 1 8 Tryz.underlying39 hi0 hz0 hz1 hz2 rfl (by decide) _ _ _ rfl (hrow.alloc _) ⟨W.heap.size, 0, none⟩ 1 1 [.int .i64 x] rfl rfl (cell_one_new _ _ _) (by simp [Value.oneCell']) (by have := hpl.out; unfold maxLen; omega) (by have := hpl.out; omega) (by simp; omega) ?_; intro v' w9 hown' hgrow _; obtain ⟨g', cap', rfl⟩ := ownsRow_succ hown'; obtain ⟨hv1, hv2, hr2, hk2, hb2⟩ := appended2 hv (by decide) hrow hBz hown' hgrow; have hc1 := hv1.cell; have hf1 := hv1.frozen)
   have hsz := HSZ.out
   exact ⟨hk2.from _, kp_set _ hb2 (by omega) (by omega) (by omega) (by omega) (by omega) (by omega), ⟨_, hv2, by rw [vals_snoc, intsV_app, List.length_append]; exact hr2⟩, below_set _ hB hb2 (by omega) (by omega)⟩
  case done =>
   rintro D ys W hD hys ⟨⟨u, hv, hrow, _⟩, hB⟩ hK
   have hc := hv.cell
   gi_wp2
   refine ⟨by simp, .inl ⟨_, _, rfl, run_takeDeferred hK, ?_⟩⟩
   rw [hys] at hrow
   exact ⟨_, results_tmp rfl _ _ _, u, rfl, ownsRow_lower (ownsRow_putObj hrow _ hK rfl) (by omega), hB0.trans (hB.trans (belowK_b (w := w) (Nat.le_refl _) W D _ _ (by omega) hK rfl rfl))⟩
  case stop =>
   rintro D c pre W _ _ h _
   exact h.elim
end Go.Proofs.YtkhlfggnjcbniaaGreatDoor.doc
namespace Go.Proofs.YtkhlfggnjcbniaaGreatDoor.doc
open Go.ChangeShapes Go.WideShapes Go.ChangeAt Go.RowKit Go.Lib atr link

theorem filt_yes (p : Int → Bool) (is : List Int) (j : Nat) (h : j < is.length) (hp : p is[j] = true) : (is.take (j + 1)).filter p = (is.take j).filter p ++ [is[j]] := by rw [filt_take p is j h, if_pos hp]
theorem filt_no (p : Int → Bool) (is : List Int) (j : Nat) (h : j < is.length) (hp : ¬ p is[j] = true) : (is.take (j + 1)).filter p = (is.take j).filter p := by rw [filt_take p is j h, if_neg hp, List.append_nil]

theorem docright_any (v : Value) (l : List Nd) (hL : LFine l) (oc : Option Addr) (n cc : Nat) (w : World) (hA : NodesAt w v l) :
  Calls Tryz.prog 78 #[.agg #[v, .slice oc n cc]] w fun e w' => e = .returned (.bool (decide (l.length = n) && rightB l)) ∧ Below w.heap.size w w' := by
 have hr := right_any v l hL _ (hA.below ((Below.refl _ w).alloc (Nat.le_refl _) (.cells #[v, .slice oc n cc] 28)))
 have hB1 : Below w.heap.size w (w.alloc (.cells #[v, .slice oc n cc] 28)) := (Below.refl _ w).alloc (Nat.le_refl _) _
 obtain ⟨oa, cap, rfl⟩ := NodesAt.lenN hA
 generalize rightB l = rb at *
 by_cases g : l.length = n
 ·have HX : Hid ((decide (l.length = n) && rb) = rb) := Lib.hid (by rw [decide_eq_true g]; rfl)
  generalize (decide (l.length = n) && rb) = r at *
  obtain rfl := HX.out
  clear hA hL HX
  subst g
  go_enter Tryz.func78, Tryz.ntmps78
  go_wp2_with fail
  refine hr.mono ?_
  rintro e w1 ⟨rfl, hb1⟩
  go_wp2_with fail
  go_ret
  exact ⟨rfl, below_trans hB1 hb1⟩
 ·have HX : Hid ((decide (l.length = n) && rb) = false) := Lib.hid (by rw [decide_eq_false g]; rfl)
  generalize (decide (l.length = n) && rb) = r at *
  obtain rfl := HX.out
  have g' : ((l.length : Int) == (n : Int)) = false := beq_false_of_ne (by omega)
  clear hA hL HX hr
  go_enter Tryz.func78, Tryz.ntmps78
  go_wp2_with fail
  go_ret
  exact ⟨rfl, hB1⟩

theorem rdocright_any (v : Value) (l : List Nd) (hL : LFine l) (oc : Option Addr) (n cc : Nat) (w : World) (hA : NodesAt w v l) :
  Calls Tryz.prog 17 #[.agg #[v, .slice oc n cc]] w fun e w' => e = .returned (.bool (decide (l.length = n) && rightB l)) ∧ Below w.heap.size w w' := by
 have hr := rright_any v l hL _ (hA.below ((Below.refl _ w).alloc (Nat.le_refl _) (.cells #[v, .slice oc n cc] 28)))
 have hB1 : Below w.heap.size w (w.alloc (.cells #[v, .slice oc n cc] 28)) := (Below.refl _ w).alloc (Nat.le_refl _) _
 obtain ⟨oa, cap, rfl⟩ := NodesAt.lenN hA
 cases hq : rightB l
 ·rw [hq] at hr
  have HX : Hid ((decide (l.length = n) && false) = false) := Lib.hid (Bool.and_false _)
  generalize (decide (l.length = n) && false) = r at *
  obtain rfl := HX.out
  clear hA hL HX hq
  go_enter Tryz.func17, Tryz.ntmps17
  go_wp2_with fail
  refine hr.mono ?_
  rintro e w1 ⟨rfl, hb1⟩
  go_wp2_with fail
  go_ret
  exact ⟨rfl, below_trans hB1 hb1⟩
 ·rw [hq] at hr
  have HX : Hid ((decide (l.length = n) && true) = ((l.length : Int) == (n : Int))) := Lib.hid (by
   by_cases g : l.length = n
   ·rw [decide_eq_true g, g]; simp
   ·rw [decide_eq_false g]; exact (beq_false_of_ne (by omega)).symm)
  have f0 : (w.alloc (.cells #[.slice oa l.length cap, .slice oc n cc] 28)).cell? ⟨w.heap.size, 0, none⟩ = some (.slice oa l.length cap) := World.cell?_alloc_new w _ _ 0
  have f1 : (w.alloc (.cells #[.slice oa l.length cap, .slice oc n cc] 28)).cell? ⟨w.heap.size, 1, none⟩ = some (.slice oc n cc) := World.cell?_alloc_new w _ _ 1
  generalize (decide (l.length = n) && true) = r at *
  clear hA hL hq
  go_enter Tryz.func17, Tryz.ntmps17
  go_wp2_with fail
  refine hr.mono ?_
  rintro e w1 ⟨rfl, hb1⟩
  have f0 := cell_below hb1 f0
  have f1 := cell_below hb1 f1
  go_wp2_with fail
  go_ret
  exact ⟨ret_bool HX.out.symm, below_trans hB1 hb1⟩
end Go.Proofs.YtkhlfggnjcbniaaGreatDoor.doc
