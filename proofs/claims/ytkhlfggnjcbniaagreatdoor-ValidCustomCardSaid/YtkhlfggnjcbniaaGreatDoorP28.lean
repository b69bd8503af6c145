/- A part of the proofs: lemmas and contracts. -/
import Derived.Test.YtkhlfggnjcbniaaGreatDoorP27
set_option maxHeartbeats 12800000
set_option maxRecDepth 1000000
namespace Go.Proofs.YtkhlfggnjcbniaaGreatDoor.doc
open Go.ChangeShapes Go.WideShapes Go.ChangeAt Go.RowKit Go.Lib atr link ctl
theorem selB_at (cs : List Ctl) (o : Nat) (h : o < cs.length) : selB cs (o : Int) = cs[o].selected := by
 unfold selB ct
 rw [Int.toNat_natCast, List.getD_eq_getElem?_getD, List.getElem?_eq_getElem h]; rfl
theorem grownBy_below {A B : World} {row : Option Nat} (h : Below A.heap.size A B) : A.grownBy B row :=
 ⟨h.os, h.tape, h.output, h.size, fun k hk _ => h.block k hk⟩
theorem OwnC.addr {w : World} {B : Nat} {v : Value} {cs : List Ctl} {fs : List Value} (h : OwnC w B v cs fs) (h0 : 0 < cs.length) : ∃ g cap, v = .slice (some ⟨g, 0, none⟩) cs.length cap ∧ B ≤ g ∧ g < w.heap.size := by
 rcases h.row.2 with ⟨_, e⟩ | ⟨g, cap, cur, e, hb, hg, _⟩
 ·omega
 ·exact ⟨g, cap, e, hb, (Array.getElem?_eq_some_iff.1 hg).1⟩
theorem OwnC.cell {w : World} {B g cap n : Nat} {cs : List Ctl} {fs : List Value} (h : OwnC w B (.slice (some ⟨g, 0, none⟩) n cap) cs fs) (o : Nat) (ho : o < cs.length) (i : Nat) (u : Value) (hu : ∀ f, (encC cs[o] f)[i]? = some u) : w.cell? ⟨g, o * 10 + i, none⟩ = some u := by
 obtain ⟨g', off, cap', f, e, _, hat⟩ := ctls_get h.at o ho
 cases e
 have := hat.cells i u (hu f)
 rwa [Nat.zero_add] at this
theorem OwnC.frozen {w : World} {B g cap n : Nat} {cs : List Ctl} {fs : List Value} (h : OwnC w B (.slice (some ⟨g, 0, none⟩) n cap) cs fs) (hn : n = cs.length) (j : Nat) : w.frozen? ⟨g, j, none⟩ = false := by
 subst hn
 exact World.ownsRow.frozenAt h.row j

theorem boxed_keptO {X Y : World} {row : Option Nat} {B : Nat} {t : TypeId} {v : Value} (h : Boxed X B t v) (hg : X.grownBy Y row) (hr : ∀ r, row = some r → ∃ o : Obj, X.heap[r]? = some o ∧ o.isCells = false) : Boxed Y B t v :=
 h.kept hg (fun e => by
  obtain ⟨o, ho, hc⟩ := hr B e.symm
  rw [show X.heap[B]? = _ from h] at ho; cases ho; cases hc)
theorem boxed_below {X Y : World} {B : Nat} {t : TypeId} {v : Value} (h : Boxed X B t v) (hb : Below X.heap.size X Y) : Boxed Y B t v := (hb.block _ h.lt).trans h
theorem boxed_set {X : World} {B : Nat} {t : TypeId} {v : Value} (h : Boxed X B t v) {b o : Nat} (hne : B ≠ b) (u : Value) : Boxed (X.setCell ⟨b, o, none⟩ u) B t v :=
 (Below.heap_setCell X ⟨b, o, none⟩ u B (fun e => hne e)).trans h
def LowF (nb : Nat) (L : List (List Ent)) (fs : List Value) : Prop := ∀ j (a : j < L.length) (b : j < fs.length), L[j] ≠ [] → ∀ k, fs[j].ownBlock = some k → k < nb
theorem LowF.mono {n m : Nat} {L : List (List Ent)} {fs : List Value} (h : LowF n L fs) (hm : n ≤ m) : LowF m L fs := fun j a b hne k e => Nat.lt_of_lt_of_le (h j a b hne k e) hm
structure Bst (nb B : Nat) (bx : List (Nat × TypeId × Value)) (g n cc : Nat) (W : World) (cs : List Ctl) (fs : List Value) : Prop where
 bx : ∀ x ∈ bx, Boxed W x.1 x.2.1 x.2.2
 own : OwnC W B (.slice (some ⟨g, 0, none⟩) n cc) cs fs
 low : LowF nb (cs.map (·.files)) fs
variable {nb B g n cc : Nat} {bx : List (Nat × TypeId × Value)} {W W' : World} {cs : List Ctl} {fs : List Value}
theorem Bst.row {cs' : List Ctl} {o : Nat} {u : Value} (h : Bst nb B bx g n cc W cs fs) (hb : ∀ x ∈ bx, x.1 ≠ g) (hf : cs'.map (·.files) = cs.map (·.files)) (ho : OwnC (W.setCell ⟨g, o, none⟩ u) B (.slice (some ⟨g, 0, none⟩) n cc) cs' fs) :
  Bst nb B bx g n cc (W.setCell ⟨g, o, none⟩ u) cs' fs :=
 ⟨fun x hx => boxed_set (h.bx x hx) (hb x hx) u, ho, by rw [hf]; exact h.low⟩
def Rg (M g : Nat) (A B : World) : Prop := ∀ k, k < M → k ≠ g → B.heap[k]? = A.heap[k]?
theorem Rg.trans {M g : Nat} {A B C : World} (h : Rg M g A B) (k : Rg M g B C) : Rg M g A C := fun j a b => (k j a b).trans (h j a b)
theorem Rg.own {M g B : Nat} {β : Type} (A : World) (hM : M ≤ A.heap.size) (hB : M ≤ B) : OwnFrom B (fun (_ : β) W => A.heap.size ≤ W.heap.size ∧ Rg M g A W) :=
 fun _ W W' row hs hg hr => ⟨Nat.le_trans hs.1 hg.size, fun k hk hn => (hg.block k (Nat.lt_of_lt_of_le hk (Nat.le_trans hM hs.1)) (fun e => by
  have := (hr k e.symm).1
  omega)).trans (hs.2 k hk hn)⟩
structure Rd (n₀ Bl Bs : Nat) (W W' : World) : Prop where
 ko : KeepsOthers W W'
 kp : Kp n₀ Bl Bs W W'
theorem Rd.trans {n₀ Bl Bs : Nat} {A B C : World} (h : Rd n₀ Bl Bs A B) (k : Rd n₀ Bl Bs B C) : Rd n₀ Bl Bs A C := ⟨h.ko.trans k.ko, h.kp.trans k.kp⟩
theorem modify_set {L : List Ctl} {f : Ctl → Ctl} {o : Nat} (ho : o < L.length) : L.modify o f = L.set o (f L[o]) := by
 apply List.ext_getElem?
 intro i
 rw [List.getElem?_modify, List.getElem?_set]
 by_cases e : o = i
 ·subst e; simp [ho]
 ·simp [e]

theorem OwnC.nil (w : World) (B : Nat) : OwnC w B (.slice none 0 0) [] [] := ⟨rfl, World.ownsRow_nil _ _ _ _, fun _ a => absurd a (Nat.not_lt_zero _), fun _ a => absurd a (Nat.not_lt_zero _)⟩
structure DocAt (w : World) (vn vc : Value) (l : List Nd) (cs : List Ctl) : Prop where
 fine : LFine l
 nodes : NodesAt w vn l
 ctls : CtlsAt w vc cs
 cb : cs.length * 64 ≤ 140737488355328
 fb : ∀ c ∈ cs, c.files.length * 72 ≤ 140737488355328
theorem DocAt.below {w w' : World} {vn vc : Value} {l : List Nd} {cs : List Ctl} (h : DocAt w vn vc l cs) (hb : Below w.heap.size w w') : DocAt w' vn vc l cs := ⟨h.fine, h.nodes.below hb, h.ctls.below hb, h.cb, h.fb⟩

end Go.Proofs.YtkhlfggnjcbniaaGreatDoor.doc
namespace Go.Proofs.YtkhlfggnjcbniaaGreatDoor.doc
open Go.ChangeShapes Go.WideShapes Go.ChangeAt Go.RowKit Go.Lib Go.Shelf atr link ctl
attribute [local go_sem] Oper.semAt_some
theorem firstSel_none {cs : List Ctl} {os : List Int} (h : ∀ o ∈ os, selB cs o = false) : firstSel cs os = none := by
 unfold firstSel
 rw [List.find?_eq_none]
 intro o ho
 rw [h o ho]; simp
theorem firstSel_some {cs : List Ctl} {os pre : List Int} {x : Int} (h : ∀ o ∈ pre, selB cs o = false) (hx : selB cs x = true) (hp : pre ++ [x] <+: os) : firstSel cs os = some x := by
 obtain ⟨r, rfl⟩ := hp
 unfold firstSel
 rw [List.append_assoc, List.find?_append, List.find?_eq_none.2 (fun o ho => by rw [h o ho]; simp)]
 simp [hx]
theorem ctls_sel {w : World} {b off n cap : Nat} {cs : List Ctl} (h : CtlsAt w (.slice (some ⟨b, off, none⟩) n cap) cs) (o : Nat) (ho : o < cs.length) : w.cell? ⟨b, off + o * 10 + 6, none⟩ = some (.bool (selB cs (o : Int))) := by
 obtain ⟨b', off', cap', f, e, _, hat⟩ := ctls_get h o ho
 cases e
 refine hat.cells 6 _ ?_
 rw [selB_at cs o ho]; rfl
theorem ctls_addr {w : World} {v : Value} {cs : List Ctl} (h : CtlsAt w v cs) (h0 : 0 < cs.length) : ∃ b off cap, v = .slice (some ⟨b, off, none⟩) cs.length cap ∧ b < w.heap.size := by
 obtain ⟨b, off, cap, _, e, hb, _⟩ := ctls_get h 0 h0
 exact ⟨b, off, cap, e, hb⟩

theorem value_loop (vn vc : Value) (l : List Nd) (cs : List Ctl) (w : World) (hD : DocAt w vn vc l cs) (hq : docR l cs = true) (sel : Nat) (hi : isP l (sel : Int) 23 = true) :
  Calls Tryz.prog 80 #[.agg #[vn, vc], .int .i64 (sel : Int)] w fun e w' => e = .returned (.string ⟨(selValue l cs (sel : Int)).toArray⟩) ∧ Below w.heap.size w w' := by
 obtain ⟨hlc, hR⟩ := (docR_iff l cs).1 hq
 have hRt := right_rt l hR
 have hf := hRt.few
 obtain ⟨hin, _, _⟩ := (isP_iff l (sel : Int) 23).1 hi
 have hs : sel < l.length := by have := hin.2; omega
 obtain ⟨b, off, cap, rfl, hb⟩ := nodes_addr hD.nodes (by omega)
 obtain ⟨cb, co, cc, rfl, hcb⟩ := ctls_addr hD.ctls (by omega)
 obtain ⟨wA, hwA⟩ : ∃ wA, wA = (w.alloc (.cells #[.slice (some ⟨b, off, none⟩) l.length cap, .slice (some ⟨cb, co, none⟩) cs.length cc] 28)).alloc (.cells #[.string ⟨#[]⟩] 9) := ⟨_, rfl⟩
 have hB1 : Below w.heap.size w wA := by rw [hwA]; exact ((Below.refl _ w).alloc (Nat.le_refl _) _).alloc (by simp) _
 have bR : Boxed wA (w.heap.size + 1) 9 (.string ⟨#[]⟩) := by
  rw [hwA]
  have := Boxed.new (w.alloc (.cells #[.slice (some ⟨b, off, none⟩) l.length cap, .slice (some ⟨cb, co, none⟩) cs.length cc] 28)) 9 (.string ⟨#[]⟩)
  rw [World.size_alloc] at this
  exact this
 have hf01 : wA.cell? ⟨w.heap.size, 0, none⟩ = some (.slice (some ⟨b, off, none⟩) l.length cap) ∧ wA.cell? ⟨w.heap.size, 1, none⟩ = some (.slice (some ⟨cb, co, none⟩) cs.length cc) := by
  rw [hwA]
  have hx := (Below.refl (w.alloc (.cells #[.slice (some ⟨b, off, none⟩) l.length cap, .slice (some ⟨cb, co, none⟩) cs.length cc] 28)).heap.size (w.alloc (.cells #[.slice (some ⟨b, off, none⟩) l.length cap, .slice (some ⟨cb, co, none⟩) cs.length cc] 28))).alloc (Nat.le_refl _) (.cells #[.string ⟨#[]⟩] 9)
  exact ⟨cell_below hx (World.cell?_alloc_new w _ _ 0), cell_below hx (World.cell?_alloc_new w _ _ 1)⟩
 obtain ⟨f0, f1⟩ := hf01
 have hr := docright_any (.slice (some ⟨b, off, none⟩) l.length cap) l hD.fine (some ⟨cb, co, none⟩) cs.length cc wA (hD.nodes.below hB1)
 rw [show (decide (l.length = cs.length) && rightB l) = docR l cs from rfl, hq] at hr
 replace hr := (callsIn_wide (n := 999)).2 hr
 have HI := Lib.hid (fun w' h => (callsIn_wide (n := 999)).2 (is_any (.slice (some ⟨b, off, none⟩) l.length cap) l (sel : Int) 23 hD.fine w' (hD.nodes.below (w' := w') h)))
 rw [hi] at HI
 have HD := Lib.hid hD
 have HLC := Lib.hid hlc
 have HR := Lib.hid hR
 have h0' : (0 : Int) ≤ (sel : Int) := by omega
 have hs' : (sel : Int) < (l.length : Int) := by omega
 have HX : Hid (selValue l cs (sel : Int) = match firstSel cs (optsP l (sel : Int)) with | some o => valueP l o | none => []) := Lib.hid rfl
 clear hD hq hi hin hlc hR hRt
 subst hwA
 refine (callsIn_wide (n := 1000)).1 ?_
 refine callsIn_of_wp_marks Tryz.func80 rfl trivial ?_ rfl
 simp only [Tryz.ntmps80, List.size_toArray, List.length_cons, List.length_nil, Nat.reduceAdd, Nat.reduceSub, Array.replicate_succ, Array.replicate_zero, List.push_toArray, List.append_toArray, List.nil_append, List.cons_append]
 gi_wp2
 refine ⟨trivial, hr.mono ?_⟩
 rintro e w1 ⟨rfl, hb1⟩
 have f0 := cell_below hb1 f0
 have f1 := cell_below hb1 f1
 have bR := boxed_below bR hb1
 have hb01 := below_trans hB1 hb1
 clear hr
 gi_wp2
 refine ⟨trivial, (HI.out w1 hb01).mono ?_⟩
 rintro e w7 ⟨rfl, hb7⟩
 have f0 := cell_below hb7 f0
 have f1 := cell_below hb7 f1
 have bR := boxed_below bR hb7
 have hb07 := below_trans hb01 hb7
 have HZ7 := Lib.hid bR.lt
 clear HI
 have ho := (callsIn_wide (n := 999)).2 (options_any (.slice (some ⟨b, off, none⟩) l.length cap) (sel : Int) ⟨_, _, _, rfl⟩ w7)
 gi_wp2
 refine ⟨trivial, ho.mono ?_⟩
 rintro e w' ⟨rfl, rfl⟩
 clear ho
 gi_wp2
 obtain ⟨w8, hw8⟩ : ∃ w8, w8 = (w7.alloc (.cells #[.slice (some ⟨b, off, none⟩) l.length cap] 22)).alloc (.cells #[.int .i64 (sel : Int)] 3) := ⟨_, rfl⟩
 have hsz : w8.heap.size = w7.heap.size + 1 + 1 := by rw [hw8]; simp
 have hb78 : Below w7.heap.size w7 w8 := by rw [hw8]; exact ((Below.refl _ w7).alloc (Nat.le_refl _) _).alloc (by simp) _
 have bL : Boxed w8 w7.heap.size 22 (.slice (some ⟨b, off, none⟩) l.length cap) := by rw [hw8]; exact (Boxed.new w7 _ _).alloc _
 have bS : Boxed w8 (w7.heap.size + 1) 3 (.int .i64 (sel : Int)) := by
  have := Boxed.new (w7.alloc (.cells #[.slice (some ⟨b, off, none⟩) l.length cap] 22)) 3 (.int .i64 (sel : Int))
  rw [World.size_alloc] at this
  rw [hw8]; exact this
 have bR := boxed_below bR hb78
 have f0 := cell_below hb78 f0
 have f1 := cell_below hb78 f1
 have hzR := bR.lt
 have hz07 := hb07.size
 have hz7 : w.heap.size + 1 < w7.heap.size := HZ7.out
 have hB0 : Below w.heap.size w w8 := below_trans hb07 hb78
 first | rw [← hw8] | (simp only [← hw8])
 clear hw8
 have hA := HD.out.nodes
 have HDn := Lib.hid (fun w' (h : Below w.heap.size w w') => hA.below h)
 have HDc := Lib.hid (fun w' (h : Below w.heap.size w w') => HD.out.ctls.below h)
 refine wpIn_rangeFunc_ownG rfl (by omega) (gf := 222) (lb := #[.pointer (some ⟨w7.heap.size, 0, none⟩), .pointer (some ⟨w7.heap.size + 1, 0, none⟩)]) rfl trivial (enters_of Tryz.func222 (by kernel_rfl) rfl)
  (opts_stops l HD.out.fine HR.out sel hs _ w hA 999 (by omega) w7.heap.size (w7.heap.size + 1) w8 hB0 bL.lt bS.lt bL.cell bS.cell) (fun h k => h.trans k) (Kp.put (by omega)) (Below.refl _ _) (fun _ => rfl)
  (fun pre W => ((∀ o ∈ vals pre, selB cs o = false) ∧ Boxed W (w.heap.size + 1) 9 (.string ⟨#[]⟩) ∧ W.cell? ⟨w.heap.size, 0, none⟩ = some (.slice (some ⟨b, off, none⟩) l.length cap) ∧ W.cell? ⟨w.heap.size, 1, none⟩ = some (.slice (some ⟨cb, co, none⟩) cs.length cc)) ∧ Below w.heap.size w8 W)
  (fun c pre W => (c = .ret ∧ ∃ p x, vals pre = p ++ [x] ∧ (∀ o ∈ p, selB cs o = false) ∧ selB cs x = true ∧ Boxed W (w.heap.size + 1) 9 (.string ⟨(valueP l x).toArray⟩)) ∧ Below w.heap.size w8 W)
  (OwnFrom.and (Own.from (fun s A B row hs hg hr => ⟨hs.1, boxed_keptO hs.2.1 hg hr, cell_kept hs.2.2.1 hg hr, cell_kept hs.2.2.2 hg hr⟩) _) (ownFrom_below (by omega) (by omega)))
  (fun c => OwnFrom.and (Own.from (fun s A B row hs hg hr => by
   obtain ⟨hc, p, x, h1, h2, h3, h4⟩ := hs
   exact ⟨hc, p, x, h1, h2, h3, boxed_keptO h4 hg hr⟩) _) (ownFrom_below (by omega) (by omega)))
  ⟨⟨fun o ho => (by cases ho), bR, f0, f1⟩, Below.refl _ _⟩
  (fun x => { tmps := #[.agg #[.slice (some ⟨b, off, none⟩) l.length cap, .slice (some ⟨cb, co, none⟩) cs.length cc], .int .i64 (sel : Int), .pointer (some ⟨w.heap.size, 0, none⟩), undef, .pointer (some ⟨w.heap.size + 1, 0, none⟩), .int .i64 x.1, .agg #[.slice (some ⟨b, off, none⟩) l.length cap, .slice (some ⟨cb, co, none⟩) cs.length cc], .bool true, .bool false, .bool false, .pointer (some ⟨w.heap.size, 0, none⟩), .slice (some ⟨b, off, none⟩) l.length cap, .int .i64 (sel : Int), .bool true, .bool false, .bool false, .pointer (some ⟨w.heap.size, 0, none⟩), .slice (some ⟨b, off, none⟩) l.length cap, .int .i64 (sel : Int), .func (.func 222) #[] #[.pointer (some ⟨w7.heap.size, 0, none⟩), .pointer (some ⟨w7.heap.size + 1, 0, none⟩)], .int .i64 x.1, undef, undef, undef, undef, undef, undef, undef, undef, undef, undef], defers := [] }) ?assign ?body ?done ?stop
 case assign =>
  intro l x W K hK
  gi_wp2
  exact hK
 case body =>
  rintro lp pre ⟨x, hx⟩ W ⟨⟨hsel, hbR, g0, g1⟩, hB⟩ hlt
  obtain ⟨hxr, _⟩ := opts_mem (right_rt l HR.out) (sel : Int) ⟨h0', hs'⟩ x hx
  obtain ⟨xn, rfl⟩ : ∃ xn : Nat, x = (xn : Int) := ⟨x.toNat, by have := hxr.1; omega⟩
  have hxn : xn < l.length := by have := hxr.2; omega
  have hxc : xn < cs.length := by have := HLC.out; omega
  have hxc' : (xn : Int) < (cs.length : Int) := by omega
  have hxn0 : (0 : Int) ≤ (xn : Int) := by omega
  have hWz := hB.size
  have hBW := hB0.trans hB
  have c6 := ctls_sel (HDc.out W hBW) xn hxc
  have hval := (callsIn_wide (n := 999 - 1 - 1)).2 (value_any (.slice (some ⟨b, off, none⟩) l.length cap) l HD.out.fine HR.out xn hxn W (HDn.out W hBW))
  have HV : Hid (vals (pre ++ [(⟨(xn : Int), hx⟩ : Opt l (sel : Int))]) = vals pre ++ [(xn : Int)]) := Lib.hid (vals_snoc pre ⟨(xn : Int), hx⟩)
  have HSel := Lib.hid hsel
  clear hsel
  cases hsb : selB cs (xn : Int)
  case false =>
   rw [hsb] at c6
   have HX1 := Lib.hid hsb
   clear hsb hval
   gi_wp2
   refine ⟨KeepsFrom.refl _ _, Kp.refl _ _ _ _, ⟨fun o ho => ?_, hbR, g0, g1⟩, hB⟩
   rw [HV.out, List.mem_append, List.mem_singleton] at ho
   rcases ho with ho | rfl
   ·exact HSel.out o ho
   ·exact HX1.out
  case true =>
   rw [hsb] at c6
   have HX1 := Lib.hid hsb
   clear hsb
   gi_wp2
   refine ⟨trivial, hval.mono ?_⟩
   rintro e wq ⟨rfl, hbq⟩
   have bq := boxed_below hbR hbq
   have cq := bq.cell
   have zq := bq.frozen
   have HBq := Lib.hid (bq.set (.string ⟨(valueP l (xn : Int)).toArray⟩))
   have hbl := (hB.trans (hbq.mono (by omega))).setCell (p := ⟨w.heap.size + 1, 0, none⟩) (by show w.heap.size ≤ w.heap.size + 1; omega) (.string ⟨(valueP l (xn : Int)).toArray⟩)
   clear bq hval
   gi_wp2
   exact ⟨((KeepsOthers.of_grownBy (grownBy_below (row := none) hbq) (fun _ _ e => by cases e)).trans (KeepsOthers.setCell _ _ _)).from _, ⟨rfl, vals pre, (xn : Int), HV.out, HSel.out, HX1.out, HBq.out⟩, hbl⟩
 case done =>
  rintro D ys W hD hys ⟨⟨hsel, hbR, g0, g1⟩, hB⟩ hK
  rw [hys] at hsel
  have HE : Hid (selValue l cs (sel : Int) = []) := Lib.hid (by rw [HX.out, firstSel_none hsel])
  have cR := hbR.cell
  have zR := hbR.frozen
  have HbR := Lib.hid (hbR.set (.string ⟨#[]⟩))
  clear hsel hbR
  gi_wp2
  have hK2 := (KeepsOthers.setCell W ⟨w.heap.size + 1, 0, none⟩ (.string ⟨#[]⟩)).same D _ hK rfl
  have hfin := ((hB0.trans hB).setCell (p := ⟨w.heap.size + 1, 0, none⟩) (by show w.heap.size ≤ w.heap.size + 1; omega) (.string ⟨#[]⟩)).trans (belowK_b (w := w) (Nat.le_refl _) _ D _ (.deferred none) (by omega) hK2 rfl rfl)
  have cF := (boxed_keptO HbR.out (grownBy_putObj' _ D (.deferred none)) (fun r e => by cases e; exact ⟨_, hK2, rfl⟩)).cell
  refine ⟨by simp, .inl ⟨_, _, rfl, run_takeDeferred hK2, ?_⟩⟩
  refine ⟨.string ⟨#[]⟩, by rw [rcell1 rfl]; go_simp, by rw [HE.out], hfin⟩
 case stop =>
  rintro D c pre W hD hSp ⟨⟨rfl, p, x, h1, h2, h3, h4⟩, hB⟩ hK
  have HE : Hid (selValue l cs (sel : Int) = valueP l x) := Lib.hid (by rw [HX.out, firstSel_some h2 h3 (by rw [← h1]; exact hSp)])
  have cF := (boxed_keptO h4 (grownBy_putObj' W D (.deferred none)) (fun r e => by cases e; exact ⟨_, hK, rfl⟩)).cell
  have hfin := (hB0.trans hB).trans (belowK_b (w := w) (Nat.le_refl _) _ D _ (.deferred none) (by omega) hK rfl rfl)
  clear h1 h2 h3 h4
  gi_wp2
  refine ⟨by simp, .inl ⟨_, _, rfl, run_takeDeferred hK, ?_⟩⟩
  refine ⟨.string ⟨(valueP l x).toArray⟩, by rw [rcell1 rfl]; go_simp, by rw [HE.out], hfin⟩
end Go.Proofs.YtkhlfggnjcbniaaGreatDoor.doc
namespace Go.Proofs.YtkhlfggnjcbniaaGreatDoor.doc
open Go.ChangeShapes Go.WideShapes Go.ChangeAt Go.RowKit Go.Lib atr link ctl

theorem selvalue_any (vn vc : Value) (l : List Nd) (cs : List Ctl) (k : Int) (w : World) (hD : DocAt w vn vc l cs) :
  Calls Tryz.prog 80 #[.agg #[vn, vc], .int .i64 k] w fun e w' => e = .returned (.string ⟨(ValueP l cs k).toArray⟩) ∧ Below w.heap.size w w' := by
 have HX : Hid (ValueP l cs k = if docR l cs = true ∧ isP l k 23 = true then selValue l cs k else []) := Lib.hid rfl
 by_cases hb : docR l cs = true ∧ isP l k 23 = true
 ·obtain ⟨hq, hi⟩ := hb
  rw [HX.out, if_pos ⟨hq, hi⟩]
  obtain ⟨hin, _, _⟩ := (isP_iff l k 23).1 hi
  obtain ⟨sel, rfl⟩ : ∃ sel : Nat, k = (sel : Int) := ⟨k.toNat, by have := hin.1; omega⟩
  exact value_loop vn vc l cs w hD hq sel hi
 have HE : Hid (ValueP l cs k = []) := Lib.hid (by rw [HX.out, if_neg hb])
 rw [HE.out]
 obtain ⟨oa, ca, rfl⟩ := NodesAt.lenN hD.nodes
 obtain ⟨oc, cc, rfl⟩ := CtlsAt.lenN hD.ctls
 obtain ⟨wA, hwA⟩ : ∃ wA, wA = (w.alloc (.cells #[.slice oa l.length ca, .slice oc cs.length cc] 28)).alloc (.cells #[.string ⟨#[]⟩] 9) := ⟨_, rfl⟩
 have hB1 : Below w.heap.size w wA := by rw [hwA]; exact ((Below.refl _ w).alloc (Nat.le_refl _) _).alloc (by simp) _
 have bR : Boxed wA (w.heap.size + 1) 9 (.string ⟨#[]⟩) := by
  rw [hwA]
  have := Boxed.new (w.alloc (.cells #[.slice oa l.length ca, .slice oc cs.length cc] 28)) 9 (.string ⟨#[]⟩)
  rw [World.size_alloc] at this
  exact this
 have f0 : wA.cell? ⟨w.heap.size, 0, none⟩ = some (.slice oa l.length ca) := by
  rw [hwA]
  exact cell_below ((Below.refl (w.alloc (.cells #[.slice oa l.length ca, .slice oc cs.length cc] 28)).heap.size (w.alloc (.cells #[.slice oa l.length ca, .slice oc cs.length cc] 28))).alloc (Nat.le_refl _) (.cells #[.string ⟨#[]⟩] 9)) (World.cell?_alloc_new w _ _ 0)
 have hr := docright_any (.slice oa l.length ca) l hD.fine oc cs.length cc wA (hD.nodes.below hB1)
 rw [show (decide (l.length = cs.length) && rightB l) = docR l cs from rfl] at hr
 have HI := Lib.hid (fun w' h => is_any (.slice oa l.length ca) l k 23 hD.fine w' (hD.nodes.below (w' := w') h))
 cases hq : docR l cs
 ·rw [hq] at hr
  clear hD hq HX hb HI HE
  subst hwA
  go_enter Tryz.func80, Tryz.ntmps80
  go_wp2_with fail
  refine hr.mono ?_
  rintro e w1 ⟨rfl, hb1⟩
  have bR := boxed_below bR hb1
  have cR := bR.cell
  have zR := bR.frozen
  have hb01 := below_trans hB1 hb1
  have HBl := Lib.hid (hb01.setCell (p := ⟨w.heap.size + 1, 0, none⟩) (by show w.heap.size ≤ w.heap.size + 1; omega) (.string ⟨#[]⟩))
  go_wp2_with fail
  (try simp only [Exit.inBlock, Exit.then])
  refine bodyPost_ret (v := .string ⟨#[]⟩) (by rw [rcell1 rfl]; go_simp) rfl ⟨rfl, HBl.out⟩
 ·have hi : isP l k 23 = false := by
   cases h : isP l k 23
   ·rfl
   ·exact absurd ⟨hq, h⟩ hb
  rw [hq] at hr
  rw [hi] at HI
  clear hD hq HX hb hi HE
  subst hwA
  go_enter Tryz.func80, Tryz.ntmps80
  go_wp2_with fail
  refine hr.mono ?_
  rintro e w1 ⟨rfl, hb1⟩
  have bR := boxed_below bR hb1
  have f0 := cell_below hb1 f0
  have hb01 := below_trans hB1 hb1
  go_wp2_with fail
  refine (HI.out w1 hb01).mono ?_
  rintro e w2 ⟨rfl, hb2⟩
  have bR := boxed_below bR hb2
  have cR := bR.cell
  have zR := bR.frozen
  have HBl := Lib.hid ((below_trans hb01 hb2).setCell (p := ⟨w.heap.size + 1, 0, none⟩) (by show w.heap.size ≤ w.heap.size + 1; omega) (.string ⟨#[]⟩))
  go_wp2_with fail
  (try simp only [Exit.inBlock, Exit.then])
  refine bodyPost_ret (v := .string ⟨#[]⟩) (by rw [rcell1 rfl]; go_simp) rfl ⟨rfl, HBl.out⟩

def oneL (a : List Attr) : List Nd := [⟨[104, 116, 109, 108], [], [], -1, [1]⟩, ⟨[105, 110, 112, 117, 116], [], a, 0, []⟩]
def zeroCt : Ctl := ⟨[], false, false, false, false, false, false, false, [], []⟩
def oneC : List Ctl := [zeroCt, zeroCt]
def RetDoc1 (l : List Nd) (cs : List Ctl) (w : World) (e : Ending) (w' : World) : Prop := ∃ vn vc, e = .returned (.agg #[vn, vc]) ∧ DocAt w' vn vc l cs ∧ Below w.heap.size w w'
def oneN (b : Nat) (v : Value) : List Value := [.string ⟨#[104, 116, 109, 108]⟩, .string ⟨#[]⟩, .slice none 0 0, .int .i64 (-1), .slice (some ⟨b + 1, 0, none⟩) 1 1,
 .string ⟨#[105, 110, 112, 117, 116]⟩, .string ⟨#[]⟩, v, .int .i64 0, .slice none 0 0]
def oneV : List Value := [.string ⟨#[]⟩, .bool false, .bool false, .bool false, .bool false, .bool false, .bool false, .bool false, .string ⟨#[]⟩, .slice none 0 0, .string ⟨#[]⟩, .bool false, .bool false, .bool false, .bool false, .bool false, .bool false, .bool false, .string ⟨#[]⟩, .slice none 0 0]
theorem one_enc (j : Nat) (hj : j < 2) (i : Nat) (u : Value) (hu : (encC zeroCt (.slice none 0 0))[i]? = some u) : oneV[0 + j * 10 + i]? = some u := by
 have hi : i < 10 := by
  rcases Nat.lt_or_ge i 10 with h | h
  ·exact h
  ·rw [List.getElem?_eq_none (by exact h)] at hu; cases hu
 have e : oneV = (List.replicate 2 (zeroCt, Value.slice none 0 0)).flatMap (fun x => encC x.1 x.2) := rfl
 have := flat_at (fun x : Ctl × Value => encC x.1 x.2) 10 encC_len (List.replicate 2 (zeroCt, Value.slice none 0 0)) j (by simpa using hj) i hi
 rw [List.getElem_replicate] at this
 rw [Nat.zero_add, e, this]; exact hu
def oneWd (w : World) (o : Obj) (v : Value) : World := (((w.alloc o).alloc (.cells #[.int .i64 1] 3)).alloc (.cells (oneN w.heap.size v).toArray 41)).alloc (.cells oneV.toArray 35)
theorem one_cells (w : World) (o : Obj) (v : Value) : (∀ k, (oneWd w o v).cell? ⟨w.heap.size + 1, k, none⟩ = [Value.int .i64 1][k]?) ∧
  (∀ k, (oneWd w o v).cell? ⟨w.heap.size + 1 + 1, k, none⟩ = (oneN w.heap.size v)[k]?) ∧ (∀ k, (oneWd w o v).cell? ⟨w.heap.size + 1 + 1 + 1, k, none⟩ = oneV[k]?) ∧ (oneWd w o v).heap.size = w.heap.size + 4 ∧ Below w.heap.size w (oneWd w o v) := by
 obtain ⟨w1, h1⟩ : ∃ w1, w1 = w.alloc o := ⟨_, rfl⟩
 obtain ⟨w2, h2⟩ : ∃ w2, w2 = w1.alloc (.cells #[.int .i64 1] 3) := ⟨_, rfl⟩
 obtain ⟨w4, h4⟩ : ∃ w4, w4 = w2.alloc (.cells (oneN w.heap.size v).toArray 41) := ⟨_, rfl⟩
 have e : oneWd w o v = w4.alloc (.cells oneV.toArray 35) := by unfold oneWd; rw [h4, h2, h1]
 have s1 : w1.heap.size = w.heap.size + 1 := by rw [h1]; simp
 have s2 : w2.heap.size = w.heap.size + 1 + 1 := by rw [h2]; simp [s1]
 have s4 : w4.heap.size = w.heap.size + 1 + 1 + 1 := by rw [h4]; simp [s2]
 have b12 : Below w1.heap.size w1 w2 := by rw [h2]; exact (Below.refl _ _).alloc (Nat.le_refl _) _
 have b24 : Below w2.heap.size w2 w4 := by rw [h4]; exact (Below.refl _ _).alloc (Nat.le_refl _) _
 have b45 : Below w4.heap.size w4 (oneWd w o v) := by rw [e]; exact (Below.refl _ _).alloc (Nat.le_refl _) _
 have b01 : Below w.heap.size w w1 := by rw [h1]; exact (Below.refl _ _).alloc (Nat.le_refl _) _
 refine ⟨fun k => ?_, fun k => ?_, fun k => ?_, by rw [e]; simp [s4], below_trans b01 (below_trans b12 (below_trans b24 b45))⟩
 ·rw [((below_trans b24 b45).cell (p := ⟨w.heap.size + 1, k, none⟩) (by show w.heap.size + 1 < w2.heap.size; omega)), h2, ← s1, World.cell?_alloc_new]; simp
 ·rw [(b45.cell (p := ⟨w.heap.size + 1 + 1, k, none⟩) (by show w.heap.size + 1 + 1 < w4.heap.size; omega)), h4, ← s2, World.cell?_alloc_new]; simp
 ·rw [e, ← s4, World.cell?_alloc_new]; simp
theorem no_ents (w : World) : EntsAt w (.slice none 0 0) [] := .inl ⟨rfl, rfl, none, 0, rfl⟩
theorem one_doc (w : World) (o : Obj) (v : Value) (a : List Attr) (hA : AttrsAt w v a) (hc : CapOk v) (hn : a.length ≤ 140737488355328) (ha : ∀ x ∈ a, x.1.length ≤ 140737488355328 ∧ x.2.length ≤ 140737488355328) :
  DocAt (oneWd w o v) (.slice (some ⟨w.heap.size + 1 + 1, 0, none⟩) 2 2) (.slice (some ⟨w.heap.size + 1 + 1 + 1, 0, none⟩) 2 2) (oneL a) oneC := by
 obtain ⟨k1, kn, kc, hz, hb⟩ := one_cells w o v
 have i1 : IntsAt (oneWd w o v) (.slice (some ⟨w.heap.size + 1, 0, none⟩) 1 1) [1] := .inr ⟨_, 0, 1, rfl, by decide, by omega, fun j u hj => by rw [Nat.zero_add, k1]; exact hj⟩
 refine ⟨⟨by show 2 ≤ 17592186044416; decide, ?_⟩, .inr ⟨_, 0, 2, rfl, by show 0 < 2; decide, by omega, ?_⟩, .inr ⟨_, 0, 2, rfl, by decide, by omega, ?_⟩, by decide, ?_⟩
 ·intro n hn'
  simp only [oneL, List.mem_cons, List.not_mem_nil, or_false] at hn'
  rcases hn' with rfl | rfl
  ·exact ⟨by decide, by decide, by decide, by decide, fun a h => (by cases h), by decide, by decide⟩
  ·exact ⟨by show 5 ≤ 140737488355328; decide, by show 0 ≤ 140737488355328; decide, hn, by show 0 ≤ 17592186044416; decide, ha, by show (Lit.int .i64 0).wf = true; decide, fun k h => (by cases h)⟩
 ·intro j hj
  match j, hj with
  | 0, _ => exact ⟨_, _, kn _, kn _, kn _, kn _, kn _, AttrsAt.nil _, i1, CapOk.nil⟩
  | 1, _ => exact ⟨_, _, kn _, kn _, kn _, kn _, kn _, hA.below hb, IntsAt.nil _, hc⟩
 ·intro j hj
  match j, hj with
  | 0, _ => exact ⟨.slice none 0 0, fun i u hu => by rw [kc]; exact one_enc 0 (by decide) i u hu, no_ents _⟩
  | 1, _ => exact ⟨.slice none 0 0, fun i u hu => by rw [kc]; exact one_enc 1 (by decide) i u hu, no_ents _⟩
 ·intro c hc
  simp only [oneC, List.mem_cons, List.not_mem_nil, or_false] at hc
  rcases hc with rfl | rfl <;> decide
theorem mk2 (w : World) : (Instr.makeSlice 26 (.int .i64 2) (.int .i64 2)).run Tryz.prog w = .ok (.slice (some ⟨w.heap.size, 0, none⟩) 2 2) (w.alloc (.cells #[.string ⟨#[]⟩, .bool false, .bool false, .bool false, .bool false, .bool false, .bool false, .bool false, .string ⟨#[]⟩, .slice none 0 0, .string ⟨#[]⟩, .bool false, .bool false, .bool false, .bool false, .bool false, .bool false, .bool false, .string ⟨#[]⟩, .slice none 0 0] 35)) := by kernel_rfl
theorem one_doc_any (v : Value) (a : List Attr) (w : World) (hA : AttrsAt w v a) (hcap : CapOk v) (hn : a.length ≤ 140737488355328) (ha : ∀ x ∈ a, x.1.length ≤ 140737488355328 ∧ x.2.length ≤ 140737488355328) :
  Calls Tryz.prog 21 #[v] w (RetDoc1 (oneL a) oneC w) := by
 have hmk := mk2
 have HD := Lib.hid (fun o => one_doc w o v a hA hcap hn ha)
 have HB := Lib.hid (fun o => (one_cells w o v).2.2.2.2)
 obtain ⟨oa, cap, rfl⟩ := AttrsAt.lenN hA
 clear hA hcap hn ha
 go_enter Tryz.func21, Tryz.ntmps21
 go_wp2_with fail
 (try simp only [Exit.inBlock, Exit.then])
 refine bodyPost_ret (v := .agg #[.slice (some ⟨w.heap.size + 1 + 1, 0, none⟩) 2 2, .slice (some ⟨w.heap.size + 1 + 1 + 1, 0, none⟩) 2 2]) (by rw [rcell1 rfl]; go_simp) rfl ⟨_, _, rfl, HD.out _, HB.out _⟩
end Go.Proofs.YtkhlfggnjcbniaaGreatDoor.doc
