/- A program's choice, option by option: plain. option.Write, of a select. The contract of option.Write. -/
import Derived.Test.YtoajgfhcongocaaGreatDoorGj
import Derived.Test.YtoajgfhcongocaaGreatDoorGa
import Derived.Test.YtoajgfhcongocaaGreatDoorGl
import Derived.Test.YtoajgfhcongocaaGreatDoorGi
namespace Go.Proofs.YtoajgfhcongocaaGreatDoor.doc
open Go.RowKit Go.Lib Go.Proofs.YtoajgfhcongocaaGreatDoor.atr Go.Proofs.YtoajgfhcongocaaGreatDoor.link Go.Proofs.YtoajgfhcongocaaGreatDoor.ctl

def selF (b : Bool) (c : Ctl) : Ctl := { c with selected := b }
def dselT (c : Ctl) : Ctl := { c with dselected := true }
def stepW (l : List Nd) (s : List UInt8) (st : Bool × List Ctl) (o : Int) : Bool × List Ctl :=
  if st.1 = false ∧ valueP l o = s then (true, (st.2.modify o.toNat (selF true)).modify o.toNat dselT) else (st.1, st.2.modify o.toNat (selF false))
def runW (l : List Nd) (s : List UInt8) (cs : List Ctl) (os : List Int) : Bool × List Ctl := os.foldl (stepW l s) (false, cs)
theorem runW_snoc (l : List Nd) (s : List UInt8) (cs : List Ctl) (os : List Int) (o : Int) : runW l s cs (os ++ [o]) = stepW l s (runW l s cs os) o := by
  unfold runW; rw [List.foldl_append]; rfl
theorem stepW_len (l : List Nd) (s : List UInt8) (st : Bool × List Ctl) (o : Int) : (stepW l s st o).2.length = st.2.length := by
  unfold stepW; split <;> simp
theorem runW_len (l : List Nd) (s : List UInt8) (cs : List Ctl) (os : List Int) : (runW l s cs os).2.length = cs.length := by
  refine snoc_ind (P := fun os => (runW l s cs os).2.length = cs.length) rfl (fun t o ih => ?_) os
  rw [runW_snoc, stepW_len, ih]
theorem files_modify (L : List Ctl) (o : Nat) (f : Ctl → Ctl) (hf : ∀ c, (f c).files = c.files) : (L.modify o f).map (·.files) = L.map (·.files) := by
  apply List.ext_getElem?
  intro i
  rw [List.getElem?_map, List.getElem?_map, List.getElem?_modify]
  cases L[i]? with
  | none => rfl
  | some c =>
    simp only [Option.map_some]
    split
    · exact congrArg some (hf c)
    · rfl
theorem stepW_files (l : List Nd) (s : List UInt8) (st : Bool × List Ctl) (o : Int) : (stepW l s st o).2.map (·.files) = st.2.map (·.files) := by
  unfold stepW
  split
  · rw [files_modify _ _ dselT (fun _ => rfl), files_modify _ _ (selF true) (fun _ => rfl)]
  · rw [files_modify _ _ (selF false) (fun _ => rfl)]
theorem pickT_snoc (l : List Nd) (t : List Int) (o : Int) (s : List UInt8) : pickT l (t ++ [o]) s = if pickT l t s < 0 ∧ valueP l o = s then o else pickT l t s := by unfold pickT; rw [List.foldl_append]; rfl
theorem pickT_ways (l : List Nd) (os : List Int) (s : List UInt8) (h0 : ∀ o ∈ os, 0 ≤ o) : pickT l os s = -1 ∨ pickT l os s ∈ os := by
  rw [pickT_is]
  rcases first_ways (fun o => decide (valueP l o = s)) os h0 with h | h
  · exact .inl h.1
  · exact .inr h.1
theorem runW_is (l : List Nd) (s : List UInt8) (cs : List Ctl) (os : List Int) : os.Nodup → (∀ o ∈ os, 0 ≤ o) → runW l s cs os = (decide (0 ≤ pickT l os s), mapOn (writeG (pickT l os s)) cs os) := by
  refine snoc_ind (P := fun os => os.Nodup → (∀ o ∈ os, 0 ≤ o) → runW l s cs os = (decide (0 ≤ pickT l os s), mapOn (writeG (pickT l os s)) cs os)) (fun _ _ => ?_) (fun t o ih hn h0 => ?_) os
  · rw [mapOn_nil]; rfl
  · have h1 : o ∉ t := nodup_prefix hn (List.prefix_refl _)
    have ho : 0 ≤ o := h0 o (by simp)
    have ht : ∀ x ∈ t, 0 ≤ x := fun x hx => h0 x (by simp [hx])
    rw [List.nodup_append] at hn
    have ih := ih hn.1 ht
    have hw := pickT_ways l t s ht
    rw [runW_snoc, ih, pickT_snoc]
    unfold stepW
    dsimp only
    by_cases hp : pickT l t s < 0 ∧ valueP l o = s
    · rw [if_pos ⟨decide_eq_false (by omega), hp.2⟩, if_pos hp]
      have hm1 : pickT l t s = -1 := by
        rcases hw with h | h
        · exact h
        · have := ht _ h; omega
      rw [hm1]
      refine Prod.ext (decide_eq_true ho).symm ?_
      apply List.ext_getElem?
      intro i
      dsimp only
      rw [List.getElem?_modify, List.getElem?_modify, mapOn_get, mapOn_get]
      cases cs[i]? with
      | none => rfl
      | some c =>
        simp only [Option.map_some, Option.map_eq_map]
        by_cases e : (i : Int) = o
        · have e2 : o.toNat = i := by omega
          rw [e, if_neg h1, if_pos e2, if_pos e2, if_pos (List.mem_append_right _ List.mem_cons_self)]
          simp [writeG, selF, dselT]
        · have e2 : ¬ o.toNat = i := by omega
          rw [if_neg e2, if_neg e2]
          by_cases g : (i : Int) ∈ t
          · have : ¬ (i : Int) = -1 := by omega
            simp [g, e, writeG, this]
          · simp [g, e]
    · rw [if_neg hp, if_neg (fun h => hp ⟨by have := of_decide_eq_false h.1; omega, h.2⟩)]
      refine Prod.ext rfl ?_
      apply List.ext_getElem?
      intro i
      dsimp only
      rw [List.getElem?_modify, mapOn_get, mapOn_get]
      cases cs[i]? with
      | none => rfl
      | some c =>
        simp only [Option.map_some, Option.map_eq_map]
        have hne : o ≠ pickT l t s := by
          rcases hw with h | h
          · omega
          · exact fun e => h1 (e ▸ h)
        by_cases e : (i : Int) = o
        · have e2 : o.toNat = i := by omega
          rw [e, if_neg h1, if_pos e2, if_pos (List.mem_append_right _ List.mem_cons_self)]
          simp [writeG, selF, hne]
        · have e2 : ¬ o.toNat = i := by omega
          rw [if_neg e2]
          by_cases g : (i : Int) ∈ t <;> simp [g, e]
end Go.Proofs.YtoajgfhcongocaaGreatDoor.doc

namespace Go.Proofs.YtoajgfhcongocaaGreatDoor.doc
open Go.ChangeShapes Go.WideShapes Go.ChangeAt Go.RowKit Go.Lib Go.Shelf Go.Proofs.YtoajgfhcongocaaGreatDoor.atr Go.Proofs.YtoajgfhcongocaaGreatDoor.link Go.Proofs.YtoajgfhcongocaaGreatDoor.ctl
attribute [local go_sem] Oper.semAt_some

theorem OwnC.mod {w : World} {B g cap n : Nat} {cs : List Ctl} {fs : List Value} (h : OwnC w B (.slice (some ⟨g, 0, none⟩) n cap) cs fs) (hn : n = cs.length) (o : Nat) (ho : o < cs.length) (i : Nat) (hi : i < 10) (u : Value) (c1 : Ctl → Ctl)
    (hf1 : ∀ c, (c1 c).files = c.files) (he1 : ∀ c f, (encC c f).set i u = encC (c1 c) f) :
    OwnC (w.setCell ⟨g, o * 10 + i, none⟩ u) B (.slice (some ⟨g, 0, none⟩) n cap) (cs.modify o c1) fs := by
  rw [modify_set ho]
  exact h.set hn o ho i hi u (c1 cs[o]) (hf1 _) (fun f => he1 _ f)

set_option maxHeartbeats 24000000 in
set_option maxRecDepth 100000 in
theorem write_loop (vn vc : Value) (l : List Nd) (cs : List Ctl) (s : List UInt8) (w : World) (hD : DocAt w vn vc l cs) (hq : docR l cs = true) (sel : Nat) (hi : isP l (sel : Int) 23 = true) :
    Calls Tryz.prog 34 #[.agg #[vn, vc], .int .i64 (sel : Int), .string ⟨s.toArray⟩] w (RetS (runW l s cs (optsP l (sel : Int))).2 w) := by
  obtain ⟨hlc, hR⟩ := (docR_iff l cs).1 hq
  have hRt := right_rt l hR
  have hf := hRt.few
  obtain ⟨hin, _, _⟩ := (isP_iff l (sel : Int) 23).1 hi
  have hs : sel < l.length := by have := hin.2; omega
  obtain ⟨b, off, cap, rfl, hb⟩ := nodes_addr hD.nodes (by omega)
  obtain ⟨oc, cc, rfl⟩ := CtlsAt.lenN hD.ctls
  obtain ⟨wA, hwA⟩ : ∃ wA, wA = (w.alloc (.cells #[.slice (some ⟨b, off, none⟩) l.length cap, .slice oc cs.length cc] 25)).alloc (.cells #[.string ⟨s.toArray⟩] 9) := ⟨_, rfl⟩
  have hB1 : Below w.heap.size w wA := by rw [hwA]; exact ((Below.refl _ w).alloc (Nat.le_refl _) _).alloc (by simp) _
  have hf01 : wA.cell? ⟨w.heap.size, 0, none⟩ = some (.slice (some ⟨b, off, none⟩) l.length cap) ∧ wA.cell? ⟨w.heap.size, 1, none⟩ = some (.slice oc cs.length cc) ∧ wA.cell? ⟨w.heap.size + 1, 0, none⟩ = some (.string ⟨s.toArray⟩) := by
    rw [hwA]
    have hx := (Below.refl (w.alloc (.cells #[.slice (some ⟨b, off, none⟩) l.length cap, .slice oc cs.length cc] 25)).heap.size (w.alloc (.cells #[.slice (some ⟨b, off, none⟩) l.length cap, .slice oc cs.length cc] 25))).alloc (Nat.le_refl _) (.cells #[.string ⟨s.toArray⟩] 9)
    refine ⟨cell_below hx (World.cell?_alloc_new w _ _ 0), cell_below hx (World.cell?_alloc_new w _ _ 1), ?_⟩
    have := World.cell?_alloc_new (w.alloc (.cells #[.slice (some ⟨b, off, none⟩) l.length cap, .slice oc cs.length cc] 25)) #[.string ⟨s.toArray⟩] 9 0
    rw [World.size_alloc] at this
    exact this
  obtain ⟨f0, f1, fs0⟩ := hf01
  have hr := docright_any (.slice (some ⟨b, off, none⟩) l.length cap) l hD.fine oc cs.length cc wA (hD.nodes.below hB1)
  rw [show (decide (l.length = cs.length) && rightB l) = docR l cs from rfl, hq] at hr
  replace hr := (callsIn_wide (n := 999)).2 hr
  have HI := Lib.hid (fun w' h => (callsIn_wide (n := 999)).2 (is_any (.slice (some ⟨b, off, none⟩) l.length cap) l (sel : Int) 23 hD.fine w' (hD.nodes.below (w' := w') h)))
  have HC := Lib.hid (fun w' h => (callsIn_wide (n := 999)).2 (copiedC_any (.slice oc cs.length cc) cs hD.cb hD.fb w' (hD.ctls.below (w' := w') h)))
  rw [hi] at HI
  have HD := Lib.hid hD
  have HLC := Lib.hid hlc
  have HR := Lib.hid hR
  have h0' : (0 : Int) ≤ (sel : Int) := by omega
  have hs' : (sel : Int) < (l.length : Int) := by omega
  clear hD hq hi hin hlc hR hRt
  subst hwA
  refine (callsIn_wide (n := 1000)).1 ?_
  refine callsIn_of_wp_marks Tryz.func34 rfl trivial ?_ rfl
  simp only [Tryz.ntmps34, List.size_toArray, List.length_cons, List.length_nil, Nat.reduceAdd, Nat.reduceSub, Array.replicate_succ, Array.replicate_zero, List.push_toArray, List.append_toArray, List.nil_append, List.cons_append]
  gi_wp2
  refine ⟨trivial, hr.mono ?_⟩
  rintro e w1 ⟨rfl, hb1⟩
  have f0 := cell_below hb1 f0
  have f1 := cell_below hb1 f1
  have fs0 := cell_below hb1 fs0
  have hb01 := below_trans hB1 hb1
  have hlt0 : w.heap.size + 1 < w1.heap.size := lt_of_cell fs0
  clear hr
  gi_wp2
  refine ⟨trivial, (HC.out w1 hb01).mono ?_⟩
  rintro e w2 ⟨v', fs, rfl, hO, hb2⟩
  have f0 := cell_below hb2 f0
  have fs0 := cell_below hb2 fs0
  have hcs0 : 0 < cs.length := by have := HLC.out; omega
  obtain ⟨g, c9, rfl, hBg, hgl⟩ := hO.addr hcs0
  have HLow := Lib.hid hO.lowF
  have HO := Lib.hid hO
  have hb3 : Below w2.heap.size w2 (w2.alloc (.cells #[.slice (some ⟨g, 0, none⟩) cs.length c9] 23)) := (Below.refl _ _).alloc (Nat.le_refl _) _
  have hb13 := below_trans hb2 hb3
  have b9 := Boxed.new w2 23 (.slice (some ⟨g, 0, none⟩) cs.length c9)
  have f0 := cell_below hb3 f0
  have fs0 := cell_below hb3 fs0
  have hi3 := HI.out _ (below_trans hb01 hb13)
  clear hO HC HI
  gi_wp2
  refine ⟨trivial, hi3.mono ?_⟩
  rintro e w7 ⟨rfl, hb7⟩
  have f0 := cell_below hb7 f0
  have fs0 := cell_below hb7 fs0
  have b97 := boxed_below b9 hb7
  have hb17 := below_trans hb13 hb7
  have HO7 := Lib.hid (HO.out.below (below_trans hb3 hb7))
  have hz7 : w2.heap.size + 1 ≤ w7.heap.size := by have := hb7.size; simpa using this
  clear hi3 HO b9 hb7 hb3 hb2 hb13
  have hbF : Below w7.heap.size w7 (w7.alloc (.cells #[.bool false] 4)) := (Below.refl _ _).alloc (Nat.le_refl _) _
  have f0 := cell_below hbF f0
  have fs0 := cell_below hbF fs0
  have bF := Boxed.new w7 4 (.bool false)
  have ho := (callsIn_wide (n := 999)).2 (options_any (.slice (some ⟨b, off, none⟩) l.length cap) (sel : Int) ⟨_, _, _, rfl⟩ (w7.alloc (.cells #[.bool false] 4)))
  gi_wp2
  refine ⟨trivial, ho.mono ?_⟩
  rintro e w' ⟨rfl, rfl⟩
  clear ho
  gi_wp2
  obtain ⟨w8, hw8⟩ : ∃ w8, w8 = ((w7.alloc (.cells #[.bool false] 4)).alloc (.cells #[.slice (some ⟨b, off, none⟩) l.length cap] 22)).alloc (.cells #[.int .i64 (sel : Int)] 3) := ⟨_, rfl⟩
  have hsz : w8.heap.size = w7.heap.size + 1 + 1 + 1 := by rw [hw8]; simp
  have hb78 : Below w7.heap.size w7 w8 := by rw [hw8]; exact (((Below.refl _ w7).alloc (Nat.le_refl _) _).alloc (by simp) _).alloc (by simp; omega) _
  have bF8 : Boxed w8 w7.heap.size 4 (.bool false) := by rw [hw8]; exact (bF.alloc _).alloc _
  have bL : Boxed w8 (w7.heap.size + 1) 22 (.slice (some ⟨b, off, none⟩) l.length cap) := by
    have := Boxed.new (w7.alloc (.cells #[.bool false] 4)) 22 (.slice (some ⟨b, off, none⟩) l.length cap)
    rw [World.size_alloc] at this
    rw [hw8]; exact this.alloc _
  have bS : Boxed w8 (w7.heap.size + 1 + 1) 3 (.int .i64 (sel : Int)) := by
    have := Boxed.new ((w7.alloc (.cells #[.bool false] 4)).alloc (.cells #[.slice (some ⟨b, off, none⟩) l.length cap] 22)) 3 (.int .i64 (sel : Int))
    rw [World.size_alloc, World.size_alloc] at this
    rw [hw8]; exact this
  have hst0 : Bst w2.heap.size w1.heap.size [(w2.heap.size, 23, .slice (some ⟨g, 0, none⟩) cs.length c9), (w7.heap.size, 4, .bool (runW l s cs (vals ([] : List (Opt l (sel : Int))))).1)] g cs.length c9 w8 (runW l s cs (vals ([] : List (Opt l (sel : Int))))).2 fs :=
    ⟨bx_cons (boxed_below b97 hb78) (bx_cons bF8 bx_nil), HO7.out.below hb78, HLow.out⟩
  have hz1 := hb01.size
  have hz17 := hb17.size
  have hB0 : Below w1.heap.size w1 w8 := below_trans hb17 hb78
  first | rw [← hw8] | (simp only [← hw8])
  have f0 : w8.cell? ⟨w.heap.size, 0, none⟩ = some (.slice (some ⟨b, off, none⟩) l.length cap) := by
    rw [hw8]
    exact cell_below (((Below.refl _ _).alloc (Nat.le_refl _) _).alloc (by simp) _) f0
  have fs0 : w8.cell? ⟨w.heap.size + 1, 0, none⟩ = some (.string ⟨s.toArray⟩) := by
    rw [hw8]
    exact cell_below (((Below.refl _ _).alloc (Nat.le_refl _) _).alloc (by simp) _) fs0
  clear hw8
  have hA1 := HD.out.nodes.below hb01
  have HD1 := Lib.hid (fun w' (h : Below w1.heap.size w1 w') => hA1.below h)
  refine wpIn_rangeFunc_ownG rfl (by omega) (gf := 64) (lb := #[.pointer (some ⟨w7.heap.size + 1, 0, none⟩), .pointer (some ⟨w7.heap.size + 1 + 1, 0, none⟩)]) rfl trivial (enters_of Tryz.func64 (by kernel_rfl) rfl)
    (opts_stops l HD.out.fine HR.out sel hs _ w1 hA1 999 (by omega) (w7.heap.size + 1) (w7.heap.size + 1 + 1) w8 hB0 bL.lt bS.lt bL.cell bS.cell) (fun h k => h.trans k) (Kp.put (by omega)) (Below.refl _ _) (fun _ => rfl)
    (fun pre W => Bst w2.heap.size w1.heap.size [(w2.heap.size, 23, .slice (some ⟨g, 0, none⟩) cs.length c9), (w7.heap.size, 4, .bool (runW l s cs (vals pre)).1)] g cs.length c9 W (runW l s cs (vals pre)).2 fs ∧ Below w1.heap.size w8 W)
    (fun _ _ _ => False)
    (OwnFrom.and (Own.from (fun s A B row hs hg hr => hs.keptO hg hr) _) (ownFrom_below (by omega) (by omega)))
    (fun _ _ _ _ _ hs _ _ => hs)
    ⟨hst0, Below.refl _ _⟩
    (fun x => { tmps := #[.agg #[.slice (some ⟨b, off, none⟩) l.length cap, .slice oc cs.length cc], .int .i64 (sel : Int), .string ⟨s.toArray⟩, .pointer (some ⟨w.heap.size, 0, none⟩), undef, .pointer (some ⟨w.heap.size + 1, 0, none⟩), .slice none 0 0, .pointer (some ⟨w2.heap.size, 0, none⟩), .pointer (some ⟨w7.heap.size, 0, none⟩), .int .i64 x.1, .agg #[.slice (some ⟨b, off, none⟩) l.length cap, .slice oc cs.length cc], .bool true, .bool false, .pointer (some ⟨w.heap.size, 1, none⟩), .slice oc cs.length cc, .slice (some ⟨g, 0, none⟩) cs.length c9, .pointer (some ⟨w.heap.size, 0, none⟩), .slice (some ⟨b, off, none⟩) l.length cap, .int .i64 (sel : Int), .bool true, .bool false, undef, .pointer (some ⟨w.heap.size, 0, none⟩), .slice (some ⟨b, off, none⟩) l.length cap, .int .i64 (sel : Int), .func (.func 64) #[] #[.pointer (some ⟨w7.heap.size + 1, 0, none⟩), .pointer (some ⟨w7.heap.size + 1 + 1, 0, none⟩)], .int .i64 x.1, undef, undef, undef, undef, undef, undef, undef, undef, undef, undef, undef, undef, undef, undef, undef, undef, undef, undef, undef, undef, undef, undef, undef, undef], defers := [] }) ?assign ?body ?done ?stop
  case assign =>
    intro l x W K hK
    gi_wp2
    exact hK
  case stop =>
    rintro D c pre W _ _ h _
    exact h.elim
  case body =>
    rintro lp pre ⟨x, hx⟩ W ⟨hst, hB⟩ hlt
    obtain ⟨hxr, _⟩ := opts_mem (right_rt l HR.out) (sel : Int) ⟨h0', hs'⟩ x hx
    obtain ⟨xn, rfl⟩ : ∃ xn : Nat, x = (xn : Int) := ⟨x.toNat, by have := hxr.1; omega⟩
    have hxn : xn < l.length := by have := hxr.2; omega
    have hxn' : (xn : Int) < (l.length : Int) := hxr.2
    have hxc : xn < cs.length := by have := HLC.out; omega
    have hxc' : (xn : Int) < (cs.length : Int) := by omega
    have hxn0 : (0 : Int) ≤ (xn : Int) := by omega
    have hWz := hB.size
    have hstd := hst.below (Below.refl _ W).drew
    have HLn := Lib.hid (runW_len l s cs (vals pre))
    have hxq : xn < (runW l s cs (vals pre)).2.length := by rw [HLn.out]; exact hxc
    have c6 := hstd.own.selOf xn hxq
    have c7 := hstd.own.dselOf xn hxq
    have hz6 := hstd.own.frozen HLn.out.symm (xn * 10 + 6)
    have ZQ := Lib.hid (fun wq (hbq : Below W.drew.heap.size W.drew wq) j => (hstd.own.below hbq).frozen HLn.out.symm j)
    have ZF := Lib.hid (fun wq (hbq : Below W.drew.heap.size W.drew wq) => (hstd.below hbq).b1.frozen)
    have hcO := hstd.b0.cell
    have hcF := hstd.b1.cell
    have hBW := hB0.trans (hB.trans (Below.refl _ W).drew)
    have f0 : W.drew.cell? ⟨w.heap.size, 0, none⟩ = some (.slice (some ⟨b, off, none⟩) l.length cap) := ((hB.trans (Below.refl _ W).drew).cell (p := ⟨w.heap.size, 0, none⟩) (by show w.heap.size < w1.heap.size; omega)).trans f0
    have fs0 : W.drew.cell? ⟨w.heap.size + 1, 0, none⟩ = some (.string ⟨s.toArray⟩) := ((hB.trans (Below.refl _ W).drew).cell (p := ⟨w.heap.size + 1, 0, none⟩) hlt0).trans fs0
    have hval := (callsIn_wide (n := 999 - 1 - 1)).2 (value_any (.slice (some ⟨b, off, none⟩) l.length cap) l HD.out.fine HR.out xn hxn W.drew (HD1.out W.drew hBW))
    have HSn := Lib.hid (runW_snoc l s cs (vals pre) (xn : Int))
    have HV : Hid (vals (pre ++ [(⟨(xn : Int), hx⟩ : Opt l (sel : Int))]) = vals pre ++ [(xn : Int)]) := Lib.hid (vals_snoc pre ⟨(xn : Int), hx⟩)
    have HT0 : Hid (Bst w2.heap.size w1.heap.size [(w2.heap.size, 23, .slice (some ⟨g, 0, none⟩) cs.length c9), (w7.heap.size, 4, .bool (runW l s cs (vals pre)).1)] g cs.length c9 ((W.setCell ⟨g, xn * 10 + 6, none⟩ (.bool false)).drew) ((runW l s cs (vals pre)).2.modify xn (selF false)) fs) := Lib.hid (by
      have ht := hst.own.mod HLn.out.symm xn hxq 6 (by decide) (.bool false) (selF false) (fun _ => rfl) (fun c f => rfl)
      exact (hst.row (ne_cons (by omega) (ne_cons (by omega) (ne_nil _))) (files_modify _ _ (selF false) (fun _ => rfl)) ht).below (Below.refl _ _).drew)
    have HR0 : Hid (Rd w1.heap.size (w7.heap.size + 1) (w7.heap.size + 1 + 1) W ((W.setCell ⟨g, xn * 10 + 6, none⟩ (.bool false)).drew)) := Lib.hid (
      (Rd.set W hBg (by omega) (by omega) _).trans (Rd.below (Below.refl _ _).drew (by show w1.heap.size ≤ _; simp; omega)))
    have HT1 : Hid (∀ wq, Below W.drew.heap.size W.drew wq → Bst w2.heap.size w1.heap.size [(w2.heap.size, 23, .slice (some ⟨g, 0, none⟩) cs.length c9), (w7.heap.size, 4, .bool (runW l s cs (vals pre)).1)] g cs.length c9 (wq.setCell ⟨g, xn * 10 + 6, none⟩ (.bool false)) ((runW l s cs (vals pre)).2.modify xn (selF false)) fs) := Lib.hid (fun wq hbq => by
      have hq := hstd.below hbq
      have ht := hq.own.mod HLn.out.symm xn hxq 6 (by decide) (.bool false) (selF false) (fun _ => rfl) (fun c f => rfl)
      exact hq.row (ne_cons (by omega) (ne_cons (by omega) (ne_nil _))) (files_modify _ _ (selF false) (fun _ => rfl)) ht)
    have HR1 : Hid (∀ wq, Below W.drew.heap.size W.drew wq → Rd w1.heap.size (w7.heap.size + 1) (w7.heap.size + 1 + 1) W (wq.setCell ⟨g, xn * 10 + 6, none⟩ (.bool false))) := Lib.hid (fun wq hbq =>
      ((Rd.below (Below.refl _ W).drew (by omega)).trans (Rd.below hbq (by show w1.heap.size ≤ W.heap.size; omega))).trans (Rd.set _ hBg (by omega) (by omega) _))
    have HT2 : Hid (∀ wq, Below W.drew.heap.size W.drew wq → Bst w2.heap.size w1.heap.size [(w2.heap.size, 23, .slice (some ⟨g, 0, none⟩) cs.length c9), (w7.heap.size, 4, .bool true)] g cs.length c9 (((wq.setCell ⟨g, xn * 10 + 6, none⟩ (.bool true)).setCell ⟨w7.heap.size, 0, none⟩ (.bool true)).setCell ⟨g, xn * 10 + 7, none⟩ (.bool true)) (((runW l s cs (vals pre)).2.modify xn (selF true)).modify xn dselT) fs) := Lib.hid (fun wq hbq => by
      have hq := hstd.below hbq
      have ht := hq.own.mod HLn.out.symm xn hxq 6 (by decide) (.bool true) (selF true) (fun _ => rfl) (fun c f => rfl)
      have h1 := hq.row (ne_cons (by omega) (ne_cons (by omega) (ne_nil _))) (files_modify _ _ (selF true) (fun _ => rfl)) ht
      have h2 := h1.put1 (ne_cons (by omega) (ne_nil _)) (by omega) (by omega) (.bool true)
      have hl2 : ((runW l s cs (vals pre)).2.modify xn (selF true)).length = cs.length := by rw [List.length_modify, HLn.out]
      have ht2 := h2.own.mod hl2.symm xn (by rw [hl2]; exact hxc) 7 (by decide) (.bool true) dselT (fun _ => rfl) (fun c f => rfl)
      exact h2.row (ne_cons (by omega) (ne_cons (by omega) (ne_nil _))) (files_modify _ _ dselT (fun _ => rfl)) ht2)
    have HR2 : Hid (∀ wq, Below W.drew.heap.size W.drew wq → Rd w1.heap.size (w7.heap.size + 1) (w7.heap.size + 1 + 1) W (((wq.setCell ⟨g, xn * 10 + 6, none⟩ (.bool true)).setCell ⟨w7.heap.size, 0, none⟩ (.bool true)).setCell ⟨g, xn * 10 + 7, none⟩ (.bool true))) := Lib.hid (fun wq hbq =>
      ((((Rd.below (Below.refl _ W).drew (by omega)).trans (Rd.below hbq (by show w1.heap.size ≤ W.heap.size; omega))).trans (Rd.set _ hBg (by omega) (by omega) _)).trans (Rd.set _ (by omega) (by omega) (by omega) _)).trans (Rd.set _ hBg (by omega) (by omega) _))
    generalize selB (runW l s cs (vals pre)).2 (xn : Int) = sb at *
    generalize (ct (runW l s cs (vals pre)).2 (xn : Int)).dselected = db at *
    clear hst hstd hxq HLn
    unfold stepW at HSn
    generalize valueP l (xn : Int) = vv at *
    obtain ⟨st1, hst1⟩ : ∃ st1, (runW l s cs (vals pre)).1 = st1 := ⟨_, rfl⟩
    rw [hst1] at hcF HT0 HT1 HSn
    clear hst1
    cases st1
    case true =>
      have HS : Hid (runW l s cs (vals pre ++ [(xn : Int)]) = (true, (runW l s cs (vals pre)).2.modify xn (selF false))) := Lib.hid (by rw [HSn.out, if_neg (fun h => by cases h.1), Int.toNat_natCast])
      clear HSn HT1 HR1 HT2 HR2
      have hcO1 : W.cell? ⟨w2.heap.size, 0, none⟩ = some (.slice (some ⟨g, 0, none⟩) cs.length c9) := hcO
      have hcF1 : W.cell? ⟨w7.heap.size, 0, none⟩ = some (.bool true) := hcF
      have c61 : W.cell? ⟨g, xn * 10 + 6, none⟩ = some (.bool sb) := c6
      gi_wp2
      refine wpIn_round_any (by kernel_rfl) rfl (by kernel_rfl) ?_
      change wpAnyIn _ _ _ _ _ _ _ _ _ W.drew
      refine wpAnyIn_take (i := 1) (v := ?_) rfl rfl (by kernel_rfl) (by kernel_rfl) (by kernel_rfl) (fun _ _ _ h => h) ⟨Or.inl ⟨by rfl, ?_⟩, fun _ => rfl⟩ ?_
      rotate_left
      · intro w; go_simp; try with_reducible rfl
      refine wpAnyIn_ready (rs := [0, 2]) (by kernel_rfl) (by simp) ?_
      refine AllReadyIn.cons rfl (fun K hK => ?_) ?_
      · go_simp
        refine hK _ _ ?_
        clear hK K
        refine wpAnyIn_ready (rs := [2]) (by kernel_rfl) (by simp) ?_
        refine AllReadyIn.cons rfl (fun K hK => ?_) ?_
        · go_simp
          refine hK _ _ ?_
          clear hK K
          refine wpAnyIn_take (i := 3) (v := ?_) rfl rfl (by kernel_rfl) (by kernel_rfl) (by kernel_rfl) (fun _ _ _ h => h) ⟨Or.inl ⟨by rfl, ?_⟩, fun _ => rfl⟩ ?_
          rotate_left
          · intro w; go_simp; try with_reducible rfl
          refine wpAnyIn_take (i := 4) (v := ?_) rfl rfl (by kernel_rfl) (by kernel_rfl) (by kernel_rfl) (fun _ _ _ h => h) ⟨Or.inl ⟨by rfl, ?_⟩, fun _ => rfl⟩ ?_
          rotate_left
          · intro w; go_simp; try with_reducible rfl
          refine wpAnyIn_take (i := 5) (v := undef) rfl rfl (by kernel_rfl) (by kernel_rfl) (by kernel_rfl) (fun _ _ _ h => h) ⟨Or.inr ⟨by rfl, rfl⟩, fun _ => rfl⟩ ?_
          refine wpAnyIn_take (i := 6) (v := undef) rfl rfl (by kernel_rfl) (by kernel_rfl) (by kernel_rfl) (fun _ _ _ h => h) ⟨Or.inr ⟨by rfl, rfl⟩, fun _ => rfl⟩ ?_
          refine wpAnyIn_take (i := 7) (v := undef) rfl rfl (by kernel_rfl) (by kernel_rfl) (by kernel_rfl) (fun _ _ _ h => h) ⟨Or.inr ⟨by rfl, rfl⟩, fun _ => rfl⟩ ?_
          refine wpAnyIn_take (i := 9) (v := undef) rfl rfl (by kernel_rfl) (by kernel_rfl) (by kernel_rfl) (fun _ _ _ h => h) ⟨Or.inr ⟨by rfl, rfl⟩, fun _ => rfl⟩ ?_
          refine wpAnyIn_ready (rs := [8]) (by kernel_rfl) (by simp) ?_
          refine AllReadyIn.cons rfl (fun K hK => ?_) ?_
          · go_simp
            first | refine ⟨trivial, hK _ _ ?_⟩ | refine hK _ _ ?_
            clear hK K
            refine wpAnyIn_take (i := 10) (v := undef) rfl rfl (by kernel_rfl) (by kernel_rfl) (by kernel_rfl) (fun _ _ _ h => h) ⟨Or.inr ⟨by rfl, rfl⟩, fun _ => rfl⟩ ?_
            refine wpAnyIn_take (i := 11) (v := ?_) rfl rfl (by kernel_rfl) (by kernel_rfl) (by kernel_rfl) (fun _ _ _ h => h) ⟨Or.inl ⟨by rfl, ?_⟩, fun _ => rfl⟩ ?_
            rotate_left
            · intro w; go_simp; try with_reducible rfl
            refine wpAnyIn_take (i := 12) (v := ?_) rfl rfl (by kernel_rfl) (by kernel_rfl) (by kernel_rfl) (fun _ _ _ h => h) ⟨Or.inl ⟨by rfl, ?_⟩, fun _ => rfl⟩ ?_
            rotate_left
            · intro w; go_simp; try with_reducible rfl
            refine wpAnyIn_take (i := 13) (v := ?_) rfl rfl (by kernel_rfl) (by kernel_rfl) (by kernel_rfl) (fun _ _ _ h => h) ⟨Or.inl ⟨by rfl, ?_⟩, fun _ => rfl⟩ ?_
            rotate_left
            · intro w; go_simp; try with_reducible rfl
            refine wpAnyIn_ready (rs := [14]) (by kernel_rfl) (by simp) ?_
            refine AllReadyIn.cons rfl (fun K hK => ?_) ?_
            · go_simp
              refine hK _ _ ?_
              clear hK K
              refine wpAnyIn_done (by kernel_rfl) ?_ _
              gi_wp2
              exact ⟨HR0.out.ko.from _, HR0.out.kp, by rw [HV.out, HS.out]; exact HT0.out, hB.trans HR0.out.kp.low⟩
            exact AllReadyIn.nil
          exact AllReadyIn.nil
        exact AllReadyIn.nil
      refine AllReadyIn.cons rfl (fun K hK => ?_) ?_
      · go_simp
        refine hK _ _ ?_
        clear hK K
        refine wpAnyIn_take (i := 3) (v := ?_) rfl rfl (by kernel_rfl) (by kernel_rfl) (by kernel_rfl) (fun _ _ _ h => h) ⟨Or.inl ⟨by rfl, ?_⟩, fun _ => rfl⟩ ?_
        rotate_left
        · intro w; go_simp; try with_reducible rfl
        refine wpAnyIn_take (i := 4) (v := ?_) rfl rfl (by kernel_rfl) (by kernel_rfl) (by kernel_rfl) (fun _ _ _ h => h) ⟨Or.inl ⟨by rfl, ?_⟩, fun _ => rfl⟩ ?_
        rotate_left
        · intro w; go_simp; try with_reducible rfl
        refine wpAnyIn_take (i := 5) (v := undef) rfl rfl (by kernel_rfl) (by kernel_rfl) (by kernel_rfl) (fun _ _ _ h => h) ⟨Or.inr ⟨by rfl, rfl⟩, fun _ => rfl⟩ ?_
        refine wpAnyIn_take (i := 6) (v := undef) rfl rfl (by kernel_rfl) (by kernel_rfl) (by kernel_rfl) (fun _ _ _ h => h) ⟨Or.inr ⟨by rfl, rfl⟩, fun _ => rfl⟩ ?_
        refine wpAnyIn_take (i := 7) (v := undef) rfl rfl (by kernel_rfl) (by kernel_rfl) (by kernel_rfl) (fun _ _ _ h => h) ⟨Or.inr ⟨by rfl, rfl⟩, fun _ => rfl⟩ ?_
        refine wpAnyIn_take (i := 9) (v := undef) rfl rfl (by kernel_rfl) (by kernel_rfl) (by kernel_rfl) (fun _ _ _ h => h) ⟨Or.inr ⟨by rfl, rfl⟩, fun _ => rfl⟩ ?_
        refine wpAnyIn_ready (rs := [0, 8]) (by kernel_rfl) (by simp) ?_
        refine AllReadyIn.cons rfl (fun K hK => ?_) ?_
        · go_simp
          refine hK _ _ ?_
          clear hK K
          refine wpAnyIn_ready (rs := [8]) (by kernel_rfl) (by simp) ?_
          refine AllReadyIn.cons rfl (fun K hK => ?_) ?_
          · go_simp
            first | refine ⟨trivial, hK _ _ ?_⟩ | refine hK _ _ ?_
            clear hK K
            refine wpAnyIn_take (i := 10) (v := undef) rfl rfl (by kernel_rfl) (by kernel_rfl) (by kernel_rfl) (fun _ _ _ h => h) ⟨Or.inr ⟨by rfl, rfl⟩, fun _ => rfl⟩ ?_
            refine wpAnyIn_take (i := 11) (v := ?_) rfl rfl (by kernel_rfl) (by kernel_rfl) (by kernel_rfl) (fun _ _ _ h => h) ⟨Or.inl ⟨by rfl, ?_⟩, fun _ => rfl⟩ ?_
            rotate_left
            · intro w; go_simp; try with_reducible rfl
            refine wpAnyIn_take (i := 12) (v := ?_) rfl rfl (by kernel_rfl) (by kernel_rfl) (by kernel_rfl) (fun _ _ _ h => h) ⟨Or.inl ⟨by rfl, ?_⟩, fun _ => rfl⟩ ?_
            rotate_left
            · intro w; go_simp; try with_reducible rfl
            refine wpAnyIn_take (i := 13) (v := ?_) rfl rfl (by kernel_rfl) (by kernel_rfl) (by kernel_rfl) (fun _ _ _ h => h) ⟨Or.inl ⟨by rfl, ?_⟩, fun _ => rfl⟩ ?_
            rotate_left
            · intro w; go_simp; try with_reducible rfl
            refine wpAnyIn_ready (rs := [14]) (by kernel_rfl) (by simp) ?_
            refine AllReadyIn.cons rfl (fun K hK => ?_) ?_
            · go_simp
              refine hK _ _ ?_
              clear hK K
              refine wpAnyIn_done (by kernel_rfl) ?_ _
              gi_wp2
              exact ⟨HR0.out.ko.from _, HR0.out.kp, by rw [HV.out, HS.out]; exact HT0.out, hB.trans HR0.out.kp.low⟩
            exact AllReadyIn.nil
          exact AllReadyIn.nil
        refine AllReadyIn.cons rfl (fun K hK => ?_) ?_
        · go_simp
          first | refine ⟨trivial, hK _ _ ?_⟩ | refine hK _ _ ?_
          clear hK K
          refine wpAnyIn_take (i := 10) (v := undef) rfl rfl (by kernel_rfl) (by kernel_rfl) (by kernel_rfl) (fun _ _ _ h => h) ⟨Or.inr ⟨by rfl, rfl⟩, fun _ => rfl⟩ ?_
          refine wpAnyIn_take (i := 11) (v := ?_) rfl rfl (by kernel_rfl) (by kernel_rfl) (by kernel_rfl) (fun _ _ _ h => h) ⟨Or.inl ⟨by rfl, ?_⟩, fun _ => rfl⟩ ?_
          rotate_left
          · intro w; go_simp; try with_reducible rfl
          refine wpAnyIn_ready (rs := [0]) (by kernel_rfl) (by simp) ?_
          refine AllReadyIn.cons rfl (fun K hK => ?_) ?_
          · go_simp
            refine hK _ _ ?_
            clear hK K
            refine wpAnyIn_take (i := 12) (v := ?_) rfl rfl (by kernel_rfl) (by kernel_rfl) (by kernel_rfl) (fun _ _ _ h => h) ⟨Or.inl ⟨by rfl, ?_⟩, fun _ => rfl⟩ ?_
            rotate_left
            · intro w; go_simp; try with_reducible rfl
            refine wpAnyIn_take (i := 13) (v := ?_) rfl rfl (by kernel_rfl) (by kernel_rfl) (by kernel_rfl) (fun _ _ _ h => h) ⟨Or.inl ⟨by rfl, ?_⟩, fun _ => rfl⟩ ?_
            rotate_left
            · intro w; go_simp; try with_reducible rfl
            refine wpAnyIn_ready (rs := [14]) (by kernel_rfl) (by simp) ?_
            refine AllReadyIn.cons rfl (fun K hK => ?_) ?_
            · go_simp
              refine hK _ _ ?_
              clear hK K
              refine wpAnyIn_done (by kernel_rfl) ?_ _
              gi_wp2
              exact ⟨HR0.out.ko.from _, HR0.out.kp, by rw [HV.out, HS.out]; exact HT0.out, hB.trans HR0.out.kp.low⟩
            exact AllReadyIn.nil
          exact AllReadyIn.nil
        exact AllReadyIn.nil
      exact AllReadyIn.nil
    by_cases hv : vv = s
    case pos =>
      have HS : Hid (runW l s cs (vals pre ++ [(xn : Int)]) = (true, ((runW l s cs (vals pre)).2.modify xn (selF true)).modify xn dselT)) := Lib.hid (by rw [HSn.out, if_pos ⟨rfl, hv⟩, Int.toNat_natCast])
      rw [hv] at hval
      clear HSn HT0 HR0 HT1 HR1 hv
      gi_wp2
      refine wpIn_round_any (by kernel_rfl) rfl (by kernel_rfl) ?_
      change wpAnyIn _ _ _ _ _ _ _ _ _ W.drew
      refine wpAnyIn_take (i := 1) (v := ?_) rfl rfl (by kernel_rfl) (by kernel_rfl) (by kernel_rfl) (fun _ _ _ h => h) ⟨Or.inl ⟨by rfl, ?_⟩, fun _ => rfl⟩ ?_
      rotate_left
      · intro w; go_simp; try with_reducible rfl
      refine wpAnyIn_ready (rs := [0, 2]) (by kernel_rfl) (by simp) ?_
      refine AllReadyIn.cons rfl (fun K hK => ?_) ?_
      · go_simp
        refine hK _ _ ?_
        clear hK K
        refine wpAnyIn_ready (rs := [2]) (by kernel_rfl) (by simp) ?_
        refine AllReadyIn.cons rfl (fun K hK => ?_) ?_
        · go_simp
          refine hK _ _ ?_
          clear hK K
          refine wpAnyIn_take (i := 3) (v := ?_) rfl rfl (by kernel_rfl) (by kernel_rfl) (by kernel_rfl) (fun _ _ _ h => h) ⟨Or.inl ⟨by rfl, ?_⟩, fun _ => rfl⟩ ?_
          rotate_left
          · intro w; go_simp; try with_reducible rfl
          refine wpAnyIn_take (i := 4) (v := ?_) rfl rfl (by kernel_rfl) (by kernel_rfl) (by kernel_rfl) (fun _ _ _ h => h) ⟨Or.inl ⟨by rfl, ?_⟩, fun _ => rfl⟩ ?_
          rotate_left
          · intro w; go_simp; try with_reducible rfl
          refine wpAnyIn_take (i := 5) (v := ?_) rfl rfl (by kernel_rfl) (by kernel_rfl) (by kernel_rfl) (fun _ _ _ h => h) ⟨Or.inl ⟨by rfl, ?_⟩, fun _ => rfl⟩ ?_
          rotate_left
          · intro w; go_simp; try with_reducible rfl
          refine wpAnyIn_take (i := 7) (v := ?_) rfl rfl (by kernel_rfl) (by kernel_rfl) (by kernel_rfl) (fun _ _ _ h => h) ⟨Or.inl ⟨by rfl, ?_⟩, fun _ => rfl⟩ ?_
          rotate_left
          · intro w; go_simp; try with_reducible rfl
          refine wpAnyIn_ready (rs := [6, 9]) (by kernel_rfl) (by simp) ?_
          refine AllReadyIn.cons rfl (fun K hK => ?_) ?_
          · go_simp
            refine hK _ _ ?_
            clear hK K
            refine wpAnyIn_ready (rs := [8, 9]) (by kernel_rfl) (by simp) ?_
            refine AllReadyIn.cons rfl (fun K hK => ?_) ?_
            · go_simp
              refine ⟨trivial, hval.mono ?_⟩
              rintro e wq ⟨rfl, hbq⟩
              have hcO := cell_below hbq hcO
              have hcF := cell_below hbq hcF
              have fs0 := cell_below hbq fs0
              have c6 := cell_below hbq c6
              have c7 := cell_below hbq c7
              have z6 := ZQ.out wq hbq (xn * 10 + 6)
              have z7 := ZQ.out wq hbq (xn * 10 + 7)
              have zF := ZF.out wq hbq
              gi_wp2
              refine wpAnyIn_ready (rs := [9]) (by kernel_rfl) (by simp) ?_
              refine AllReadyIn.cons rfl (fun K hK => ?_) ?_
              · go_simp
                refine hK _ _ ?_
                clear hK K
                refine wpAnyIn_take (i := 10) (v := ?_) rfl rfl (by kernel_rfl) (by kernel_rfl) (by kernel_rfl) (fun _ _ _ h => h) ⟨Or.inl ⟨by rfl, ?_⟩, fun _ => rfl⟩ ?_
                rotate_left
                · intro w; go_simp; try with_reducible rfl
                refine wpAnyIn_take (i := 11) (v := ?_) rfl rfl (by kernel_rfl) (by kernel_rfl) (by kernel_rfl) (fun _ _ _ h => h) ⟨Or.inl ⟨by rfl, ?_⟩, fun _ => rfl⟩ ?_
                rotate_left
                · intro w; go_simp; try with_reducible rfl
                refine wpAnyIn_take (i := 12) (v := ?_) rfl rfl (by kernel_rfl) (by kernel_rfl) (by kernel_rfl) (fun _ _ _ h => h) ⟨Or.inl ⟨by rfl, ?_⟩, fun _ => rfl⟩ ?_
                rotate_left
                · intro w; go_simp; try with_reducible rfl
                refine wpAnyIn_take (i := 13) (v := ?_) rfl rfl (by kernel_rfl) (by kernel_rfl) (by kernel_rfl) (fun _ _ _ h => h) ⟨Or.inl ⟨by rfl, ?_⟩, fun _ => rfl⟩ ?_
                rotate_left
                · intro w; go_simp; try with_reducible rfl
                refine wpAnyIn_ready (rs := [14]) (by kernel_rfl) (by simp) ?_
                refine AllReadyIn.cons rfl (fun K hK => ?_) ?_
                · go_simp
                  refine hK _ _ ?_
                  clear hK K
                  refine wpAnyIn_done (by kernel_rfl) ?_ _
                  gi_wp2
                  exact ⟨(HR2.out wq hbq).ko.from _, (HR2.out wq hbq).kp, by rw [HV.out, HS.out]; exact HT2.out wq hbq, hB.trans (HR2.out wq hbq).kp.low⟩
                exact AllReadyIn.nil
              exact AllReadyIn.nil
            refine AllReadyIn.cons rfl (fun K hK => ?_) ?_
            · go_simp
              refine hK _ _ ?_
              clear hK K
              refine wpAnyIn_ready (rs := [8]) (by kernel_rfl) (by simp) ?_
              refine AllReadyIn.cons rfl (fun K hK => ?_) ?_
              · go_simp
                refine ⟨trivial, hval.mono ?_⟩
                rintro e wq ⟨rfl, hbq⟩
                have hcO := cell_below hbq hcO
                have hcF := cell_below hbq hcF
                have fs0 := cell_below hbq fs0
                have c6 := cell_below hbq c6
                have c7 := cell_below hbq c7
                have z6 := ZQ.out wq hbq (xn * 10 + 6)
                have z7 := ZQ.out wq hbq (xn * 10 + 7)
                have zF := ZF.out wq hbq
                gi_wp2
                refine wpAnyIn_take (i := 10) (v := ?_) rfl rfl (by kernel_rfl) (by kernel_rfl) (by kernel_rfl) (fun _ _ _ h => h) ⟨Or.inl ⟨by rfl, ?_⟩, fun _ => rfl⟩ ?_
                rotate_left
                · intro w; go_simp; try with_reducible rfl
                refine wpAnyIn_take (i := 11) (v := ?_) rfl rfl (by kernel_rfl) (by kernel_rfl) (by kernel_rfl) (fun _ _ _ h => h) ⟨Or.inl ⟨by rfl, ?_⟩, fun _ => rfl⟩ ?_
                rotate_left
                · intro w; go_simp; try with_reducible rfl
                refine wpAnyIn_take (i := 12) (v := ?_) rfl rfl (by kernel_rfl) (by kernel_rfl) (by kernel_rfl) (fun _ _ _ h => h) ⟨Or.inl ⟨by rfl, ?_⟩, fun _ => rfl⟩ ?_
                rotate_left
                · intro w; go_simp; try with_reducible rfl
                refine wpAnyIn_take (i := 13) (v := ?_) rfl rfl (by kernel_rfl) (by kernel_rfl) (by kernel_rfl) (fun _ _ _ h => h) ⟨Or.inl ⟨by rfl, ?_⟩, fun _ => rfl⟩ ?_
                rotate_left
                · intro w; go_simp; try with_reducible rfl
                refine wpAnyIn_ready (rs := [14]) (by kernel_rfl) (by simp) ?_
                refine AllReadyIn.cons rfl (fun K hK => ?_) ?_
                · go_simp
                  refine hK _ _ ?_
                  clear hK K
                  refine wpAnyIn_done (by kernel_rfl) ?_ _
                  gi_wp2
                  exact ⟨(HR2.out wq hbq).ko.from _, (HR2.out wq hbq).kp, by rw [HV.out, HS.out]; exact HT2.out wq hbq, hB.trans (HR2.out wq hbq).kp.low⟩
                exact AllReadyIn.nil
              exact AllReadyIn.nil
            exact AllReadyIn.nil
          refine AllReadyIn.cons rfl (fun K hK => ?_) ?_
          · go_simp
            refine hK _ _ ?_
            clear hK K
            refine wpAnyIn_ready (rs := [6]) (by kernel_rfl) (by simp) ?_
            refine AllReadyIn.cons rfl (fun K hK => ?_) ?_
            · go_simp
              refine hK _ _ ?_
              clear hK K
              refine wpAnyIn_ready (rs := [8]) (by kernel_rfl) (by simp) ?_
              refine AllReadyIn.cons rfl (fun K hK => ?_) ?_
              · go_simp
                refine ⟨trivial, hval.mono ?_⟩
                rintro e wq ⟨rfl, hbq⟩
                have hcO := cell_below hbq hcO
                have hcF := cell_below hbq hcF
                have fs0 := cell_below hbq fs0
                have c6 := cell_below hbq c6
                have c7 := cell_below hbq c7
                have z6 := ZQ.out wq hbq (xn * 10 + 6)
                have z7 := ZQ.out wq hbq (xn * 10 + 7)
                have zF := ZF.out wq hbq
                gi_wp2
                refine wpAnyIn_take (i := 10) (v := ?_) rfl rfl (by kernel_rfl) (by kernel_rfl) (by kernel_rfl) (fun _ _ _ h => h) ⟨Or.inl ⟨by rfl, ?_⟩, fun _ => rfl⟩ ?_
                rotate_left
                · intro w; go_simp; try with_reducible rfl
                refine wpAnyIn_take (i := 11) (v := ?_) rfl rfl (by kernel_rfl) (by kernel_rfl) (by kernel_rfl) (fun _ _ _ h => h) ⟨Or.inl ⟨by rfl, ?_⟩, fun _ => rfl⟩ ?_
                rotate_left
                · intro w; go_simp; try with_reducible rfl
                refine wpAnyIn_take (i := 12) (v := ?_) rfl rfl (by kernel_rfl) (by kernel_rfl) (by kernel_rfl) (fun _ _ _ h => h) ⟨Or.inl ⟨by rfl, ?_⟩, fun _ => rfl⟩ ?_
                rotate_left
                · intro w; go_simp; try with_reducible rfl
                refine wpAnyIn_take (i := 13) (v := ?_) rfl rfl (by kernel_rfl) (by kernel_rfl) (by kernel_rfl) (fun _ _ _ h => h) ⟨Or.inl ⟨by rfl, ?_⟩, fun _ => rfl⟩ ?_
                rotate_left
                · intro w; go_simp; try with_reducible rfl
                refine wpAnyIn_ready (rs := [14]) (by kernel_rfl) (by simp) ?_
                refine AllReadyIn.cons rfl (fun K hK => ?_) ?_
                · go_simp
                  refine hK _ _ ?_
                  clear hK K
                  refine wpAnyIn_done (by kernel_rfl) ?_ _
                  gi_wp2
                  exact ⟨(HR2.out wq hbq).ko.from _, (HR2.out wq hbq).kp, by rw [HV.out, HS.out]; exact HT2.out wq hbq, hB.trans (HR2.out wq hbq).kp.low⟩
                exact AllReadyIn.nil
              exact AllReadyIn.nil
            exact AllReadyIn.nil
          exact AllReadyIn.nil
        exact AllReadyIn.nil
      refine AllReadyIn.cons rfl (fun K hK => ?_) ?_
      · go_simp
        refine hK _ _ ?_
        clear hK K
        refine wpAnyIn_take (i := 3) (v := ?_) rfl rfl (by kernel_rfl) (by kernel_rfl) (by kernel_rfl) (fun _ _ _ h => h) ⟨Or.inl ⟨by rfl, ?_⟩, fun _ => rfl⟩ ?_
        rotate_left
        · intro w; go_simp; try with_reducible rfl
        refine wpAnyIn_take (i := 4) (v := ?_) rfl rfl (by kernel_rfl) (by kernel_rfl) (by kernel_rfl) (fun _ _ _ h => h) ⟨Or.inl ⟨by rfl, ?_⟩, fun _ => rfl⟩ ?_
        rotate_left
        · intro w; go_simp; try with_reducible rfl
        refine wpAnyIn_take (i := 5) (v := ?_) rfl rfl (by kernel_rfl) (by kernel_rfl) (by kernel_rfl) (fun _ _ _ h => h) ⟨Or.inl ⟨by rfl, ?_⟩, fun _ => rfl⟩ ?_
        rotate_left
        · intro w; go_simp; try with_reducible rfl
        refine wpAnyIn_take (i := 7) (v := ?_) rfl rfl (by kernel_rfl) (by kernel_rfl) (by kernel_rfl) (fun _ _ _ h => h) ⟨Or.inl ⟨by rfl, ?_⟩, fun _ => rfl⟩ ?_
        rotate_left
        · intro w; go_simp; try with_reducible rfl
        refine wpAnyIn_ready (rs := [0, 6, 9]) (by kernel_rfl) (by simp) ?_
        refine AllReadyIn.cons rfl (fun K hK => ?_) ?_
        · go_simp
          refine hK _ _ ?_
          clear hK K
          refine wpAnyIn_ready (rs := [6, 9]) (by kernel_rfl) (by simp) ?_
          refine AllReadyIn.cons rfl (fun K hK => ?_) ?_
          · go_simp
            refine hK _ _ ?_
            clear hK K
            refine wpAnyIn_ready (rs := [8, 9]) (by kernel_rfl) (by simp) ?_
            refine AllReadyIn.cons rfl (fun K hK => ?_) ?_
            · go_simp
              refine ⟨trivial, hval.mono ?_⟩
              rintro e wq ⟨rfl, hbq⟩
              have hcO := cell_below hbq hcO
              have hcF := cell_below hbq hcF
              have fs0 := cell_below hbq fs0
              have c6 := cell_below hbq c6
              have c7 := cell_below hbq c7
              have z6 := ZQ.out wq hbq (xn * 10 + 6)
              have z7 := ZQ.out wq hbq (xn * 10 + 7)
              have zF := ZF.out wq hbq
              gi_wp2
              refine wpAnyIn_ready (rs := [9]) (by kernel_rfl) (by simp) ?_
              refine AllReadyIn.cons rfl (fun K hK => ?_) ?_
              · go_simp
                refine hK _ _ ?_
                clear hK K
                refine wpAnyIn_take (i := 10) (v := ?_) rfl rfl (by kernel_rfl) (by kernel_rfl) (by kernel_rfl) (fun _ _ _ h => h) ⟨Or.inl ⟨by rfl, ?_⟩, fun _ => rfl⟩ ?_
                rotate_left
                · intro w; go_simp; try with_reducible rfl
                refine wpAnyIn_take (i := 11) (v := ?_) rfl rfl (by kernel_rfl) (by kernel_rfl) (by kernel_rfl) (fun _ _ _ h => h) ⟨Or.inl ⟨by rfl, ?_⟩, fun _ => rfl⟩ ?_
                rotate_left
                · intro w; go_simp; try with_reducible rfl
                refine wpAnyIn_take (i := 12) (v := ?_) rfl rfl (by kernel_rfl) (by kernel_rfl) (by kernel_rfl) (fun _ _ _ h => h) ⟨Or.inl ⟨by rfl, ?_⟩, fun _ => rfl⟩ ?_
                rotate_left
                · intro w; go_simp; try with_reducible rfl
                refine wpAnyIn_take (i := 13) (v := ?_) rfl rfl (by kernel_rfl) (by kernel_rfl) (by kernel_rfl) (fun _ _ _ h => h) ⟨Or.inl ⟨by rfl, ?_⟩, fun _ => rfl⟩ ?_
                rotate_left
                · intro w; go_simp; try with_reducible rfl
                refine wpAnyIn_ready (rs := [14]) (by kernel_rfl) (by simp) ?_
                refine AllReadyIn.cons rfl (fun K hK => ?_) ?_
                · go_simp
                  refine hK _ _ ?_
                  clear hK K
                  refine wpAnyIn_done (by kernel_rfl) ?_ _
                  gi_wp2
                  exact ⟨(HR2.out wq hbq).ko.from _, (HR2.out wq hbq).kp, by rw [HV.out, HS.out]; exact HT2.out wq hbq, hB.trans (HR2.out wq hbq).kp.low⟩
                exact AllReadyIn.nil
              exact AllReadyIn.nil
            refine AllReadyIn.cons rfl (fun K hK => ?_) ?_
            · go_simp
              refine hK _ _ ?_
              clear hK K
              refine wpAnyIn_ready (rs := [8]) (by kernel_rfl) (by simp) ?_
              refine AllReadyIn.cons rfl (fun K hK => ?_) ?_
              · go_simp
                refine ⟨trivial, hval.mono ?_⟩
                rintro e wq ⟨rfl, hbq⟩
                have hcO := cell_below hbq hcO
                have hcF := cell_below hbq hcF
                have fs0 := cell_below hbq fs0
                have c6 := cell_below hbq c6
                have c7 := cell_below hbq c7
                have z6 := ZQ.out wq hbq (xn * 10 + 6)
                have z7 := ZQ.out wq hbq (xn * 10 + 7)
                have zF := ZF.out wq hbq
                gi_wp2
                refine wpAnyIn_take (i := 10) (v := ?_) rfl rfl (by kernel_rfl) (by kernel_rfl) (by kernel_rfl) (fun _ _ _ h => h) ⟨Or.inl ⟨by rfl, ?_⟩, fun _ => rfl⟩ ?_
                rotate_left
                · intro w; go_simp; try with_reducible rfl
                refine wpAnyIn_take (i := 11) (v := ?_) rfl rfl (by kernel_rfl) (by kernel_rfl) (by kernel_rfl) (fun _ _ _ h => h) ⟨Or.inl ⟨by rfl, ?_⟩, fun _ => rfl⟩ ?_
                rotate_left
                · intro w; go_simp; try with_reducible rfl
                refine wpAnyIn_take (i := 12) (v := ?_) rfl rfl (by kernel_rfl) (by kernel_rfl) (by kernel_rfl) (fun _ _ _ h => h) ⟨Or.inl ⟨by rfl, ?_⟩, fun _ => rfl⟩ ?_
                rotate_left
                · intro w; go_simp; try with_reducible rfl
                refine wpAnyIn_take (i := 13) (v := ?_) rfl rfl (by kernel_rfl) (by kernel_rfl) (by kernel_rfl) (fun _ _ _ h => h) ⟨Or.inl ⟨by rfl, ?_⟩, fun _ => rfl⟩ ?_
                rotate_left
                · intro w; go_simp; try with_reducible rfl
                refine wpAnyIn_ready (rs := [14]) (by kernel_rfl) (by simp) ?_
                refine AllReadyIn.cons rfl (fun K hK => ?_) ?_
                · go_simp
                  refine hK _ _ ?_
                  clear hK K
                  refine wpAnyIn_done (by kernel_rfl) ?_ _
                  gi_wp2
                  exact ⟨(HR2.out wq hbq).ko.from _, (HR2.out wq hbq).kp, by rw [HV.out, HS.out]; exact HT2.out wq hbq, hB.trans (HR2.out wq hbq).kp.low⟩
                exact AllReadyIn.nil
              exact AllReadyIn.nil
            exact AllReadyIn.nil
          refine AllReadyIn.cons rfl (fun K hK => ?_) ?_
          · go_simp
            refine hK _ _ ?_
            clear hK K
            refine wpAnyIn_ready (rs := [6]) (by kernel_rfl) (by simp) ?_
            refine AllReadyIn.cons rfl (fun K hK => ?_) ?_
            · go_simp
              refine hK _ _ ?_
              clear hK K
              refine wpAnyIn_ready (rs := [8]) (by kernel_rfl) (by simp) ?_
              refine AllReadyIn.cons rfl (fun K hK => ?_) ?_
              · go_simp
                refine ⟨trivial, hval.mono ?_⟩
                rintro e wq ⟨rfl, hbq⟩
                have hcO := cell_below hbq hcO
                have hcF := cell_below hbq hcF
                have fs0 := cell_below hbq fs0
                have c6 := cell_below hbq c6
                have c7 := cell_below hbq c7
                have z6 := ZQ.out wq hbq (xn * 10 + 6)
                have z7 := ZQ.out wq hbq (xn * 10 + 7)
                have zF := ZF.out wq hbq
                gi_wp2
                refine wpAnyIn_take (i := 10) (v := ?_) rfl rfl (by kernel_rfl) (by kernel_rfl) (by kernel_rfl) (fun _ _ _ h => h) ⟨Or.inl ⟨by rfl, ?_⟩, fun _ => rfl⟩ ?_
                rotate_left
                · intro w; go_simp; try with_reducible rfl
                refine wpAnyIn_take (i := 11) (v := ?_) rfl rfl (by kernel_rfl) (by kernel_rfl) (by kernel_rfl) (fun _ _ _ h => h) ⟨Or.inl ⟨by rfl, ?_⟩, fun _ => rfl⟩ ?_
                rotate_left
                · intro w; go_simp; try with_reducible rfl
                refine wpAnyIn_take (i := 12) (v := ?_) rfl rfl (by kernel_rfl) (by kernel_rfl) (by kernel_rfl) (fun _ _ _ h => h) ⟨Or.inl ⟨by rfl, ?_⟩, fun _ => rfl⟩ ?_
                rotate_left
                · intro w; go_simp; try with_reducible rfl
                refine wpAnyIn_take (i := 13) (v := ?_) rfl rfl (by kernel_rfl) (by kernel_rfl) (by kernel_rfl) (fun _ _ _ h => h) ⟨Or.inl ⟨by rfl, ?_⟩, fun _ => rfl⟩ ?_
                rotate_left
                · intro w; go_simp; try with_reducible rfl
                refine wpAnyIn_ready (rs := [14]) (by kernel_rfl) (by simp) ?_
                refine AllReadyIn.cons rfl (fun K hK => ?_) ?_
                · go_simp
                  refine hK _ _ ?_
                  clear hK K
                  refine wpAnyIn_done (by kernel_rfl) ?_ _
                  gi_wp2
                  exact ⟨(HR2.out wq hbq).ko.from _, (HR2.out wq hbq).kp, by rw [HV.out, HS.out]; exact HT2.out wq hbq, hB.trans (HR2.out wq hbq).kp.low⟩
                exact AllReadyIn.nil
              exact AllReadyIn.nil
            exact AllReadyIn.nil
          exact AllReadyIn.nil
        refine AllReadyIn.cons rfl (fun K hK => ?_) ?_
        · go_simp
          refine hK _ _ ?_
          clear hK K
          refine wpAnyIn_ready (rs := [0, 8, 9]) (by kernel_rfl) (by simp) ?_
          refine AllReadyIn.cons rfl (fun K hK => ?_) ?_
          · go_simp
            refine hK _ _ ?_
            clear hK K
            refine wpAnyIn_ready (rs := [8, 9]) (by kernel_rfl) (by simp) ?_
            refine AllReadyIn.cons rfl (fun K hK => ?_) ?_
            · go_simp
              refine ⟨trivial, hval.mono ?_⟩
              rintro e wq ⟨rfl, hbq⟩
              have hcO := cell_below hbq hcO
              have hcF := cell_below hbq hcF
              have fs0 := cell_below hbq fs0
              have c6 := cell_below hbq c6
              have c7 := cell_below hbq c7
              have z6 := ZQ.out wq hbq (xn * 10 + 6)
              have z7 := ZQ.out wq hbq (xn * 10 + 7)
              have zF := ZF.out wq hbq
              gi_wp2
              refine wpAnyIn_ready (rs := [9]) (by kernel_rfl) (by simp) ?_
              refine AllReadyIn.cons rfl (fun K hK => ?_) ?_
              · go_simp
                refine hK _ _ ?_
                clear hK K
                refine wpAnyIn_take (i := 10) (v := ?_) rfl rfl (by kernel_rfl) (by kernel_rfl) (by kernel_rfl) (fun _ _ _ h => h) ⟨Or.inl ⟨by rfl, ?_⟩, fun _ => rfl⟩ ?_
                rotate_left
                · intro w; go_simp; try with_reducible rfl
                refine wpAnyIn_take (i := 11) (v := ?_) rfl rfl (by kernel_rfl) (by kernel_rfl) (by kernel_rfl) (fun _ _ _ h => h) ⟨Or.inl ⟨by rfl, ?_⟩, fun _ => rfl⟩ ?_
                rotate_left
                · intro w; go_simp; try with_reducible rfl
                refine wpAnyIn_take (i := 12) (v := ?_) rfl rfl (by kernel_rfl) (by kernel_rfl) (by kernel_rfl) (fun _ _ _ h => h) ⟨Or.inl ⟨by rfl, ?_⟩, fun _ => rfl⟩ ?_
                rotate_left
                · intro w; go_simp; try with_reducible rfl
                refine wpAnyIn_take (i := 13) (v := ?_) rfl rfl (by kernel_rfl) (by kernel_rfl) (by kernel_rfl) (fun _ _ _ h => h) ⟨Or.inl ⟨by rfl, ?_⟩, fun _ => rfl⟩ ?_
                rotate_left
                · intro w; go_simp; try with_reducible rfl
                refine wpAnyIn_ready (rs := [14]) (by kernel_rfl) (by simp) ?_
                refine AllReadyIn.cons rfl (fun K hK => ?_) ?_
                · go_simp
                  refine hK _ _ ?_
                  clear hK K
                  refine wpAnyIn_done (by kernel_rfl) ?_ _
                  gi_wp2
                  exact ⟨(HR2.out wq hbq).ko.from _, (HR2.out wq hbq).kp, by rw [HV.out, HS.out]; exact HT2.out wq hbq, hB.trans (HR2.out wq hbq).kp.low⟩
                exact AllReadyIn.nil
              exact AllReadyIn.nil
            refine AllReadyIn.cons rfl (fun K hK => ?_) ?_
            · go_simp
              refine hK _ _ ?_
              clear hK K
              refine wpAnyIn_ready (rs := [8]) (by kernel_rfl) (by simp) ?_
              refine AllReadyIn.cons rfl (fun K hK => ?_) ?_
              · go_simp
                refine ⟨trivial, hval.mono ?_⟩
                rintro e wq ⟨rfl, hbq⟩
                have hcO := cell_below hbq hcO
                have hcF := cell_below hbq hcF
                have fs0 := cell_below hbq fs0
                have c6 := cell_below hbq c6
                have c7 := cell_below hbq c7
                have z6 := ZQ.out wq hbq (xn * 10 + 6)
                have z7 := ZQ.out wq hbq (xn * 10 + 7)
                have zF := ZF.out wq hbq
                gi_wp2
                refine wpAnyIn_take (i := 10) (v := ?_) rfl rfl (by kernel_rfl) (by kernel_rfl) (by kernel_rfl) (fun _ _ _ h => h) ⟨Or.inl ⟨by rfl, ?_⟩, fun _ => rfl⟩ ?_
                rotate_left
                · intro w; go_simp; try with_reducible rfl
                refine wpAnyIn_take (i := 11) (v := ?_) rfl rfl (by kernel_rfl) (by kernel_rfl) (by kernel_rfl) (fun _ _ _ h => h) ⟨Or.inl ⟨by rfl, ?_⟩, fun _ => rfl⟩ ?_
                rotate_left
                · intro w; go_simp; try with_reducible rfl
                refine wpAnyIn_take (i := 12) (v := ?_) rfl rfl (by kernel_rfl) (by kernel_rfl) (by kernel_rfl) (fun _ _ _ h => h) ⟨Or.inl ⟨by rfl, ?_⟩, fun _ => rfl⟩ ?_
                rotate_left
                · intro w; go_simp; try with_reducible rfl
                refine wpAnyIn_take (i := 13) (v := ?_) rfl rfl (by kernel_rfl) (by kernel_rfl) (by kernel_rfl) (fun _ _ _ h => h) ⟨Or.inl ⟨by rfl, ?_⟩, fun _ => rfl⟩ ?_
                rotate_left
                · intro w; go_simp; try with_reducible rfl
                refine wpAnyIn_ready (rs := [14]) (by kernel_rfl) (by simp) ?_
                refine AllReadyIn.cons rfl (fun K hK => ?_) ?_
                · go_simp
                  refine hK _ _ ?_
                  clear hK K
                  refine wpAnyIn_done (by kernel_rfl) ?_ _
                  gi_wp2
                  exact ⟨(HR2.out wq hbq).ko.from _, (HR2.out wq hbq).kp, by rw [HV.out, HS.out]; exact HT2.out wq hbq, hB.trans (HR2.out wq hbq).kp.low⟩
                exact AllReadyIn.nil
              exact AllReadyIn.nil
            exact AllReadyIn.nil
          refine AllReadyIn.cons rfl (fun K hK => ?_) ?_
          · go_simp
            refine ⟨trivial, hval.mono ?_⟩
            rintro e wq ⟨rfl, hbq⟩
            have hcO := cell_below hbq hcO
            have hcF := cell_below hbq hcF
            have fs0 := cell_below hbq fs0
            have c6 := cell_below hbq c6
            have c7 := cell_below hbq c7
            have z6 := ZQ.out wq hbq (xn * 10 + 6)
            have z7 := ZQ.out wq hbq (xn * 10 + 7)
            have zF := ZF.out wq hbq
            gi_wp2
            refine wpAnyIn_ready (rs := [0, 9]) (by kernel_rfl) (by simp) ?_
            refine AllReadyIn.cons rfl (fun K hK => ?_) ?_
            · go_simp
              refine hK _ _ ?_
              clear hK K
              refine wpAnyIn_ready (rs := [9]) (by kernel_rfl) (by simp) ?_
              refine AllReadyIn.cons rfl (fun K hK => ?_) ?_
              · go_simp
                refine hK _ _ ?_
                clear hK K
                refine wpAnyIn_take (i := 10) (v := ?_) rfl rfl (by kernel_rfl) (by kernel_rfl) (by kernel_rfl) (fun _ _ _ h => h) ⟨Or.inl ⟨by rfl, ?_⟩, fun _ => rfl⟩ ?_
                rotate_left
                · intro w; go_simp; try with_reducible rfl
                refine wpAnyIn_take (i := 11) (v := ?_) rfl rfl (by kernel_rfl) (by kernel_rfl) (by kernel_rfl) (fun _ _ _ h => h) ⟨Or.inl ⟨by rfl, ?_⟩, fun _ => rfl⟩ ?_
                rotate_left
                · intro w; go_simp; try with_reducible rfl
                refine wpAnyIn_take (i := 12) (v := ?_) rfl rfl (by kernel_rfl) (by kernel_rfl) (by kernel_rfl) (fun _ _ _ h => h) ⟨Or.inl ⟨by rfl, ?_⟩, fun _ => rfl⟩ ?_
                rotate_left
                · intro w; go_simp; try with_reducible rfl
                refine wpAnyIn_take (i := 13) (v := ?_) rfl rfl (by kernel_rfl) (by kernel_rfl) (by kernel_rfl) (fun _ _ _ h => h) ⟨Or.inl ⟨by rfl, ?_⟩, fun _ => rfl⟩ ?_
                rotate_left
                · intro w; go_simp; try with_reducible rfl
                refine wpAnyIn_ready (rs := [14]) (by kernel_rfl) (by simp) ?_
                refine AllReadyIn.cons rfl (fun K hK => ?_) ?_
                · go_simp
                  refine hK _ _ ?_
                  clear hK K
                  refine wpAnyIn_done (by kernel_rfl) ?_ _
                  gi_wp2
                  exact ⟨(HR2.out wq hbq).ko.from _, (HR2.out wq hbq).kp, by rw [HV.out, HS.out]; exact HT2.out wq hbq, hB.trans (HR2.out wq hbq).kp.low⟩
                exact AllReadyIn.nil
              exact AllReadyIn.nil
            refine AllReadyIn.cons rfl (fun K hK => ?_) ?_
            · go_simp
              refine hK _ _ ?_
              clear hK K
              refine wpAnyIn_take (i := 10) (v := ?_) rfl rfl (by kernel_rfl) (by kernel_rfl) (by kernel_rfl) (fun _ _ _ h => h) ⟨Or.inl ⟨by rfl, ?_⟩, fun _ => rfl⟩ ?_
              rotate_left
              · intro w; go_simp; try with_reducible rfl
              refine wpAnyIn_take (i := 11) (v := ?_) rfl rfl (by kernel_rfl) (by kernel_rfl) (by kernel_rfl) (fun _ _ _ h => h) ⟨Or.inl ⟨by rfl, ?_⟩, fun _ => rfl⟩ ?_
              rotate_left
              · intro w; go_simp; try with_reducible rfl
              refine wpAnyIn_ready (rs := [0]) (by kernel_rfl) (by simp) ?_
              refine AllReadyIn.cons rfl (fun K hK => ?_) ?_
              · go_simp
                refine hK _ _ ?_
                clear hK K
                refine wpAnyIn_take (i := 12) (v := ?_) rfl rfl (by kernel_rfl) (by kernel_rfl) (by kernel_rfl) (fun _ _ _ h => h) ⟨Or.inl ⟨by rfl, ?_⟩, fun _ => rfl⟩ ?_
                rotate_left
                · intro w; go_simp; try with_reducible rfl
                refine wpAnyIn_take (i := 13) (v := ?_) rfl rfl (by kernel_rfl) (by kernel_rfl) (by kernel_rfl) (fun _ _ _ h => h) ⟨Or.inl ⟨by rfl, ?_⟩, fun _ => rfl⟩ ?_
                rotate_left
                · intro w; go_simp; try with_reducible rfl
                refine wpAnyIn_ready (rs := [14]) (by kernel_rfl) (by simp) ?_
                refine AllReadyIn.cons rfl (fun K hK => ?_) ?_
                · go_simp
                  refine hK _ _ ?_
                  clear hK K
                  refine wpAnyIn_done (by kernel_rfl) ?_ _
                  gi_wp2
                  exact ⟨(HR2.out wq hbq).ko.from _, (HR2.out wq hbq).kp, by rw [HV.out, HS.out]; exact HT2.out wq hbq, hB.trans (HR2.out wq hbq).kp.low⟩
                exact AllReadyIn.nil
              exact AllReadyIn.nil
            exact AllReadyIn.nil
          refine AllReadyIn.cons rfl (fun K hK => ?_) ?_
          · go_simp
            refine hK _ _ ?_
            clear hK K
            refine wpAnyIn_ready (rs := [0, 8]) (by kernel_rfl) (by simp) ?_
            refine AllReadyIn.cons rfl (fun K hK => ?_) ?_
            · go_simp
              refine hK _ _ ?_
              clear hK K
              refine wpAnyIn_ready (rs := [8]) (by kernel_rfl) (by simp) ?_
              refine AllReadyIn.cons rfl (fun K hK => ?_) ?_
              · go_simp
                refine ⟨trivial, hval.mono ?_⟩
                rintro e wq ⟨rfl, hbq⟩
                have hcO := cell_below hbq hcO
                have hcF := cell_below hbq hcF
                have fs0 := cell_below hbq fs0
                have c6 := cell_below hbq c6
                have c7 := cell_below hbq c7
                have z6 := ZQ.out wq hbq (xn * 10 + 6)
                have z7 := ZQ.out wq hbq (xn * 10 + 7)
                have zF := ZF.out wq hbq
                gi_wp2
                refine wpAnyIn_take (i := 10) (v := ?_) rfl rfl (by kernel_rfl) (by kernel_rfl) (by kernel_rfl) (fun _ _ _ h => h) ⟨Or.inl ⟨by rfl, ?_⟩, fun _ => rfl⟩ ?_
                rotate_left
                · intro w; go_simp; try with_reducible rfl
                refine wpAnyIn_take (i := 11) (v := ?_) rfl rfl (by kernel_rfl) (by kernel_rfl) (by kernel_rfl) (fun _ _ _ h => h) ⟨Or.inl ⟨by rfl, ?_⟩, fun _ => rfl⟩ ?_
                rotate_left
                · intro w; go_simp; try with_reducible rfl
                refine wpAnyIn_take (i := 12) (v := ?_) rfl rfl (by kernel_rfl) (by kernel_rfl) (by kernel_rfl) (fun _ _ _ h => h) ⟨Or.inl ⟨by rfl, ?_⟩, fun _ => rfl⟩ ?_
                rotate_left
                · intro w; go_simp; try with_reducible rfl
                refine wpAnyIn_take (i := 13) (v := ?_) rfl rfl (by kernel_rfl) (by kernel_rfl) (by kernel_rfl) (fun _ _ _ h => h) ⟨Or.inl ⟨by rfl, ?_⟩, fun _ => rfl⟩ ?_
                rotate_left
                · intro w; go_simp; try with_reducible rfl
                refine wpAnyIn_ready (rs := [14]) (by kernel_rfl) (by simp) ?_
                refine AllReadyIn.cons rfl (fun K hK => ?_) ?_
                · go_simp
                  refine hK _ _ ?_
                  clear hK K
                  refine wpAnyIn_done (by kernel_rfl) ?_ _
                  gi_wp2
                  exact ⟨(HR2.out wq hbq).ko.from _, (HR2.out wq hbq).kp, by rw [HV.out, HS.out]; exact HT2.out wq hbq, hB.trans (HR2.out wq hbq).kp.low⟩
                exact AllReadyIn.nil
              exact AllReadyIn.nil
            refine AllReadyIn.cons rfl (fun K hK => ?_) ?_
            · go_simp
              refine ⟨trivial, hval.mono ?_⟩
              rintro e wq ⟨rfl, hbq⟩
              have hcO := cell_below hbq hcO
              have hcF := cell_below hbq hcF
              have fs0 := cell_below hbq fs0
              have c6 := cell_below hbq c6
              have c7 := cell_below hbq c7
              have z6 := ZQ.out wq hbq (xn * 10 + 6)
              have z7 := ZQ.out wq hbq (xn * 10 + 7)
              have zF := ZF.out wq hbq
              gi_wp2
              refine wpAnyIn_take (i := 10) (v := ?_) rfl rfl (by kernel_rfl) (by kernel_rfl) (by kernel_rfl) (fun _ _ _ h => h) ⟨Or.inl ⟨by rfl, ?_⟩, fun _ => rfl⟩ ?_
              rotate_left
              · intro w; go_simp; try with_reducible rfl
              refine wpAnyIn_take (i := 11) (v := ?_) rfl rfl (by kernel_rfl) (by kernel_rfl) (by kernel_rfl) (fun _ _ _ h => h) ⟨Or.inl ⟨by rfl, ?_⟩, fun _ => rfl⟩ ?_
              rotate_left
              · intro w; go_simp; try with_reducible rfl
              refine wpAnyIn_ready (rs := [0]) (by kernel_rfl) (by simp) ?_
              refine AllReadyIn.cons rfl (fun K hK => ?_) ?_
              · go_simp
                refine hK _ _ ?_
                clear hK K
                refine wpAnyIn_take (i := 12) (v := ?_) rfl rfl (by kernel_rfl) (by kernel_rfl) (by kernel_rfl) (fun _ _ _ h => h) ⟨Or.inl ⟨by rfl, ?_⟩, fun _ => rfl⟩ ?_
                rotate_left
                · intro w; go_simp; try with_reducible rfl
                refine wpAnyIn_take (i := 13) (v := ?_) rfl rfl (by kernel_rfl) (by kernel_rfl) (by kernel_rfl) (fun _ _ _ h => h) ⟨Or.inl ⟨by rfl, ?_⟩, fun _ => rfl⟩ ?_
                rotate_left
                · intro w; go_simp; try with_reducible rfl
                refine wpAnyIn_ready (rs := [14]) (by kernel_rfl) (by simp) ?_
                refine AllReadyIn.cons rfl (fun K hK => ?_) ?_
                · go_simp
                  refine hK _ _ ?_
                  clear hK K
                  refine wpAnyIn_done (by kernel_rfl) ?_ _
                  gi_wp2
                  exact ⟨(HR2.out wq hbq).ko.from _, (HR2.out wq hbq).kp, by rw [HV.out, HS.out]; exact HT2.out wq hbq, hB.trans (HR2.out wq hbq).kp.low⟩
                exact AllReadyIn.nil
              exact AllReadyIn.nil
            exact AllReadyIn.nil
          exact AllReadyIn.nil
        refine AllReadyIn.cons rfl (fun K hK => ?_) ?_
        · go_simp
          refine hK _ _ ?_
          clear hK K
          refine wpAnyIn_ready (rs := [0, 6]) (by kernel_rfl) (by simp) ?_
          refine AllReadyIn.cons rfl (fun K hK => ?_) ?_
          · go_simp
            refine hK _ _ ?_
            clear hK K
            refine wpAnyIn_ready (rs := [6]) (by kernel_rfl) (by simp) ?_
            refine AllReadyIn.cons rfl (fun K hK => ?_) ?_
            · go_simp
              refine hK _ _ ?_
              clear hK K
              refine wpAnyIn_ready (rs := [8]) (by kernel_rfl) (by simp) ?_
              refine AllReadyIn.cons rfl (fun K hK => ?_) ?_
              · go_simp
                refine ⟨trivial, hval.mono ?_⟩
                rintro e wq ⟨rfl, hbq⟩
                have hcO := cell_below hbq hcO
                have hcF := cell_below hbq hcF
                have fs0 := cell_below hbq fs0
                have c6 := cell_below hbq c6
                have c7 := cell_below hbq c7
                have z6 := ZQ.out wq hbq (xn * 10 + 6)
                have z7 := ZQ.out wq hbq (xn * 10 + 7)
                have zF := ZF.out wq hbq
                gi_wp2
                refine wpAnyIn_take (i := 10) (v := ?_) rfl rfl (by kernel_rfl) (by kernel_rfl) (by kernel_rfl) (fun _ _ _ h => h) ⟨Or.inl ⟨by rfl, ?_⟩, fun _ => rfl⟩ ?_
                rotate_left
                · intro w; go_simp; try with_reducible rfl
                refine wpAnyIn_take (i := 11) (v := ?_) rfl rfl (by kernel_rfl) (by kernel_rfl) (by kernel_rfl) (fun _ _ _ h => h) ⟨Or.inl ⟨by rfl, ?_⟩, fun _ => rfl⟩ ?_
                rotate_left
                · intro w; go_simp; try with_reducible rfl
                refine wpAnyIn_take (i := 12) (v := ?_) rfl rfl (by kernel_rfl) (by kernel_rfl) (by kernel_rfl) (fun _ _ _ h => h) ⟨Or.inl ⟨by rfl, ?_⟩, fun _ => rfl⟩ ?_
                rotate_left
                · intro w; go_simp; try with_reducible rfl
                refine wpAnyIn_take (i := 13) (v := ?_) rfl rfl (by kernel_rfl) (by kernel_rfl) (by kernel_rfl) (fun _ _ _ h => h) ⟨Or.inl ⟨by rfl, ?_⟩, fun _ => rfl⟩ ?_
                rotate_left
                · intro w; go_simp; try with_reducible rfl
                refine wpAnyIn_ready (rs := [14]) (by kernel_rfl) (by simp) ?_
                refine AllReadyIn.cons rfl (fun K hK => ?_) ?_
                · go_simp
                  refine hK _ _ ?_
                  clear hK K
                  refine wpAnyIn_done (by kernel_rfl) ?_ _
                  gi_wp2
                  exact ⟨(HR2.out wq hbq).ko.from _, (HR2.out wq hbq).kp, by rw [HV.out, HS.out]; exact HT2.out wq hbq, hB.trans (HR2.out wq hbq).kp.low⟩
                exact AllReadyIn.nil
              exact AllReadyIn.nil
            exact AllReadyIn.nil
          refine AllReadyIn.cons rfl (fun K hK => ?_) ?_
          · go_simp
            refine hK _ _ ?_
            clear hK K
            refine wpAnyIn_ready (rs := [0, 8]) (by kernel_rfl) (by simp) ?_
            refine AllReadyIn.cons rfl (fun K hK => ?_) ?_
            · go_simp
              refine hK _ _ ?_
              clear hK K
              refine wpAnyIn_ready (rs := [8]) (by kernel_rfl) (by simp) ?_
              refine AllReadyIn.cons rfl (fun K hK => ?_) ?_
              · go_simp
                refine ⟨trivial, hval.mono ?_⟩
                rintro e wq ⟨rfl, hbq⟩
                have hcO := cell_below hbq hcO
                have hcF := cell_below hbq hcF
                have fs0 := cell_below hbq fs0
                have c6 := cell_below hbq c6
                have c7 := cell_below hbq c7
                have z6 := ZQ.out wq hbq (xn * 10 + 6)
                have z7 := ZQ.out wq hbq (xn * 10 + 7)
                have zF := ZF.out wq hbq
                gi_wp2
                refine wpAnyIn_take (i := 10) (v := ?_) rfl rfl (by kernel_rfl) (by kernel_rfl) (by kernel_rfl) (fun _ _ _ h => h) ⟨Or.inl ⟨by rfl, ?_⟩, fun _ => rfl⟩ ?_
                rotate_left
                · intro w; go_simp; try with_reducible rfl
                refine wpAnyIn_take (i := 11) (v := ?_) rfl rfl (by kernel_rfl) (by kernel_rfl) (by kernel_rfl) (fun _ _ _ h => h) ⟨Or.inl ⟨by rfl, ?_⟩, fun _ => rfl⟩ ?_
                rotate_left
                · intro w; go_simp; try with_reducible rfl
                refine wpAnyIn_take (i := 12) (v := ?_) rfl rfl (by kernel_rfl) (by kernel_rfl) (by kernel_rfl) (fun _ _ _ h => h) ⟨Or.inl ⟨by rfl, ?_⟩, fun _ => rfl⟩ ?_
                rotate_left
                · intro w; go_simp; try with_reducible rfl
                refine wpAnyIn_take (i := 13) (v := ?_) rfl rfl (by kernel_rfl) (by kernel_rfl) (by kernel_rfl) (fun _ _ _ h => h) ⟨Or.inl ⟨by rfl, ?_⟩, fun _ => rfl⟩ ?_
                rotate_left
                · intro w; go_simp; try with_reducible rfl
                refine wpAnyIn_ready (rs := [14]) (by kernel_rfl) (by simp) ?_
                refine AllReadyIn.cons rfl (fun K hK => ?_) ?_
                · go_simp
                  refine hK _ _ ?_
                  clear hK K
                  refine wpAnyIn_done (by kernel_rfl) ?_ _
                  gi_wp2
                  exact ⟨(HR2.out wq hbq).ko.from _, (HR2.out wq hbq).kp, by rw [HV.out, HS.out]; exact HT2.out wq hbq, hB.trans (HR2.out wq hbq).kp.low⟩
                exact AllReadyIn.nil
              exact AllReadyIn.nil
            refine AllReadyIn.cons rfl (fun K hK => ?_) ?_
            · go_simp
              refine ⟨trivial, hval.mono ?_⟩
              rintro e wq ⟨rfl, hbq⟩
              have hcO := cell_below hbq hcO
              have hcF := cell_below hbq hcF
              have fs0 := cell_below hbq fs0
              have c6 := cell_below hbq c6
              have c7 := cell_below hbq c7
              have z6 := ZQ.out wq hbq (xn * 10 + 6)
              have z7 := ZQ.out wq hbq (xn * 10 + 7)
              have zF := ZF.out wq hbq
              gi_wp2
              refine wpAnyIn_take (i := 10) (v := ?_) rfl rfl (by kernel_rfl) (by kernel_rfl) (by kernel_rfl) (fun _ _ _ h => h) ⟨Or.inl ⟨by rfl, ?_⟩, fun _ => rfl⟩ ?_
              rotate_left
              · intro w; go_simp; try with_reducible rfl
              refine wpAnyIn_take (i := 11) (v := ?_) rfl rfl (by kernel_rfl) (by kernel_rfl) (by kernel_rfl) (fun _ _ _ h => h) ⟨Or.inl ⟨by rfl, ?_⟩, fun _ => rfl⟩ ?_
              rotate_left
              · intro w; go_simp; try with_reducible rfl
              refine wpAnyIn_ready (rs := [0]) (by kernel_rfl) (by simp) ?_
              refine AllReadyIn.cons rfl (fun K hK => ?_) ?_
              · go_simp
                refine hK _ _ ?_
                clear hK K
                refine wpAnyIn_take (i := 12) (v := ?_) rfl rfl (by kernel_rfl) (by kernel_rfl) (by kernel_rfl) (fun _ _ _ h => h) ⟨Or.inl ⟨by rfl, ?_⟩, fun _ => rfl⟩ ?_
                rotate_left
                · intro w; go_simp; try with_reducible rfl
                refine wpAnyIn_take (i := 13) (v := ?_) rfl rfl (by kernel_rfl) (by kernel_rfl) (by kernel_rfl) (fun _ _ _ h => h) ⟨Or.inl ⟨by rfl, ?_⟩, fun _ => rfl⟩ ?_
                rotate_left
                · intro w; go_simp; try with_reducible rfl
                refine wpAnyIn_ready (rs := [14]) (by kernel_rfl) (by simp) ?_
                refine AllReadyIn.cons rfl (fun K hK => ?_) ?_
                · go_simp
                  refine hK _ _ ?_
                  clear hK K
                  refine wpAnyIn_done (by kernel_rfl) ?_ _
                  gi_wp2
                  exact ⟨(HR2.out wq hbq).ko.from _, (HR2.out wq hbq).kp, by rw [HV.out, HS.out]; exact HT2.out wq hbq, hB.trans (HR2.out wq hbq).kp.low⟩
                exact AllReadyIn.nil
              exact AllReadyIn.nil
            exact AllReadyIn.nil
          exact AllReadyIn.nil
        exact AllReadyIn.nil
      exact AllReadyIn.nil
    case neg =>
      have HS : Hid (runW l s cs (vals pre ++ [(xn : Int)]) = (false, (runW l s cs (vals pre)).2.modify xn (selF false))) := Lib.hid (by rw [HSn.out, if_neg (fun h => hv h.2), Int.toNat_natCast])
      have hv0 : (vv == s) = false := beq_false_of_ne hv
      clear HSn HT0 HR0 HT2 HR2 hv
      gi_wp2
      refine wpIn_round_any (by kernel_rfl) rfl (by kernel_rfl) ?_
      change wpAnyIn _ _ _ _ _ _ _ _ _ W.drew
      refine wpAnyIn_take (i := 1) (v := ?_) rfl rfl (by kernel_rfl) (by kernel_rfl) (by kernel_rfl) (fun _ _ _ h => h) ⟨Or.inl ⟨by rfl, ?_⟩, fun _ => rfl⟩ ?_
      rotate_left
      · intro w; go_simp; try with_reducible rfl
      refine wpAnyIn_ready (rs := [0, 2]) (by kernel_rfl) (by simp) ?_
      refine AllReadyIn.cons rfl (fun K hK => ?_) ?_
      · go_simp
        refine hK _ _ ?_
        clear hK K
        refine wpAnyIn_ready (rs := [2]) (by kernel_rfl) (by simp) ?_
        refine AllReadyIn.cons rfl (fun K hK => ?_) ?_
        · go_simp
          refine hK _ _ ?_
          clear hK K
          refine wpAnyIn_take (i := 3) (v := ?_) rfl rfl (by kernel_rfl) (by kernel_rfl) (by kernel_rfl) (fun _ _ _ h => h) ⟨Or.inl ⟨by rfl, ?_⟩, fun _ => rfl⟩ ?_
          rotate_left
          · intro w; go_simp; try with_reducible rfl
          refine wpAnyIn_take (i := 4) (v := ?_) rfl rfl (by kernel_rfl) (by kernel_rfl) (by kernel_rfl) (fun _ _ _ h => h) ⟨Or.inl ⟨by rfl, ?_⟩, fun _ => rfl⟩ ?_
          rotate_left
          · intro w; go_simp; try with_reducible rfl
          refine wpAnyIn_take (i := 5) (v := ?_) rfl rfl (by kernel_rfl) (by kernel_rfl) (by kernel_rfl) (fun _ _ _ h => h) ⟨Or.inl ⟨by rfl, ?_⟩, fun _ => rfl⟩ ?_
          rotate_left
          · intro w; go_simp; try with_reducible rfl
          refine wpAnyIn_take (i := 7) (v := ?_) rfl rfl (by kernel_rfl) (by kernel_rfl) (by kernel_rfl) (fun _ _ _ h => h) ⟨Or.inl ⟨by rfl, ?_⟩, fun _ => rfl⟩ ?_
          rotate_left
          · intro w; go_simp; try with_reducible rfl
          refine wpAnyIn_ready (rs := [6, 9]) (by kernel_rfl) (by simp) ?_
          refine AllReadyIn.cons rfl (fun K hK => ?_) ?_
          · go_simp
            refine hK _ _ ?_
            clear hK K
            refine wpAnyIn_ready (rs := [8, 9]) (by kernel_rfl) (by simp) ?_
            refine AllReadyIn.cons rfl (fun K hK => ?_) ?_
            · go_simp
              refine ⟨trivial, hval.mono ?_⟩
              rintro e wq ⟨rfl, hbq⟩
              have hcO := cell_below hbq hcO
              have hcF := cell_below hbq hcF
              have fs0 := cell_below hbq fs0
              have c6 := cell_below hbq c6
              have c7 := cell_below hbq c7
              have z6 := ZQ.out wq hbq (xn * 10 + 6)
              have z7 := ZQ.out wq hbq (xn * 10 + 7)
              have zF := ZF.out wq hbq
              gi_wp2
              refine wpAnyIn_ready (rs := [9]) (by kernel_rfl) (by simp) ?_
              refine AllReadyIn.cons rfl (fun K hK => ?_) ?_
              · go_simp
                refine hK _ _ ?_
                clear hK K
                refine wpAnyIn_take (i := 10) (v := ?_) rfl rfl (by kernel_rfl) (by kernel_rfl) (by kernel_rfl) (fun _ _ _ h => h) ⟨Or.inl ⟨by rfl, ?_⟩, fun _ => rfl⟩ ?_
                rotate_left
                · intro w; go_simp; try with_reducible rfl
                refine wpAnyIn_take (i := 11) (v := ?_) rfl rfl (by kernel_rfl) (by kernel_rfl) (by kernel_rfl) (fun _ _ _ h => h) ⟨Or.inl ⟨by rfl, ?_⟩, fun _ => rfl⟩ ?_
                rotate_left
                · intro w; go_simp; try with_reducible rfl
                refine wpAnyIn_take (i := 12) (v := ?_) rfl rfl (by kernel_rfl) (by kernel_rfl) (by kernel_rfl) (fun _ _ _ h => h) ⟨Or.inl ⟨by rfl, ?_⟩, fun _ => rfl⟩ ?_
                rotate_left
                · intro w; go_simp; try with_reducible rfl
                refine wpAnyIn_take (i := 13) (v := ?_) rfl rfl (by kernel_rfl) (by kernel_rfl) (by kernel_rfl) (fun _ _ _ h => h) ⟨Or.inl ⟨by rfl, ?_⟩, fun _ => rfl⟩ ?_
                rotate_left
                · intro w; go_simp; try with_reducible rfl
                refine wpAnyIn_ready (rs := [14]) (by kernel_rfl) (by simp) ?_
                refine AllReadyIn.cons rfl (fun K hK => ?_) ?_
                · go_simp
                  refine hK _ _ ?_
                  clear hK K
                  refine wpAnyIn_done (by kernel_rfl) ?_ _
                  gi_wp2
                  exact ⟨(HR1.out wq hbq).ko.from _, (HR1.out wq hbq).kp, by rw [HV.out, HS.out]; exact HT1.out wq hbq, hB.trans (HR1.out wq hbq).kp.low⟩
                exact AllReadyIn.nil
              exact AllReadyIn.nil
            refine AllReadyIn.cons rfl (fun K hK => ?_) ?_
            · go_simp
              refine hK _ _ ?_
              clear hK K
              refine wpAnyIn_ready (rs := [8]) (by kernel_rfl) (by simp) ?_
              refine AllReadyIn.cons rfl (fun K hK => ?_) ?_
              · go_simp
                refine ⟨trivial, hval.mono ?_⟩
                rintro e wq ⟨rfl, hbq⟩
                have hcO := cell_below hbq hcO
                have hcF := cell_below hbq hcF
                have fs0 := cell_below hbq fs0
                have c6 := cell_below hbq c6
                have c7 := cell_below hbq c7
                have z6 := ZQ.out wq hbq (xn * 10 + 6)
                have z7 := ZQ.out wq hbq (xn * 10 + 7)
                have zF := ZF.out wq hbq
                gi_wp2
                refine wpAnyIn_take (i := 10) (v := ?_) rfl rfl (by kernel_rfl) (by kernel_rfl) (by kernel_rfl) (fun _ _ _ h => h) ⟨Or.inl ⟨by rfl, ?_⟩, fun _ => rfl⟩ ?_
                rotate_left
                · intro w; go_simp; try with_reducible rfl
                refine wpAnyIn_take (i := 11) (v := ?_) rfl rfl (by kernel_rfl) (by kernel_rfl) (by kernel_rfl) (fun _ _ _ h => h) ⟨Or.inl ⟨by rfl, ?_⟩, fun _ => rfl⟩ ?_
                rotate_left
                · intro w; go_simp; try with_reducible rfl
                refine wpAnyIn_take (i := 12) (v := ?_) rfl rfl (by kernel_rfl) (by kernel_rfl) (by kernel_rfl) (fun _ _ _ h => h) ⟨Or.inl ⟨by rfl, ?_⟩, fun _ => rfl⟩ ?_
                rotate_left
                · intro w; go_simp; try with_reducible rfl
                refine wpAnyIn_take (i := 13) (v := ?_) rfl rfl (by kernel_rfl) (by kernel_rfl) (by kernel_rfl) (fun _ _ _ h => h) ⟨Or.inl ⟨by rfl, ?_⟩, fun _ => rfl⟩ ?_
                rotate_left
                · intro w; go_simp; try with_reducible rfl
                refine wpAnyIn_ready (rs := [14]) (by kernel_rfl) (by simp) ?_
                refine AllReadyIn.cons rfl (fun K hK => ?_) ?_
                · go_simp
                  refine hK _ _ ?_
                  clear hK K
                  refine wpAnyIn_done (by kernel_rfl) ?_ _
                  gi_wp2
                  exact ⟨(HR1.out wq hbq).ko.from _, (HR1.out wq hbq).kp, by rw [HV.out, HS.out]; exact HT1.out wq hbq, hB.trans (HR1.out wq hbq).kp.low⟩
                exact AllReadyIn.nil
              exact AllReadyIn.nil
            exact AllReadyIn.nil
          refine AllReadyIn.cons rfl (fun K hK => ?_) ?_
          · go_simp
            refine hK _ _ ?_
            clear hK K
            refine wpAnyIn_ready (rs := [6]) (by kernel_rfl) (by simp) ?_
            refine AllReadyIn.cons rfl (fun K hK => ?_) ?_
            · go_simp
              refine hK _ _ ?_
              clear hK K
              refine wpAnyIn_ready (rs := [8]) (by kernel_rfl) (by simp) ?_
              refine AllReadyIn.cons rfl (fun K hK => ?_) ?_
              · go_simp
                refine ⟨trivial, hval.mono ?_⟩
                rintro e wq ⟨rfl, hbq⟩
                have hcO := cell_below hbq hcO
                have hcF := cell_below hbq hcF
                have fs0 := cell_below hbq fs0
                have c6 := cell_below hbq c6
                have c7 := cell_below hbq c7
                have z6 := ZQ.out wq hbq (xn * 10 + 6)
                have z7 := ZQ.out wq hbq (xn * 10 + 7)
                have zF := ZF.out wq hbq
                gi_wp2
                refine wpAnyIn_take (i := 10) (v := ?_) rfl rfl (by kernel_rfl) (by kernel_rfl) (by kernel_rfl) (fun _ _ _ h => h) ⟨Or.inl ⟨by rfl, ?_⟩, fun _ => rfl⟩ ?_
                rotate_left
                · intro w; go_simp; try with_reducible rfl
                refine wpAnyIn_take (i := 11) (v := ?_) rfl rfl (by kernel_rfl) (by kernel_rfl) (by kernel_rfl) (fun _ _ _ h => h) ⟨Or.inl ⟨by rfl, ?_⟩, fun _ => rfl⟩ ?_
                rotate_left
                · intro w; go_simp; try with_reducible rfl
                refine wpAnyIn_take (i := 12) (v := ?_) rfl rfl (by kernel_rfl) (by kernel_rfl) (by kernel_rfl) (fun _ _ _ h => h) ⟨Or.inl ⟨by rfl, ?_⟩, fun _ => rfl⟩ ?_
                rotate_left
                · intro w; go_simp; try with_reducible rfl
                refine wpAnyIn_take (i := 13) (v := ?_) rfl rfl (by kernel_rfl) (by kernel_rfl) (by kernel_rfl) (fun _ _ _ h => h) ⟨Or.inl ⟨by rfl, ?_⟩, fun _ => rfl⟩ ?_
                rotate_left
                · intro w; go_simp; try with_reducible rfl
                refine wpAnyIn_ready (rs := [14]) (by kernel_rfl) (by simp) ?_
                refine AllReadyIn.cons rfl (fun K hK => ?_) ?_
                · go_simp
                  refine hK _ _ ?_
                  clear hK K
                  refine wpAnyIn_done (by kernel_rfl) ?_ _
                  gi_wp2
                  exact ⟨(HR1.out wq hbq).ko.from _, (HR1.out wq hbq).kp, by rw [HV.out, HS.out]; exact HT1.out wq hbq, hB.trans (HR1.out wq hbq).kp.low⟩
                exact AllReadyIn.nil
              exact AllReadyIn.nil
            exact AllReadyIn.nil
          exact AllReadyIn.nil
        exact AllReadyIn.nil
      refine AllReadyIn.cons rfl (fun K hK => ?_) ?_
      · go_simp
        refine hK _ _ ?_
        clear hK K
        refine wpAnyIn_take (i := 3) (v := ?_) rfl rfl (by kernel_rfl) (by kernel_rfl) (by kernel_rfl) (fun _ _ _ h => h) ⟨Or.inl ⟨by rfl, ?_⟩, fun _ => rfl⟩ ?_
        rotate_left
        · intro w; go_simp; try with_reducible rfl
        refine wpAnyIn_take (i := 4) (v := ?_) rfl rfl (by kernel_rfl) (by kernel_rfl) (by kernel_rfl) (fun _ _ _ h => h) ⟨Or.inl ⟨by rfl, ?_⟩, fun _ => rfl⟩ ?_
        rotate_left
        · intro w; go_simp; try with_reducible rfl
        refine wpAnyIn_take (i := 5) (v := ?_) rfl rfl (by kernel_rfl) (by kernel_rfl) (by kernel_rfl) (fun _ _ _ h => h) ⟨Or.inl ⟨by rfl, ?_⟩, fun _ => rfl⟩ ?_
        rotate_left
        · intro w; go_simp; try with_reducible rfl
        refine wpAnyIn_take (i := 7) (v := ?_) rfl rfl (by kernel_rfl) (by kernel_rfl) (by kernel_rfl) (fun _ _ _ h => h) ⟨Or.inl ⟨by rfl, ?_⟩, fun _ => rfl⟩ ?_
        rotate_left
        · intro w; go_simp; try with_reducible rfl
        refine wpAnyIn_ready (rs := [0, 6, 9]) (by kernel_rfl) (by simp) ?_
        refine AllReadyIn.cons rfl (fun K hK => ?_) ?_
        · go_simp
          refine hK _ _ ?_
          clear hK K
          refine wpAnyIn_ready (rs := [6, 9]) (by kernel_rfl) (by simp) ?_
          refine AllReadyIn.cons rfl (fun K hK => ?_) ?_
          · go_simp
            refine hK _ _ ?_
            clear hK K
            refine wpAnyIn_ready (rs := [8, 9]) (by kernel_rfl) (by simp) ?_
            refine AllReadyIn.cons rfl (fun K hK => ?_) ?_
            · go_simp
              refine ⟨trivial, hval.mono ?_⟩
              rintro e wq ⟨rfl, hbq⟩
              have hcO := cell_below hbq hcO
              have hcF := cell_below hbq hcF
              have fs0 := cell_below hbq fs0
              have c6 := cell_below hbq c6
              have c7 := cell_below hbq c7
              have z6 := ZQ.out wq hbq (xn * 10 + 6)
              have z7 := ZQ.out wq hbq (xn * 10 + 7)
              have zF := ZF.out wq hbq
              gi_wp2
              refine wpAnyIn_ready (rs := [9]) (by kernel_rfl) (by simp) ?_
              refine AllReadyIn.cons rfl (fun K hK => ?_) ?_
              · go_simp
                refine hK _ _ ?_
                clear hK K
                refine wpAnyIn_take (i := 10) (v := ?_) rfl rfl (by kernel_rfl) (by kernel_rfl) (by kernel_rfl) (fun _ _ _ h => h) ⟨Or.inl ⟨by rfl, ?_⟩, fun _ => rfl⟩ ?_
                rotate_left
                · intro w; go_simp; try with_reducible rfl
                refine wpAnyIn_take (i := 11) (v := ?_) rfl rfl (by kernel_rfl) (by kernel_rfl) (by kernel_rfl) (fun _ _ _ h => h) ⟨Or.inl ⟨by rfl, ?_⟩, fun _ => rfl⟩ ?_
                rotate_left
                · intro w; go_simp; try with_reducible rfl
                refine wpAnyIn_take (i := 12) (v := ?_) rfl rfl (by kernel_rfl) (by kernel_rfl) (by kernel_rfl) (fun _ _ _ h => h) ⟨Or.inl ⟨by rfl, ?_⟩, fun _ => rfl⟩ ?_
                rotate_left
                · intro w; go_simp; try with_reducible rfl
                refine wpAnyIn_take (i := 13) (v := ?_) rfl rfl (by kernel_rfl) (by kernel_rfl) (by kernel_rfl) (fun _ _ _ h => h) ⟨Or.inl ⟨by rfl, ?_⟩, fun _ => rfl⟩ ?_
                rotate_left
                · intro w; go_simp; try with_reducible rfl
                refine wpAnyIn_ready (rs := [14]) (by kernel_rfl) (by simp) ?_
                refine AllReadyIn.cons rfl (fun K hK => ?_) ?_
                · go_simp
                  refine hK _ _ ?_
                  clear hK K
                  refine wpAnyIn_done (by kernel_rfl) ?_ _
                  gi_wp2
                  exact ⟨(HR1.out wq hbq).ko.from _, (HR1.out wq hbq).kp, by rw [HV.out, HS.out]; exact HT1.out wq hbq, hB.trans (HR1.out wq hbq).kp.low⟩
                exact AllReadyIn.nil
              exact AllReadyIn.nil
            refine AllReadyIn.cons rfl (fun K hK => ?_) ?_
            · go_simp
              refine hK _ _ ?_
              clear hK K
              refine wpAnyIn_ready (rs := [8]) (by kernel_rfl) (by simp) ?_
              refine AllReadyIn.cons rfl (fun K hK => ?_) ?_
              · go_simp
                refine ⟨trivial, hval.mono ?_⟩
                rintro e wq ⟨rfl, hbq⟩
                have hcO := cell_below hbq hcO
                have hcF := cell_below hbq hcF
                have fs0 := cell_below hbq fs0
                have c6 := cell_below hbq c6
                have c7 := cell_below hbq c7
                have z6 := ZQ.out wq hbq (xn * 10 + 6)
                have z7 := ZQ.out wq hbq (xn * 10 + 7)
                have zF := ZF.out wq hbq
                gi_wp2
                refine wpAnyIn_take (i := 10) (v := ?_) rfl rfl (by kernel_rfl) (by kernel_rfl) (by kernel_rfl) (fun _ _ _ h => h) ⟨Or.inl ⟨by rfl, ?_⟩, fun _ => rfl⟩ ?_
                rotate_left
                · intro w; go_simp; try with_reducible rfl
                refine wpAnyIn_take (i := 11) (v := ?_) rfl rfl (by kernel_rfl) (by kernel_rfl) (by kernel_rfl) (fun _ _ _ h => h) ⟨Or.inl ⟨by rfl, ?_⟩, fun _ => rfl⟩ ?_
                rotate_left
                · intro w; go_simp; try with_reducible rfl
                refine wpAnyIn_take (i := 12) (v := ?_) rfl rfl (by kernel_rfl) (by kernel_rfl) (by kernel_rfl) (fun _ _ _ h => h) ⟨Or.inl ⟨by rfl, ?_⟩, fun _ => rfl⟩ ?_
                rotate_left
                · intro w; go_simp; try with_reducible rfl
                refine wpAnyIn_take (i := 13) (v := ?_) rfl rfl (by kernel_rfl) (by kernel_rfl) (by kernel_rfl) (fun _ _ _ h => h) ⟨Or.inl ⟨by rfl, ?_⟩, fun _ => rfl⟩ ?_
                rotate_left
                · intro w; go_simp; try with_reducible rfl
                refine wpAnyIn_ready (rs := [14]) (by kernel_rfl) (by simp) ?_
                refine AllReadyIn.cons rfl (fun K hK => ?_) ?_
                · go_simp
                  refine hK _ _ ?_
                  clear hK K
                  refine wpAnyIn_done (by kernel_rfl) ?_ _
                  gi_wp2
                  exact ⟨(HR1.out wq hbq).ko.from _, (HR1.out wq hbq).kp, by rw [HV.out, HS.out]; exact HT1.out wq hbq, hB.trans (HR1.out wq hbq).kp.low⟩
                exact AllReadyIn.nil
              exact AllReadyIn.nil
            exact AllReadyIn.nil
          refine AllReadyIn.cons rfl (fun K hK => ?_) ?_
          · go_simp
            refine hK _ _ ?_
            clear hK K
            refine wpAnyIn_ready (rs := [6]) (by kernel_rfl) (by simp) ?_
            refine AllReadyIn.cons rfl (fun K hK => ?_) ?_
            · go_simp
              refine hK _ _ ?_
              clear hK K
              refine wpAnyIn_ready (rs := [8]) (by kernel_rfl) (by simp) ?_
              refine AllReadyIn.cons rfl (fun K hK => ?_) ?_
              · go_simp
                refine ⟨trivial, hval.mono ?_⟩
                rintro e wq ⟨rfl, hbq⟩
                have hcO := cell_below hbq hcO
                have hcF := cell_below hbq hcF
                have fs0 := cell_below hbq fs0
                have c6 := cell_below hbq c6
                have c7 := cell_below hbq c7
                have z6 := ZQ.out wq hbq (xn * 10 + 6)
                have z7 := ZQ.out wq hbq (xn * 10 + 7)
                have zF := ZF.out wq hbq
                gi_wp2
                refine wpAnyIn_take (i := 10) (v := ?_) rfl rfl (by kernel_rfl) (by kernel_rfl) (by kernel_rfl) (fun _ _ _ h => h) ⟨Or.inl ⟨by rfl, ?_⟩, fun _ => rfl⟩ ?_
                rotate_left
                · intro w; go_simp; try with_reducible rfl
                refine wpAnyIn_take (i := 11) (v := ?_) rfl rfl (by kernel_rfl) (by kernel_rfl) (by kernel_rfl) (fun _ _ _ h => h) ⟨Or.inl ⟨by rfl, ?_⟩, fun _ => rfl⟩ ?_
                rotate_left
                · intro w; go_simp; try with_reducible rfl
                refine wpAnyIn_take (i := 12) (v := ?_) rfl rfl (by kernel_rfl) (by kernel_rfl) (by kernel_rfl) (fun _ _ _ h => h) ⟨Or.inl ⟨by rfl, ?_⟩, fun _ => rfl⟩ ?_
                rotate_left
                · intro w; go_simp; try with_reducible rfl
                refine wpAnyIn_take (i := 13) (v := ?_) rfl rfl (by kernel_rfl) (by kernel_rfl) (by kernel_rfl) (fun _ _ _ h => h) ⟨Or.inl ⟨by rfl, ?_⟩, fun _ => rfl⟩ ?_
                rotate_left
                · intro w; go_simp; try with_reducible rfl
                refine wpAnyIn_ready (rs := [14]) (by kernel_rfl) (by simp) ?_
                refine AllReadyIn.cons rfl (fun K hK => ?_) ?_
                · go_simp
                  refine hK _ _ ?_
                  clear hK K
                  refine wpAnyIn_done (by kernel_rfl) ?_ _
                  gi_wp2
                  exact ⟨(HR1.out wq hbq).ko.from _, (HR1.out wq hbq).kp, by rw [HV.out, HS.out]; exact HT1.out wq hbq, hB.trans (HR1.out wq hbq).kp.low⟩
                exact AllReadyIn.nil
              exact AllReadyIn.nil
            exact AllReadyIn.nil
          exact AllReadyIn.nil
        refine AllReadyIn.cons rfl (fun K hK => ?_) ?_
        · go_simp
          refine hK _ _ ?_
          clear hK K
          refine wpAnyIn_ready (rs := [0, 8, 9]) (by kernel_rfl) (by simp) ?_
          refine AllReadyIn.cons rfl (fun K hK => ?_) ?_
          · go_simp
            refine hK _ _ ?_
            clear hK K
            refine wpAnyIn_ready (rs := [8, 9]) (by kernel_rfl) (by simp) ?_
            refine AllReadyIn.cons rfl (fun K hK => ?_) ?_
            · go_simp
              refine ⟨trivial, hval.mono ?_⟩
              rintro e wq ⟨rfl, hbq⟩
              have hcO := cell_below hbq hcO
              have hcF := cell_below hbq hcF
              have fs0 := cell_below hbq fs0
              have c6 := cell_below hbq c6
              have c7 := cell_below hbq c7
              have z6 := ZQ.out wq hbq (xn * 10 + 6)
              have z7 := ZQ.out wq hbq (xn * 10 + 7)
              have zF := ZF.out wq hbq
              gi_wp2
              refine wpAnyIn_ready (rs := [9]) (by kernel_rfl) (by simp) ?_
              refine AllReadyIn.cons rfl (fun K hK => ?_) ?_
              · go_simp
                refine hK _ _ ?_
                clear hK K
                refine wpAnyIn_take (i := 10) (v := ?_) rfl rfl (by kernel_rfl) (by kernel_rfl) (by kernel_rfl) (fun _ _ _ h => h) ⟨Or.inl ⟨by rfl, ?_⟩, fun _ => rfl⟩ ?_
                rotate_left
                · intro w; go_simp; try with_reducible rfl
                refine wpAnyIn_take (i := 11) (v := ?_) rfl rfl (by kernel_rfl) (by kernel_rfl) (by kernel_rfl) (fun _ _ _ h => h) ⟨Or.inl ⟨by rfl, ?_⟩, fun _ => rfl⟩ ?_
                rotate_left
                · intro w; go_simp; try with_reducible rfl
                refine wpAnyIn_take (i := 12) (v := ?_) rfl rfl (by kernel_rfl) (by kernel_rfl) (by kernel_rfl) (fun _ _ _ h => h) ⟨Or.inl ⟨by rfl, ?_⟩, fun _ => rfl⟩ ?_
                rotate_left
                · intro w; go_simp; try with_reducible rfl
                refine wpAnyIn_take (i := 13) (v := ?_) rfl rfl (by kernel_rfl) (by kernel_rfl) (by kernel_rfl) (fun _ _ _ h => h) ⟨Or.inl ⟨by rfl, ?_⟩, fun _ => rfl⟩ ?_
                rotate_left
                · intro w; go_simp; try with_reducible rfl
                refine wpAnyIn_ready (rs := [14]) (by kernel_rfl) (by simp) ?_
                refine AllReadyIn.cons rfl (fun K hK => ?_) ?_
                · go_simp
                  refine hK _ _ ?_
                  clear hK K
                  refine wpAnyIn_done (by kernel_rfl) ?_ _
                  gi_wp2
                  exact ⟨(HR1.out wq hbq).ko.from _, (HR1.out wq hbq).kp, by rw [HV.out, HS.out]; exact HT1.out wq hbq, hB.trans (HR1.out wq hbq).kp.low⟩
                exact AllReadyIn.nil
              exact AllReadyIn.nil
            refine AllReadyIn.cons rfl (fun K hK => ?_) ?_
            · go_simp
              refine hK _ _ ?_
              clear hK K
              refine wpAnyIn_ready (rs := [8]) (by kernel_rfl) (by simp) ?_
              refine AllReadyIn.cons rfl (fun K hK => ?_) ?_
              · go_simp
                refine ⟨trivial, hval.mono ?_⟩
                rintro e wq ⟨rfl, hbq⟩
                have hcO := cell_below hbq hcO
                have hcF := cell_below hbq hcF
                have fs0 := cell_below hbq fs0
                have c6 := cell_below hbq c6
                have c7 := cell_below hbq c7
                have z6 := ZQ.out wq hbq (xn * 10 + 6)
                have z7 := ZQ.out wq hbq (xn * 10 + 7)
                have zF := ZF.out wq hbq
                gi_wp2
                refine wpAnyIn_take (i := 10) (v := ?_) rfl rfl (by kernel_rfl) (by kernel_rfl) (by kernel_rfl) (fun _ _ _ h => h) ⟨Or.inl ⟨by rfl, ?_⟩, fun _ => rfl⟩ ?_
                rotate_left
                · intro w; go_simp; try with_reducible rfl
                refine wpAnyIn_take (i := 11) (v := ?_) rfl rfl (by kernel_rfl) (by kernel_rfl) (by kernel_rfl) (fun _ _ _ h => h) ⟨Or.inl ⟨by rfl, ?_⟩, fun _ => rfl⟩ ?_
                rotate_left
                · intro w; go_simp; try with_reducible rfl
                refine wpAnyIn_take (i := 12) (v := ?_) rfl rfl (by kernel_rfl) (by kernel_rfl) (by kernel_rfl) (fun _ _ _ h => h) ⟨Or.inl ⟨by rfl, ?_⟩, fun _ => rfl⟩ ?_
                rotate_left
                · intro w; go_simp; try with_reducible rfl
                refine wpAnyIn_take (i := 13) (v := ?_) rfl rfl (by kernel_rfl) (by kernel_rfl) (by kernel_rfl) (fun _ _ _ h => h) ⟨Or.inl ⟨by rfl, ?_⟩, fun _ => rfl⟩ ?_
                rotate_left
                · intro w; go_simp; try with_reducible rfl
                refine wpAnyIn_ready (rs := [14]) (by kernel_rfl) (by simp) ?_
                refine AllReadyIn.cons rfl (fun K hK => ?_) ?_
                · go_simp
                  refine hK _ _ ?_
                  clear hK K
                  refine wpAnyIn_done (by kernel_rfl) ?_ _
                  gi_wp2
                  exact ⟨(HR1.out wq hbq).ko.from _, (HR1.out wq hbq).kp, by rw [HV.out, HS.out]; exact HT1.out wq hbq, hB.trans (HR1.out wq hbq).kp.low⟩
                exact AllReadyIn.nil
              exact AllReadyIn.nil
            exact AllReadyIn.nil
          refine AllReadyIn.cons rfl (fun K hK => ?_) ?_
          · go_simp
            refine ⟨trivial, hval.mono ?_⟩
            rintro e wq ⟨rfl, hbq⟩
            have hcO := cell_below hbq hcO
            have hcF := cell_below hbq hcF
            have fs0 := cell_below hbq fs0
            have c6 := cell_below hbq c6
            have c7 := cell_below hbq c7
            have z6 := ZQ.out wq hbq (xn * 10 + 6)
            have z7 := ZQ.out wq hbq (xn * 10 + 7)
            have zF := ZF.out wq hbq
            gi_wp2
            refine wpAnyIn_ready (rs := [0, 9]) (by kernel_rfl) (by simp) ?_
            refine AllReadyIn.cons rfl (fun K hK => ?_) ?_
            · go_simp
              refine hK _ _ ?_
              clear hK K
              refine wpAnyIn_ready (rs := [9]) (by kernel_rfl) (by simp) ?_
              refine AllReadyIn.cons rfl (fun K hK => ?_) ?_
              · go_simp
                refine hK _ _ ?_
                clear hK K
                refine wpAnyIn_take (i := 10) (v := ?_) rfl rfl (by kernel_rfl) (by kernel_rfl) (by kernel_rfl) (fun _ _ _ h => h) ⟨Or.inl ⟨by rfl, ?_⟩, fun _ => rfl⟩ ?_
                rotate_left
                · intro w; go_simp; try with_reducible rfl
                refine wpAnyIn_take (i := 11) (v := ?_) rfl rfl (by kernel_rfl) (by kernel_rfl) (by kernel_rfl) (fun _ _ _ h => h) ⟨Or.inl ⟨by rfl, ?_⟩, fun _ => rfl⟩ ?_
                rotate_left
                · intro w; go_simp; try with_reducible rfl
                refine wpAnyIn_take (i := 12) (v := ?_) rfl rfl (by kernel_rfl) (by kernel_rfl) (by kernel_rfl) (fun _ _ _ h => h) ⟨Or.inl ⟨by rfl, ?_⟩, fun _ => rfl⟩ ?_
                rotate_left
                · intro w; go_simp; try with_reducible rfl
                refine wpAnyIn_take (i := 13) (v := ?_) rfl rfl (by kernel_rfl) (by kernel_rfl) (by kernel_rfl) (fun _ _ _ h => h) ⟨Or.inl ⟨by rfl, ?_⟩, fun _ => rfl⟩ ?_
                rotate_left
                · intro w; go_simp; try with_reducible rfl
                refine wpAnyIn_ready (rs := [14]) (by kernel_rfl) (by simp) ?_
                refine AllReadyIn.cons rfl (fun K hK => ?_) ?_
                · go_simp
                  refine hK _ _ ?_
                  clear hK K
                  refine wpAnyIn_done (by kernel_rfl) ?_ _
                  gi_wp2
                  exact ⟨(HR1.out wq hbq).ko.from _, (HR1.out wq hbq).kp, by rw [HV.out, HS.out]; exact HT1.out wq hbq, hB.trans (HR1.out wq hbq).kp.low⟩
                exact AllReadyIn.nil
              exact AllReadyIn.nil
            refine AllReadyIn.cons rfl (fun K hK => ?_) ?_
            · go_simp
              refine hK _ _ ?_
              clear hK K
              refine wpAnyIn_take (i := 10) (v := ?_) rfl rfl (by kernel_rfl) (by kernel_rfl) (by kernel_rfl) (fun _ _ _ h => h) ⟨Or.inl ⟨by rfl, ?_⟩, fun _ => rfl⟩ ?_
              rotate_left
              · intro w; go_simp; try with_reducible rfl
              refine wpAnyIn_take (i := 11) (v := ?_) rfl rfl (by kernel_rfl) (by kernel_rfl) (by kernel_rfl) (fun _ _ _ h => h) ⟨Or.inl ⟨by rfl, ?_⟩, fun _ => rfl⟩ ?_
              rotate_left
              · intro w; go_simp; try with_reducible rfl
              refine wpAnyIn_ready (rs := [0]) (by kernel_rfl) (by simp) ?_
              refine AllReadyIn.cons rfl (fun K hK => ?_) ?_
              · go_simp
                refine hK _ _ ?_
                clear hK K
                refine wpAnyIn_take (i := 12) (v := ?_) rfl rfl (by kernel_rfl) (by kernel_rfl) (by kernel_rfl) (fun _ _ _ h => h) ⟨Or.inl ⟨by rfl, ?_⟩, fun _ => rfl⟩ ?_
                rotate_left
                · intro w; go_simp; try with_reducible rfl
                refine wpAnyIn_take (i := 13) (v := ?_) rfl rfl (by kernel_rfl) (by kernel_rfl) (by kernel_rfl) (fun _ _ _ h => h) ⟨Or.inl ⟨by rfl, ?_⟩, fun _ => rfl⟩ ?_
                rotate_left
                · intro w; go_simp; try with_reducible rfl
                refine wpAnyIn_ready (rs := [14]) (by kernel_rfl) (by simp) ?_
                refine AllReadyIn.cons rfl (fun K hK => ?_) ?_
                · go_simp
                  refine hK _ _ ?_
                  clear hK K
                  refine wpAnyIn_done (by kernel_rfl) ?_ _
                  gi_wp2
                  exact ⟨(HR1.out wq hbq).ko.from _, (HR1.out wq hbq).kp, by rw [HV.out, HS.out]; exact HT1.out wq hbq, hB.trans (HR1.out wq hbq).kp.low⟩
                exact AllReadyIn.nil
              exact AllReadyIn.nil
            exact AllReadyIn.nil
          refine AllReadyIn.cons rfl (fun K hK => ?_) ?_
          · go_simp
            refine hK _ _ ?_
            clear hK K
            refine wpAnyIn_ready (rs := [0, 8]) (by kernel_rfl) (by simp) ?_
            refine AllReadyIn.cons rfl (fun K hK => ?_) ?_
            · go_simp
              refine hK _ _ ?_
              clear hK K
              refine wpAnyIn_ready (rs := [8]) (by kernel_rfl) (by simp) ?_
              refine AllReadyIn.cons rfl (fun K hK => ?_) ?_
              · go_simp
                refine ⟨trivial, hval.mono ?_⟩
                rintro e wq ⟨rfl, hbq⟩
                have hcO := cell_below hbq hcO
                have hcF := cell_below hbq hcF
                have fs0 := cell_below hbq fs0
                have c6 := cell_below hbq c6
                have c7 := cell_below hbq c7
                have z6 := ZQ.out wq hbq (xn * 10 + 6)
                have z7 := ZQ.out wq hbq (xn * 10 + 7)
                have zF := ZF.out wq hbq
                gi_wp2
                refine wpAnyIn_take (i := 10) (v := ?_) rfl rfl (by kernel_rfl) (by kernel_rfl) (by kernel_rfl) (fun _ _ _ h => h) ⟨Or.inl ⟨by rfl, ?_⟩, fun _ => rfl⟩ ?_
                rotate_left
                · intro w; go_simp; try with_reducible rfl
                refine wpAnyIn_take (i := 11) (v := ?_) rfl rfl (by kernel_rfl) (by kernel_rfl) (by kernel_rfl) (fun _ _ _ h => h) ⟨Or.inl ⟨by rfl, ?_⟩, fun _ => rfl⟩ ?_
                rotate_left
                · intro w; go_simp; try with_reducible rfl
                refine wpAnyIn_take (i := 12) (v := ?_) rfl rfl (by kernel_rfl) (by kernel_rfl) (by kernel_rfl) (fun _ _ _ h => h) ⟨Or.inl ⟨by rfl, ?_⟩, fun _ => rfl⟩ ?_
                rotate_left
                · intro w; go_simp; try with_reducible rfl
                refine wpAnyIn_take (i := 13) (v := ?_) rfl rfl (by kernel_rfl) (by kernel_rfl) (by kernel_rfl) (fun _ _ _ h => h) ⟨Or.inl ⟨by rfl, ?_⟩, fun _ => rfl⟩ ?_
                rotate_left
                · intro w; go_simp; try with_reducible rfl
                refine wpAnyIn_ready (rs := [14]) (by kernel_rfl) (by simp) ?_
                refine AllReadyIn.cons rfl (fun K hK => ?_) ?_
                · go_simp
                  refine hK _ _ ?_
                  clear hK K
                  refine wpAnyIn_done (by kernel_rfl) ?_ _
                  gi_wp2
                  exact ⟨(HR1.out wq hbq).ko.from _, (HR1.out wq hbq).kp, by rw [HV.out, HS.out]; exact HT1.out wq hbq, hB.trans (HR1.out wq hbq).kp.low⟩
                exact AllReadyIn.nil
              exact AllReadyIn.nil
            refine AllReadyIn.cons rfl (fun K hK => ?_) ?_
            · go_simp
              refine ⟨trivial, hval.mono ?_⟩
              rintro e wq ⟨rfl, hbq⟩
              have hcO := cell_below hbq hcO
              have hcF := cell_below hbq hcF
              have fs0 := cell_below hbq fs0
              have c6 := cell_below hbq c6
              have c7 := cell_below hbq c7
              have z6 := ZQ.out wq hbq (xn * 10 + 6)
              have z7 := ZQ.out wq hbq (xn * 10 + 7)
              have zF := ZF.out wq hbq
              gi_wp2
              refine wpAnyIn_take (i := 10) (v := ?_) rfl rfl (by kernel_rfl) (by kernel_rfl) (by kernel_rfl) (fun _ _ _ h => h) ⟨Or.inl ⟨by rfl, ?_⟩, fun _ => rfl⟩ ?_
              rotate_left
              · intro w; go_simp; try with_reducible rfl
              refine wpAnyIn_take (i := 11) (v := ?_) rfl rfl (by kernel_rfl) (by kernel_rfl) (by kernel_rfl) (fun _ _ _ h => h) ⟨Or.inl ⟨by rfl, ?_⟩, fun _ => rfl⟩ ?_
              rotate_left
              · intro w; go_simp; try with_reducible rfl
              refine wpAnyIn_ready (rs := [0]) (by kernel_rfl) (by simp) ?_
              refine AllReadyIn.cons rfl (fun K hK => ?_) ?_
              · go_simp
                refine hK _ _ ?_
                clear hK K
                refine wpAnyIn_take (i := 12) (v := ?_) rfl rfl (by kernel_rfl) (by kernel_rfl) (by kernel_rfl) (fun _ _ _ h => h) ⟨Or.inl ⟨by rfl, ?_⟩, fun _ => rfl⟩ ?_
                rotate_left
                · intro w; go_simp; try with_reducible rfl
                refine wpAnyIn_take (i := 13) (v := ?_) rfl rfl (by kernel_rfl) (by kernel_rfl) (by kernel_rfl) (fun _ _ _ h => h) ⟨Or.inl ⟨by rfl, ?_⟩, fun _ => rfl⟩ ?_
                rotate_left
                · intro w; go_simp; try with_reducible rfl
                refine wpAnyIn_ready (rs := [14]) (by kernel_rfl) (by simp) ?_
                refine AllReadyIn.cons rfl (fun K hK => ?_) ?_
                · go_simp
                  refine hK _ _ ?_
                  clear hK K
                  refine wpAnyIn_done (by kernel_rfl) ?_ _
                  gi_wp2
                  exact ⟨(HR1.out wq hbq).ko.from _, (HR1.out wq hbq).kp, by rw [HV.out, HS.out]; exact HT1.out wq hbq, hB.trans (HR1.out wq hbq).kp.low⟩
                exact AllReadyIn.nil
              exact AllReadyIn.nil
            exact AllReadyIn.nil
          exact AllReadyIn.nil
        refine AllReadyIn.cons rfl (fun K hK => ?_) ?_
        · go_simp
          refine hK _ _ ?_
          clear hK K
          refine wpAnyIn_ready (rs := [0, 6]) (by kernel_rfl) (by simp) ?_
          refine AllReadyIn.cons rfl (fun K hK => ?_) ?_
          · go_simp
            refine hK _ _ ?_
            clear hK K
            refine wpAnyIn_ready (rs := [6]) (by kernel_rfl) (by simp) ?_
            refine AllReadyIn.cons rfl (fun K hK => ?_) ?_
            · go_simp
              refine hK _ _ ?_
              clear hK K
              refine wpAnyIn_ready (rs := [8]) (by kernel_rfl) (by simp) ?_
              refine AllReadyIn.cons rfl (fun K hK => ?_) ?_
              · go_simp
                refine ⟨trivial, hval.mono ?_⟩
                rintro e wq ⟨rfl, hbq⟩
                have hcO := cell_below hbq hcO
                have hcF := cell_below hbq hcF
                have fs0 := cell_below hbq fs0
                have c6 := cell_below hbq c6
                have c7 := cell_below hbq c7
                have z6 := ZQ.out wq hbq (xn * 10 + 6)
                have z7 := ZQ.out wq hbq (xn * 10 + 7)
                have zF := ZF.out wq hbq
                gi_wp2
                refine wpAnyIn_take (i := 10) (v := ?_) rfl rfl (by kernel_rfl) (by kernel_rfl) (by kernel_rfl) (fun _ _ _ h => h) ⟨Or.inl ⟨by rfl, ?_⟩, fun _ => rfl⟩ ?_
                rotate_left
                · intro w; go_simp; try with_reducible rfl
                refine wpAnyIn_take (i := 11) (v := ?_) rfl rfl (by kernel_rfl) (by kernel_rfl) (by kernel_rfl) (fun _ _ _ h => h) ⟨Or.inl ⟨by rfl, ?_⟩, fun _ => rfl⟩ ?_
                rotate_left
                · intro w; go_simp; try with_reducible rfl
                refine wpAnyIn_take (i := 12) (v := ?_) rfl rfl (by kernel_rfl) (by kernel_rfl) (by kernel_rfl) (fun _ _ _ h => h) ⟨Or.inl ⟨by rfl, ?_⟩, fun _ => rfl⟩ ?_
                rotate_left
                · intro w; go_simp; try with_reducible rfl
                refine wpAnyIn_take (i := 13) (v := ?_) rfl rfl (by kernel_rfl) (by kernel_rfl) (by kernel_rfl) (fun _ _ _ h => h) ⟨Or.inl ⟨by rfl, ?_⟩, fun _ => rfl⟩ ?_
                rotate_left
                · intro w; go_simp; try with_reducible rfl
                refine wpAnyIn_ready (rs := [14]) (by kernel_rfl) (by simp) ?_
                refine AllReadyIn.cons rfl (fun K hK => ?_) ?_
                · go_simp
                  refine hK _ _ ?_
                  clear hK K
                  refine wpAnyIn_done (by kernel_rfl) ?_ _
                  gi_wp2
                  exact ⟨(HR1.out wq hbq).ko.from _, (HR1.out wq hbq).kp, by rw [HV.out, HS.out]; exact HT1.out wq hbq, hB.trans (HR1.out wq hbq).kp.low⟩
                exact AllReadyIn.nil
              exact AllReadyIn.nil
            exact AllReadyIn.nil
          refine AllReadyIn.cons rfl (fun K hK => ?_) ?_
          · go_simp
            refine hK _ _ ?_
            clear hK K
            refine wpAnyIn_ready (rs := [0, 8]) (by kernel_rfl) (by simp) ?_
            refine AllReadyIn.cons rfl (fun K hK => ?_) ?_
            · go_simp
              refine hK _ _ ?_
              clear hK K
              refine wpAnyIn_ready (rs := [8]) (by kernel_rfl) (by simp) ?_
              refine AllReadyIn.cons rfl (fun K hK => ?_) ?_
              · go_simp
                refine ⟨trivial, hval.mono ?_⟩
                rintro e wq ⟨rfl, hbq⟩
                have hcO := cell_below hbq hcO
                have hcF := cell_below hbq hcF
                have fs0 := cell_below hbq fs0
                have c6 := cell_below hbq c6
                have c7 := cell_below hbq c7
                have z6 := ZQ.out wq hbq (xn * 10 + 6)
                have z7 := ZQ.out wq hbq (xn * 10 + 7)
                have zF := ZF.out wq hbq
                gi_wp2
                refine wpAnyIn_take (i := 10) (v := ?_) rfl rfl (by kernel_rfl) (by kernel_rfl) (by kernel_rfl) (fun _ _ _ h => h) ⟨Or.inl ⟨by rfl, ?_⟩, fun _ => rfl⟩ ?_
                rotate_left
                · intro w; go_simp; try with_reducible rfl
                refine wpAnyIn_take (i := 11) (v := ?_) rfl rfl (by kernel_rfl) (by kernel_rfl) (by kernel_rfl) (fun _ _ _ h => h) ⟨Or.inl ⟨by rfl, ?_⟩, fun _ => rfl⟩ ?_
                rotate_left
                · intro w; go_simp; try with_reducible rfl
                refine wpAnyIn_take (i := 12) (v := ?_) rfl rfl (by kernel_rfl) (by kernel_rfl) (by kernel_rfl) (fun _ _ _ h => h) ⟨Or.inl ⟨by rfl, ?_⟩, fun _ => rfl⟩ ?_
                rotate_left
                · intro w; go_simp; try with_reducible rfl
                refine wpAnyIn_take (i := 13) (v := ?_) rfl rfl (by kernel_rfl) (by kernel_rfl) (by kernel_rfl) (fun _ _ _ h => h) ⟨Or.inl ⟨by rfl, ?_⟩, fun _ => rfl⟩ ?_
                rotate_left
                · intro w; go_simp; try with_reducible rfl
                refine wpAnyIn_ready (rs := [14]) (by kernel_rfl) (by simp) ?_
                refine AllReadyIn.cons rfl (fun K hK => ?_) ?_
                · go_simp
                  refine hK _ _ ?_
                  clear hK K
                  refine wpAnyIn_done (by kernel_rfl) ?_ _
                  gi_wp2
                  exact ⟨(HR1.out wq hbq).ko.from _, (HR1.out wq hbq).kp, by rw [HV.out, HS.out]; exact HT1.out wq hbq, hB.trans (HR1.out wq hbq).kp.low⟩
                exact AllReadyIn.nil
              exact AllReadyIn.nil
            refine AllReadyIn.cons rfl (fun K hK => ?_) ?_
            · go_simp
              refine ⟨trivial, hval.mono ?_⟩
              rintro e wq ⟨rfl, hbq⟩
              have hcO := cell_below hbq hcO
              have hcF := cell_below hbq hcF
              have fs0 := cell_below hbq fs0
              have c6 := cell_below hbq c6
              have c7 := cell_below hbq c7
              have z6 := ZQ.out wq hbq (xn * 10 + 6)
              have z7 := ZQ.out wq hbq (xn * 10 + 7)
              have zF := ZF.out wq hbq
              gi_wp2
              refine wpAnyIn_take (i := 10) (v := ?_) rfl rfl (by kernel_rfl) (by kernel_rfl) (by kernel_rfl) (fun _ _ _ h => h) ⟨Or.inl ⟨by rfl, ?_⟩, fun _ => rfl⟩ ?_
              rotate_left
              · intro w; go_simp; try with_reducible rfl
              refine wpAnyIn_take (i := 11) (v := ?_) rfl rfl (by kernel_rfl) (by kernel_rfl) (by kernel_rfl) (fun _ _ _ h => h) ⟨Or.inl ⟨by rfl, ?_⟩, fun _ => rfl⟩ ?_
              rotate_left
              · intro w; go_simp; try with_reducible rfl
              refine wpAnyIn_ready (rs := [0]) (by kernel_rfl) (by simp) ?_
              refine AllReadyIn.cons rfl (fun K hK => ?_) ?_
              · go_simp
                refine hK _ _ ?_
                clear hK K
                refine wpAnyIn_take (i := 12) (v := ?_) rfl rfl (by kernel_rfl) (by kernel_rfl) (by kernel_rfl) (fun _ _ _ h => h) ⟨Or.inl ⟨by rfl, ?_⟩, fun _ => rfl⟩ ?_
                rotate_left
                · intro w; go_simp; try with_reducible rfl
                refine wpAnyIn_take (i := 13) (v := ?_) rfl rfl (by kernel_rfl) (by kernel_rfl) (by kernel_rfl) (fun _ _ _ h => h) ⟨Or.inl ⟨by rfl, ?_⟩, fun _ => rfl⟩ ?_
                rotate_left
                · intro w; go_simp; try with_reducible rfl
                refine wpAnyIn_ready (rs := [14]) (by kernel_rfl) (by simp) ?_
                refine AllReadyIn.cons rfl (fun K hK => ?_) ?_
                · go_simp
                  refine hK _ _ ?_
                  clear hK K
                  refine wpAnyIn_done (by kernel_rfl) ?_ _
                  gi_wp2
                  exact ⟨(HR1.out wq hbq).ko.from _, (HR1.out wq hbq).kp, by rw [HV.out, HS.out]; exact HT1.out wq hbq, hB.trans (HR1.out wq hbq).kp.low⟩
                exact AllReadyIn.nil
              exact AllReadyIn.nil
            exact AllReadyIn.nil
          exact AllReadyIn.nil
        exact AllReadyIn.nil
      exact AllReadyIn.nil
  case done =>
    rintro D ys W hD hys ⟨hst, hB⟩ hK
    rw [hys] at hst
    have hcO := hst.b0.cell
    have HO9 := Lib.hid hst.own
    clear hst
    gi_wp2
    refine ⟨by simp, .inl ⟨_, _, rfl, run_takeDeferred hK, ?_⟩⟩
    refine ⟨_, results_tmp rfl _ _ _, _, fs, rfl, (HO9.out.keptO (grownBy_putObj' W D _) (fun r e => by cases e; exact ⟨_, hK, rfl⟩)).lower hz1, ?_⟩
    exact hb01.trans ((hb17.mono hz1).trans ((hb78.mono (by omega)).trans ((hB.mono hz1).trans (belowK_b (w := w) (Nat.le_refl _) W D _ _ (by omega) hK rfl rfl))))
end Go.Proofs.YtoajgfhcongocaaGreatDoor.doc

namespace Go.Proofs.YtoajgfhcongocaaGreatDoor.doc
open Go.ChangeShapes Go.WideShapes Go.ChangeAt Go.RowKit Go.Lib Go.Proofs.YtoajgfhcongocaaGreatDoor.atr Go.Proofs.YtoajgfhcongocaaGreatDoor.link Go.Proofs.YtoajgfhcongocaaGreatDoor.ctl

set_option maxHeartbeats 3200000 in
set_option maxRecDepth 100000 in
theorem write_any (vn vc : Value) (l : List Nd) (cs : List Ctl) (k : Int) (s : List UInt8) (w : World) (hD : DocAt w vn vc l cs) :
    Calls Tryz.prog 34 #[.agg #[vn, vc], .int .i64 k, .string ⟨s.toArray⟩] w (RetS (writeP l cs k s) w) := by
  have HX : Hid (writeP l cs k s = if docR l cs then (if isP l k 23 then mapOn (writeG (pickT l (optsP l k) s)) cs (optsP l k) else cs) else []) := Lib.hid rfl
  by_cases hb : docR l cs = true ∧ isP l k 23 = true
  · obtain ⟨hq, hi⟩ := hb
    rw [HX.out, if_pos hq, if_pos hi]
    obtain ⟨hin, _, _⟩ := (isP_iff l k 23).1 hi
    obtain ⟨hlc, hR⟩ := (docR_iff l cs).1 hq
    obtain ⟨sel, rfl⟩ : ∃ sel : Nat, k = (sel : Int) := ⟨k.toNat, by have := hin.1; omega⟩
    have hos := osFine (right_rt l hR) cs hlc (sel : Int) hin
    have h := write_loop vn vc l cs s w hD hq sel hi
    rw [runW_is l s cs _ hos.nodup hos.low] at h
    exact h
  obtain ⟨oa, ca, rfl⟩ := NodesAt.lenN hD.nodes
  obtain ⟨oc, cc, rfl⟩ := CtlsAt.lenN hD.ctls
  obtain ⟨wA, hwA⟩ : ∃ wA, wA = (w.alloc (.cells #[.slice oa l.length ca, .slice oc cs.length cc] 25)).alloc (.cells #[.string ⟨s.toArray⟩] 9) := ⟨_, rfl⟩
  have hB1 : Below w.heap.size w wA := by rw [hwA]; exact ((Below.refl _ w).alloc (Nat.le_refl _) _).alloc (by simp) _
  have hf01 : wA.cell? ⟨w.heap.size, 0, none⟩ = some (.slice oa l.length ca) ∧ wA.cell? ⟨w.heap.size, 1, none⟩ = some (.slice oc cs.length cc) := by
    rw [hwA]
    have hx := (Below.refl (w.alloc (.cells #[.slice oa l.length ca, .slice oc cs.length cc] 25)).heap.size (w.alloc (.cells #[.slice oa l.length ca, .slice oc cs.length cc] 25))).alloc (Nat.le_refl _) (.cells #[.string ⟨s.toArray⟩] 9)
    exact ⟨cell_below hx (World.cell?_alloc_new w _ _ 0), cell_below hx (World.cell?_alloc_new w _ _ 1)⟩
  obtain ⟨f0, f1⟩ := hf01
  have hr := docright_any (.slice oa l.length ca) l hD.fine oc cs.length cc wA (hD.nodes.below hB1)
  rw [show (decide (l.length = cs.length) && rightB l) = docR l cs from rfl] at hr
  cases hq : docR l cs
  · rw [hq] at hr
    have HE : Hid (writeP l cs k s = []) := Lib.hid (by rw [HX.out, if_neg (by rw [hq]; simp)])
    rw [HE.out]
    clear hD hq HX f0 f1 hb
    subst hwA
    go_enter Tryz.func34, Tryz.ntmps34
    go_wp2_with fail
    refine hr.mono ?_
    rintro e w1 ⟨rfl, hb1⟩
    go_wp2_with fail
    go_ret
    exact ⟨_, [], rfl, OwnC.nil _ _, below_trans hB1 hb1⟩
  · rw [hq] at hr
    have hi : isP l k 23 = false := by
      cases h : isP l k 23
      · rfl
      · exact absurd ⟨hq, h⟩ hb
    have HE : Hid (writeP l cs k s = cs) := Lib.hid (by rw [HX.out, if_pos hq, if_neg (by rw [hi]; simp)])
    rw [HE.out]
    have HC := Lib.hid (fun w' h => copiedC_any (.slice oc cs.length cc) cs hD.cb hD.fb w' (hD.ctls.below (w' := w') h))
    have HI := Lib.hid (fun w' h => is_any (.slice oa l.length ca) l k 23 hD.fine w' (hD.nodes.below (w' := w') h))
    rw [hi] at HI
    clear hD hq HX hb hi
    subst hwA
    go_enter Tryz.func34, Tryz.ntmps34
    go_wp2_with fail
    refine hr.mono ?_
    rintro e w1 ⟨rfl, hb1⟩
    have f0 := cell_below hb1 f0
    have f1 := cell_below hb1 f1
    have hb01 := below_trans hB1 hb1
    go_wp2_with fail
    refine (HC.out w1 hb01).mono ?_
    rintro e w2 ⟨v', fs, rfl, ho2, hb2⟩
    have f0 := cell_below hb2 f0
    have HO2 := Lib.hid ho2
    obtain ⟨o2, c2, rfl⟩ := CtlsAt.lenN ho2.at
    clear ho2
    have hb3 : Below w2.heap.size w2 (w2.alloc (.cells #[.slice o2 cs.length c2] 23)) := (Below.refl _ _).alloc (Nat.le_refl _) _
    have b9 := World.cell?_alloc_new w2 #[.slice o2 cs.length c2] 23 0
    have f0 := cell_below hb3 f0
    have hb03 := below_trans (below_trans hb01 hb2) hb3
    have hi3 := HI.out _ hb03
    go_wp2_with fail
    refine hi3.mono ?_
    rintro e w4 ⟨rfl, hb4⟩
    have b9 := cell_below hb4 b9
    go_wp2_with fail
    go_ret
    exact ⟨_, fs, rfl, (HO2.out.below (below_trans hb3 hb4)).lower hb01.size, below_trans hb03 hb4⟩
end Go.Proofs.YtoajgfhcongocaaGreatDoor.doc
