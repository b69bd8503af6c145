/- A part of the proofs: lemmas and contracts. -/
import Derived.StillTailTactics
import Derived.Test.YtkhlfggnjcbniaaGreatDoorP28
import Derived.Test.YtkhlfggnjcbniaaGreatDoorP29
set_option maxHeartbeats 12800000
set_option maxRecDepth 1000000
namespace Go.Proofs.YtkhlfggnjcbniaaGreatDoor.doc
open Go.ChangeShapes Go.WideShapes Go.ChangeAt Go.RowKit Go.Lib atr link ctl stp

def thereP (l : List Nd) (cs : List Ctl) (k : Int) : Bool := decide (0 ≤ k) && decide (k < (l.length : Int)) && docR l cs
theorem there_iff (l : List Nd) (cs : List Ctl) (k : Int) : thereP l cs k = true ↔ inR l k ∧ l.length = cs.length ∧ rightB l = true := by
 unfold thereP inR
 rw [Bool.and_eq_true, Bool.and_eq_true, decide_eq_true_eq, decide_eq_true_eq, docR_iff]
def valV (l : List Nd) (cs : List Ctl) (k : Int) : List UInt8 := if kN l k = 23 then ValueP l cs k else ctl.valueP (kN l k) (ct cs k).value (ct cs k).files (nd l k).attrs
theorem node_fine {l : List Nd} (h : rightB l = true) (k : Nat) (hk : k < l.length) : aloneP (nd l (k : Int)) = true := by
 unfold rightB at h
 rw [Bool.and_eq_true, Bool.and_eq_true] at h
 have := List.all_eq_true.1 h.1.2 k (List.mem_range.2 hk)
 unfold nodeB at this
 simp only [Bool.and_eq_true] at this
 exact this.1.1.1
theorem atA_get (a : List Attr) (i : Nat) (h : i < a.length) : atA a i = a[i] := by
 unfold atA
 rw [List.getD_eq_getElem?_getD, List.getElem?_eq_getElem h]; rfl
theorem attrs_fine {l : List Nd} (h : rightB l = true) (k : Nat) (hk : k < l.length) : (nd l (k : Int)).attrs.length ≤ 40 ∧ ∀ x ∈ (nd l (k : Int)).attrs, x.2.length ≤ 4000 := by
 have := node_fine h k hk
 unfold aloneP at this
 split at this
 ·simp only [Bool.and_eq_true, decide_eq_true_eq, List.isEmpty_iff] at this
  have e := this.1.1
  rw [e]
  exact ⟨by decide, fun x hx => (by cases hx)⟩
 ·simp only [Bool.and_eq_true, decide_eq_true_eq] at this
  refine ⟨this.1.2, fun x hx => ?_⟩
  obtain ⟨i, hi, rfl⟩ := List.mem_iff_getElem.1 hx
  have g := List.all_eq_true.1 this.2 i (List.mem_range.2 hi)
  unfold attrB1 at g
  simp only [Bool.and_eq_true, decide_eq_true_eq] at g
  rw [← atA_get _ _ hi]
  exact g.1.2
theorem fine_of {l : List Nd} (h : rightB l = true) (k : Nat) (hk : k < l.length) : Fine (nd l (k : Int)).attrs := by
 obtain ⟨h1, h2⟩ := attrs_fine h k hk
 exact ⟨by omega, fun a ha => by have := h2 a ha; omega⟩
theorem ct_get (cs : List Ctl) (k : Nat) (h : k < cs.length) : ct cs (k : Int) = cs[k] := by
 unfold ct
 rw [List.getD_eq_getElem?_getD, Int.toNat_natCast, List.getElem?_eq_getElem h]; rfl
theorem there_any (vn vc : Value) (l : List Nd) (cs : List Ctl) (k : Int) (w : World) (hD : DocAt w vn vc l cs) :
  Calls Tryz.prog 36 #[.agg #[vn, vc], .int .i64 k] w fun e w' => e = .returned (.bool (thereP l cs k)) ∧ Below w.heap.size w w' := by
 have hlen := hD.fine.len
 obtain ⟨oa, ca, rfl⟩ := NodesAt.lenN hD.nodes
 obtain ⟨oc, cc, rfl⟩ := CtlsAt.lenN hD.ctls
 have hB1 : Below w.heap.size w (w.alloc (.cells #[.slice oa l.length ca, .slice oc cs.length cc] 28)) := (Below.refl _ w).alloc (Nat.le_refl _) _
 have hr := docright_any (.slice oa l.length ca) l hD.fine oc cs.length cc _ (hD.nodes.below hB1)
 rw [show (decide (l.length = cs.length) && rightB l) = docR l cs from rfl] at hr
 have HX : Hid (thereP l cs k = (decide (0 ≤ k) && decide (k < (l.length : Int)) && docR l cs)) := Lib.hid rfl
 generalize thereP l cs k = res at *
 generalize docR l cs = q at *
 clear hD
 by_cases g1 : 0 ≤ k
 ·by_cases g2 : k < (l.length : Int)
  ·have HX2 : Hid (res = q) := Lib.hid (by rw [HX.out, decide_eq_true g1, decide_eq_true g2]; rfl)
   clear HX
   go_enter Tryz.func36, Tryz.ntmps36
   go_wp2_with fail
   refine hr.mono ?_
   rintro e w' ⟨rfl, hb⟩
   go_wp2_with fail
   go_ret
   exact ⟨ret_bool HX2.out.symm, below_trans hB1 hb⟩
  ·have HX2 : Hid (res = false) := Lib.hid (by rw [HX.out, decide_eq_false g2]; simp)
   clear HX hr
   go_enter Tryz.func36, Tryz.ntmps36
   go_wp2_with fail
   go_ret
   exact ⟨ret_bool HX2.out.symm, hB1⟩
 ·have HX2 : Hid (res = false) := Lib.hid (by rw [HX.out, decide_eq_false g1]; rfl)
  clear HX hr
  go_enter Tryz.func36, Tryz.ntmps36
  go_wp2_with fail
  go_ret
  exact ⟨ret_bool HX2.out.symm, hB1⟩
def CtlsOk (cs : List Ctl) : Prop := ∀ c ∈ cs, ∀ x ∈ c.files, x.fname.length ≤ 140737488351232
theorem doc_cells (w : World) (oa oc : Option Addr) (n ca m cc : Nat) (T : TypeId) : (w.alloc (.cells #[.slice oa n ca, .slice oc m cc] T)).cell? ⟨w.heap.size, 0, none⟩ = some (.slice oa n ca) ∧ (w.alloc (.cells #[.slice oa n ca, .slice oc m cc] T)).cell? ⟨w.heap.size, 1, none⟩ = some (.slice oc m cc) :=
 ⟨World.cell?_alloc_new w _ _ 0, World.cell?_alloc_new w _ _ 1⟩
theorem vvalue_gen (vn vc : Value) (l : List Nd) (cs : List Ctl) (hC : CtlsOk cs) (k : Nat) (hk : k < l.length) (hq : docR l cs = true) (w : World) (hD : DocAt w vn vc l cs)
  (HS : kN l (k : Int) = 23 → ∀ w', Below w.heap.size w w' → Calls Tryz.prog 80 #[.agg #[vn, vc], .int .i64 k] w' fun e w'' => e = .returned (.string ⟨(ValueP l cs (k : Int)).toArray⟩) ∧ Below w'.heap.size w' w'') :
  Calls Tryz.prog 37 #[.agg #[vn, vc], .int .i64 k] w fun e w' => e = .returned (.string ⟨(valV l cs (k : Int)).toArray⟩) ∧ Below w.heap.size w w' := by
 obtain ⟨hlc, hR⟩ := (docR_iff l cs).1 hq
 have hlen := hD.fine.len
 have hkc : k < cs.length := by omega
 have HSel := Lib.hid HS
 clear HS
 have HDoc := Lib.hid hD
 obtain ⟨b, off, cap, rfl, hb⟩ := nodes_addr hD.nodes (by omega)
 obtain ⟨cb, coff, ccap, f, rfl, hcb, hct0⟩ := ctls_get hD.ctls k hkc
 have HC0 := Lib.hid hct0
 have HFin := Lib.hid (fine_of hR k hk)
 have HOf := Lib.hid (fun w' va vk h1 h2 => of_any (nd l (k : Int)) va vk (hD.fine.nd _ (by omega) (by omega)) w' h1 h2)
 have HK : Hid (kindP (nd l (k : Int)).name (nd l (k : Int)).attrs = kN l (k : Int)) := Lib.hid rfl
 rw [HK.out] at HOf
 have HV : Hid (valV l cs (k : Int) = if kN l (k : Int) = 23 then ValueP l cs (k : Int) else ctl.valueP (kN l (k : Int)) (ct cs (k : Int)).value (ct cs (k : Int)).files (nd l (k : Int)).attrs) := Lib.hid rfl
 have HCt : Hid (ct cs (k : Int) = cs[k]) := Lib.hid (ct_get cs k hkc)
 have HFn := Lib.hid (hC cs[k] (List.getElem_mem hkc))
 obtain ⟨va, vk, hn0⟩ := nodes_get hD.nodes k hk
 have HN0 := Lib.hid hn0
 obtain ⟨aa, ac, rfl⟩ := AttrsAt.lenN hn0.attrs
 obtain ⟨ka, kc, rfl⟩ := RowAt.lenN hn0.kids
 obtain ⟨n0, n1, n2, n3, n4, _, _, _⟩ := hn0
 obtain ⟨res, hres⟩ : ∃ r, r = valV l cs (k : Int) := ⟨_, rfl⟩
 rw [← hres] at HV ⊢
 generalize kN l (k : Int) = kd at *
 generalize hnn : nd l (k : Int) = n at *
 clear hres hq hR hnn HK hD hct0 hlc
 obtain ⟨wA, hwA⟩ : ∃ wA, wA = (w.alloc (.cells #[.slice (some ⟨b, off, none⟩) l.length cap, .slice (some ⟨cb, coff, none⟩) cs.length ccap] 28)).alloc (.cells #[.string ⟨n.name.toArray⟩, .string ⟨n.text.toArray⟩, .slice aa n.attrs.length ac, .int .i64 n.parent, .slice ka n.kids.length kc] 41) := ⟨_, rfl⟩
 have hBA : Below w.heap.size w wA := by rw [hwA]; exact ((Below.refl _ w).alloc (Nat.le_refl _) _).alloc (by simp) _
 have f0 : wA.cell? ⟨w.heap.size, 0, none⟩ = some (.slice (some ⟨b, off, none⟩) l.length cap) := by
  rw [hwA, World.cell?_alloc_lt _ _ _ (by simp)]; exact (doc_cells w _ _ _ _ _ _ _).1
 have f1 : wA.cell? ⟨w.heap.size, 1, none⟩ = some (.slice (some ⟨cb, coff, none⟩) cs.length ccap) := by
  rw [hwA, World.cell?_alloc_lt _ _ _ (by simp)]; exact (doc_cells w _ _ _ _ _ _ _).2
 have hg : ∀ j, wA.cell? ⟨w.heap.size + 1, j, none⟩ = [Value.string ⟨n.name.toArray⟩, .string ⟨n.text.toArray⟩, .slice aa n.attrs.length ac, .int .i64 n.parent, .slice ka n.kids.length kc][j]? := by
  intro j
  have := World.cell?_alloc_new (w.alloc (.cells #[.slice (some ⟨b, off, none⟩) l.length cap, .slice (some ⟨cb, coff, none⟩) cs.length ccap] 28)) #[.string ⟨n.name.toArray⟩, .string ⟨n.text.toArray⟩, .slice aa n.attrs.length ac, .int .i64 n.parent, .slice ka n.kids.length kc] 41 j
  rw [World.size_alloc] at this
  rw [hwA, this]; simp
 have e0 := hg 0
 have e1 := hg 1
 have e2 := hg 2
 have e3 := hg 3
 have e4 := hg 4
 dsimp only [List.getElem?_cons_zero, List.getElem?_cons_succ] at e0 e1 e2 e3 e4
 have hof := HOf.out wA (.slice aa n.attrs.length ac) (.slice ka n.kids.length kc) (HN0.out.attrs.below hBA) (HN0.out.kids.below hBA)
 unfold nodeV at hof
 clear hg
 go_enter Tryz.func37, Tryz.ntmps37
 go_wp2_with fail
 rw [← hwA]
 clear hwA n0 n1 n2 n3 n4
 refine hof.mono ?_
 rintro e w1 ⟨rfl, hb1⟩
 have f0 := cell_below hb1 f0
 have f1 := cell_below hb1 f1
 have e2 := cell_below hb1 e2
 have hB1 := below_trans hBA hb1
 clear hof e0 e1 e3 e4
 by_cases g23 : kd = 23
 ·have gb : (kd != 23) = false := by simp [g23]
  have HX : Hid (res = ValueP l cs (k : Int)) := Lib.hid (by rw [HV.out, if_pos g23])
  have hs := HSel.out g23 w1 hB1
  rw [← HX.out] at hs
  clear HV HX g23
  go_wp2_with fail
  refine hs.mono ?_
  rintro e w2 ⟨rfl, hb2⟩
  go_wp2_with fail
  go_ret
  exact ⟨rfl, below_trans hB1 hb2⟩
 have gb : (kd != 23) = true := by simpa using g23
 have hct := HC0.out.below hB1
 have HX : Hid (res = ctl.valueP kd cs[k].value cs[k].files n.attrs) := Lib.hid (by rw [HV.out, if_neg g23, HCt.out])
 have HVal := Lib.hid (fun w' (h : Below w.heap.size w w') => Value_any kd cs[k].value cs[k].dirty cs[k].typed cs[k].checked cs[k].dchecked cs[k].mixed cs[k].selected cs[k].dselected cs[k].custom f (HC0.out.below h).files.isSl (.slice aa n.attrs.length ac) n.attrs HFin.out cs[k].files (fun x hx => by have := HFn.out x hx; omega) w' (HN0.out.attrs.below h) (HC0.out.below h).files)
 rw [← HX.out] at HVal
 obtain ⟨fa, fn, fc, rfl⟩ := hct.files.isSl
 have a0 := hct.cells 0 _ rfl
 have a1 := hct.cells 1 _ rfl
 have a2 := hct.cells 2 _ rfl
 have a3 := hct.cells 3 _ rfl
 have a4 := hct.cells 4 _ rfl
 have a5 := hct.cells 5 _ rfl
 have a6 := hct.cells 6 _ rfl
 have a7 := hct.cells 7 _ rfl
 have a8 := hct.cells 8 _ rfl
 have a9 := hct.cells 9 _ rfl
 have hkc' : (k : Int) < (cs.length : Int) := by omega
 have h0 : (0 : Int) ≤ (k : Int) := by omega
 clear HV HX g23 hct HC0 HSel HCt HFn HDoc HFin HN0 HOf
 generalize cs[k] = x at *
 obtain ⟨v, d, t, ch, dc, m, s, ds, cu, fs⟩ := x
 dsimp only [Nat.add_zero] at a0 a1 a2 a3 a4 a5 a6 a7 a8 a9 HVal
 unfold ctlV at HVal
 go_wp2_with fail
 go_still_tail 8, (by kernel_rfl)
 change wpList _ _ _ _ _ w1.drew
 have hbd := hB1.drew
 generalize w1.drew = wd at *
 have hv := HVal.out wd hbd
 clear HVal a0 a1 a2 a3 a4 a5 a6 a7 a8 a9
 go_wp2_with fail
 refine hv.mono ?_
 rintro e w2 ⟨rfl, hb2⟩
 go_wp2_with fail
 go_ret
 exact ⟨rfl, below_trans hbd hb2⟩
theorem vvalue_any (vn vc : Value) (l : List Nd) (cs : List Ctl) (hC : CtlsOk cs) (k : Nat) (hk : k < l.length) (hq : docR l cs = true) (w : World) (hD : DocAt w vn vc l cs) :
  Calls Tryz.prog 37 #[.agg #[vn, vc], .int .i64 k] w fun e w' => e = .returned (.string ⟨(valV l cs (k : Int)).toArray⟩) ∧ Below w.heap.size w w' :=
 vvalue_gen vn vc l cs hC k hk hq w hD (fun _ w' h => selvalue_any vn vc l cs (k : Int) w' (hD.below h))
def VHas (vn vc : Value) (l : List Nd) (cs : List Ctl) (k : Nat) (w : World) : Prop := ∀ w', Below w.heap.size w w' → Calls Tryz.prog 37 #[.agg #[vn, vc], .int .i64 k] w' fun e w'' => e = .returned (.string ⟨(valV l cs (k : Int)).toArray⟩) ∧ Below w'.heap.size w' w''
theorem vhas_one (vn vc : Value) (l : List Nd) (cs : List Ctl) (hC : CtlsOk cs) (k : Nat) (hk : k < l.length) (hq : docR l cs = true) (w : World) (hD : DocAt w vn vc l cs) (hkd : kN l (k : Int) ≠ 23) : VHas vn vc l cs k w :=
 fun w' h => vvalue_gen vn vc l cs hC k hk hq w' (hD.below h) (fun g => absurd g hkd)
theorem vhas_all (vn vc : Value) (l : List Nd) (cs : List Ctl) (hC : CtlsOk cs) (k : Nat) (hk : k < l.length) (hq : docR l cs = true) (w : World) (hD : DocAt w vn vc l cs) : VHas vn vc l cs k w :=
 fun w' h => vvalue_any vn vc l cs hC k hk hq w' (hD.below h)
end Go.Proofs.YtkhlfggnjcbniaaGreatDoor.doc
namespace Go.Proofs.YtkhlfggnjcbniaaGreatDoor.doc
open Go.ChangeShapes Go.WideShapes Go.ChangeAt Go.RowKit Go.Lib atr link ctl

theorem vaS_len (kind : Int) (v : List UInt8) (fs : List Ent) (a : List Attr) (hv : v.length ≤ 4000) (ha : (attrS nValue a).length ≤ 4000) (hf : ∀ x ∈ fs, x.fname.length ≤ 140737488351232) : (ctl.valueP kind v fs a).length ≤ 140737488355328 ∧ (kind ≠ 18 → (ctl.valueP kind v fs a).length ≤ 1000000) := by
 unfold ctl.valueP
 split
 ·exact ⟨by omega, fun _ => by omega⟩
 split
 ·split
  ·exact ⟨by omega, fun _ => by omega⟩
  ·exact ⟨by decide, fun _ => by decide⟩
 split
 ·exact ⟨by omega, fun _ => by omega⟩
 split
 ·rename_i h
  have h18 : kind = 18 := by unfold modeP at h; split at h <;> try omega
  refine ⟨?_, fun g => absurd h18 g⟩
  cases fs with
  | nil => decide
  | cons f r =>
   have := hf f List.mem_cons_self
   show (fakeT ++ f.fname).length ≤ _
   rw [List.length_append]
   have e : fakeT.length = 12 := rfl
   omega
 ·exact ⟨by decide, fun _ => by decide⟩
theorem colS_len : ∀ (s out : List UInt8) (a : Bool), (colS out a s).length ≤ out.length + 2 * s.length
 | [], out, a => by unfold colS; omega
 | c :: r, out, a => by
  unfold colS
  split
  ·have := colS_len r out (decide (0 < out.length))
   rw [List.length_cons]; omega
  ·have := colS_len r (out ++ (if a then [32] else []) ++ [c]) false
   have h : (if a = true then ([32] : List UInt8) else []).length ≤ 1 := by cases a <;> decide
   rw [List.length_append, List.length_append, List.length_singleton] at this
   rw [List.length_cons]; omega
theorem text_small {l : List Nd} (h : rightB l = true) (k : Int) (hk : inR l k) : (nd l k).text.length ≤ 4000 := by
 have h1 := hk.1
 have h2 := hk.2
 have hf := node_fine h k.toNat (by omega)
 rw [show ((k.toNat : Nat) : Int) = k by omega] at hf
 unfold aloneP at hf
 split at hf
 ·rw [Bool.and_eq_true] at hf
  exact of_decide_eq_true hf.2
 ·simp only [Bool.and_eq_true] at hf
  have : (nd l k).text = [] := List.isEmpty_iff.1 hf.1.1.2
  rw [this]; decide
theorem flat_small (f : Int → List UInt8) (n : Nat) : ∀ ks : List Int, (∀ x ∈ ks, (f x).length ≤ n) → (ks.flatMap f).length ≤ ks.length * n
 | [], _ => Nat.zero_le _
 | x :: r, h => by
  have h1 := h x List.mem_cons_self
  have h2 := flat_small f n r (fun y hy => h y (List.mem_cons_of_mem _ hy))
  rw [List.flatMap_cons, List.length_append, List.length_cons, Nat.add_mul, Nat.one_mul]
  omega
theorem kid_in {l : List Nd} (h : rightB l = true) (k : Int) (hk : inR l k) : ∀ x ∈ (nd l k).kids, inR l x := by
 intro x hx
 have h1 := hk.1
 have h2 := hk.2
 unfold rightB nodesB at h
 rw [Bool.and_eq_true, Bool.and_eq_true] at h
 have hn := List.all_eq_true.1 h.1.2 k.toNat (List.mem_range.2 (by omega))
 rw [show ((k.toNat : Nat) : Int) = k by omega] at hn
 unfold nodeB kidsB at hn
 rw [Bool.and_eq_true] at hn
 have := List.all_eq_true.1 hn.2 x hx
 unfold kidB at this
 simp only [Bool.and_eq_true, decide_eq_true_eq] at this
 exact this.1
theorem value_small {l : List Nd} (h : rightB l = true) (k : Int) (hk : inR l k) : (valueP l k).length ≤ 4000000 := by
 unfold valueP
 split
 ·rename_i s hs
  have h1 := hk.1
  have h2 := hk.2
  have hf := attrs_fine h k.toNat (by omega)
  rw [show ((k.toNat : Nat) : Int) = k by omega] at hf
  obtain ⟨x, hx, e⟩ := stp.fval_mem _ _ _ hs
  have := hf.2 x hx
  rw [e] at this
  omega
 ·have hk4 := kids_le l (right_rt l h) k hk
  have ht := text_small h k hk
  have hfl := flat_small (fun x => (nd l x).text) 4000 (nd l k).kids (fun x hx => text_small h x (kid_in h k hk x hx))
  have hc := colS_len (textP l k) [] false
  have hm : (nd l k).kids.length * 4000 ≤ 400 * 4000 := Nat.mul_le_mul_right _ hk4
  unfold textP at hc
  rw [List.length_append] at hc
  show (colS [] false (textP l k)).length ≤ _
  unfold textP
  have e : ([] : List UInt8).length = 0 := rfl
  omega
theorem selvalue_small {l : List Nd} {cs : List Ctl} {sel : Int} : (ValueP l cs sel).length ≤ 4000000 := by
 unfold ValueP
 split
 ·rename_i h
  unfold selValue
  cases hf : firstSel cs (optsP l sel) with
  | none => exact Nat.zero_le _
  | some o =>
   unfold firstSel at hf
   have hm := List.mem_of_find?_eq_some hf
   obtain ⟨hin, _, _⟩ := (isP_iff l sel 23).1 h.2
   have hR := ((docR_iff l cs).1 h.1).2
   exact value_small hR o (opts_mem (right_rt l hR) sel hin o hm).1
 ·exact Nat.zero_le _
theorem vaP_small (kind : Int) (v : List UInt8) (fs : List Ent) (a : List Attr) (hv : v.length ≤ 4000) (ha : (attrS nValue a).length ≤ 4000) (h18 : kind ≠ 18) : (ctl.valueP kind v fs a).length ≤ 4000 := by
 unfold ctl.valueP
 split
 ·omega
 split
 ·split
  ·omega
  ·decide
 split
 ·omega
 split
 ·rename_i h
  exact absurd (by unfold modeP at h; split at h <;> try omega) h18
 ·decide
theorem valV_small {l : List Nd} {cs : List Ctl} (hq : docR l cs = true) (k : Nat) (hk : k < l.length) (hv : (ct cs (k : Int)).value.length ≤ 4000) (hf : ∀ x ∈ (ct cs (k : Int)).files, x.fname.length ≤ 140737488351232) :
  (valV l cs (k : Int)).length ≤ 140737488355328 ∧ (kN l (k : Int) ≠ 18 → kN l (k : Int) ≠ 23 → (valV l cs (k : Int)).length ≤ 4000) := by
 have hR := ((docR_iff l cs).1 hq).2
 have ha : (attrS nValue (nd l (k : Int)).attrs).length ≤ 4000 := by
  unfold attrS
  cases hx : fval nValue (nd l (k : Int)).attrs with
  | none => exact Nat.zero_le _
  | some s =>
   obtain ⟨x, hx, e⟩ := stp.fval_mem _ _ _ hx
   have := (attrs_fine hR k hk).2 x hx
   rw [e] at this
   exact this
 unfold valV
 split
 ·rename_i g
  have := @selvalue_small l cs (k : Int)
  exact ⟨by omega, fun _ g2 => absurd g g2⟩
 ·exact ⟨(vaS_len _ _ _ _ hv ha hf).1, fun g _ => vaP_small _ _ _ _ hv ha g⟩

theorem wraps_i64s (n : Int) (h₀ : 0 ≤ n) (h₁ : n < 2 ^ 16) : IntKind.i64.wrap n = n := by rw [IntKind.wrap_i64]; omega
theorem or_bit (n i : Nat) (hi : i ≤ 9) (hn : n < 2 ^ i) : bits .or .i64 (n : Int) ((2 ^ i : Nat) : Int) = ((n + 2 ^ i : Nat) : Int) := by
 have hp : 2 ^ i < 2 ^ 16 := Nat.pow_lt_pow_right (by decide) (by omega)
 rw [(bits_nat .i64 16 (by decide) wraps_i64s n (2 ^ i) (Nat.lt_trans hn hp) hp).2, Nat.or_comm]
 have := Nat.two_pow_add_eq_or_of_lt hn 1
 rw [Nat.mul_one] at this
 rw [← this, Nat.add_comm]
def bitN (q : Bool) (n : Nat) : Nat := if q then n else 0
theorem bitN_le (q : Bool) (n : Nat) : bitN q n ≤ n := by unfold bitN; split <;> omega
def PutP (OB : Nat) (n : Nat) (w : World) (e : Ending) (w' : World) : Prop := (∃ v, e = .returned v) ∧ Blk w' OB [.int .i64 (n : Int)] ∧ w.grownBy w' (some OB)
theorem put_any (q : Bool) (n i : Nat) (hi : i ≤ 9) (hn : n < 2 ^ i) (OB : Nat) (w : World) (hB : Blk w OB [.int .i64 (n : Int)]) :
  Calls Tryz.prog 38 #[.bool q, .int .i64 ((2 ^ i : Nat) : Int), .pointer (some ⟨OB, 0, none⟩)] w (PutP OB (n + bitN q (2 ^ i)) w) := by
 unfold bitN
 have hor := or_bit n i hi hn
 have c0 := hB.cell 0
 have z0 := hB.frozen 0
 dsimp only [List.getElem?_cons_zero] at c0
 cases q
 ·have HX : Hid (PutP OB n w = PutP OB n w) := Lib.hid rfl
  rw [if_neg Bool.false_ne_true, Nat.add_zero]
  have HB := Lib.hid hB
  clear hB hor c0 z0
  go_enter Tryz.func38, Tryz.ntmps38
  go_wp2_with fail
  go_end0
  exact ⟨⟨_, rfl⟩, HB.out, grownBy_below (Below.refl _ _)⟩
 ·rw [if_pos rfl]
  have HB := Lib.hid (hB.set 0 (.int .i64 ((n + 2 ^ i : Nat) : Int)))
  clear hB hn
  generalize hb : 2 ^ i = bt at *
  clear hb hi
  go_enter Tryz.func38, Tryz.ntmps38
  go_wp2_with fail
  go_end0
  exact ⟨⟨_, rfl⟩, by simpa using HB.out, grownBy_set _ _ _ _⟩
structure FS (w wx : World) (DB NB CB OB : Nat) (vn vc : Value) (nn : List Value) (cc : List Value) (acc : Nat) : Prop where
 low : Below w.heap.size w wx
 d0 : wx.cell? ⟨DB, 0, none⟩ = some vn
 d1 : wx.cell? ⟨DB, 1, none⟩ = some vc
 nd : ∀ j, wx.cell? ⟨NB, j, none⟩ = nn[j]?
 ct : ∀ j, wx.cell? ⟨CB, j, none⟩ = cc[j]?
 out : Blk wx OB [.int .i64 (acc : Int)]
 ne : DB ≠ OB ∧ NB ≠ OB ∧ CB ≠ OB
 ge : w.heap.size ≤ DB ∧ w.heap.size ≤ NB ∧ w.heap.size ≤ CB ∧ w.heap.size ≤ OB
 lt : DB < wx.heap.size ∧ NB < wx.heap.size ∧ CB < wx.heap.size
theorem FS.below {w wx wy : World} {DB NB CB OB : Nat} {vn vc : Value} {nn cc : List Value} {acc : Nat} (h : FS w wx DB NB CB OB vn vc nn cc acc) (hb : Below wx.heap.size wx wy) : FS w wy DB NB CB OB vn vc nn cc acc :=
 ⟨below_trans h.low hb, cell_below hb h.d0, cell_below hb h.d1, fun j => (hb.cell (p := ⟨NB, j, none⟩) h.lt.2.1).trans (h.nd j), fun j => (hb.cell (p := ⟨CB, j, none⟩) h.lt.2.2).trans (h.ct j), h.out.below hb h.out.lt, h.ne, h.ge,
  ⟨Nat.lt_of_lt_of_le h.lt.1 hb.size, Nat.lt_of_lt_of_le h.lt.2.1 hb.size, Nat.lt_of_lt_of_le h.lt.2.2 hb.size⟩⟩
theorem grownBy_cell {wx wy : World} {OB b j : Nat} (hg : wx.grownBy wy (some OB)) (hb : b < wx.heap.size) (hne : b ≠ OB) : wy.cell? ⟨b, j, none⟩ = wx.cell? ⟨b, j, none⟩ :=
 World.cell?_of_block (a := ⟨b, j, none⟩) (hg.block b hb (fun e => hne (Option.some.inj e)))
theorem fs_grown {w wx wy : World} {OB : Nat} (h : Below w.heap.size w wx) (hg : wx.grownBy wy (some OB)) (hO : w.heap.size ≤ OB) : Below w.heap.size w wy :=
 h.grown hg h.size (fun k hk => by cases hk; exact hO)
theorem FS.put {w wx wy : World} {DB NB CB OB : Nat} {vn vc : Value} {nn cc : List Value} {acc n : Nat} {e : Ending} (h : FS w wx DB NB CB OB vn vc nn cc acc) (hp : PutP OB n wx e wy) : FS w wy DB NB CB OB vn vc nn cc n := by
 obtain ⟨_, ho, hg⟩ := hp
 exact ⟨fs_grown h.low hg h.ge.2.2.2, (grownBy_cell hg h.lt.1 h.ne.1).trans h.d0, (grownBy_cell hg h.lt.1 h.ne.1).trans h.d1, fun j => (grownBy_cell hg h.lt.2.1 h.ne.2.1).trans (h.nd j), fun j => (grownBy_cell hg h.lt.2.2 h.ne.2.2).trans (h.ct j), ho, h.ne, h.ge,
  ⟨Nat.lt_of_lt_of_le h.lt.1 hg.size, Nat.lt_of_lt_of_le h.lt.2.1 hg.size, Nat.lt_of_lt_of_le h.lt.2.2 hg.size⟩⟩
theorem fs_low {w wx wy : World} {DB NB CB OB : Nat} {vn vc a b c d e : Value} {cc : List Value} {acc : Nat} (hb : Below wx.heap.size wx wy) (h : wx.cell? ⟨NB, 0, none⟩ = some a ∧ wx.cell? ⟨NB, 1, none⟩ = some b ∧ wx.cell? ⟨NB, 2, none⟩ = some c ∧ wx.cell? ⟨NB, 3, none⟩ = some d ∧ wx.cell? ⟨NB, 4, none⟩ = some e ∧ FS w wx DB NB CB OB vn vc [a, b, c, d, e] cc acc) :
  wy.cell? ⟨NB, 0, none⟩ = some a ∧ wy.cell? ⟨NB, 1, none⟩ = some b ∧ wy.cell? ⟨NB, 2, none⟩ = some c ∧ wy.cell? ⟨NB, 3, none⟩ = some d ∧ wy.cell? ⟨NB, 4, none⟩ = some e ∧ FS w wy DB NB CB OB vn vc [a, b, c, d, e] cc acc := by
 have g := h.2.2.2.2.2.below hb
 exact ⟨g.nd 0, g.nd 1, g.nd 2, g.nd 3, g.nd 4, g⟩
theorem fs_drew {w wx : World} {DB NB CB OB : Nat} {vn vc a b c d e : Value} {cc : List Value} {acc : Nat} (h : wx.cell? ⟨NB, 0, none⟩ = some a ∧ wx.cell? ⟨NB, 1, none⟩ = some b ∧ wx.cell? ⟨NB, 2, none⟩ = some c ∧ wx.cell? ⟨NB, 3, none⟩ = some d ∧ wx.cell? ⟨NB, 4, none⟩ = some e ∧ FS w wx DB NB CB OB vn vc [a, b, c, d, e] cc acc) :
  wx.drew.cell? ⟨NB, 0, none⟩ = some a ∧ wx.drew.cell? ⟨NB, 1, none⟩ = some b ∧ wx.drew.cell? ⟨NB, 2, none⟩ = some c ∧ wx.drew.cell? ⟨NB, 3, none⟩ = some d ∧ wx.drew.cell? ⟨NB, 4, none⟩ = some e ∧ FS w wx.drew DB NB CB OB vn vc [a, b, c, d, e] cc acc := fs_low (Below.refl _ _).drew h
structure FS0 (w wx : World) (DB NB CB : Nat) (vn vc : Value) (nn : List Value) (cc : List Value) : Prop where
 low : Below w.heap.size w wx
 d0 : wx.cell? ⟨DB, 0, none⟩ = some vn
 d1 : wx.cell? ⟨DB, 1, none⟩ = some vc
 nd : ∀ j, wx.cell? ⟨NB, j, none⟩ = nn[j]?
 ct : ∀ j, wx.cell? ⟨CB, j, none⟩ = cc[j]?
 ge : w.heap.size ≤ DB ∧ w.heap.size ≤ NB ∧ w.heap.size ≤ CB
 lt : DB < wx.heap.size ∧ NB < wx.heap.size ∧ CB < wx.heap.size
theorem FS0.below {w wx wy : World} {DB NB CB : Nat} {vn vc : Value} {nn cc : List Value} (h : FS0 w wx DB NB CB vn vc nn cc) (hb : Below wx.heap.size wx wy) : FS0 w wy DB NB CB vn vc nn cc :=
 ⟨below_trans h.low hb, cell_below hb h.d0, cell_below hb h.d1, fun j => (hb.cell (p := ⟨NB, j, none⟩) h.lt.2.1).trans (h.nd j), fun j => (hb.cell (p := ⟨CB, j, none⟩) h.lt.2.2).trans (h.ct j), h.ge,
  ⟨Nat.lt_of_lt_of_le h.lt.1 hb.size, Nat.lt_of_lt_of_le h.lt.2.1 hb.size, Nat.lt_of_lt_of_le h.lt.2.2 hb.size⟩⟩
theorem FS0.out {w wx : World} {DB NB CB : Nat} {vn vc : Value} {nn cc : List Value} (h : FS0 w wx DB NB CB vn vc nn cc) (T : TypeId) : FS w (wx.alloc (.cells #[.int .i64 0] T)) DB NB CB wx.heap.size vn vc nn cc 0 := by
 have g := h.below ((Below.refl _ wx).alloc (Nat.le_refl _) (.cells #[.int .i64 0] T))
 exact ⟨g.low, g.d0, g.d1, g.nd, g.ct, Blk.fresh wx [.int .i64 0] T, ⟨by have := h.lt.1; omega, by have := h.lt.2.1; omega, by have := h.lt.2.2; omega⟩, ⟨g.ge.1, g.ge.2.1, g.ge.2.2, h.low.size⟩, g.lt⟩
theorem cell_a1 {W : World} {b j : Nat} {v : Value} (h : W.cell? ⟨b, j, none⟩ = some v) : ∀ o : Obj, (W.alloc o).cell? ⟨b, j, none⟩ = some v := fun o => cell_below ((Below.refl W.heap.size W).alloc (Nat.le_refl _) o) h
theorem cell_a2 {W : World} {b j : Nat} {v : Value} (h : W.cell? ⟨b, j, none⟩ = some v) : ∀ o1 o2 : Obj, ((W.alloc o1).alloc o2).cell? ⟨b, j, none⟩ = some v := fun o1 o2 => cell_a1 (cell_a1 h o1) o2
theorem FS0.two {w wx : World} {DB : Nat} {vn vc : Value} {nn cc : List Value} (T1 T2 : TypeId) (hl : Below w.heap.size w wx) (h0 : wx.cell? ⟨DB, 0, none⟩ = some vn) (h1 : wx.cell? ⟨DB, 1, none⟩ = some vc) (hg : w.heap.size ≤ DB) :
  FS0 w ((wx.alloc (.cells nn.toArray T1)).alloc (.cells cc.toArray T2)) DB wx.heap.size (wx.heap.size + 1) vn vc nn cc ∧ FS0 w ((wx.alloc (.cells cc.toArray T2)).alloc (.cells nn.toArray T1)) DB (wx.heap.size + 1) wx.heap.size vn vc nn cc := by
 have key : ∀ (a b : List Value) (A B : TypeId), Below wx.heap.size wx ((wx.alloc (.cells a.toArray A)).alloc (.cells b.toArray B)) ∧ (∀ j, ((wx.alloc (.cells a.toArray A)).alloc (.cells b.toArray B)).cell? ⟨wx.heap.size, j, none⟩ = a[j]?) ∧ (∀ j, ((wx.alloc (.cells a.toArray A)).alloc (.cells b.toArray B)).cell? ⟨wx.heap.size + 1, j, none⟩ = b[j]?) ∧ ((wx.alloc (.cells a.toArray A)).alloc (.cells b.toArray B)).heap.size = wx.heap.size + 2 := by
  intro a b A B
  refine ⟨((Below.refl _ wx).alloc (Nat.le_refl _) _).alloc (by simp) _, fun j => ?_, fun j => ?_, by simp⟩
  ·rw [World.cell?_alloc_lt _ _ _ (by simp), World.cell?_alloc_new]; simp
  ·have := World.cell?_alloc_new (wx.alloc (.cells a.toArray A)) b.toArray B j
   rw [World.size_alloc] at this
   rw [this]; simp
 have hd := lt_of_cell h0
 constructor
 ·obtain ⟨kb, k1, k2, kz⟩ := key nn cc T1 T2
  exact ⟨below_trans hl kb, cell_below kb h0, cell_below kb h1, k1, k2, ⟨hg, hl.size, Nat.le_trans hl.size (Nat.le_succ _)⟩, ⟨by rw [kz]; omega, by rw [kz]; omega, by rw [kz]; omega⟩⟩
 ·obtain ⟨kb, k1, k2, kz⟩ := key cc nn T2 T1
  exact ⟨below_trans hl kb, cell_below kb h0, cell_below kb h1, k2, k1, ⟨hg, Nat.le_trans hl.size (Nat.le_succ _), hl.size⟩, ⟨by rw [kz]; omega, by rw [kz]; omega, by rw [kz]; omega⟩⟩

def sumF (lk mt od lg sh ua ov st cu : Bool) : Nat := bitN lk 1 + bitN mt 2 + bitN od 4 + bitN lg 8 + bitN sh 16 + bitN ua 32 + bitN ov 64 + bitN st 128 + bitN cu 256

theorem flags_no (vn vc : Value) (l : List Nd) (cs : List Ctl) (k : Int) (h : thereP l cs k = false ∨ subP (kN l k) = false) (w : World) (hD : DocAt w vn vc l cs) :
  Calls Tryz.prog 14 #[.agg #[vn, vc], .int .i64 k] w fun e w' => e = .returned (.int .i64 0) ∧ Below w.heap.size w w' := by
 obtain ⟨oa, ca, rfl⟩ := NodesAt.lenN hD.nodes
 obtain ⟨oc, cc, rfl⟩ := CtlsAt.lenN hD.ctls
 obtain ⟨wA, hwA⟩ : ∃ wA, wA = w.alloc (.cells #[.slice oa l.length ca, .slice oc cs.length cc] 28) := ⟨_, rfl⟩
 have hB1 : Below w.heap.size w wA := by rw [hwA]; exact (Below.refl _ w).alloc (Nat.le_refl _) _
 have f0 : wA.cell? ⟨w.heap.size, 0, none⟩ = some (.slice oa l.length ca) := by rw [hwA]; exact (doc_cells w _ _ _ _ _ _ _).1
 have f1 : wA.cell? ⟨w.heap.size, 1, none⟩ = some (.slice oc cs.length cc) := by rw [hwA]; exact (doc_cells w _ _ _ _ _ _ _).2
 have hth := there_any _ _ l cs k wA (hD.below hB1)
 cases ht : thereP l cs k
 ·rw [ht] at hth
  clear hD h ht f0 f1
  subst hwA
  go_enter Tryz.func14, Tryz.ntmps14
  go_wp2_with fail
  refine hth.mono ?_
  rintro e w1 ⟨rfl, hb1⟩
  go_wp2_with fail
  go_ret
  exact ⟨rfl, below_trans hB1 hb1⟩
 rw [ht] at hth h
 obtain ⟨hin, hlc, hR⟩ := (there_iff l cs k).1 ht
 have hs : subP (kN l k) = false := h.resolve_left (fun e => Bool.noConfusion e)
 obtain ⟨kn, rfl⟩ : ∃ kn : Nat, k = (kn : Int) := ⟨k.toNat, by have := hin.1; omega⟩
 have hk : kn < l.length := by have := hin.2; omega
 have hsub := fun w => submits_any (kN l (kn : Int)) w
 rw [hs] at hsub
 obtain ⟨b, off, cap, e, hb⟩ := nodes_addr hD.nodes (by omega)
 cases e
 have HN := Lib.hid (fun w' (h : Below w.heap.size w w') => nodes_get (hD.nodes.below h) kn hk)
 have HOf := Lib.hid (fun w' va vk h1 h2 => of_any (nd l (kn : Int)) va vk (hD.fine.nd _ hin.1 hin.2) w' h1 h2)
 have HK : Hid (kindP (nd l (kn : Int)).name (nd l (kn : Int)).attrs = kN l (kn : Int)) := Lib.hid rfl
 rw [HK.out] at HOf
 generalize kN l (kn : Int) = kd at *
 generalize nd l (kn : Int) = n at *
 have h0 : (0 : Int) ≤ (kn : Int) := by omega
 have hk' : (kn : Int) < (l.length : Int) := by omega
 clear hD h ht hlc hR hs HK hin
 subst hwA
 go_enter Tryz.func14, Tryz.ntmps14
 go_wp2_with fail
 refine hth.mono ?_
 rintro e w1 ⟨rfl, hb1⟩
 have hB01 := below_trans hB1 hb1
 have f0 := cell_below hb1 f0
 obtain ⟨va, vk, hn⟩ := HN.out w1 hB01
 have hof := HOf.out w1 va vk hn.attrs hn.kids
 unfold nodeV at hof
 obtain ⟨c0, c1, c2, c3, c4, _, _, _⟩ := hn
 clear hth
 go_wp2_with fail
 refine hof.mono ?_
 rintro e w2 ⟨rfl, hb2⟩
 go_wp2_with fail
 refine (hsub w2).mono ?_
 rintro e w3 ⟨rfl, rfl⟩
 go_wp2_with fail
 go_ret
 exact ⟨rfl, below_trans hB01 hb2⟩
def RetI (v : Int) (w : World) (e : Ending) (w' : World) : Prop := e = .returned (.int .i64 v) ∧ Below w.heap.size w w'
def RetB (v : Bool) (w : World) (e : Ending) (w' : World) : Prop := e = .returned (.bool v) ∧ Below w.heap.size w w'
theorem flags_gen (vn vc : Value) (l : List Nd) (cs : List Ctl) (k : Nat) (hk : k < l.length) (hq : docR l cs = true) (hs : subP (kN l (k : Int)) = true) (w : World) (hD : DocAt w vn vc l cs) (hC : VHas vn vc l cs k w)
  (lk mt od : Bool) (most least un : Int) (ua ov st : Bool)
  (HL : ∀ w', Below w.heap.size w w' → Calls Tryz.prog 39 #[.agg #[vn, vc], .int .i64 k, .int .i64 (kN l (k : Int))] w' (RetB lk w'))
  (HM : valV l cs (k : Int) ≠ [] → ∀ w' va vk, AttrsAt w' va (nd l (k : Int)).attrs → IntsAt w' vk (nd l (k : Int)).kids → Below w.heap.size w w' → Calls Tryz.prog 40 #[nodeV (nd l (k : Int)) va vk, .int .i64 (kN l (k : Int)), .string ⟨(valV l cs (k : Int)).toArray⟩] w' (RetB mt w'))
  (HO : valV l cs (k : Int) ≠ [] → ∀ w' va vk, AttrsAt w' va (nd l (k : Int)).attrs → IntsAt w' vk (nd l (k : Int)).kids → Below w.heap.size w w' → Calls Tryz.prog 41 #[nodeV (nd l (k : Int)) va vk, .int .i64 (kN l (k : Int)), .string ⟨(valV l cs (k : Int)).toArray⟩] w' (RetB od w'))
  (HX : ((ct cs (k : Int)).dirty && (ct cs (k : Int)).typed) = true → ∀ w' va vk, AttrsAt w' va (nd l (k : Int)).attrs → IntsAt w' vk (nd l (k : Int)).kids → Below w.heap.size w w' → Calls Tryz.prog 42 #[nodeV (nd l (k : Int)) va vk, .int .i64 (kN l (k : Int)), .string ⟨nMaxlength.toArray⟩] w' (RetI most w'))
  (HI : ((ct cs (k : Int)).dirty && (ct cs (k : Int)).typed) = true → ∀ w' va vk, AttrsAt w' va (nd l (k : Int)).attrs → IntsAt w' vk (nd l (k : Int)).kids → Below w.heap.size w w' → Calls Tryz.prog 42 #[nodeV (nd l (k : Int)) va vk, .int .i64 (kN l (k : Int)), .string ⟨nMinlength.toArray⟩] w' (RetI least w'))
  (HU : ((ct cs (k : Int)).dirty && (ct cs (k : Int)).typed) = true → ∀ w', Below w.heap.size w w' → Calls Tryz.prog 43 #[.string ⟨(valV l cs (k : Int)).toArray⟩] w' (RetI un w'))
  (HS : ∀ w' va, AttrsAt w' va (nd l (k : Int)).attrs → Below w.heap.size w w' → Calls Tryz.prog 44 #[.int .i64 (kN l (k : Int)), va, .string ⟨(valV l cs (k : Int)).toArray⟩] w' fun e w'' => e = .returned (.tuple #[.bool ua, .bool ov, .bool st]) ∧ Below w'.heap.size w' w'') :
  Calls Tryz.prog 14 #[.agg #[vn, vc], .int .i64 k] w (RetI (sumF lk (decide (valV l cs (k : Int) ≠ []) && mt) (decide (valV l cs (k : Int) ≠ []) && od)
   ((ct cs (k : Int)).dirty && (ct cs (k : Int)).typed && decide (0 ≤ most) && decide (most < un)) ((ct cs (k : Int)).dirty && (ct cs (k : Int)).typed && decide (valV l cs (k : Int) ≠ []) && decide (un < least)) ua ov st (decide ((ct cs (k : Int)).custom ≠ []))) w) := by
 obtain ⟨hlc, hR⟩ := (docR_iff l cs).1 hq
 have hlen := hD.fine.len
 have hkc : k < cs.length := by omega
 have HVal := Lib.hid (fun w' (h : Below w.heap.size w w') => hC w' h)
 have hth := there_any vn vc l cs (k : Int)
 rw [(there_iff l cs (k : Int)).2 ⟨⟨by omega, by omega⟩, hlc, hR⟩] at hth
 have HTh := Lib.hid (fun w' (h : Below w.heap.size w w') => hth w' (hD.below h))
 have hsub := fun w => submits_any (kN l (k : Int)) w
 rw [hs] at hsub
 have HOf := Lib.hid (fun w' va vk h1 h2 => of_any (nd l (k : Int)) va vk (hD.fine.nd _ (by omega) (by omega)) w' h1 h2)
 have HK : Hid (kindP (nd l (k : Int)).name (nd l (k : Int)).attrs = kN l (k : Int)) := Lib.hid rfl
 rw [HK.out] at HOf
 obtain ⟨b, off, cap, rfl, hb⟩ := nodes_addr hD.nodes (by omega)
 obtain ⟨cb, coff, ccap, f, rfl, hcb, hct0⟩ := ctls_get hD.ctls k hkc
 have HCt : Hid (ct cs (k : Int) = cs[k]) := Lib.hid (ct_get cs k hkc)
 rw [HCt.out] at HX HI HU ⊢
 have HC0 := Lib.hid hct0
 obtain ⟨va, vk, hn0⟩ := nodes_get hD.nodes k hk
 have HN0 := Lib.hid hn0
 obtain ⟨aa, ac, rfl⟩ := AttrsAt.lenN hn0.attrs
 obtain ⟨ka, kc, rfl⟩ := RowAt.lenN hn0.kids
 obtain ⟨fa, fn, fc, rfl⟩ := hct0.files.isSl
 have h0 : (0 : Int) ≤ (k : Int) := by omega
 have hk' : (k : Int) < (l.length : Int) := by omega
 have hkc' : (k : Int) < (cs.length : Int) := by omega
 replace HL := Lib.hid HL
 replace HM := Lib.hid HM
 replace HO := Lib.hid HO
 replace HX := Lib.hid HX
 replace HI := Lib.hid HI
 replace HU := Lib.hid HU
 replace HS := Lib.hid HS
 generalize kN l (k : Int) = kd at *
 generalize nd l (k : Int) = n at *
 generalize valV l cs (k : Int) = s at *
 generalize cs[k] = c at *
 obtain ⟨cv, cdi, cty, cch, cdc, cmi, cse, cds, ccu, cfi⟩ := c
 dsimp only at HX HI HU HN0 HC0 hct0 hn0 ⊢
 have HPost : Hid (RetI (sumF lk (decide (s ≠ []) && mt) (decide (s ≠ []) && od) (cdi && cty && decide (0 ≤ most) && decide (most < un)) (cdi && cty && decide (s ≠ []) && decide (un < least)) ua ov st (decide (ccu ≠ []))) w = RetI (sumF lk (decide (s ≠ []) && mt) (decide (s ≠ []) && od) (cdi && cty && decide (0 ≤ most) && decide (most < un)) (cdi && cty && decide (s ≠ []) && decide (un < least)) ua ov st (decide (ccu ≠ []))) w) := Lib.hid rfl
 obtain ⟨res, hres⟩ : ∃ r, r = sumF lk (decide (s ≠ []) && mt) (decide (s ≠ []) && od) (cdi && cty && decide (0 ≤ most) && decide (most < un)) (cdi && cty && decide (s ≠ []) && decide (un < least)) ua ov st (decide (ccu ≠ [])) := ⟨_, rfl⟩
 rw [← hres]
 have HRes := Lib.hid hres
 clear hres HPost hq hR hD hlc hth HK HCt hs hC hlen hn0 hct0
 obtain ⟨wA, hwA⟩ : ∃ wA, wA = w.alloc (.cells #[.slice (some ⟨b, off, none⟩) l.length cap, .slice (some ⟨cb, coff, none⟩) cs.length ccap] 28) := ⟨_, rfl⟩
 have hB1 : Below w.heap.size w wA := by rw [hwA]; exact (Below.refl _ w).alloc (Nat.le_refl _) _
 have f0 : wA.cell? ⟨w.heap.size, 0, none⟩ = some (.slice (some ⟨b, off, none⟩) l.length cap) := by rw [hwA]; exact (doc_cells w _ _ _ _ _ _ _).1
 have f1 : wA.cell? ⟨w.heap.size, 1, none⟩ = some (.slice (some ⟨cb, coff, none⟩) cs.length ccap) := by rw [hwA]; exact (doc_cells w _ _ _ _ _ _ _).2
 have hth := HTh.out wA hB1
 clear HTh
 subst hwA
 go_enter Tryz.func14, Tryz.ntmps14
 go_wp2_with fail
 refine hth.mono ?_
 rintro e w1 ⟨rfl, hb1⟩
 have hB01 := below_trans hB1 hb1
 have f0 := cell_below hb1 f0
 have f1 := cell_below hb1 f1
 have hn := HN0.out.below hB01
 have hof := HOf.out w1 _ _ hn.attrs hn.kids
 unfold nodeV at hof
 obtain ⟨c0, c1, c2, c3, c4, _, _, _⟩ := hn
 clear hth
 go_wp2_with fail
 refine hof.mono ?_
 rintro e w2 ⟨rfl, hb2⟩
 have hB02 := below_trans hB01 hb2
 have f0 := cell_below hb2 f0
 have f1 := cell_below hb2 f1
 clear hof c0 c1 c2 c3 c4 hb1 hb2 hB01 hB1
 go_wp2_with fail
 refine (hsub w2).mono ?_
 rintro e w3 ⟨rfl, rfl⟩
 clear hsub
 have hn := HN0.out.below hB02
 have hct := HC0.out.below hB02
 obtain ⟨c0, c1, c2, c3, c4, _, _, _⟩ := hn
 have a0 := hct.cells 0 _ rfl
 have a1 := hct.cells 1 _ rfl
 have a2 := hct.cells 2 _ rfl
 have a3 := hct.cells 3 _ rfl
 have a4 := hct.cells 4 _ rfl
 have a5 := hct.cells 5 _ rfl
 have a6 := hct.cells 6 _ rfl
 have a7 := hct.cells 7 _ rfl
 have a8 := hct.cells 8 _ rfl
 have a9 := hct.cells 9 _ rfl
 dsimp only [Nat.add_zero] at a0 a1 a2 a3 a4 a5 a6 a7 a8 a9
 have HFS := Lib.hid (FS0.two (nn := [.string ⟨n.name.toArray⟩, .string ⟨n.text.toArray⟩, .slice aa n.attrs.length ac, .int .i64 n.parent, .slice ka n.kids.length kc]) (cc := [.string ⟨cv.toArray⟩, .bool cdi, .bool cty, .bool cch, .bool cdc, .bool cmi, .bool cse, .bool cds, .string ⟨ccu.toArray⟩, .slice fa fn fc]) 41 35 hB02 f0 f1 (Nat.le_refl _))
 clear hct
 have f0x := cell_a1 f0
 have f0y := cell_a2 f0
 have f1x := cell_a1 f1
 have f1y := cell_a2 f1
 have c0x := cell_a1 c0
 have c0y := cell_a2 c0
 have c1x := cell_a1 c1
 have c1y := cell_a2 c1
 have c2x := cell_a1 c2
 have c2y := cell_a2 c2
 have c3x := cell_a1 c3
 have c3y := cell_a2 c3
 have c4x := cell_a1 c4
 have c4y := cell_a2 c4
 have a0x := cell_a1 a0
 have a0y := cell_a2 a0
 have a1x := cell_a1 a1
 have a1y := cell_a2 a1
 have a2x := cell_a1 a2
 have a2y := cell_a2 a2
 have a3x := cell_a1 a3
 have a3y := cell_a2 a3
 have a4x := cell_a1 a4
 have a4y := cell_a2 a4
 have a5x := cell_a1 a5
 have a5y := cell_a2 a5
 have a6x := cell_a1 a6
 have a6y := cell_a2 a6
 have a7x := cell_a1 a7
 have a7y := cell_a2 a7
 have a8x := cell_a1 a8
 have a8y := cell_a2 a8
 have a9x := cell_a1 a9
 have a9y := cell_a2 a9
 go_upto_region 3 with fail
 go_cut [5, 6] (fun s5 s6 wx => ∃ NB CB, s5 = .pointer (some ⟨NB, 0, none⟩) ∧ s6 = .pointer (some ⟨CB, 0, none⟩) ∧ FS0 w wx w.heap.size NB CB (.slice (some ⟨b, off, none⟩) l.length cap) (.slice (some ⟨cb, coff, none⟩) cs.length ccap) [.string ⟨n.name.toArray⟩, .string ⟨n.text.toArray⟩, .slice aa n.attrs.length ac, .int .i64 n.parent, .slice ka n.kids.length kc] [.string ⟨cv.toArray⟩, .bool cdi, .bool cty, .bool cch, .bool cdc, .bool cmi, .bool cse, .bool cds, .string ⟨ccu.toArray⟩, .slice fa fn fc])
 case first =>
  go_region
  all_goals
   go_wp2_with fail
   go_meet
   exact ⟨_, _, rfl, rfl, by first | exact HFS.out.1.below (Below.refl _ _).drew | exact HFS.out.2.below (Below.refl _ _).drew⟩
 case rest =>
 obtain ⟨NB, CB, rfl, rfl, hF⟩ := hcut
 clear HFS f0 f1 hB02 c0 c0x c0y c1 c1x c1y c2 c2x c2y c3 c3x c3y c4 c4x c4y a0 a0x a0y a1 a1x a1y a2 a2x a2y a3 a3x a3y a4 a4x a4y a5 a5x a5y a6 a6x a6y a7 a7x a7y a8 a8x a8y a9 a9x a9y f0x f0y f1x f1y
 have e0 := hF.nd 0
 have e1 := hF.nd 1
 have e2 := hF.nd 2
 have e3 := hF.nd 3
 have e4 := hF.nd 4
 dsimp only [List.getElem?_cons_zero, List.getElem?_cons_succ] at e0 e1 e2 e3 e4
 have hof := HOf.out wc _ _ (HN0.out.attrs.below hF.low) (HN0.out.kids.below hF.low)
 unfold nodeV at hof
 go_wp2_with fail
 refine hof.mono ?_
 rintro e w4 ⟨rfl, hb4⟩
 replace hF := hF.below hb4
 have d0 := hF.d0
 have d1 := hF.d1
 have hv := HVal.out w4 hF.low
 clear hof e0 e1 e2 e3 e4 hb4 HOf HVal
 go_wp2_with fail
 refine hv.mono ?_
 rintro e w5 ⟨rfl, hb5⟩
 replace hF := hF.below hb5
 have HF := Lib.hid (hF.out 3)
 clear hv d0 d1 hb5 hF
 go_upto_region 6 with fail
 go_cut [9] (fun s9 wx => ∃ OB, s9 = .pointer (some ⟨OB, 0, none⟩) ∧ FS w wx w.heap.size NB CB OB (.slice (some ⟨b, off, none⟩) l.length cap) (.slice (some ⟨cb, coff, none⟩) cs.length ccap) [.string ⟨n.name.toArray⟩, .string ⟨n.text.toArray⟩, .slice aa n.attrs.length ac, .int .i64 n.parent, .slice ka n.kids.length kc] [.string ⟨cv.toArray⟩, .bool cdi, .bool cty, .bool cch, .bool cdc, .bool cmi, .bool cse, .bool cds, .string ⟨ccu.toArray⟩, .slice fa fn fc] (0))
 case first =>
  go_wp2_with fail
  go_meet
  exact ⟨_, rfl, HF.out⟩
 case rest =>
 obtain ⟨OB, rfl, hF⟩ := hcut
 clear HF
 have d0 := hF.d0
 have d1 := hF.d1
 have hl := HL.out wc hF.low
 go_upto_region 8 with fail
 go_cut [] (fun wx => FS w wx w.heap.size NB CB OB (.slice (some ⟨b, off, none⟩) l.length cap) (.slice (some ⟨cb, coff, none⟩) cs.length ccap) [.string ⟨n.name.toArray⟩, .string ⟨n.text.toArray⟩, .slice aa n.attrs.length ac, .int .i64 n.parent, .slice ka n.kids.length kc] [.string ⟨cv.toArray⟩, .bool cdi, .bool cty, .bool cch, .bool cdc, .bool cmi, .bool cse, .bool cds, .string ⟨ccu.toArray⟩, .slice fa fn fc] (0 + bitN lk (2 ^ 0)))
 case first =>
  go_wp2_with fail
  refine hl.mono ?_
  rintro e w6 ⟨rfl, hb6⟩
  replace hF := hF.below hb6
  have hp := put_any lk 0 0 (by decide) (by decide) OB w6 hF.out
  have HF := Lib.hid hF
  clear hl d0 d1 hb6 hF
  go_wp2_with fail
  refine hp.mono ?_
  rintro e w7 hp7
  obtain ⟨v, rfl⟩ := hp7.1
  have HF2 := Lib.hid (HF.out.put hp7)
  clear HF hp hp7
  go_wp2_with fail
  go_meet
  exact HF2.out
 case rest =>
 replace hF := hcut
 clear hcut hl d0 d1
 obtain ⟨a1, ha1⟩ : ∃ a, a = 0 + bitN lk (2 ^ 0) := ⟨_, rfl⟩
 rw [← ha1] at hF
 have HA1 := Lib.hid ha1
 have hl1 : a1 < 2 ^ 1 := by rw [ha1]; have := bitN_le lk (2 ^ 0); omega
 clear ha1
 obtain ⟨se, hemp⟩ : ∃ q, s.isEmpty = q := ⟨_, rfl⟩
 have HSe : Hid (s = [] ↔ se = true) := Lib.hid (by rw [← hemp, List.isEmpty_iff])
 go_upto_if 53 with fail
 go_cut [] (fun wx => FS w wx w.heap.size NB CB OB (.slice (some ⟨b, off, none⟩) l.length cap) (.slice (some ⟨cb, coff, none⟩) cs.length ccap) [.string ⟨n.name.toArray⟩, .string ⟨n.text.toArray⟩, .slice aa n.attrs.length ac, .int .i64 n.parent, .slice ka n.kids.length kc] [.string ⟨cv.toArray⟩, .bool cdi, .bool cty, .bool cch, .bool cdc, .bool cmi, .bool cse, .bool cds, .string ⟨ccu.toArray⟩, .slice fa fn fc] (a1 + bitN (decide (s ≠ []) && mt) (2 ^ 1) + bitN (decide (s ≠ []) && od) (2 ^ 2)))
 case first =>
  cases se
  case true =>
   have hs0 := HSe.out.2 rfl
   have HF : Hid (FS w wc w.heap.size NB CB OB (.slice (some ⟨b, off, none⟩) l.length cap) (.slice (some ⟨cb, coff, none⟩) cs.length ccap) [.string ⟨n.name.toArray⟩, .string ⟨n.text.toArray⟩, .slice aa n.attrs.length ac, .int .i64 n.parent, .slice ka n.kids.length kc] [.string ⟨cv.toArray⟩, .bool cdi, .bool cty, .bool cch, .bool cdc, .bool cmi, .bool cse, .bool cds, .string ⟨ccu.toArray⟩, .slice fa fn fc] (a1 + bitN (decide (s ≠ []) && mt) (2 ^ 1) + bitN (decide (s ≠ []) && od) (2 ^ 2))) := Lib.hid (by
    rw [decide_eq_false (fun h => h hs0)]; exact hF)
   clear hs0 hF HSe
   go_wp2_with fail
   go_meet
   exact HF.out
  case false =>
   have hs0 : s ≠ [] := fun h => Bool.noConfusion (HSe.out.1 h)
   have HD : Hid (decide (s ≠ []) = true) := Lib.hid (decide_eq_true hs0)
   have HMs := Lib.hid (HM.out hs0)
   have HOs := Lib.hid (HO.out hs0)
   clear hs0 HSe
   have e0 := hF.nd 0
   have e1 := hF.nd 1
   have e2 := hF.nd 2
   have e3 := hF.nd 3
   have e4 := hF.nd 4
   dsimp only [List.getElem?_cons_zero, List.getElem?_cons_succ] at e0 e1 e2 e3 e4
   have hm := HMs.out wc _ _ (HN0.out.attrs.below hF.low) (HN0.out.kids.below hF.low) hF.low
   unfold nodeV at hm
   go_wp2_with fail
   refine hm.mono ?_
   rintro e w6 ⟨rfl, hb6⟩
   replace hF := hF.below hb6
   have hp := put_any mt a1 1 (by decide) hl1 OB w6 hF.out
   have HF := Lib.hid hF
   clear hm hb6 hF e0 e1 e2 e3 e4
   go_wp2_with fail
   refine hp.mono ?_
   rintro e w7 hp7
   obtain ⟨v, rfl⟩ := hp7.1
   have hF := HF.out.put hp7
   clear HF hp hp7
   have e0 := hF.nd 0
   have e1 := hF.nd 1
   have e2 := hF.nd 2
   have e3 := hF.nd 3
   have e4 := hF.nd 4
   dsimp only [List.getElem?_cons_zero, List.getElem?_cons_succ] at e0 e1 e2 e3 e4
   have ho := HOs.out w7 _ _ (HN0.out.attrs.below hF.low) (HN0.out.kids.below hF.low) hF.low
   unfold nodeV at ho
   go_wp2_with fail
   refine ho.mono ?_
   rintro e w8 ⟨rfl, hb8⟩
   replace hF := hF.below hb8
   have hp := put_any od _ 2 (by decide) (by have := bitN_le mt (2 ^ 1); omega) OB w8 hF.out
   have HF := Lib.hid hF
   clear ho hb8 hF e0 e1 e2 e3 e4
   go_wp2_with fail
   refine hp.mono ?_
   rintro e w9 hp9
   obtain ⟨v, rfl⟩ := hp9.1
   have HF2 := Lib.hid (HF.out.put hp9)
   clear HF hp hp9
   go_wp2_with fail
   go_meet
   rw [HD.out, Bool.true_and, Bool.true_and]
   exact HF2.out
 case rest =>
 replace hF := hcut
 clear hcut HM HO
 obtain ⟨a3, ha3⟩ : ∃ a, a = a1 + bitN (decide (s ≠ []) && mt) (2 ^ 1) + bitN (decide (s ≠ []) && od) (2 ^ 2) := ⟨_, rfl⟩
 rw [← ha3] at hF
 have HA3 := Lib.hid ha3
 have hl3 : a3 < 2 ^ 3 := by rw [ha3]; have := bitN_le (decide (s ≠ []) && mt) (2 ^ 1); have := bitN_le (decide (s ≠ []) && od) (2 ^ 2); omega
 clear ha3 hl1
 have t1 := hF.ct 1
 have t2 := hF.ct 2
 dsimp only [List.getElem?_cons_zero, List.getElem?_cons_succ] at t1 t2
 go_upto_region 12 with fail
 go_cut [71] (fun s71 wx => s71 = .bool (cdi && cty) ∧ wx = wc)
 case first =>
  cases cdi
  ·go_wp2_with fail
   go_meet
   exact ⟨rfl, rfl⟩
  ·go_wp2_with fail
   go_meet
   exact ⟨by rw [Bool.true_and], rfl⟩
 case rest =>
 obtain ⟨rfl, hwc⟩ := hcut
 subst hwc
 clear t1 t2
 obtain ⟨dt, hdt⟩ : ∃ q, (cdi && cty) = q := ⟨_, rfl⟩
 have HDt := Lib.hid hdt
 rw [hdt] at HX HI HU ⊢
 clear hdt
 go_upto_if 71 with fail
 go_cut [] (fun wx => FS w wx w.heap.size NB CB OB (.slice (some ⟨b, off, none⟩) l.length cap) (.slice (some ⟨cb, coff, none⟩) cs.length ccap) [.string ⟨n.name.toArray⟩, .string ⟨n.text.toArray⟩, .slice aa n.attrs.length ac, .int .i64 n.parent, .slice ka n.kids.length kc] [.string ⟨cv.toArray⟩, .bool cdi, .bool cty, .bool cch, .bool cdc, .bool cmi, .bool cse, .bool cds, .string ⟨ccu.toArray⟩, .slice fa fn fc] (a3 + bitN (dt && decide (0 ≤ most) && decide (most < un)) (2 ^ 3) + bitN (dt && decide (s ≠ []) && decide (un < least)) (2 ^ 4)))
 case first =>
  have HF := Lib.hid hF
  clear hF
  cases dt
  case false =>
   go_wp2_with fail
   go_meet
   exact HF.out
  case true =>
   have HXt := Lib.hid (HX.out rfl)
   have HIt := Lib.hid (HI.out rfl)
   have HUt := Lib.hid (HU.out rfl)
   clear HX HI HU
   have hF := HF.out
   have HNb := Lib.hid HN0.out
   go_upto_region 13 with fail
   go_cut [11, 12] (fun s11 s12 wx => s11 = .int .i64 most ∧ s12 = .int .i64 least ∧ FS w wx w.heap.size NB CB OB (.slice (some ⟨b, off, none⟩) l.length cap) (.slice (some ⟨cb, coff, none⟩) cs.length ccap) [.string ⟨n.name.toArray⟩, .string ⟨n.text.toArray⟩, .slice aa n.attrs.length ac, .int .i64 n.parent, .slice ka n.kids.length kc] [.string ⟨cv.toArray⟩, .bool cdi, .bool cty, .bool cch, .bool cdc, .bool cmi, .bool cse, .bool cds, .string ⟨ccu.toArray⟩, .slice fa fn fc] (a3))
   case first =>
    have hS : wc.cell? ⟨NB, 0, none⟩ = some (.string ⟨n.name.toArray⟩) ∧ wc.cell? ⟨NB, 1, none⟩ = some (.string ⟨n.text.toArray⟩) ∧ wc.cell? ⟨NB, 2, none⟩ = some (.slice aa n.attrs.length ac) ∧ wc.cell? ⟨NB, 3, none⟩ = some (.int .i64 n.parent) ∧ wc.cell? ⟨NB, 4, none⟩ = some (.slice ka n.kids.length kc) ∧ FS w wc w.heap.size NB CB OB (.slice (some ⟨b, off, none⟩) l.length cap) (.slice (some ⟨cb, coff, none⟩) cs.length ccap) [.string ⟨n.name.toArray⟩, .string ⟨n.text.toArray⟩, .slice aa n.attrs.length ac, .int .i64 n.parent, .slice ka n.kids.length kc] [.string ⟨cv.toArray⟩, .bool cdi, .bool cty, .bool cch, .bool cdc, .bool cmi, .bool cse, .bool cds, .string ⟨ccu.toArray⟩, .slice fa fn fc] (a3) := ⟨hF.nd 0, hF.nd 1, hF.nd 2, hF.nd 3, hF.nd 4, hF⟩
    have hmx := fun w' (h : FS w w' w.heap.size NB CB OB (.slice (some ⟨b, off, none⟩) l.length cap) (.slice (some ⟨cb, coff, none⟩) cs.length ccap) [.string ⟨n.name.toArray⟩, .string ⟨n.text.toArray⟩, .slice aa n.attrs.length ac, .int .i64 n.parent, .slice ka n.kids.length kc] [.string ⟨cv.toArray⟩, .bool cdi, .bool cty, .bool cch, .bool cdc, .bool cmi, .bool cse, .bool cds, .string ⟨ccu.toArray⟩, .slice fa fn fc] (a3)) => HXt.out w' _ _ (HNb.out.attrs.below h.low) (HNb.out.kids.below h.low) h.low
    have hmn := fun w' (h : FS w w' w.heap.size NB CB OB (.slice (some ⟨b, off, none⟩) l.length cap) (.slice (some ⟨cb, coff, none⟩) cs.length ccap) [.string ⟨n.name.toArray⟩, .string ⟨n.text.toArray⟩, .slice aa n.attrs.length ac, .int .i64 n.parent, .slice ka n.kids.length kc] [.string ⟨cv.toArray⟩, .bool cdi, .bool cty, .bool cch, .bool cdc, .bool cmi, .bool cse, .bool cds, .string ⟨ccu.toArray⟩, .slice fa fn fc] (a3)) => HIt.out w' _ _ (HNb.out.attrs.below h.low) (HNb.out.kids.below h.low) h.low
    unfold nodeV at hmx hmn
    clear hF HF
    go_region_held3 (fun w' => w'.cell? ⟨NB, 0, none⟩ = some (.string ⟨n.name.toArray⟩) ∧ w'.cell? ⟨NB, 1, none⟩ = some (.string ⟨n.text.toArray⟩) ∧ w'.cell? ⟨NB, 2, none⟩ = some (.slice aa n.attrs.length ac) ∧ w'.cell? ⟨NB, 3, none⟩ = some (.int .i64 n.parent) ∧ w'.cell? ⟨NB, 4, none⟩ = some (.slice ka n.kids.length kc) ∧ FS w w' w.heap.size NB CB OB (.slice (some ⟨b, off, none⟩) l.length cap) (.slice (some ⟨cb, coff, none⟩) cs.length ccap) [.string ⟨n.name.toArray⟩, .string ⟨n.text.toArray⟩, .slice aa n.attrs.length ac, .int .i64 n.parent, .slice ka n.kids.length kc] [.string ⟨cv.toArray⟩, .bool cdi, .bool cty, .bool cch, .bool cdc, .bool cmi, .bool cse, .bool cds, .string ⟨ccu.toArray⟩, .slice fa fn fc] (a3))
     (first | assumption | exact fs_drew hS | exact fs_low (by assumption) (fs_drew hS) | exact fs_low (by assumption) (by assumption) | exact fs_low (by assumption) hS)
     (first | (go_at_call_of 42 (Value.string ⟨#[109, 97, 120, 108, 101, 110, 103, 116, 104]⟩); refine (hmx _ (And.right (And.right (And.right (And.right (And.right (by assumption))))))).mono ?_; rintro e wl ⟨rfl, hbl⟩) | (go_at_call_of 42 (Value.string ⟨#[109, 105, 110, 108, 101, 110, 103, 116, 104]⟩); refine (hmn _ (And.right (And.right (And.right (And.right (And.right (by assumption))))))).mono ?_; rintro e wl ⟨rfl, hbl⟩))
    all_goals
     go_wp2_with fail
     go_meet
     exact ⟨rfl, rfl, And.right (And.right (And.right (And.right (And.right (by assumption)))))⟩
   case rest =>
   obtain ⟨rfl, rfl, hF⟩ := hcut
   clear HF HXt HIt HNb
   go_upto_region 14 with fail
   go_cut [] (fun wx => FS w wx w.heap.size NB CB OB (.slice (some ⟨b, off, none⟩) l.length cap) (.slice (some ⟨cb, coff, none⟩) cs.length ccap) [.string ⟨n.name.toArray⟩, .string ⟨n.text.toArray⟩, .slice aa n.attrs.length ac, .int .i64 n.parent, .slice ka n.kids.length kc] [.string ⟨cv.toArray⟩, .bool cdi, .bool cty, .bool cch, .bool cdc, .bool cmi, .bool cse, .bool cds, .string ⟨ccu.toArray⟩, .slice fa fn fc] (a3 + bitN (decide (0 ≤ most) && decide (most < un)) (2 ^ 3)))
   case first =>
    by_cases g : 0 ≤ most
    ·have hu := HUt.out wc hF.low
     have HD : Hid ((decide (0 ≤ most) && decide (most < un)) = decide (most < un)) := Lib.hid (by rw [decide_eq_true g, Bool.true_and])
     go_wp2_with fail
     refine hu.mono ?_
     rintro e w6 ⟨rfl, hb6⟩
     replace hF := hF.below hb6
     clear hu hb6 g
     have hp := put_any (decide (most < un)) a3 3 (by decide) hl3 OB w6 hF.out
     have HF := Lib.hid hF
     clear hF
     go_wp2_with fail
     refine hp.mono ?_
     rintro e wp3 hp3
     obtain ⟨v, rfl⟩ := hp3.1
     have hF := HF.out.put hp3
     clear HF hp hp3
     have HF := Lib.hid hF
     clear hF
     go_wp2_with fail
     go_meet
     rw [HD.out]
     exact HF.out
    ·have HD : Hid ((decide (0 ≤ most) && decide (most < un)) = false) := Lib.hid (by rw [decide_eq_false g]; rfl)
     have hp := put_any false a3 3 (by decide) hl3 OB wc hF.out
     have HF := Lib.hid hF
     clear hF
     go_wp2_with fail
     refine hp.mono ?_
     rintro e wp3 hp3
     obtain ⟨v, rfl⟩ := hp3.1
     have hF := HF.out.put hp3
     clear HF hp hp3
     have HF := Lib.hid hF
     clear hF
     go_wp2_with fail
     go_meet
     rw [HD.out]
     exact HF.out
   case rest =>
   replace hF := hcut
   clear hcut
   obtain ⟨a4, ha4⟩ : ∃ a, a = a3 + bitN (decide (0 ≤ most) && decide (most < un)) (2 ^ 3) := ⟨_, rfl⟩
   rw [← ha4] at hF
   have HA4 := Lib.hid ha4
   have hl4 : a4 < 2 ^ 4 := by rw [ha4]; have := bitN_le (decide (0 ≤ most) && decide (most < un)) (2 ^ 3); omega
   clear ha4
   cases se
   case true =>
    have HD : Hid ((decide (s ≠ []) && decide (un < least)) = false) := Lib.hid (by rw [decide_eq_false (fun h => h (HSe.out.2 rfl))]; rfl)
    have hp := put_any false a4 4 (by decide) hl4 OB wc hF.out
    have HF := Lib.hid hF
    clear hF
    go_wp2_with fail
    refine hp.mono ?_
    rintro e wp4 hp4
    obtain ⟨v, rfl⟩ := hp4.1
    have hF := HF.out.put hp4
    clear HF hp hp4
    have HF := Lib.hid hF
    clear hF
    go_wp2_with fail
    go_meet
    rw [Bool.true_and, Bool.true_and, HD.out, ← HA4.out]
    exact HF.out
   case false =>
    have hu := HUt.out wc hF.low
    have HD : Hid ((decide (s ≠ []) && decide (un < least)) = decide (un < least)) := Lib.hid (by rw [decide_eq_true (show s ≠ [] from fun h => Bool.noConfusion (HSe.out.1 h)), Bool.true_and])
    go_wp2_with fail
    refine hu.mono ?_
    rintro e w6 ⟨rfl, hb6⟩
    replace hF := hF.below hb6
    clear hu hb6
    have hp := put_any (decide (un < least)) a4 4 (by decide) hl4 OB w6 hF.out
    have HF := Lib.hid hF
    clear hF
    go_wp2_with fail
    refine hp.mono ?_
    rintro e wp4 hp4
    obtain ⟨v, rfl⟩ := hp4.1
    have hF := HF.out.put hp4
    clear HF hp hp4
    have HF := Lib.hid hF
    clear hF
    go_wp2_with fail
    go_meet
    rw [Bool.true_and, Bool.true_and, HD.out, ← HA4.out]
    exact HF.out
 case rest =>
 replace hF := hcut
 clear hcut HX HI HU HSe hemp
 obtain ⟨a5, ha5⟩ : ∃ a, a = a3 + bitN (dt && decide (0 ≤ most) && decide (most < un)) (2 ^ 3) + bitN (dt && decide (s ≠ []) && decide (un < least)) (2 ^ 4) := ⟨_, rfl⟩
 rw [← ha5] at hF
 have HA5 := Lib.hid ha5
 have hl5 : a5 < 2 ^ 5 := by rw [ha5]; have := bitN_le (dt && decide (0 ≤ most) && decide (most < un)) (2 ^ 3); have := bitN_le (dt && decide (s ≠ []) && decide (un < least)) (2 ^ 4); omega
 clear ha5 hl3
 obtain ⟨qe, hemp⟩ : ∃ q, ccu.isEmpty = q := ⟨_, rfl⟩
 have HQe : Hid (decide (ccu ≠ []) = !qe) := Lib.hid (by
  rw [← hemp]
  cases ccu with
  | nil => rfl
  | cons c r => rfl)
 have e2 := hF.nd 2
 dsimp only [List.getElem?_cons_zero, List.getElem?_cons_succ] at e2
 have hst := HS.out wc _ (HN0.out.attrs.below hF.low) hF.low
 clear HS
 go_wp2_with fail
 refine hst.mono ?_
 rintro e w6 ⟨rfl, hb6⟩
 replace hF := hF.below hb6
 clear hst hb6 e2
 have hp := put_any ua a5 5 (by decide) hl5 OB w6 hF.out
 have HF := Lib.hid hF
 clear hF
 go_wp2_with fail
 refine hp.mono ?_
 rintro e wp5 hp5
 obtain ⟨v, rfl⟩ := hp5.1
 have hF := HF.out.put hp5
 clear HF hp hp5
 have hp := put_any ov _ 6 (by decide) (by have := bitN_le ua (2 ^ 5); omega) OB wp5 hF.out
 have HF := Lib.hid hF
 clear hF
 go_wp2_with fail
 refine hp.mono ?_
 rintro e wp6 hp6
 obtain ⟨v, rfl⟩ := hp6.1
 have hF := HF.out.put hp6
 clear HF hp hp6
 have hp := put_any st _ 7 (by decide) (by have := bitN_le ua (2 ^ 5); have := bitN_le ov (2 ^ 6); omega) OB wp6 hF.out
 have HF := Lib.hid hF
 clear hF
 go_wp2_with fail
 refine hp.mono ?_
 rintro e wp7 hp7
 obtain ⟨v, rfl⟩ := hp7.1
 have hF := HF.out.put hp7
 clear HF hp hp7
 have t8 := hF.ct 8
 dsimp only [List.getElem?_cons_zero, List.getElem?_cons_succ] at t8
 have hp := put_any (!qe) _ 8 (by decide) (by have := bitN_le ua (2 ^ 5); have := bitN_le ov (2 ^ 6); have := bitN_le st (2 ^ 7); omega) OB wp7 hF.out
 have HF := Lib.hid hF
 clear hF
 go_wp2_with fail
 refine hp.mono ?_
 rintro e wp8 hp8
 obtain ⟨v, rfl⟩ := hp8.1
 have hF := HF.out.put hp8
 clear HF hp hp8
 have o0 := hF.out.cell 0
 dsimp only [List.getElem?_cons_zero] at o0
 have hlow := Lib.hid hF.low
 have HFin : Hid (a5 + bitN ua (2 ^ 5) + bitN ov (2 ^ 6) + bitN st (2 ^ 7) + bitN (!qe) (2 ^ 8) = res) := Lib.hid (by
  rw [HRes.out, HDt.out, HQe.out, HA5.out, HA3.out, HA1.out, Nat.zero_add]; rfl)
 rw [HFin.out] at o0
 clear hF t8 hemp HRes HDt HQe HA5 HA3 HA1 HN0 HC0
 go_wp2_with fail
 go_ret
 exact ⟨rfl, hlow.out⟩

theorem lacks_val (vn vc : Value) (l : List Nd) (cs : List Ctl) (k : Nat) (hk : k < l.length) (hq : docR l cs = true) (hkd : kN l (k : Int) ≠ 16 ∧ kN l (k : Int) ≠ 17 ∧ kN l (k : Int) ≠ 18 ∧ kN l (k : Int) ≠ 23) (w : World) (hD : DocAt w vn vc l cs) (hC : VHas vn vc l cs k w) :
  Calls Tryz.prog 39 #[.agg #[vn, vc], .int .i64 k, .int .i64 (kN l (k : Int))] w (RetB (reqP (kN l (k : Int)) && hasA nRequired (nd l (k : Int)).attrs && (decide (valV l cs (k : Int) = []) && !fixR l (k : Int))) w) := by
 obtain ⟨hlc, hR⟩ := (docR_iff l cs).1 hq
 have hlen := hD.fine.len
 have HVal := Lib.hid (fun w' (h : Below w.heap.size w w') => hC w' h)
 have hFine := hD.fine
 obtain ⟨b, off, cap, rfl, hb⟩ := nodes_addr hD.nodes (by omega)
 have HFx := Lib.hid (fun w' (h : Below w.heap.size w w') => fixed_any _ l hFine hR k hk w' (hD.nodes.below h))
 have hn0 := nodes_get hD.nodes k hk
 have HN := Lib.hid (fun w' (h : Below w.heap.size w w') => nodes_get (hD.nodes.below h) k hk)
 have HHas := Lib.hid (fun w' va vk h1 h2 => vhas_any (nd l (k : Int)) va vk nRequired (hFine.nd _ (by omega) (by omega)).attrs w' h1 h2)
 have hreq := fun w => required_any (kN l (k : Int)) w
 obtain ⟨oc, cc, rfl⟩ := CtlsAt.lenN hD.ctls
 have h0 : (0 : Int) ≤ (k : Int) := by omega
 have hk' : (k : Int) < (l.length : Int) := by omega
 obtain ⟨g16, g17, g18, g23⟩ := hkd
 have b16 : (kN l (k : Int) == 16) = false := by simpa using g16
 have b17 : (kN l (k : Int) == 17) = false := by simpa using g17
 have b18 : (kN l (k : Int) == 18) = false := by simpa using g18
 have b23 : (kN l (k : Int) == 23) = false := by simpa using g23
 clear g16 g17 g18 g23
 generalize kN l (k : Int) = kd at *
 obtain ⟨rq, hrq⟩ : ∃ r, r = reqP kd := ⟨_, rfl⟩
 rw [← hrq] at hreq ⊢
 generalize hasA nRequired (nd l (k : Int)).attrs = ha at *
 generalize valV l cs (k : Int) = s at *
 generalize fixR l (k : Int) = fx at *
 generalize nd l (k : Int) = n at *
 obtain ⟨wA, hwA⟩ : ∃ wA, wA = w.alloc (.cells #[.slice (some ⟨b, off, none⟩) l.length cap, .slice oc cs.length cc] 28) := ⟨_, rfl⟩
 have hB1 : Below w.heap.size w wA := by rw [hwA]; exact (Below.refl _ w).alloc (Nat.le_refl _) _
 have f0 : wA.cell? ⟨w.heap.size, 0, none⟩ = some (.slice (some ⟨b, off, none⟩) l.length cap) := by rw [hwA]; exact (doc_cells w _ _ _ _ _ _ _).1
 have f1 : wA.cell? ⟨w.heap.size, 1, none⟩ = some (.slice oc cs.length cc) := by rw [hwA]; exact (doc_cells w _ _ _ _ _ _ _).2
 clear hD hq hlc hR hrq hFine
 obtain ⟨va, vk, hn0⟩ := hn0
 have HN0 := Lib.hid hn0
 obtain ⟨c0, c1, c2, c3, c4, _, _, _⟩ := hn0
 have hhas := HHas.out _ va vk (HN0.out.attrs.below hB1) (HN0.out.kids.below hB1)
 unfold nodeV at hhas
 cases rq
 case false =>
  subst hwA
  clear hhas
  go_enter Tryz.func39, Tryz.ntmps39
  go_wp2_with fail
  refine (hreq _).mono ?_
  rintro e w1 ⟨rfl, rfl⟩
  go_wp2_with fail
  go_ret
  exact ⟨rfl, hB1⟩
 go_enter Tryz.func39, Tryz.ntmps39
 go_wp2_with fail
 rw [← hwA]
 clear hwA
 refine (hreq _).mono ?_
 rintro e w1 ⟨rfl, rfl⟩
 obtain ⟨c0, c1, c2, c3, c4, _, _, _⟩ := HN0.out.below hB1
 go_wp2_with fail
 refine hhas.mono ?_
 rintro e w2 ⟨rfl, hb2⟩
 have hB2 := below_trans hB1 hb2
 have f0 := cell_below hb2 f0
 have f1 := cell_below hb2 f1
 clear hhas hreq c0 c1 c2 c3 c4
 cases ha
 case false =>
  go_wp2_with fail
  go_ret
  exact ⟨rfl, hB2⟩
 have hv := HVal.out w2 hB2
 go_wp2_with fail
 refine hv.mono ?_
 rintro e w3 ⟨rfl, hb3⟩
 have hB3 := below_trans hB2 hb3
 have f0 := cell_below hb3 f0
 have f1 := cell_below hb3 f1
 clear hv
 by_cases hs0 : s = []
 ·have hemp : s.isEmpty = true := by simp [hs0]
  have HD : Hid (decide (s = []) = true) := Lib.hid (decide_eq_true hs0)
  have hf := HFx.out w3 hB3
  have HZ : Hid ((!fx) = (true && true && (decide (s = []) && !fx))) := Lib.hid (by rw [HD.out]; rfl)
  clear hs0 HD
  go_wp2_with fail
  refine hf.mono ?_
  rintro e w4 ⟨rfl, hb4⟩
  go_wp2_with fail
  go_ret
  exact ⟨ret_bool HZ.out, below_trans hB3 hb4⟩
 ·have hemp : s.isEmpty = false := by simp [hs0]
  have HD : Hid (decide (s = []) = false) := Lib.hid (decide_eq_false hs0)
  have HZ : Hid (false = (true && true && (decide (s = []) && !fx))) := Lib.hid (by rw [HD.out]; rfl)
  clear hs0 HD
  go_wp2_with fail
  go_ret
  exact ⟨ret_bool HZ.out, hB3⟩
theorem stepval_no (kind : Int) (hk : stp.i64 kind) (h : ¬ (8 ≤ kind ∧ kind ≤ 14)) (s : List UInt8) (w : World) :
  Calls Tryz.prog 97 #[.int .i64 kind, .string ⟨s.toArray⟩] w fun e w' => e = .returned (.tuple #[.int .i64 0, .bool false]) ∧ Below w.heap.size w w' := by
 have ho := stp.of_any kind hk w
 obtain ⟨u1, u2, u3, u4⟩ := stp.u_no kind h
 rw [u1, u2, u3, u4] at ho
 clear u1 u2 u3 u4 h hk
 go_enter Tryz.func97, Tryz.ntmps97
 go_wp2_with fail
 refine ho.mono ?_
 rintro e w1 ⟨rfl, hb⟩
 clear ho
 go_wp2_with fail
 go_ret2
 exact ⟨rfl, hb.alloc hb.size _⟩
theorem stepflags_no (kind : Int) (hk : stp.i64 kind) (h : ¬ (8 ≤ kind ∧ kind ≤ 14)) (va : Value) (a : List Attr) (s : List UInt8) (w : World) (hA : AttrsAt w va a) :
  Calls Tryz.prog 44 #[.int .i64 kind, va, .string ⟨s.toArray⟩] w fun e w' => e = .returned (.tuple #[.bool false, .bool false, .bool false]) ∧ Below w.heap.size w w' := by
 have hv := stepval_no kind hk h s w
 obtain ⟨oa, ac, rfl⟩ := AttrsAt.lenN hA
 clear h hk hA
 go_enter Tryz.func44, Tryz.ntmps44
 go_wp2_with fail
 refine hv.mono ?_
 rintro e w1 ⟨rfl, hB⟩
 go_wp2_with fail
 go_ret3
 exact ⟨rfl, hB⟩

def validP (l : List Nd) (cs : List Ctl) (k : Int) (fl : Int) : Bool := !thereP l cs k || barP l k || (fl == 0)
theorem valid_gen (vn vc : Value) (l : List Nd) (cs : List Ctl) (k : Int) (fl : Int) (w : World) (hD : DocAt w vn vc l cs)
  (HF : thereP l cs k = true → barP l k = false → ∀ w', Below w.heap.size w w' → Calls Tryz.prog 14 #[.agg #[vn, vc], .int .i64 k] w' (RetI fl w')) :
  Calls Tryz.prog 24 #[.agg #[vn, vc], .int .i64 k] w (RetB (validP l cs k fl) w) := by
 have hlen := hD.fine.len
 have hth := fun w' (h : Below w.heap.size w w') => there_any vn vc l cs k w' (hD.below h)
 have hba := fun w' (h : Below w.heap.size w w') => barred_any vn l hD.fine k w' (hD.nodes.below h)
 obtain ⟨oa, ca, rfl⟩ := NodesAt.lenN hD.nodes
 obtain ⟨oc, cc, rfl⟩ := CtlsAt.lenN hD.ctls
 obtain ⟨wA, hwA⟩ : ∃ wA, wA = w.alloc (.cells #[.slice oa l.length ca, .slice oc cs.length cc] 28) := ⟨_, rfl⟩
 have hB1 : Below w.heap.size w wA := by rw [hwA]; exact (Below.refl _ w).alloc (Nat.le_refl _) _
 have f0 : wA.cell? ⟨w.heap.size, 0, none⟩ = some (.slice oa l.length ca) := by rw [hwA]; exact (doc_cells w _ _ _ _ _ _ _).1
 have f1 : wA.cell? ⟨w.heap.size, 1, none⟩ = some (.slice oc cs.length cc) := by rw [hwA]; exact (doc_cells w _ _ _ _ _ _ _).2
 have HV : Hid (validP l cs k fl = (!thereP l cs k || barP l k || (fl == 0))) := Lib.hid rfl
 obtain ⟨res, hres⟩ : ∃ r, r = validP l cs k fl := ⟨_, rfl⟩
 rw [← hres] at HV ⊢
 have HTh := Lib.hid hth
 have HBa := Lib.hid hba
 have HFl := Lib.hid HF
 clear hres hD hth hba HF
 generalize thereP l cs k = th at *
 generalize barP l k = ba at *
 have h1 := HTh.out wA hB1
 subst hwA
 cases th
 case false =>
  have HX : Hid (res = true) := Lib.hid (by rw [HV.out]; rfl)
  clear HV f0 f1
  go_enter Tryz.func24, Tryz.ntmps24
  go_wp2_with fail
  refine h1.mono ?_
  rintro e w1 ⟨rfl, hb1⟩
  go_wp2_with fail
  go_ret
  exact ⟨ret_bool HX.out.symm, below_trans hB1 hb1⟩
 have HV2 : Hid (res = (ba || (fl == 0))) := Lib.hid (by rw [HV.out]; rfl)
 clear HV HTh
 go_enter Tryz.func24, Tryz.ntmps24
 go_wp2_with fail
 refine h1.mono ?_
 rintro e w1 ⟨rfl, hb1⟩
 have hB2 := below_trans hB1 hb1
 have f0 := cell_below hb1 f0
 have f1 := cell_below hb1 f1
 have h2 := HBa.out w1 hB2
 clear h1 HBa
 go_wp2_with fail
 refine h2.mono ?_
 rintro e w2 ⟨rfl, hb2⟩
 have hB3 := below_trans hB2 hb2
 have f0 := cell_below hb2 f0
 have f1 := cell_below hb2 f1
 clear h2
 cases ba
 case true =>
  have HX : Hid (res = true) := Lib.hid (by rw [HV2.out]; rfl)
  go_wp2_with fail
  go_ret
  exact ⟨ret_bool HX.out.symm, hB3⟩
 have h3 := HFl.out (by first | rfl | trivial) (by first | rfl | trivial) w2 hB3
 have HX : Hid (res = (fl == 0)) := Lib.hid (by rw [HV2.out]; rfl)
 go_wp2_with fail
 refine h3.mono ?_
 rintro e w3 ⟨rfl, hb3⟩
 go_wp2_with fail
 go_ret
 exact ⟨ret_bool HX.out.symm, below_trans hB3 hb3⟩
def exA : List Attr := [(nRequired, [])]
def exB : List Attr := [(nRequired, []), (nDisabled, [])]
theorem ex_a : docR (oneL exA) oneC = true ∧ kN (oneL exA) ((1 : Nat) : Int) = 2 ∧ valV (oneL exA) oneC ((1 : Nat) : Int) = [] ∧ fixR (oneL exA) ((1 : Nat) : Int) = false ∧ hasA nRequired (nd (oneL exA) ((1 : Nat) : Int)).attrs = true ∧ barP (oneL exA) 1 = false ∧ thereP (oneL exA) oneC 1 = true := by decide +kernel
theorem ex_b : barP (oneL exB) 1 = true ∧ thereP (oneL exB) oneC 1 = true := by decide +kernel
theorem oneC_ok : CtlsOk oneC := by
 intro c hc x hx
 simp only [oneC, List.mem_cons, List.not_mem_nil, or_false] at hc
 rcases hc with rfl | rfl <;> cases hx
theorem flags_ex (vn vc : Value) (w : World) (hD : DocAt w vn vc (oneL exA) oneC) : Calls Tryz.prog 14 #[.agg #[vn, vc], .int .i64 ((1 : Nat) : Int)] w (RetI 1 w) := by
 obtain ⟨h1, h2, h3, h4, h5, _, _⟩ := ex_a
 have hl : (1 : Nat) < (oneL exA).length := by decide
 have key := flags_gen vn vc (oneL exA) oneC 1 hl h1 (by rw [h2]; rfl) w hD (vhas_one vn vc _ _ oneC_ok 1 hl h1 w hD (by rw [h2]; decide)) true false false 0 0 0 false false false
  (fun w' h => by
   have := lacks_val vn vc (oneL exA) oneC 1 hl h1 (by rw [h2]; decide) w' (hD.below h) (vhas_one vn vc _ _ oneC_ok 1 hl h1 w' (hD.below h) (by rw [h2]; decide))
   rw [h2, h3, h4, h5] at this
   rw [h2]
   exact this)
  (fun g => absurd h3 g) (fun g => absurd h3 g) (fun g => absurd g (by decide)) (fun g => absurd g (by decide)) (fun g => absurd g (by decide))
  (fun w' va hA _ => stepflags_no _ (by rw [h2]; exact ⟨by decide, by decide⟩) (by rw [h2]; decide) va _ _ w' hA)
 rw [h3] at key
 exact key
theorem attr1_at (w : World) (T : TypeId) : AttrsAt (w.alloc (.cells #[.string ⟨nRequired.toArray⟩, .string ⟨#[]⟩] T)) (.slice (some ⟨w.heap.size, 0, none⟩) 1 1) exA := by
 refine .inr ⟨_, 0, 1, rfl, by decide, by simp, fun j hj => ?_⟩
 obtain rfl : j = 0 := by have : exA.length = 1 := rfl; omega
 exact ⟨World.cell?_alloc_new w _ _ 0, World.cell?_alloc_new w _ _ 1⟩
theorem attr2_at (w : World) (T : TypeId) : AttrsAt (w.alloc (.cells #[.string ⟨nRequired.toArray⟩, .string ⟨#[]⟩, .string ⟨nDisabled.toArray⟩, .string ⟨#[]⟩] T)) (.slice (some ⟨w.heap.size, 0, none⟩) 2 2) exB := by
 refine .inr ⟨_, 0, 2, rfl, by decide, by simp, fun j hj => ?_⟩
 have : j = 0 ∨ j = 1 := by have : exB.length = 2 := rfl; omega
 rcases this with rfl | rfl
 ·exact ⟨World.cell?_alloc_new w _ _ 0, World.cell?_alloc_new w _ _ 1⟩
 ·exact ⟨World.cell?_alloc_new w _ _ 2, World.cell?_alloc_new w _ _ 3⟩
theorem cap_eq (b : Option Addr) (n : Nat) : CapOk (.slice b n n) := fun a m c e => by cases e; exact Nat.le_refl _
theorem ex_fine (a : List Attr) (h : a = exA ∨ a = exB) : a.length ≤ 140737488355328 ∧ ∀ x ∈ a, x.1.length ≤ 140737488355328 ∧ x.2.length ≤ 140737488355328 := by
 rcases h with rfl | rfl
 ·exact ⟨by decide, by decide⟩
 ·exact ⟨by decide, by decide⟩
theorem wakes18_any (w : World) : Calls Tryz.prog 9 #[] w (RetB true w) := by
 have HA := Lib.hid (fun w => one_doc_any _ exA _ (attr1_at w 45) (cap_eq _ _) (ex_fine _ (.inl rfl)).1 (ex_fine _ (.inl rfl)).2)
 have HB := Lib.hid (fun w => one_doc_any _ exB _ (attr2_at w 45) (cap_eq _ _) (ex_fine _ (.inr rfl)).1 (ex_fine _ (.inr rfl)).2)
 have HFl := Lib.hid (fun vn vc w' (h : DocAt w' vn vc (oneL exA) oneC) => flags_ex vn vc w' h)
 have HV1 := Lib.hid (fun vn vc w' (h : DocAt w' vn vc (oneL exA) oneC) => by
  have := valid_gen vn vc (oneL exA) oneC 1 1 w' h (fun _ _ w2 hb => flags_ex vn vc w2 (h.below hb))
  rwa [show validP (oneL exA) oneC 1 1 = false from by unfold validP; rw [ex_a.2.2.2.2.2.1, ex_a.2.2.2.2.2.2]; rfl] at this)
 have HV2 := Lib.hid (fun vn vc w' (h : DocAt w' vn vc (oneL exB) oneC) => by
  have := valid_gen vn vc (oneL exB) oneC 1 0 w' h (fun _ hh => by rw [ex_b.1] at hh; cases hh)
  rwa [show validP (oneL exB) oneC 1 0 = true from by unfold validP; rw [ex_b.1]; simp] at this)
 have HBa := Lib.hid (fun vn w' (hL : LFine (oneL exB)) (h : NodesAt w' vn (oneL exB)) => by
  have := barred_any vn (oneL exB) hL 1 w' h
  rwa [ex_b.1] at this)
 go_enter Tryz.func9, Tryz.ntmps9
 go_wp2_with fail
 refine (HA.out _).mono ?_
 rintro e w1 ⟨vn1, vc1, rfl, hD1, hb1⟩
 have hB1 : Below w.heap.size w w1 := ((Below.refl _ w).alloc (Nat.le_refl _) _).trans (hb1.mono (by simp))
 obtain ⟨oa1, ca1, rfl⟩ := NodesAt.lenN hD1.nodes
 obtain ⟨oc1, cc1, rfl⟩ := CtlsAt.lenN hD1.ctls
 have HD1 := Lib.hid hD1
 clear hD1 hb1
 go_wp2_with fail
 refine (HB.out _).mono ?_
 rintro e w2 ⟨vn2, vc2, rfl, hD2, hb2⟩
 have hB2 : Below w.heap.size w w2 := below_trans hB1 (((Below.refl _ w1).alloc (Nat.le_refl _) _).trans (hb2.mono (by simp)))
 have hB12 : Below w1.heap.size w1 w2 := ((Below.refl _ w1).alloc (Nat.le_refl _) _).trans (hb2.mono (by simp))
 obtain ⟨oa2, ca2, rfl⟩ := NodesAt.lenN hD2.nodes
 obtain ⟨oc2, cc2, rfl⟩ := CtlsAt.lenN hD2.ctls
 obtain ⟨wC, hwC⟩ : ∃ wC, wC = (w2.alloc (.cells #[.slice oa1 (oneL exA).length ca1, .slice oc1 oneC.length cc1] 28)).alloc (.cells #[.slice oa2 (oneL exB).length ca2, .slice oc2 oneC.length cc2] 28) := ⟨_, rfl⟩
 have hbC : Below w2.heap.size w2 wC := by rw [hwC]; exact ((Below.refl _ w2).alloc (Nat.le_refl _) _).alloc (by simp) _
 have f0 : wC.cell? ⟨w2.heap.size, 0, none⟩ = some (.slice oa1 (oneL exA).length ca1) := by
  rw [hwC, World.cell?_alloc_lt _ _ _ (by simp)]; exact (doc_cells w2 _ _ _ _ _ _ _).1
 have f1 : wC.cell? ⟨w2.heap.size, 1, none⟩ = some (.slice oc1 oneC.length cc1) := by
  rw [hwC, World.cell?_alloc_lt _ _ _ (by simp)]; exact (doc_cells w2 _ _ _ _ _ _ _).2
 have g0 : wC.cell? ⟨w2.heap.size + 1, 0, none⟩ = some (.slice oa2 (oneL exB).length ca2) := by
  have := (doc_cells (w2.alloc (.cells #[.slice oa1 (oneL exA).length ca1, .slice oc1 oneC.length cc1] 28)) oa2 oc2 (oneL exB).length ca2 oneC.length cc2 28).1
  rw [World.size_alloc] at this
  rw [hwC]; exact this
 have g1 : wC.cell? ⟨w2.heap.size + 1, 1, none⟩ = some (.slice oc2 oneC.length cc2) := by
  have := (doc_cells (w2.alloc (.cells #[.slice oa1 (oneL exA).length ca1, .slice oc1 oneC.length cc1] 28)) oa2 oc2 (oneL exB).length ca2 oneC.length cc2 28).2
  rw [World.size_alloc] at this
  rw [hwC]; exact this
 have HDA := Lib.hid (HD1.out.below (below_trans hB12 hbC))
 have HDB := Lib.hid (hD2.below hbC)
 have hB3 := below_trans hB2 hbC
 clear HD1 hD2 hB12 hbC hb2 HA HB
 go_wp2_with fail
 rw [← hwC]
 clear hwC
 refine (HFl.out _ _ wC HDA.out).mono ?_
 rintro e w3 ⟨rfl, hb3⟩
 have hB4 := below_trans hB3 hb3
 have f0 := cell_below hb3 f0
 have f1 := cell_below hb3 f1
 have g0 := cell_below hb3 g0
 have g1 := cell_below hb3 g1
 have HDA := Lib.hid (HDA.out.below hb3)
 have HDB := Lib.hid (HDB.out.below hb3)
 clear hb3
 go_wp2_with fail
 refine (HV1.out _ _ w3 HDA.out).mono ?_
 rintro e w4 ⟨rfl, hb4⟩
 have hB5 := below_trans hB4 hb4
 have g0 := cell_below hb4 g0
 have g1 := cell_below hb4 g1
 have HDB := Lib.hid (HDB.out.below hb4)
 clear hb4 f0 f1 HDA
 go_wp2_with fail
 refine (HBa.out _ w4 HDB.out.fine HDB.out.nodes).mono ?_
 rintro e w5 ⟨rfl, hb5⟩
 have hB6 := below_trans hB5 hb5
 have g0 := cell_below hb5 g0
 have g1 := cell_below hb5 g1
 have HDB := Lib.hid (HDB.out.below hb5)
 clear hb5
 go_wp2_with fail
 refine (HV2.out _ _ w5 HDB.out).mono ?_
 rintro e w6 ⟨rfl, hb6⟩
 go_wp2_with fail
 go_ret
 exact ⟨rfl, below_trans hB6 hb6⟩

def longC (c : Ctl) : Bool := decide (400 < c.value.length)
def longA (a : Attr) : Bool := decide (400 < a.2.length)
def longN (n : Nd) : Bool := decide (60 < n.attrs.length) || n.attrs.any longA
def longD (l : List Nd) (cs : List Ctl) : Bool := cs.any longC || l.any longN
theorem long_any (vn vc : Value) (l : List Nd) (cs : List Ctl) (w : World) (hD : DocAt w vn vc l cs) : Calls Tryz.prog 13 #[.agg #[vn, vc]] w (RetB (longD l cs) w) := by
 have hll := hD.fine.len
 have hcl : cs.length ≤ 140737488355328 := by have := hD.cb; omega
 obtain ⟨oa, ca, rfl⟩ := NodesAt.lenN hD.nodes
 obtain ⟨oc, cc, rfl⟩ := CtlsAt.lenN hD.ctls
 obtain ⟨wA, hwA⟩ : ∃ wA, wA = w.alloc (.cells #[.slice oa l.length ca, .slice oc cs.length cc] 28) := ⟨_, rfl⟩
 have hB1 : Below w.heap.size w wA := by rw [hwA]; exact (Below.refl _ w).alloc (Nat.le_refl _) _
 have f0 : wA.cell? ⟨w.heap.size, 0, none⟩ = some (.slice oa l.length ca) := by rw [hwA]; exact (doc_cells w _ _ _ _ _ _ _).1
 have f1 : wA.cell? ⟨w.heap.size, 1, none⟩ = some (.slice oc cs.length cc) := by rw [hwA]; exact (doc_cells w _ _ _ _ _ _ _).2
 obtain ⟨R, hR⟩ : ∃ R, R = longD l cs := ⟨_, rfl⟩
 rw [← hR]
 have HI0 : Hid (((cs.drop 0).any longC || (l.drop 0).any longN) = R) := Lib.hid hR.symm
 have HD := Lib.hid hD
 clear hD hR
 go_enter Tryz.func13, Tryz.ntmps13
 go_upto_region 1 with fail
 rw [← hwA]
 clear hwA
 go_wp2_with fail
 go_loopw [10] (fun s10 wr => ∃ k : Nat, s10 = .int .i64 k ∧ k ≤ cs.length ∧ Hid (((cs.drop k).any longC || (l.drop 0).any longN) = R) ∧ wA = wr) (fun s10 _ => cs.length - (RowKit.intOf s10).toNat)
 case atStart => exact ⟨0, rfl, Nat.zero_le _, HI0, rfl⟩
 case round =>
  clear HI0
  obtain ⟨k, rfl, hk, hI, rfl⟩ := hrel
  by_cases hlt : k < cs.length
  ·obtain ⟨cb, coff, ccap, f, e, hcb, hct⟩ := ctls_get (HD.out.ctls.below hB1) k hlt
   cases e
   have e0 := hct.cells 0 _ rfl
   have hy := hI.out
   rw [List.drop_eq_getElem_cons hlt, List.any_cons] at hy
   have HY : Hid ((decide (400 < cs[k].value.length) || (cs.drop (k + 1)).any longC || (l.drop 0).any longN) = R) := Lib.hid hy
   have hkI : (k : Int) < (cs.length : Int) := by omega
   clear hI hy hct
   generalize cs[k] = c at *
   obtain ⟨cv, cdi, cty, cch, cdc, cmi, cse, cds, ccu, cfi⟩ := c
   dsimp only [Nat.add_zero] at e0 HY
   by_cases g : 400 < cv.length
   ·have gi : (400 : Int) < (cv.length : Int) := by omega
    have HZ : Hid (R = true) := Lib.hid (by rw [← HY.out, decide_eq_true g]; rfl)
    clear g HY
    go_wp2_with fail
    go_ret
    exact ⟨ret_bool HZ.out.symm, hB1⟩
   ·have gi : ¬ (400 : Int) < (cv.length : Int) := by omega
    have HZ : Hid (((cs.drop (k + 1)).any longC || (l.drop 0).any longN) = R) := Lib.hid (by rw [← HY.out, decide_eq_false g, Bool.false_or])
    clear g HY
    go_wp2_with fail
    go_roundw
    case rel => exact ⟨k + 1, by go_num, by omega, HZ, by first | rfl | trivial⟩
    case measure => simp [RowKit.intOf]; omega
  have hkI : ¬ (k : Int) < (cs.length : Int) := by omega
  have HI1 : Hid ((l.drop 0).any longN = R) := Lib.hid (by have := hI.out; rw [List.drop_eq_nil_of_le (Nat.le_of_not_lt hlt)] at this; exact this)
  clear hI
  go_wp2_with fail
  go_loopw [25] (fun s25 wr => ∃ k : Nat, s25 = .int .i64 k ∧ k ≤ l.length ∧ Hid ((l.drop k).any longN = R) ∧ Below wA.heap.size wA wr) (fun s25 _ => l.length - (RowKit.intOf s25).toNat)
  case atStart => exact ⟨0, rfl, Nat.zero_le _, HI1, Below.refl _ _⟩
  case round =>
   clear HI1
   obtain ⟨k, rfl, hk, hI, hb⟩ := hrel
   have hb0 := below_trans hB1 hb
   have f0 := cell_below hb f0
   by_cases hlt2 : k < l.length
   ·have hkI2 : (k : Int) < (l.length : Int) := by omega
    obtain ⟨nb, noff, ncap, e, hnb⟩ := nodes_addr HD.out.nodes (by omega)
    cases e
    obtain ⟨va, vk, hn⟩ := nodes_get (HD.out.nodes.below hb0) k hlt2
    have c2 := hn.c2
    have hat := hn.attrs
    have hal := (HD.out.fine.nd (k : Int) (by omega) (by omega)).attrs
    have hy := hI.out
    rw [List.drop_eq_getElem_cons hlt2, List.any_cons, ← nd_cast l k hlt2] at hy
    clear hI hn
    generalize nd l (k : Int) = n at *
    obtain ⟨ab, ac, rfl⟩ := AttrsAt.lenN hat
    have HAt := Lib.hid hat
    have HY : Hid ((decide (60 < n.attrs.length) || n.attrs.any longA || (l.drop (k + 1)).any longN) = R) := Lib.hid hy
    clear hy hat
    by_cases g : 60 < n.attrs.length
    ·have gi : (60 : Int) < (n.attrs.length : Int) := by omega
     have HZ : Hid (R = true) := Lib.hid (by rw [← HY.out, decide_eq_true g]; rfl)
     clear g HY
     go_wp2_with fail
     go_ret
     exact ⟨ret_bool HZ.out.symm, hb0⟩
    ·have gi : ¬ (60 : Int) < (n.attrs.length : Int) := by omega
     have HZ : Hid (((n.attrs.drop 0).any longA || (l.drop (k + 1)).any longN) = R) := Lib.hid (by rw [← HY.out, decide_eq_false g, Bool.false_or]; rfl)
     clear g HY
     go_wp2_with fail
     go_loopw [43] (fun s43 wx => ∃ j : Nat, s43 = .int .i64 j ∧ j ≤ n.attrs.length ∧ Hid (((n.attrs.drop j).any longA || (l.drop (k + 1)).any longN) = R) ∧ Below wr.heap.size wr wx) (fun s43 _ => n.attrs.length - (RowKit.intOf s43).toNat)
     case atStart => exact ⟨0, rfl, Nat.zero_le _, HZ, Below.refl _ _⟩
     case round =>
      clear HZ
      obtain ⟨j, rfl, hj, hJ, hbx⟩ := hrel
      have hb0x := below_trans hb0 hbx
      by_cases hlt3 : j < n.attrs.length
      ·rcases HAt.out.below hbx with ⟨h0, _⟩ | ⟨ab, aoff, acap, e, _, hab, hra⟩
       ·rw [h0] at hlt3; exact absurd hlt3 (Nat.not_lt_zero _)
       cases e
       obtain ⟨e0, e1⟩ := hra j hlt3
       have hy := hJ.out
       rw [List.drop_eq_getElem_cons hlt3, List.any_cons] at hy
       have HY : Hid ((decide (400 < n.attrs[j].2.length) || (n.attrs.drop (j + 1)).any longA || (l.drop (k + 1)).any longN) = R) := Lib.hid hy
       have hjI : (j : Int) < (n.attrs.length : Int) := by omega
       clear hJ hy hra
       generalize n.attrs[j] = at1 at *
       obtain ⟨an, av⟩ := at1
       dsimp only at e0 e1 HY
       by_cases g : 400 < av.length
       ·have gi : (400 : Int) < (av.length : Int) := by omega
        have HZ : Hid (R = true) := Lib.hid (by rw [← HY.out, decide_eq_true g]; rfl)
        clear g HY
        go_wp2_with fail
        go_ret
        exact ⟨ret_bool HZ.out.symm, hb0x.alloc (by have := hb0x.size; omega) _⟩
       ·have gi : ¬ (400 : Int) < (av.length : Int) := by omega
        have HZ : Hid (((n.attrs.drop (j + 1)).any longA || (l.drop (k + 1)).any longN) = R) := Lib.hid (by rw [← HY.out, decide_eq_false g, Bool.false_or])
        clear g HY
        go_wp2_with fail
        go_roundw
        case rel => exact ⟨j + 1, by go_num, by omega, HZ, hbx.alloc hbx.size _⟩
        case measure => simp [RowKit.intOf]; omega
      ·have hjI : ¬ (j : Int) < (n.attrs.length : Int) := by omega
       have HZ : Hid ((l.drop (k + 1)).any longN = R) := Lib.hid (by have := hJ.out; rw [List.drop_eq_nil_of_le (Nat.le_of_not_lt hlt3)] at this; exact this)
       clear hJ
       go_wp2_with fail
       go_roundw
       case rel => exact ⟨k + 1, by go_num, by omega, HZ, below_trans hb hbx⟩
       case measure => simp [RowKit.intOf]; omega
   ·have hkI2 : ¬ (k : Int) < (l.length : Int) := by omega
    have HZ : Hid (R = false) := Lib.hid (by have := hI.out; rw [List.drop_eq_nil_of_le (Nat.le_of_not_lt hlt2)] at this; exact this.symm)
    clear hI
    go_wp2_with fail
    go_ret
    exact ⟨ret_bool HZ.out.symm, hb0⟩
end Go.Proofs.YtkhlfggnjcbniaaGreatDoor.doc
