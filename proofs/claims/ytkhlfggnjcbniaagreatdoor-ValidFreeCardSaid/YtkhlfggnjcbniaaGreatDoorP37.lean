/- A part of the proofs: lemmas and contracts. -/
import Derived.Test.YtkhlfggnjcbniaaGreatDoorP35
set_option maxHeartbeats 12800000
set_option maxRecDepth 1000000
namespace Go.Proofs.YtkhlfggnjcbniaaGreatDoor.doc
open Go.ChangeShapes Go.WideShapes Go.ChangeAt Go.RowKit Go.Lib atr link ctl stp
theorem rvalue18_gen (vn vc : Value) (l : List Nd) (cs : List Ctl) (hC : CtlsOk cs) (k : Nat) (hk : k < l.length) (hq : docR l cs = true) (w : World) (hD : DocAt w vn vc l cs)
  (HS : kN l (k : Int) = 23 → ∀ w', Below w.heap.size w w' → Calls Tryz.prog 56 #[.agg #[vn, vc], .int .i64 k] w' fun e w'' => e = .returned (.string ⟨(ValueP l cs (k : Int)).toArray⟩) ∧ Below w'.heap.size w' w'') :
  Calls Tryz.prog 23 #[.agg #[vn, vc], .int .i64 k] w fun e w' => e = .returned (.string ⟨(valV l cs (k : Int)).toArray⟩) ∧ Below w.heap.size w w' := by
 obtain ⟨hlc, hR⟩ := (docR_iff l cs).1 hq
 have hlen := hD.fine.len
 have hkc : k < cs.length := by omega
 have HSel := Lib.hid HS
 clear HS
 obtain ⟨b, off, cap, rfl, hb⟩ := nodes_addr hD.nodes (by omega)
 obtain ⟨cb, coff, ccap, f, rfl, hcb, hct0⟩ := ctls_get hD.ctls k hkc
 have HC0 := Lib.hid hct0
 have HFin := Lib.hid (fine_of hR k hk)
 have HOf := Lib.hid (fun w' va vk h1 h2 => rof_any (nd l (k : Int)) va vk (hD.fine.nd _ (by omega) (by omega)) w' h1 h2)
 have HK : Hid (kindP (nd l (k : Int)).name (nd l (k : Int)).attrs = kN l (k : Int)) := Lib.hid rfl
 rw [HK.out] at HOf
 have HV : Hid (valV l cs (k : Int) = if kN l (k : Int) = 23 then ValueP l cs (k : Int) else ctl.valueP (kN l (k : Int)) (ct cs (k : Int)).value (ct cs (k : Int)).files (nd l (k : Int)).attrs) := Lib.hid rfl
 have HCt : Hid (ct cs (k : Int) = cs[k]) := Lib.hid (ct_get cs k hkc)
 have HFn := Lib.hid (hC cs[k] (List.getElem_mem hkc))
 obtain ⟨va, vk, hn0⟩ := nodes_get hD.nodes k hk
 have HN0 := Lib.hid hn0
 obtain ⟨aa, ac, rfl⟩ := AttrsAt.lenN hn0.attrs
 obtain ⟨ka, kc, rfl⟩ := RowAt.lenN hn0.kids
 obtain ⟨n0, n1, n2, n3, n4, _, _, _⟩ := hn0
 obtain ⟨res, hres⟩ : ∃ r, r = valV l cs (k : Int) := ⟨_, rfl⟩
 rw [← hres] at HV ⊢
 have hkc' : (k : Int) < (cs.length : Int) := by omega
 have hk' : (k : Int) < (l.length : Int) := by omega
 have h0 : (0 : Int) ≤ (k : Int) := by omega
 generalize kN l (k : Int) = kd at *
 generalize hnn : nd l (k : Int) = n at *
 clear hres hq hR hnn HK hD hct0 hlc
 obtain ⟨wA, hwA⟩ : ∃ wA, wA = w.alloc (.cells #[.slice (some ⟨b, off, none⟩) l.length cap, .slice (some ⟨cb, coff, none⟩) cs.length ccap] 28) := ⟨_, rfl⟩
 have hBA : Below w.heap.size w wA := by rw [hwA]; exact (Below.refl _ w).alloc (Nat.le_refl _) _
 have f0 : wA.cell? ⟨w.heap.size, 0, none⟩ = some (.slice (some ⟨b, off, none⟩) l.length cap) := by rw [hwA]; exact (doc_cells w _ _ _ _ _ _ _).1
 have f1 : wA.cell? ⟨w.heap.size, 1, none⟩ = some (.slice (some ⟨cb, coff, none⟩) cs.length ccap) := by rw [hwA]; exact (doc_cells w _ _ _ _ _ _ _).2
 have hof := HOf.out wA (.slice aa n.attrs.length ac) (.slice ka n.kids.length kc) (HN0.out.attrs.below hBA) (HN0.out.kids.below hBA)
 unfold nodeV at hof
 go_enter Tryz.func23, Tryz.ntmps23
 go_wp2_with fail
 rw [← hwA]
 clear hwA n0 n1 n2 n3 n4
 refine hof.mono ?_
 rintro e w1 ⟨rfl, hb1⟩
 have f0 := cell_below hb1 f0
 have f1 := cell_below hb1 f1
 have hB1 := below_trans hBA hb1
 clear hof
 by_cases g23 : kd = 23
 ·have gb : (kd == 23) = true := by simp [g23]
  have HX : Hid (res = ValueP l cs (k : Int)) := Lib.hid (by rw [HV.out, if_pos g23])
  have hs := HSel.out g23 w1 hB1
  rw [← HX.out] at hs
  clear HV HX g23
  go_wp2_with fail
  refine hs.mono ?_
  rintro e w2 ⟨rfl, hb2⟩
  go_wp2_with fail
  go_ret
  exact ⟨rfl, below_trans hB1 hb2⟩
 have gb : (kd == 23) = false := by simpa using g23
 have hct := HC0.out.below hB1
 have HX : Hid (res = ctl.valueP kd cs[k].value cs[k].files n.attrs) := Lib.hid (by rw [HV.out, if_neg g23, HCt.out])
 have HVal := Lib.hid (fun w' (h : Below w.heap.size w w') => rValue_any kd cs[k].value cs[k].dirty cs[k].typed cs[k].checked cs[k].dchecked cs[k].mixed cs[k].selected cs[k].dselected cs[k].custom f (HC0.out.below h).files.isSl (.slice aa n.attrs.length ac) n.attrs HFin.out cs[k].files (fun x hx => by have := HFn.out x hx; omega) w' (HN0.out.attrs.below h) (HC0.out.below h).files)
 rw [← HX.out] at HVal
 obtain ⟨fa, fn, fc, rfl⟩ := hct.files.isSl
 have e2 := (HN0.out.below hB1).c2
 have a0 := hct.cells 0 _ rfl
 have a1 := hct.cells 1 _ rfl
 have a2 := hct.cells 2 _ rfl
 have a3 := hct.cells 3 _ rfl
 have a4 := hct.cells 4 _ rfl
 have a5 := hct.cells 5 _ rfl
 have a6 := hct.cells 6 _ rfl
 have a7 := hct.cells 7 _ rfl
 have a8 := hct.cells 8 _ rfl
 have a9 := hct.cells 9 _ rfl
 clear HV HX g23 hct HC0 HSel HCt HFn HFin HN0 HOf
 generalize cs[k] = x at *
 obtain ⟨v, d, t, ch, dc, m, s, ds, cu, fs⟩ := x
 dsimp only [Nat.add_zero] at a0 a1 a2 a3 a4 a5 a6 a7 a8 a9 HVal
 unfold ctlV at HVal
 go_wp2_with fail
 go_still_tail 12, (by kernel_rfl)
 change wpList _ _ _ _ _ w1.drew
 have hbd := hB1.drew
 generalize w1.drew = wd at *
 have hv := HVal.out wd hbd
 clear HVal a0 a1 a2 a3 a4 a5 a6 a7 a8 a9
 go_wp2_with fail
 refine hv.mono ?_
 rintro e w2 ⟨rfl, hb2⟩
 go_wp2_with fail
 go_ret
 exact ⟨rfl, below_trans hbd hb2⟩
def RVHas (vn vc : Value) (l : List Nd) (cs : List Ctl) (k : Nat) (w : World) : Prop := ∀ w', Below w.heap.size w w' → Calls Tryz.prog 23 #[.agg #[vn, vc], .int .i64 k] w' fun e w'' => e = .returned (.string ⟨(valV l cs (k : Int)).toArray⟩) ∧ Below w'.heap.size w' w''
theorem rvhas_one (vn vc : Value) (l : List Nd) (cs : List Ctl) (hC : CtlsOk cs) (k : Nat) (hk : k < l.length) (hq : docR l cs = true) (w : World) (hD : DocAt w vn vc l cs) (hkd : kN l (k : Int) ≠ 23) : RVHas vn vc l cs k w :=
 fun w' h => rvalue18_gen vn vc l cs hC k hk hq w' (hD.below h) (fun g => absurd g hkd)
end Go.Proofs.YtkhlfggnjcbniaaGreatDoor.doc
