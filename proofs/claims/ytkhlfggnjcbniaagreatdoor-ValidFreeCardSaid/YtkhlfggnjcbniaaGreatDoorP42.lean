/- A part of the proofs: lemmas and contracts. -/
import Derived.Test.YtkhlfggnjcbniaaGreatDoorP35
import Derived.Test.YtkhlfggnjcbniaaGreatDoorP41
set_option maxHeartbeats 12800000
set_option maxRecDepth 1000000
namespace Go.Proofs.YtkhlfggnjcbniaaGreatDoor.doc
open Go.ChangeShapes Go.WideShapes Go.ChangeAt Go.RowKit Go.Lib atr link ctl

theorem membQ_in {l : List Nd} (k : Int) : ∀ x ∈ membQ l k, inR l x := by
 intro x hx
 unfold membQ at hx
 cases h : isP l k 17 with
 | false => rw [h] at hx; cases hx
 | true =>
  rw [h, if_pos rfl] at hx
  obtain ⟨hin, _, hR⟩ := (isP_iff l k 17).1 h
  have hRt := right_rt l hR
  unfold withP at hx
  exact (ord_in hRt _ (top_in hRt k hin).1 x (List.mem_filter.1 hx).1).1
theorem membQ_len {l : List Nd} (k : Int) : (membQ l k).length ≤ 400 := by
 unfold membQ
 cases h : isP l k 17 with
 | false => simp
 | true =>
  rw [if_pos rfl]
  obtain ⟨hin, _, hR⟩ := (isP_iff l k 17).1 h
  have hRt := right_rt l hR
  unfold withP
  exact Nat.le_trans (List.length_filter_le _ _) (Nat.le_trans (ord_le hRt _ (top_in hRt k hin).1) hRt.few)
def reqB (l : List Nd) (x : Int) : Bool := hasA nRequired (nd l x).attrs
def chkB (cs : List Ctl) (x : Int) : Bool := (ct cs x).checked

theorem pred_req (vn vc : Value) (l : List Nd) (cs : List Ctl) (ks : List Int) (hks : ∀ x ∈ ks, inR l x) (B : Nat) (w : World) (hB : B < w.heap.size) (f0 : w.cell? ⟨B, 0, none⟩ = some vn) (_f1 : w.cell? ⟨B, 1, none⟩ = some vc) (hD : DocAt w vn vc l cs) :
  PredI 83 #[.pointer (some ⟨B, 0, none⟩)] (reqB l) ks w := fun W x hx hb => by
 have f0 : W.cell? ⟨B, 0, none⟩ = some vn := (hb.cell (p := ⟨B, 0, none⟩) hB).trans f0
 have hin := hks x hx
 obtain ⟨xn, rfl⟩ : ∃ xn : Nat, x = (xn : Int) := ⟨x.toNat, by have := hin.1; omega⟩
 have hxl : xn < l.length := by have := hin.2; omega
 have hlen := hD.fine.len
 obtain ⟨b, off, cap, rfl, hbb⟩ := nodes_addr hD.nodes (by omega)
 obtain ⟨va, vk, hn⟩ := nodes_get (hD.nodes.below hb) xn hxl
 have hhas := vhas_any (nd l (xn : Int)) va vk nRequired (hD.fine.nd _ (by omega) (by omega)).attrs W hn.attrs hn.kids
 show Calls Tryz.prog 83 #[.int .i64 xn, .pointer (some ⟨B, 0, none⟩)] W _
 have HX : Hid (reqB l (xn : Int) = hasA nRequired (nd l (xn : Int)).attrs) := Lib.hid rfl
 have hx0 : (0 : Int) ≤ (xn : Int) := by omega
 have hx1 : (xn : Int) < (l.length : Int) := by omega
 unfold nodeV at hhas
 obtain ⟨c0, c1, c2, c3, c4, _, _, _⟩ := hn
 generalize reqB l (xn : Int) = q at *
 generalize hasA nRequired (nd l (xn : Int)).attrs = r at *
 unfold nRequired at hhas
 generalize nd l (xn : Int) = n at *
 clear hD hin hx hks
 go_enter Tryz.func83, Tryz.ntmps83
 go_wp2_with fail
 refine hhas.mono ?_
 rintro e w1 ⟨rfl, hb1⟩
 clear hhas
 go_wp2_with fail
 go_ret
 exact ⟨ret_bool HX.out.symm, hb.trans (hb1.mono hb.size)⟩
theorem pred_chk (vn vc : Value) (l : List Nd) (cs : List Ctl) (hlc : l.length = cs.length) (ks : List Int) (hks : ∀ x ∈ ks, inR l x) (B : Nat) (w : World) (hB : B < w.heap.size) (f1 : w.cell? ⟨B, 1, none⟩ = some vc) (hD : DocAt w vn vc l cs) :
  PredI 84 #[.pointer (some ⟨B, 0, none⟩)] (chkB cs) ks w := fun W x hx hb => by
 have f1 : W.cell? ⟨B, 1, none⟩ = some vc := (hb.cell (p := ⟨B, 1, none⟩) hB).trans f1
 have hin := hks x hx
 obtain ⟨xn, rfl⟩ : ∃ xn : Nat, x = (xn : Int) := ⟨x.toNat, by have := hin.1; omega⟩
 have hxl : xn < cs.length := by have := hin.2; omega
 obtain ⟨cb, coff, ccap, f, rfl, hcb, hct⟩ := ctls_get (hD.ctls.below hb) xn hxl
 show Calls Tryz.prog 84 #[.int .i64 xn, .pointer (some ⟨B, 0, none⟩)] W _
 have HX : Hid (chkB cs (xn : Int) = cs[xn].checked) := Lib.hid (by unfold chkB; rw [ct_get cs xn hxl])
 have hx0 : (0 : Int) ≤ (xn : Int) := by omega
 have hx1 : (xn : Int) < (cs.length : Int) := by omega
 have e3 := hct.cells 3 _ rfl
 generalize chkB cs (xn : Int) = q at *
 generalize cs[xn] = c at *
 obtain ⟨cv, cdi, cty, cch, cdc, cmi, cse, cds, ccu, cfi⟩ := c
 clear hD hin hx hks hct hlc
 go_enter Tryz.func84, Tryz.ntmps84
 go_wp2_with fail
 go_ret
 exact ⟨ret_bool HX.out.symm, hb⟩

theorem lacks_radio (vn vc : Value) (l : List Nd) (cs : List Ctl) (k : Nat) (_hk : k < l.length) (hq : docR l cs = true) (hkd : kN l (k : Int) = 17) (w : World) (hD : DocAt w vn vc l cs) :
  Calls Tryz.prog 39 #[.agg #[vn, vc], .int .i64 k, .int .i64 (kN l (k : Int))] w (RetB ((membQ l (k : Int)).any (reqB l) && !(membQ l (k : Int)).any (chkB cs)) w) := by
 obtain ⟨hlc, hR⟩ := (docR_iff l cs).1 hq
 rw [hkd]
 have hlen := hD.fine.len
 obtain ⟨oa, ca, rfl⟩ := NodesAt.lenN hD.nodes
 obtain ⟨oc, cc, rfl⟩ := CtlsAt.lenN hD.ctls
 have HM := Lib.hid (fun w' (h : Below w.heap.size w w') => members_any _ l hD.fine (k : Int) w' (hD.nodes.below h))
 have hml := membQ_len (l := l) (k : Int)
 have eg1 : ∀ args w, (callFunc 83 args).run Tryz.prog w = .ok (.enter 83 args) w := enters_of Tryz.func83 (by kernel_rfl) rfl
 have eg2 : ∀ args w, (callFunc 84 args).run Tryz.prog w = .ok (.enter 84 args) w := enters_of Tryz.func84 (by kernel_rfl) rfl
 have HR := Lib.hid (fun w' (h : Below w.heap.size w w') (hs : w.heap.size < w'.heap.size) (f0 : w'.cell? ⟨w.heap.size, 0, none⟩ = some (.slice oa l.length ca)) (f1 : w'.cell? ⟨w.heap.size, 1, none⟩ = some (.slice oc cs.length cc)) v (hI : IntsAt w' v (membQ l (k : Int))) =>
  conti_any _ _ eg1 (reqB l) v (membQ l (k : Int)) (by omega) w' hI (pred_req _ _ l cs _ (membQ_in _) w.heap.size w' hs f0 f1 (hD.below h)))
 have HC := Lib.hid (fun w' (h : Below w.heap.size w w') (hs : w.heap.size < w'.heap.size) (f1 : w'.cell? ⟨w.heap.size, 1, none⟩ = some (.slice oc cs.length cc)) v (hI : IntsAt w' v (membQ l (k : Int))) =>
  conti_any _ _ eg2 (chkB cs) v (membQ l (k : Int)) (by omega) w' hI (pred_chk _ _ l cs hlc _ (membQ_in _) w.heap.size w' hs f1 (hD.below h)))
 obtain ⟨wA, hwA⟩ : ∃ wA, wA = w.alloc (.cells #[.slice oa l.length ca, .slice oc cs.length cc] 28) := ⟨_, rfl⟩
 have hB1 : Below w.heap.size w wA := by rw [hwA]; exact (Below.refl _ w).alloc (Nat.le_refl _) _
 have f0 : wA.cell? ⟨w.heap.size, 0, none⟩ = some (.slice oa l.length ca) := by rw [hwA]; exact (doc_cells w _ _ _ _ _ _ _).1
 have f1 : wA.cell? ⟨w.heap.size, 1, none⟩ = some (.slice oc cs.length cc) := by rw [hwA]; exact (doc_cells w _ _ _ _ _ _ _).2
 have hs : w.heap.size < wA.heap.size := by rw [hwA]; simp
 generalize membQ l (k : Int) = ms at *
 obtain ⟨qr, hqr⟩ : ∃ q, q = ms.any (reqB l) := ⟨_, rfl⟩
 obtain ⟨qc, hqc⟩ : ∃ q, q = ms.any (chkB cs) := ⟨_, rfl⟩
 rw [← hqr] at HR ⊢
 rw [← hqc] at HC ⊢
 have hm := HM.out wA hB1
 clear hD hq hR hkd hqr hqc eg1 eg2 HM hlc
 go_enter Tryz.func39, Tryz.ntmps39
 go_wp2_with fail
 rw [← hwA]
 clear hwA
 go_wp2_with fail
 refine hm.mono ?_
 rintro e w1 ⟨v1, rfl, hown, hb1⟩
 have hB2 := below_trans hB1 hb1
 have hs2 := Nat.lt_of_lt_of_le hs hb1.size
 have f0 := cell_below hb1 f0
 have f1 := cell_below hb1 f1
 have HI := Lib.hid hown.ints
 obtain ⟨ra, rc, rfl⟩ := RowAt.lenN hown.ints
 have hr := HR.out w1 hB2 hs2 f0 f1 _ HI.out
 clear hm hown
 go_wp2_with fail
 refine hr.mono ?_
 rintro e w2 ⟨rfl, hb2⟩
 have hB3 := below_trans hB2 hb2
 have f1 := cell_below hb2 f1
 clear hr
 cases qr
 ·go_wp2_with fail
  go_ret
  exact ⟨rfl, hB3⟩
 have hc := HC.out w2 hB3 (Nat.lt_of_lt_of_le hs2 hb2.size) f1 _ (HI.out.below hb2)
 go_wp2_with fail
 refine hc.mono ?_
 rintro e w3 ⟨rfl, hb3⟩
 go_wp2_with fail
 go_ret
 exact ⟨rfl, below_trans hB3 hb3⟩

theorem lacks_box (vn vc : Value) (l : List Nd) (cs : List Ctl) (k : Nat) (hk : k < l.length) (hq : docR l cs = true) (hkd : kN l (k : Int) = 16) (w : World) (hD : DocAt w vn vc l cs) :
  Calls Tryz.prog 39 #[.agg #[vn, vc], .int .i64 k, .int .i64 (kN l (k : Int))] w (RetB (hasA nRequired (nd l (k : Int)).attrs && !(ct cs (k : Int)).checked) w) := by
 obtain ⟨hlc, hR⟩ := (docR_iff l cs).1 hq
 rw [hkd]
 have hlen := hD.fine.len
 have hFine := hD.fine
 obtain ⟨b, off, cap, rfl, hb⟩ := nodes_addr hD.nodes (by omega)
 have hn0 := nodes_get hD.nodes k hk
 have HHas := Lib.hid (fun w' va vk h1 h2 => vhas_any (nd l (k : Int)) va vk nRequired (hFine.nd _ (by omega) (by omega)).attrs w' h1 h2)
 have hreq := fun w => required_any 16 w
 rw [show reqP 16 = true from rfl] at hreq
 have hkc : k < cs.length := by omega
 obtain ⟨cb, coff, ccap, f, rfl, hcb, hct0⟩ := ctls_get hD.ctls k hkc
 have HCt : Hid (ct cs (k : Int) = cs[k]) := Lib.hid (ct_get cs k hkc)
 rw [HCt.out]
 have HC0 := Lib.hid hct0
 have h0 : (0 : Int) ≤ (k : Int) := by omega
 have hk' : (k : Int) < (l.length : Int) := by omega
 have hkc' : (k : Int) < (cs.length : Int) := by omega
 generalize hasA nRequired (nd l (k : Int)).attrs = ha at *
 generalize nd l (k : Int) = n at *
 generalize cs[k] = c at *
 obtain ⟨cv, cdi, cty, cch, cdc, cmi, cse, cds, ccu, cfi⟩ := c
 dsimp only at HC0 hct0 ⊢
 obtain ⟨wA, hwA⟩ : ∃ wA, wA = w.alloc (.cells #[.slice (some ⟨b, off, none⟩) l.length cap, .slice (some ⟨cb, coff, none⟩) cs.length ccap] 28) := ⟨_, rfl⟩
 have hB1 : Below w.heap.size w wA := by rw [hwA]; exact (Below.refl _ w).alloc (Nat.le_refl _) _
 have f0 : wA.cell? ⟨w.heap.size, 0, none⟩ = some (.slice (some ⟨b, off, none⟩) l.length cap) := by rw [hwA]; exact (doc_cells w _ _ _ _ _ _ _).1
 have f1 : wA.cell? ⟨w.heap.size, 1, none⟩ = some (.slice (some ⟨cb, coff, none⟩) cs.length ccap) := by rw [hwA]; exact (doc_cells w _ _ _ _ _ _ _).2
 clear hD hq hlc hR hFine hkd HCt
 obtain ⟨va, vk, hn0⟩ := hn0
 have HN0 := Lib.hid hn0
 obtain ⟨c0, c1, c2, c3, c4, _, _, _⟩ := hn0
 have hhas := HHas.out _ va vk (HN0.out.attrs.below hB1) (HN0.out.kids.below hB1)
 unfold nodeV at hhas
 clear hct0
 go_enter Tryz.func39, Tryz.ntmps39
 go_wp2_with fail
 rw [← hwA]
 clear hwA
 refine (hreq _).mono ?_
 rintro e w1 ⟨rfl, rfl⟩
 obtain ⟨c0, c1, c2, c3, c4, _, _, _⟩ := HN0.out.below hB1
 go_wp2_with fail
 refine hhas.mono ?_
 rintro e w2 ⟨rfl, hb2⟩
 have hB2 := below_trans hB1 hb2
 have f0 := cell_below hb2 f0
 have f1 := cell_below hb2 f1
 clear hhas hreq c0 c1 c2 c3 c4
 cases ha
 case false =>
  go_wp2_with fail
  go_ret
  exact ⟨rfl, hB2⟩
 have hct := HC0.out.below hB2
 have e3 := hct.cells 3 _ rfl
 clear hct
 go_wp2_with fail
 go_ret
 exact ⟨rfl, hB2⟩

theorem lacks_file (vn vc : Value) (l : List Nd) (cs : List Ctl) (k : Nat) (hk : k < l.length) (hq : docR l cs = true) (hkd : kN l (k : Int) = 18) (w : World) (hD : DocAt w vn vc l cs) :
  Calls Tryz.prog 39 #[.agg #[vn, vc], .int .i64 k, .int .i64 (kN l (k : Int))] w (RetB (hasA nRequired (nd l (k : Int)).attrs && decide ((ct cs (k : Int)).files = [])) w) := by
 obtain ⟨hlc, hR⟩ := (docR_iff l cs).1 hq
 rw [hkd]
 have hlen := hD.fine.len
 have hFine := hD.fine
 obtain ⟨b, off, cap, rfl, hb⟩ := nodes_addr hD.nodes (by omega)
 have hn0 := nodes_get hD.nodes k hk
 have HHas := Lib.hid (fun w' va vk h1 h2 => vhas_any (nd l (k : Int)) va vk nRequired (hFine.nd _ (by omega) (by omega)).attrs w' h1 h2)
 have hreq := fun w => required_any 18 w
 rw [show reqP 18 = true from rfl] at hreq
 have hkc : k < cs.length := by omega
 obtain ⟨cb, coff, ccap, f, rfl, hcb, hct0⟩ := ctls_get hD.ctls k hkc
 have HCt : Hid (ct cs (k : Int) = cs[k]) := Lib.hid (ct_get cs k hkc)
 rw [HCt.out]
 have HC0 := Lib.hid hct0
 have h0 : (0 : Int) ≤ (k : Int) := by omega
 have hk' : (k : Int) < (l.length : Int) := by omega
 have hkc' : (k : Int) < (cs.length : Int) := by omega
 generalize hasA nRequired (nd l (k : Int)).attrs = ha at *
 generalize nd l (k : Int) = n at *
 generalize cs[k] = c at *
 obtain ⟨cv, cdi, cty, cch, cdc, cmi, cse, cds, ccu, cfi⟩ := c
 dsimp only at HC0 hct0 ⊢
 obtain ⟨wA, hwA⟩ : ∃ wA, wA = w.alloc (.cells #[.slice (some ⟨b, off, none⟩) l.length cap, .slice (some ⟨cb, coff, none⟩) cs.length ccap] 28) := ⟨_, rfl⟩
 have hB1 : Below w.heap.size w wA := by rw [hwA]; exact (Below.refl _ w).alloc (Nat.le_refl _) _
 have f0 : wA.cell? ⟨w.heap.size, 0, none⟩ = some (.slice (some ⟨b, off, none⟩) l.length cap) := by rw [hwA]; exact (doc_cells w _ _ _ _ _ _ _).1
 have f1 : wA.cell? ⟨w.heap.size, 1, none⟩ = some (.slice (some ⟨cb, coff, none⟩) cs.length ccap) := by rw [hwA]; exact (doc_cells w _ _ _ _ _ _ _).2
 clear hD hq hlc hR hFine hkd HCt
 obtain ⟨va, vk, hn0⟩ := hn0
 have HN0 := Lib.hid hn0
 obtain ⟨c0, c1, c2, c3, c4, _, _, _⟩ := hn0
 have hhas := HHas.out _ va vk (HN0.out.attrs.below hB1) (HN0.out.kids.below hB1)
 unfold nodeV at hhas
 clear hct0
 go_enter Tryz.func39, Tryz.ntmps39
 go_wp2_with fail
 rw [← hwA]
 clear hwA
 refine (hreq _).mono ?_
 rintro e w1 ⟨rfl, rfl⟩
 obtain ⟨c0, c1, c2, c3, c4, _, _, _⟩ := HN0.out.below hB1
 go_wp2_with fail
 refine hhas.mono ?_
 rintro e w2 ⟨rfl, hb2⟩
 have hB2 := below_trans hB1 hb2
 have f0 := cell_below hb2 f0
 have f1 := cell_below hb2 f1
 clear hhas hreq c0 c1 c2 c3 c4
 cases ha
 case false =>
  go_wp2_with fail
  go_ret
  exact ⟨rfl, hB2⟩
 have hct := HC0.out.below hB2
 obtain ⟨fa, fc, rfl⟩ := RowAt.lenN hct.files
 have e9 := hct.cells 9 _ rfl
 clear hct HC0
 cases cfi with
 | nil =>
  go_wp2_with fail
  go_ret
  exact ⟨rfl, hB2⟩
 | cons x r =>
  have hz : (((x :: r).length : Int) == 0) = false := by simp; omega
  generalize (x :: r).length = m at *
  go_wp2_with fail
  go_ret
  exact ⟨ret_bool (by simp), hB2⟩
end Go.Proofs.YtkhlfggnjcbniaaGreatDoor.doc
