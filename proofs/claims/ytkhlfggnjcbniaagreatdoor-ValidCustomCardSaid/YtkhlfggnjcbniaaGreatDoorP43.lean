/- A part of the proofs: lemmas and contracts. -/
import Derived.Test.YtkhlfggnjcbniaaGreatDoorP36
import Derived.Test.YtkhlfggnjcbniaaGreatDoorP42
set_option maxHeartbeats 12800000
set_option maxRecDepth 1000000
namespace Go.Proofs.YtkhlfggnjcbniaaGreatDoor.doc
open Go.ChangeShapes Go.WideShapes Go.ChangeAt Go.RowKit Go.Lib atr link ctl

theorem membQ_in {l : List Nd} (k : Int) : ∀ x ∈ membQ l k, inR l x := by
 intro x hx
 unfold membQ at hx
 cases h : isP l k 17 with
 | false => rw [h] at hx; cases hx
 | true =>
  rw [h, if_pos rfl] at hx
  obtain ⟨hin, _, hR⟩ := (isP_iff l k 17).1 h
  have hRt := right_rt l hR
  unfold withP at hx
  exact (ord_in hRt _ (top_in hRt k hin).1 x (List.mem_filter.1 hx).1).1
theorem membQ_len {l : List Nd} (k : Int) : (membQ l k).length ≤ 400 := by
 unfold membQ
 cases h : isP l k 17 with
 | false => simp
 | true =>
  rw [if_pos rfl]
  obtain ⟨hin, _, hR⟩ := (isP_iff l k 17).1 h
  have hRt := right_rt l hR
  unfold withP
  exact Nat.le_trans (List.length_filter_le _ _) (Nat.le_trans (ord_le hRt _ (top_in hRt k hin).1) hRt.few)
def reqB (l : List Nd) (x : Int) : Bool := hasA nRequired (nd l x).attrs
def chkB (cs : List Ctl) (x : Int) : Bool := (ct cs x).checked

theorem pred_req (vn vc : Value) (l : List Nd) (cs : List Ctl) (ks : List Int) (hks : ∀ x ∈ ks, inR l x) (B : Nat) (w : World) (hB : B < w.heap.size) (f0 : w.cell? ⟨B, 0, none⟩ = some vn) (_f1 : w.cell? ⟨B, 1, none⟩ = some vc) (hD : DocAt w vn vc l cs) :
  PredI 83 #[.pointer (some ⟨B, 0, none⟩)] (reqB l) ks w := fun W x hx hb => by
 have f0 : W.cell? ⟨B, 0, none⟩ = some vn := (hb.cell (p := ⟨B, 0, none⟩) hB).trans f0
 have hin := hks x hx
 obtain ⟨xn, rfl⟩ : ∃ xn : Nat, x = (xn : Int) := ⟨x.toNat, by have := hin.1; omega⟩
 have hxl : xn < l.length := by have := hin.2; omega
 have hlen := hD.fine.len
 obtain ⟨b, off, cap, rfl, hbb⟩ := nodes_addr hD.nodes (by omega)
 obtain ⟨va, vk, hn⟩ := nodes_get (hD.nodes.below hb) xn hxl
 have hhas := vhas_any (nd l (xn : Int)) va vk nRequired (hD.fine.nd _ (by omega) (by omega)).attrs W hn.attrs hn.kids
 show Calls Tryz.prog 83 #[.int .i64 xn, .pointer (some ⟨B, 0, none⟩)] W _
 have HX : Hid (reqB l (xn : Int) = hasA nRequired (nd l (xn : Int)).attrs) := Lib.hid rfl
 have hx0 : (0 : Int) ≤ (xn : Int) := by omega
 have hx1 : (xn : Int) < (l.length : Int) := by omega
 unfold nodeV at hhas
 obtain ⟨c0, c1, c2, c3, c4, _, _, _⟩ := hn
 generalize reqB l (xn : Int) = q at *
 generalize hasA nRequired (nd l (xn : Int)).attrs = r at *
 unfold nRequired at hhas
 generalize nd l (xn : Int) = n at *
 clear hD hin hx hks
 go_enter Tryz.func83, Tryz.ntmps83
 go_wp2_with fail
 refine hhas.mono ?_
 rintro e w1 ⟨rfl, hb1⟩
 clear hhas
 go_wp2_with fail
 go_ret
 exact ⟨ret_bool HX.out.symm, hb.trans (hb1.mono hb.size)⟩
theorem pred_chk (vn vc : Value) (l : List Nd) (cs : List Ctl) (hlc : l.length = cs.length) (ks : List Int) (hks : ∀ x ∈ ks, inR l x) (B : Nat) (w : World) (hB : B < w.heap.size) (f1 : w.cell? ⟨B, 1, none⟩ = some vc) (hD : DocAt w vn vc l cs) :
  PredI 84 #[.pointer (some ⟨B, 0, none⟩)] (chkB cs) ks w := fun W x hx hb => by
 have f1 : W.cell? ⟨B, 1, none⟩ = some vc := (hb.cell (p := ⟨B, 1, none⟩) hB).trans f1
 have hin := hks x hx
 obtain ⟨xn, rfl⟩ : ∃ xn : Nat, x = (xn : Int) := ⟨x.toNat, by have := hin.1; omega⟩
 have hxl : xn < cs.length := by have := hin.2; omega
 obtain ⟨cb, coff, ccap, f, rfl, hcb, hct⟩ := ctls_get (hD.ctls.below hb) xn hxl
 show Calls Tryz.prog 84 #[.int .i64 xn, .pointer (some ⟨B, 0, none⟩)] W _
 have HX : Hid (chkB cs (xn : Int) = cs[xn].checked) := Lib.hid (by unfold chkB; rw [ct_get cs xn hxl])
 have hx0 : (0 : Int) ≤ (xn : Int) := by omega
 have hx1 : (xn : Int) < (cs.length : Int) := by omega
 have e3 := hct.cells 3 _ rfl
 generalize chkB cs (xn : Int) = q at *
 generalize cs[xn] = c at *
 obtain ⟨cv, cdi, cty, cch, cdc, cmi, cse, cds, ccu, cfi⟩ := c
 clear hD hin hx hks hct hlc
 go_enter Tryz.func84, Tryz.ntmps84
 go_wp2_with fail
 go_ret
 exact ⟨ret_bool HX.out.symm, hb⟩

theorem lacks_radio (vn vc : Value) (l : List Nd) (cs : List Ctl) (k : Nat) (_hk : k < l.length) (hq : docR l cs = true) (hkd : kN l (k : Int) = 17) (w : World) (hD : DocAt w vn vc l cs) :
  Calls Tryz.prog 39 #[.agg #[vn, vc], .int .i64 k, .int .i64 (kN l (k : Int))] w (RetB ((membQ l (k : Int)).any (reqB l) && !(membQ l (k : Int)).any (chkB cs)) w) := by
 obtain ⟨hlc, hR⟩ := (docR_iff l cs).1 hq
 rw [hkd]
 have hlen := hD.fine.len
 obtain ⟨oa, ca, rfl⟩ := NodesAt.lenN hD.nodes
 obtain ⟨oc, cc, rfl⟩ := CtlsAt.lenN hD.ctls
 have HM := Lib.hid (fun w' (h : Below w.heap.size w w') => members_any _ l hD.fine (k : Int) w' (hD.nodes.below h))
 have hml := membQ_len (l := l) (k : Int)
 have eg1 : ∀ args w, (callFunc 83 args).run Tryz.prog w = .ok (.enter 83 args) w := enters_of Tryz.func83 (by kernel_rfl) rfl
 have eg2 : ∀ args w, (callFunc 84 args).run Tryz.prog w = .ok (.enter 84 args) w := enters_of Tryz.func84 (by kernel_rfl) rfl
 have HR := Lib.hid (fun w' (h : Below w.heap.size w w') (hs : w.heap.size < w'.heap.size) (f0 : w'.cell? ⟨w.heap.size, 0, none⟩ = some (.slice oa l.length ca)) (f1 : w'.cell? ⟨w.heap.size, 1, none⟩ = some (.slice oc cs.length cc)) v (hI : IntsAt w' v (membQ l (k : Int))) =>
  conti_any _ _ eg1 (reqB l) v (membQ l (k : Int)) (by omega) w' hI (pred_req _ _ l cs _ (membQ_in _) w.heap.size w' hs f0 f1 (hD.below h)))
 have HC := Lib.hid (fun w' (h : Below w.heap.size w w') (hs : w.heap.size < w'.heap.size) (f1 : w'.cell? ⟨w.heap.size, 1, none⟩ = some (.slice oc cs.length cc)) v (hI : IntsAt w' v (membQ l (k : Int))) =>
  conti_any _ _ eg2 (chkB cs) v (membQ l (k : Int)) (by omega) w' hI (pred_chk _ _ l cs hlc _ (membQ_in _) w.heap.size w' hs f1 (hD.below h)))
 obtain ⟨wA, hwA⟩ : ∃ wA, wA = w.alloc (.cells #[.slice oa l.length ca, .slice oc cs.length cc] 28) := ⟨_, rfl⟩
 have hB1 : Below w.heap.size w wA := by rw [hwA]; exact (Below.refl _ w).alloc (Nat.le_refl _) _
 have f0 : wA.cell? ⟨w.heap.size, 0, none⟩ = some (.slice oa l.length ca) := by rw [hwA]; exact (doc_cells w _ _ _ _ _ _ _).1
 have f1 : wA.cell? ⟨w.heap.size, 1, none⟩ = some (.slice oc cs.length cc) := by rw [hwA]; exact (doc_cells w _ _ _ _ _ _ _).2
 have hs : w.heap.size < wA.heap.size := by rw [hwA]; simp
 generalize membQ l (k : Int) = ms at *
 obtain ⟨qr, hqr⟩ : ∃ q, q = ms.any (reqB l) := ⟨_, rfl⟩
 obtain ⟨qc, hqc⟩ : ∃ q, q = ms.any (chkB cs) := ⟨_, rfl⟩
 rw [← hqr] at HR ⊢
 rw [← hqc] at HC ⊢
 have hm := HM.out wA hB1
 clear hD hq hR hkd hqr hqc eg1 eg2 HM hlc
 go_enter Tryz.func39, Tryz.ntmps39
 go_wp2_with fail
 rw [← hwA]
 clear hwA
 go_wp2_with fail
 refine hm.mono ?_
 rintro e w1 ⟨v1, rfl, hown, hb1⟩
 have hB2 := below_trans hB1 hb1
 have hs2 := Nat.lt_of_lt_of_le hs hb1.size
 have f0 := cell_below hb1 f0
 have f1 := cell_below hb1 f1
 have HI := Lib.hid hown.ints
 obtain ⟨ra, rc, rfl⟩ := RowAt.lenN hown.ints
 have hr := HR.out w1 hB2 hs2 f0 f1 _ HI.out
 clear hm hown
 go_wp2_with fail
 refine hr.mono ?_
 rintro e w2 ⟨rfl, hb2⟩
 have hB3 := below_trans hB2 hb2
 have f1 := cell_below hb2 f1
 clear hr
 cases qr
 ·go_wp2_with fail
  go_ret
  exact ⟨rfl, hB3⟩
 have hc := HC.out w2 hB3 (Nat.lt_of_lt_of_le hs2 hb2.size) f1 _ (HI.out.below hb2)
 go_wp2_with fail
 refine hc.mono ?_
 rintro e w3 ⟨rfl, hb3⟩
 go_wp2_with fail
 go_ret
 exact ⟨rfl, below_trans hB3 hb3⟩

theorem lacks_box (vn vc : Value) (l : List Nd) (cs : List Ctl) (k : Nat) (hk : k < l.length) (hq : docR l cs = true) (hkd : kN l (k : Int) = 16) (w : World) (hD : DocAt w vn vc l cs) :
  Calls Tryz.prog 39 #[.agg #[vn, vc], .int .i64 k, .int .i64 (kN l (k : Int))] w (RetB (hasA nRequired (nd l (k : Int)).attrs && !(ct cs (k : Int)).checked) w) := by
 obtain ⟨hlc, hR⟩ := (docR_iff l cs).1 hq
 rw [hkd]
 have hlen := hD.fine.len
 have hFine := hD.fine
 obtain ⟨b, off, cap, rfl, hb⟩ := nodes_addr hD.nodes (by omega)
 have hn0 := nodes_get hD.nodes k hk
 have HHas := Lib.hid (fun w' va vk h1 h2 => vhas_any (nd l (k : Int)) va vk nRequired (hFine.nd _ (by omega) (by omega)).attrs w' h1 h2)
 have hreq := fun w => required_any 16 w
 rw [show reqP 16 = true from rfl] at hreq
 have hkc : k < cs.length := by omega
 obtain ⟨cb, coff, ccap, f, rfl, hcb, hct0⟩ := ctls_get hD.ctls k hkc
 have HCt : Hid (ct cs (k : Int) = cs[k]) := Lib.hid (ct_get cs k hkc)
 rw [HCt.out]
 have HC0 := Lib.hid hct0
 have h0 : (0 : Int) ≤ (k : Int) := by omega
 have hk' : (k : Int) < (l.length : Int) := by omega
 have hkc' : (k : Int) < (cs.length : Int) := by omega
 generalize hasA nRequired (nd l (k : Int)).attrs = ha at *
 generalize nd l (k : Int) = n at *
 generalize cs[k] = c at *
 obtain ⟨cv, cdi, cty, cch, cdc, cmi, cse, cds, ccu, cfi⟩ := c
 dsimp only at HC0 hct0 ⊢
 obtain ⟨wA, hwA⟩ : ∃ wA, wA = w.alloc (.cells #[.slice (some ⟨b, off, none⟩) l.length cap, .slice (some ⟨cb, coff, none⟩) cs.length ccap] 28) := ⟨_, rfl⟩
 have hB1 : Below w.heap.size w wA := by rw [hwA]; exact (Below.refl _ w).alloc (Nat.le_refl _) _
 have f0 : wA.cell? ⟨w.heap.size, 0, none⟩ = some (.slice (some ⟨b, off, none⟩) l.length cap) := by rw [hwA]; exact (doc_cells w _ _ _ _ _ _ _).1
 have f1 : wA.cell? ⟨w.heap.size, 1, none⟩ = some (.slice (some ⟨cb, coff, none⟩) cs.length ccap) := by rw [hwA]; exact (doc_cells w _ _ _ _ _ _ _).2
 clear hD hq hlc hR hFine hkd HCt
 obtain ⟨va, vk, hn0⟩ := hn0
 have HN0 := Lib.hid hn0
 obtain ⟨c0, c1, c2, c3, c4, _, _, _⟩ := hn0
 have hhas := HHas.out _ va vk (HN0.out.attrs.below hB1) (HN0.out.kids.below hB1)
 unfold nodeV at hhas
 clear hct0
 go_enter Tryz.func39, Tryz.ntmps39
 go_wp2_with fail
 rw [← hwA]
 clear hwA
 refine (hreq _).mono ?_
 rintro e w1 ⟨rfl, rfl⟩
 obtain ⟨c0, c1, c2, c3, c4, _, _, _⟩ := HN0.out.below hB1
 go_wp2_with fail
 refine hhas.mono ?_
 rintro e w2 ⟨rfl, hb2⟩
 have hB2 := below_trans hB1 hb2
 have f0 := cell_below hb2 f0
 have f1 := cell_below hb2 f1
 clear hhas hreq c0 c1 c2 c3 c4
 cases ha
 case false =>
  go_wp2_with fail
  go_ret
  exact ⟨rfl, hB2⟩
 have hct := HC0.out.below hB2
 have e3 := hct.cells 3 _ rfl
 clear hct
 go_wp2_with fail
 go_ret
 exact ⟨rfl, hB2⟩

theorem lacks_file (vn vc : Value) (l : List Nd) (cs : List Ctl) (k : Nat) (hk : k < l.length) (hq : docR l cs = true) (hkd : kN l (k : Int) = 18) (w : World) (hD : DocAt w vn vc l cs) :
  Calls Tryz.prog 39 #[.agg #[vn, vc], .int .i64 k, .int .i64 (kN l (k : Int))] w (RetB (hasA nRequired (nd l (k : Int)).attrs && decide ((ct cs (k : Int)).files = [])) w) := by
 obtain ⟨hlc, hR⟩ := (docR_iff l cs).1 hq
 rw [hkd]
 have hlen := hD.fine.len
 have hFine := hD.fine
 obtain ⟨b, off, cap, rfl, hb⟩ := nodes_addr hD.nodes (by omega)
 have hn0 := nodes_get hD.nodes k hk
 have HHas := Lib.hid (fun w' va vk h1 h2 => vhas_any (nd l (k : Int)) va vk nRequired (hFine.nd _ (by omega) (by omega)).attrs w' h1 h2)
 have hreq := fun w => required_any 18 w
 rw [show reqP 18 = true from rfl] at hreq
 have hkc : k < cs.length := by omega
 obtain ⟨cb, coff, ccap, f, rfl, hcb, hct0⟩ := ctls_get hD.ctls k hkc
 have HCt : Hid (ct cs (k : Int) = cs[k]) := Lib.hid (ct_get cs k hkc)
 rw [HCt.out]
 have HC0 := Lib.hid hct0
 have h0 : (0 : Int) ≤ (k : Int) := by omega
 have hk' : (k : Int) < (l.length : Int) := by omega
 have hkc' : (k : Int) < (cs.length : Int) := by omega
 generalize hasA nRequired (nd l (k : Int)).attrs = ha at *
 generalize nd l (k : Int) = n at *
 generalize cs[k] = c at *
 obtain ⟨cv, cdi, cty, cch, cdc, cmi, cse, cds, ccu, cfi⟩ := c
 dsimp only at HC0 hct0 ⊢
 obtain ⟨wA, hwA⟩ : ∃ wA, wA = w.alloc (.cells #[.slice (some ⟨b, off, none⟩) l.length cap, .slice (some ⟨cb, coff, none⟩) cs.length ccap] 28) := ⟨_, rfl⟩
 have hB1 : Below w.heap.size w wA := by rw [hwA]; exact (Below.refl _ w).alloc (Nat.le_refl _) _
 have f0 : wA.cell? ⟨w.heap.size, 0, none⟩ = some (.slice (some ⟨b, off, none⟩) l.length cap) := by rw [hwA]; exact (doc_cells w _ _ _ _ _ _ _).1
 have f1 : wA.cell? ⟨w.heap.size, 1, none⟩ = some (.slice (some ⟨cb, coff, none⟩) cs.length ccap) := by rw [hwA]; exact (doc_cells w _ _ _ _ _ _ _).2
 clear hD hq hlc hR hFine hkd HCt
 obtain ⟨va, vk, hn0⟩ := hn0
 have HN0 := Lib.hid hn0
 obtain ⟨c0, c1, c2, c3, c4, _, _, _⟩ := hn0
 have hhas := HHas.out _ va vk (HN0.out.attrs.below hB1) (HN0.out.kids.below hB1)
 unfold nodeV at hhas
 clear hct0
 go_enter Tryz.func39, Tryz.ntmps39
 go_wp2_with fail
 rw [← hwA]
 clear hwA
 refine (hreq _).mono ?_
 rintro e w1 ⟨rfl, rfl⟩
 obtain ⟨c0, c1, c2, c3, c4, _, _, _⟩ := HN0.out.below hB1
 go_wp2_with fail
 refine hhas.mono ?_
 rintro e w2 ⟨rfl, hb2⟩
 have hB2 := below_trans hB1 hb2
 have f0 := cell_below hb2 f0
 have f1 := cell_below hb2 f1
 clear hhas hreq c0 c1 c2 c3 c4
 cases ha
 case false =>
  go_wp2_with fail
  go_ret
  exact ⟨rfl, hB2⟩
 have hct := HC0.out.below hB2
 obtain ⟨fa, fc, rfl⟩ := RowAt.lenN hct.files
 have e9 := hct.cells 9 _ rfl
 clear hct HC0
 cases cfi with
 | nil =>
  go_wp2_with fail
  go_ret
  exact ⟨rfl, hB2⟩
 | cons x r =>
  have hz : (((x :: r).length : Int) == 0) = false := by simp; omega
  generalize (x :: r).length = m at *
  go_wp2_with fail
  go_ret
  exact ⟨ret_bool (by simp), hB2⟩

def emptyO (l : List Nd) (k : Int) (i : Nat) (o : Int) : Bool := decide (i = 0) && !hasA nMultiple (nd l k).attrs && decide (SizeP l k = 1) && decide ((nd l o).parent = k) && decide (TextP l o = [])
def unpL (l : List Nd) (p : Int → Bool) (k : Int) : Nat → List Int → Bool
 | _, [] => true
 | i, o :: r => if p o && !emptyO l k i o then false else unpL l p k (i + 1) r
def unpP (l : List Nd) (cs : List Ctl) (k : Int) : Bool := unpL l (selB cs) k 0 (listP l k)
theorem unpicked_any (vn vc : Value) (l : List Nd) (cs : List Ctl) (k : Nat) (hk : k < l.length) (hq : docR l cs = true) (hkd : kN l (k : Int) = 23) (w : World) (hD : DocAt w vn vc l cs) (hE : GE w) :
  Calls Tryz.prog 85 #[.agg #[vn, vc], .int .i64 k] w (RetB (unpP l cs (k : Int)) w) := by
 obtain ⟨hlc, hR⟩ := (docR_iff l cs).1 hq
 have hRt := right_rt l hR
 have hin : inR l (k : Int) := ⟨by omega, by omega⟩
 have hi : isP l (k : Int) 23 = true := (isP_iff l (k : Int) 23).2 ⟨hin, hkd, hR⟩
 have hlist : listP l (k : Int) = optsP l (k : Int) := by unfold listP; rw [if_pos hi]
 obtain ⟨R, hRe⟩ : ∃ R, R = unpP l cs (k : Int) := ⟨_, rfl⟩
 rw [← hRe]
 have hlen := hD.fine.len
 obtain ⟨b, off, cap, rfl, hb⟩ := nodes_addr hD.nodes (by omega)
 obtain ⟨cb, co, cc, rfl, hcb⟩ := ctls_addr hD.ctls (by omega)
 obtain ⟨wA, hwA⟩ : ∃ wA, wA = w.alloc (.cells #[.slice (some ⟨b, off, none⟩) l.length cap, .slice (some ⟨cb, co, none⟩) cs.length cc] 28) := ⟨_, rfl⟩
 have hB1 : Below w.heap.size w wA := by rw [hwA]; exact (Below.refl _ w).alloc (Nat.le_refl _) _
 have f0 : wA.cell? ⟨w.heap.size, 0, none⟩ = some (.slice (some ⟨b, off, none⟩) l.length cap) := by rw [hwA]; exact (doc_cells w _ _ _ _ _ _ _).1
 have f1 : wA.cell? ⟨w.heap.size, 1, none⟩ = some (.slice (some ⟨cb, co, none⟩) cs.length cc) := by rw [hwA]; exact (doc_cells w _ _ _ _ _ _ _).2
 have hli := list_any (.slice (some ⟨b, off, none⟩) l.length cap) l hD.fine (k : Int) wA (hD.nodes.below hB1)
 rw [hlist] at hli
 obtain ⟨os, hos⟩ : ∃ os, os = optsP l (k : Int) := ⟨_, rfl⟩
 rw [← hos] at hli
 have hol : os.length ≤ 17592186044416 ∨ True := .inr trivial
 have HI0 : Hid (unpL l (selB cs) (k : Int) 0 (os.drop 0) = R) := Lib.hid (by rw [hRe]; unfold unpP; rw [hlist, hos]; rfl)
 have HMem := Lib.hid (fun o (ho : o ∈ os) => (opts_mem hRt (k : Int) hin o (by rw [← hos]; exact ho)).1)
 have HSel := Lib.hid (fun w' (h : Below w.heap.size w w') (o : Nat) (ho : o < cs.length) => ctls_sel (hD.ctls.below h) o ho)
 have HNd := Lib.hid (fun w' (h : Below w.heap.size w w') (o : Nat) (ho : o < l.length) => nodes_get (hD.nodes.below h) o ho)
 have HHas := Lib.hid (fun w' va vk h1 h2 => vhas_any (nd l (k : Int)) va vk nMultiple (hD.fine.nd _ (by omega) (by omega)).attrs w' h1 h2)
 have HSz := Lib.hid (fun w' (h : Below w.heap.size w w') => sizeU_any (.slice (some ⟨b, off, none⟩) l.length cap) l hD.fine (k : Int) w' (hE.below h) (hD.nodes.below h))
 have HTx := Lib.hid (fun w' (h : Below w.heap.size w w') (o : Int) => textU_any (.slice (some ⟨b, off, none⟩) l.length cap) l hD.fine o w' (hD.nodes.below h))
 have HLc := Lib.hid hlc
 have h0 : (0 : Int) ≤ (k : Int) := by omega
 have hk' : (k : Int) < (l.length : Int) := by omega
 have hll : l.length ≤ 17592186044416 := hlen
 clear hD hq hlc hR hRt hin hi hlist hRe hos hol hkd hE hlen
 go_enter Tryz.func85, Tryz.ntmps85
 go_upto_region 1 with fail
 rw [← hwA]
 clear hwA
 go_wp2_with fail
 refine hli.mono ?_
 rintro e w1 ⟨v1, rfl, hown, hb1⟩
 have hB01 := below_trans hB1 hb1
 have f0 := cell_below hb1 f0
 have f1 := cell_below hb1 f1
 have HOs := Lib.hid (fun w' (h : Below w1.heap.size w1 w') => IntsAt.below (OwnI.ints hown) h)
 have hol : os.length ≤ 9223372036854775807 := (show os.length ≤ maxLen by
  rcases hown.2 with ⟨_, g⟩ | ⟨_, _, _, _, _, _, g1, g2, _⟩
  ·rw [g]; exact Nat.zero_le _
  ·exact Nat.le_trans g1 g2)
 obtain ⟨oa, ocap, rfl⟩ := RowAt.lenN (OwnI.ints hown)
 clear hli hown
 go_wp2_with fail
 go_loopw [15] (fun s15 wr => ∃ i : Nat, s15 = .int .i64 i ∧ i ≤ os.length ∧ Hid (unpL l (selB cs) (k : Int) i (os.drop i) = R) ∧ Below w1.heap.size w1 wr) (fun s15 _ => os.length - (RowKit.intOf s15).toNat)
 case atStart => exact ⟨0, rfl, Nat.zero_le _, HI0, Below.refl _ _⟩
 case round =>
  obtain ⟨i, rfl, hil, hI, hbr⟩ := hrel
  have hB0r := below_trans hB01 hbr
  have f0 := cell_below hbr f0
  have f1 := cell_below hbr f1
  by_cases hlt : i < os.length
  ·obtain ⟨ob, oo, ocp, e, hob⟩ := IntsAt.addr (HOs.out wr hbr) (by omega)
   cases e
   have e0 := IntsAt.cellAt (HOs.out wr hbr) i hlt
   have hom := HMem.out os[i] (List.getElem_mem hlt)
   have hy := hI.out
   rw [List.drop_eq_getElem_cons hlt] at hy
   have hiI : (i : Int) < (os.length : Int) := by omega
   generalize os[i] = o at *
   obtain ⟨on, rfl⟩ : ∃ on : Nat, o = (on : Int) := ⟨o.toNat, by have := hom.1; omega⟩
   have hon : on < l.length := by have := hom.2; omega
   have honc : on < cs.length := by have := HLc.out; omega
   have hon0 : (0 : Int) ≤ (on : Int) := by omega
   have honI : (on : Int) < (l.length : Int) := by omega
   have honC : (on : Int) < (cs.length : Int) := by omega
   have c6 := HSel.out wr hB0r on honc
   have HY : Hid (R = if selB cs (on : Int) && !emptyO l (k : Int) i (on : Int) then false else unpL l (selB cs) (k : Int) (i + 1) (os.drop (i + 1))) := Lib.hid (by rw [← hy]; rfl)
   clear hI hy hom
   cases hsb : selB cs (on : Int) with
   | false =>
    rw [hsb] at c6 HY
    have HZ : Hid (unpL l (selB cs) (k : Int) (i + 1) (os.drop (i + 1)) = R) := Lib.hid (by rw [HY.out]; rfl)
    clear hsb HY
    go_wp2_with fail
    go_roundw
    case rel => exact ⟨i + 1, by go_num, by omega, HZ, hbr⟩
    case measure => simp [RowKit.intOf]; omega
   | true =>
    rw [hsb] at c6 HY
    obtain ⟨em, hem⟩ : ∃ em, em = emptyO l (k : Int) i (on : Int) := ⟨_, rfl⟩
    rw [← hem] at HY
    have HEm : Hid (em = (decide (i = 0) && !hasA nMultiple (nd l (k : Int)).attrs && decide (SizeP l (k : Int) = 1) && decide ((nd l (on : Int)).parent = (k : Int)) && decide (TextP l (on : Int) = []))) := Lib.hid hem
    clear hsb hem
    go_upto_region 6 with fail
    go_cut [8] (fun s8 wx => s8 = .bool em ∧ Below w1.heap.size w1 wx)
    case first =>
     clear c6 e0
     by_cases gi : i = 0
     case neg =>
      have HE : Hid (em = false) := Lib.hid (by rw [HEm.out, decide_eq_false gi]; rfl)
      have gb : ((i : Int) == 0) = false := by rw [beq_eq_false_iff_ne]; omega
      clear gi
      go_wp2_with fail
      go_meet
      exact ⟨by rw [HE.out], hbr⟩
     have gb : ((i : Int) == 0) = true := by rw [gi]; rfl
     obtain ⟨va, vk, hn⟩ := HNd.out wr hB0r k hk
     have hhas := HHas.out wr va vk hn.attrs hn.kids
     unfold nodeV at hhas
     obtain ⟨c0, c1, c2, c3, c4, _, _, _⟩ := hn
     have HEm2 : Hid (em = (!hasA nMultiple (nd l (k : Int)).attrs && decide (SizeP l (k : Int) = 1) && decide ((nd l (on : Int)).parent = (k : Int)) && decide (TextP l (on : Int) = []))) := Lib.hid (by rw [HEm.out, decide_eq_true gi, Bool.true_and])
     clear gi HEm
     generalize hasA nMultiple (nd l (k : Int)).attrs = hm at *
     unfold nMultiple at hhas
     cases hm with
     | true =>
      have HE : Hid (em = false) := Lib.hid (by rw [HEm2.out]; rfl)
      go_wp2_with fail
      refine hhas.mono ?_
      rintro e w2 ⟨rfl, hb2⟩
      go_wp2_with fail
      go_meet
      exact ⟨by rw [HE.out], below_trans hbr hb2⟩
     | false =>
      go_wp2_with fail
      refine hhas.mono ?_
      rintro e w2 ⟨rfl, hb2⟩
      have hbr2 := below_trans hbr hb2
      have f0 := cell_below hb2 f0
      have f1 := cell_below hb2 f1
      have hsz := HSz.out w2 (below_trans hB01 hbr2)
      clear hhas c0 c1 c2 c3 c4
      obtain ⟨sz, hsze⟩ : ∃ sz, sz = SizeP l (k : Int) := ⟨_, rfl⟩
      rw [← hsze] at hsz HEm2
      clear hsze
      by_cases g1 : sz = 1
      case neg =>
       have HE : Hid (em = false) := Lib.hid (by rw [HEm2.out, decide_eq_false g1]; rfl)
       have gb1 : (sz == 1) = false := by simpa using g1
       clear g1
       go_wp2_with fail
       refine hsz.mono ?_
       rintro e w3 ⟨rfl, hb3⟩
       go_wp2_with fail
       go_meet
       exact ⟨by rw [HE.out], below_trans hbr2 hb3⟩
      subst g1
      go_wp2_with fail
      refine hsz.mono ?_
      rintro e w3 ⟨rfl, hb3⟩
      have hbr3 := below_trans hbr2 hb3
      have f0 := cell_below hb3 f0
      have f1 := cell_below hb3 f1
      obtain ⟨va2, vk2, hn2⟩ := HNd.out w3 (below_trans hB01 hbr3) on hon
      have d3 := hn2.c3
      have htx := HTx.out w3 (below_trans hB01 hbr3) (on : Int)
      clear hsz hn2
      generalize (nd l (on : Int)).parent = pr at *
      generalize TextP l (on : Int) = tx at *
      by_cases g2 : pr = (k : Int)
      case neg =>
       have HE : Hid (em = false) := Lib.hid (by rw [HEm2.out, decide_eq_false g2]; rfl)
       have gb1 : (pr == (k : Int)) = false := by simpa using g2
       clear g2
       go_wp2_with fail
       go_meet
       exact ⟨by rw [HE.out], hbr3⟩
      have gb1 : (pr == (k : Int)) = true := by simpa using g2
      have HEm3 : Hid (em = decide (tx = [])) := Lib.hid (by rw [HEm2.out, decide_eq_true g2]; rfl)
      clear g2 HEm2
      go_wp2_with fail
      refine htx.mono ?_
      rintro e w4 ⟨rfl, hb4⟩
      clear htx
      by_cases g3 : tx = []
      ·have hemp : tx.isEmpty = true := by simp [g3]
       have HE : Hid (em = true) := Lib.hid (by rw [HEm3.out, decide_eq_true g3])
       clear g3
       go_wp2_with fail
       go_meet
       exact ⟨by rw [HE.out], below_trans hbr3 hb4⟩
      ·have hemp : tx.isEmpty = false := by simp [g3]
       have HE : Hid (em = false) := Lib.hid (by rw [HEm3.out, decide_eq_false g3])
       clear g3
       go_wp2_with fail
       go_meet
       exact ⟨by rw [HE.out], below_trans hbr3 hb4⟩
    case rest =>
    obtain ⟨rfl, hbx⟩ := hcut
    clear HEm c6 e0
    cases em with
    | false =>
     have HZ : Hid (R = false) := Lib.hid (by rw [HY.out]; rfl)
     clear HY
     go_wp2_with fail
     go_ret
     exact ⟨ret_bool HZ.out.symm, below_trans hB01 hbx⟩
    | true =>
     have HZ : Hid (unpL l (selB cs) (k : Int) (i + 1) (os.drop (i + 1)) = R) := Lib.hid (by rw [HY.out]; rfl)
     clear HY
     go_wp2_with fail
     go_roundw
     case rel => exact ⟨i + 1, by go_num, by omega, HZ, hbx⟩
     case measure => simp [RowKit.intOf]; omega
  ·have hiI : ¬ (i : Int) < (os.length : Int) := by omega
   have HZ : Hid (R = true) := Lib.hid (by have := hI.out; rw [List.drop_eq_nil_of_le (Nat.le_of_not_lt hlt)] at this; rw [← this]; rfl)
   clear hI
   go_wp2_with fail
   go_ret
   exact ⟨ret_bool HZ.out.symm, hB0r⟩
theorem lacks_sel (vn vc : Value) (l : List Nd) (cs : List Ctl) (k : Nat) (hk : k < l.length) (hq : docR l cs = true) (hkd : kN l (k : Int) = 23) (w : World) (hD : DocAt w vn vc l cs) (hE : GE w) :
  Calls Tryz.prog 39 #[.agg #[vn, vc], .int .i64 k, .int .i64 (kN l (k : Int))] w (RetB (hasA nRequired (nd l (k : Int)).attrs && unpP l cs (k : Int)) w) := by
 obtain ⟨hlc, hR⟩ := (docR_iff l cs).1 hq
 have HUn := Lib.hid (fun w' (h : Below w.heap.size w w') => unpicked_any vn vc l cs k hk hq hkd w' (hD.below h) (hE.below h))
 rw [hkd]
 have hlen := hD.fine.len
 have hFine := hD.fine
 obtain ⟨b, off, cap, rfl, hb⟩ := nodes_addr hD.nodes (by omega)
 have hn0 := nodes_get hD.nodes k hk
 have HHas := Lib.hid (fun w' va vk h1 h2 => vhas_any (nd l (k : Int)) va vk nRequired (hFine.nd _ (by omega) (by omega)).attrs w' h1 h2)
 have hreq := fun w => required_any 23 w
 rw [show reqP 23 = true from rfl] at hreq
 obtain ⟨cb, coff, ccap, rfl, hcb⟩ := ctls_addr hD.ctls (by omega)
 have h0 : (0 : Int) ≤ (k : Int) := by omega
 have hk' : (k : Int) < (l.length : Int) := by omega
 generalize hasA nRequired (nd l (k : Int)).attrs = ha at *
 generalize unpP l cs (k : Int) = up at *
 generalize nd l (k : Int) = n at *
 obtain ⟨wA, hwA⟩ : ∃ wA, wA = w.alloc (.cells #[.slice (some ⟨b, off, none⟩) l.length cap, .slice (some ⟨cb, coff, none⟩) cs.length ccap] 28) := ⟨_, rfl⟩
 have hB1 : Below w.heap.size w wA := by rw [hwA]; exact (Below.refl _ w).alloc (Nat.le_refl _) _
 have f0 : wA.cell? ⟨w.heap.size, 0, none⟩ = some (.slice (some ⟨b, off, none⟩) l.length cap) := by rw [hwA]; exact (doc_cells w _ _ _ _ _ _ _).1
 have f1 : wA.cell? ⟨w.heap.size, 1, none⟩ = some (.slice (some ⟨cb, coff, none⟩) cs.length ccap) := by rw [hwA]; exact (doc_cells w _ _ _ _ _ _ _).2
 clear hD hq hlc hR hFine hkd hE
 obtain ⟨va, vk, hn0⟩ := hn0
 have HN0 := Lib.hid hn0
 obtain ⟨c0, c1, c2, c3, c4, _, _, _⟩ := hn0
 have hhas := HHas.out _ va vk (HN0.out.attrs.below hB1) (HN0.out.kids.below hB1)
 unfold nodeV at hhas
 go_enter Tryz.func39, Tryz.ntmps39
 go_wp2_with fail
 rw [← hwA]
 clear hwA
 refine (hreq _).mono ?_
 rintro e w1 ⟨rfl, rfl⟩
 obtain ⟨c0, c1, c2, c3, c4, _, _, _⟩ := HN0.out.below hB1
 go_wp2_with fail
 refine hhas.mono ?_
 rintro e w2 ⟨rfl, hb2⟩
 have hB2 := below_trans hB1 hb2
 have f0 := cell_below hb2 f0
 have f1 := cell_below hb2 f1
 clear hhas hreq c0 c1 c2 c3 c4
 cases ha
 case false =>
  go_wp2_with fail
  go_ret
  exact ⟨rfl, hB2⟩
 have hun := HUn.out w2 hB2
 go_wp2_with fail
 refine hun.mono ?_
 rintro e w3 ⟨rfl, hb3⟩
 clear hun
 go_wp2_with fail
 go_ret
 exact ⟨rfl, below_trans hB2 hb3⟩
end Go.Proofs.YtkhlfggnjcbniaaGreatDoor.doc
