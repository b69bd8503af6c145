/- A part of the proofs: lemmas and contracts. -/
import Derived.Test.YtkhlfggnjcbniaaGreatDoorP36
import Derived.Test.YtkhlfggnjcbniaaGreatDoorP37
set_option maxHeartbeats 12800000
set_option maxRecDepth 1000000
namespace Go.Proofs.YtkhlfggnjcbniaaGreatDoor.doc
open Go.ChangeShapes Go.WideShapes Go.ChangeAt Go.RowKit Go.Lib atr link ctl

theorem odd_no (n : Nd) (va vk : Value) (kd : Int) (s : List UInt8) (hn : n.attrs.length ≤ 140737488355328) (hno : hasA nPattern n.attrs = false) (w : World) (hA : AttrsAt w va n.attrs) (hK : IntsAt w vk n.kids) :
  Calls Tryz.prog 41 #[nodeV n va vk, .int .i64 kd, .string ⟨s.toArray⟩] w (RetB false w) := by
 have HAt := Lib.hid (fun w' (h : Below w.heap.size w w') => vattr_any n va vk nPattern hn w' (hA.below h) (hK.below h))
 have HHas := Lib.hid (fun w' (h : Below w.heap.size w w') => vhas_any n va vk nPattern hn w' (hA.below h) (hK.below h))
 have hap := fun w => pattern_any kd w
 rw [hno] at HHas
 obtain ⟨oa, cap, rfl⟩ := AttrsAt.lenN hA
 obtain ⟨ka, kc, rfl⟩ := RowAt.lenN hK
 unfold nodeV at HHas HAt ⊢
 generalize (fval nPattern n.attrs).getD [] = p at *
 generalize patP kd = q at *
 unfold nPattern at HHas HAt hap
 obtain ⟨w0, hw0⟩ : ∃ w0, w0 = w.alloc (.cells #[.string ⟨n.name.toArray⟩, .string ⟨n.text.toArray⟩, .slice oa n.attrs.length cap, .int .i64 n.parent, .slice ka n.kids.length kc] 41) := ⟨_, rfl⟩
 have hb0 : Below w.heap.size w w0 := by rw [hw0]; exact (Below.refl _ w).alloc (Nat.le_refl _) _
 have hblk : Blk w0 w.heap.size [.string ⟨n.name.toArray⟩, .string ⟨n.text.toArray⟩, .slice oa n.attrs.length cap, .int .i64 n.parent, .slice ka n.kids.length kc] := by rw [hw0]; exact Blk.fresh w _ _
 clear hA hK hno
 go_enter Tryz.func41, Tryz.ntmps41
 go_wp2_with fail
 rw [← hw0]
 clear hw0
 refine (HAt.out _ hb0).mono ?_
 rintro e w1 ⟨rfl, hb1⟩
 have hblk1 := hblk.kept hb1
 have hb01 := below_trans hb0 hb1
 have c0 := hblk1.cell 0
 have c1 := hblk1.cell 1
 have c2 := hblk1.cell 2
 have c3 := hblk1.cell 3
 have c4 := hblk1.cell 4
 simp only [List.getElem?_cons_zero, List.getElem?_cons_succ] at c0 c1 c2 c3 c4
 have hlt := hblk1.lt
 have hne : w.heap.size ≠ w1.heap.size := by omega
 clear hblk HAt
 cases q
 ·go_wp2_with fail
  refine (hap _).mono ?_
  rintro e w2 ⟨rfl, rfl⟩
  go_wp2_with fail
  go_ret
  exact ⟨rfl, hb01.alloc (by omega) _⟩
 ·go_wp2_with fail
  refine (hap _).mono ?_
  rintro e w2 ⟨rfl, rfl⟩
  go_wp2_with fail
  refine (HHas.out _ (hb01.alloc (by omega) _)).mono ?_
  rintro e w3 ⟨rfl, hb3⟩
  go_wp2_with fail
  go_ret
  exact ⟨rfl, (hb01.alloc (by omega) _).trans (hb3.mono (by simp; omega))⟩

theorem rType18_any (vn vc : Value) (l : List Nd) (cs : List Ctl) (k : Nat) (hk : k < l.length) (_hq : docR l cs = true) (hs : kN l (k : Int) = 5 ∨ kN l (k : Int) = 6 → (valV l cs (k : Int)).length ≤ 1000000) (w : World) (hD : DocAt w vn vc l cs) (hC : RVHas vn vc l cs k w) :
  Calls Tryz.prog 47 #[.agg #[vn, vc], .int .i64 k] w (RetB (decide (valV l cs (k : Int) ≠ []) && misB (kN l (k : Int)) (nd l (k : Int)).attrs (valV l cs (k : Int))) w) := by
 have hlen := hD.fine.len
 have hFine := hD.fine
 have HVal := Lib.hid (fun w' (h : Below w.heap.size w w') => hC w' h)
 obtain ⟨b, off, cap, rfl, hb⟩ := nodes_addr hD.nodes (by omega)
 have HN := Lib.hid (fun w' (h : Below w.heap.size w w') => nodes_get (hD.nodes.below h) k hk)
 have HOf := Lib.hid (fun w' va vk (h1 : AttrsAt w' va (nd l (k : Int)).attrs) (h2 : IntsAt w' vk (nd l (k : Int)).kids) => by
  have := rof_any (nd l (k : Int)) va vk (hFine.nd _ (by omega) (by omega)) w' h1 h2
  rwa [show kindP (nd l (k : Int)).name (nd l (k : Int)).attrs = kN l (k : Int) from rfl] at this)
 have HHas := Lib.hid (fun w' va vk h1 h2 => rhas15_any (nd l (k : Int)) va vk nMultiple (hFine.nd _ (by omega) (by omega)).attrs w' h1 h2)
 have HAb := Lib.hid (fun (g : kN l (k : Int) = 5) w' => rabs_any (valV l cs (k : Int)) (hs (.inl g)) w')
 have HLi := Lib.hid (fun (g : kN l (k : Int) = 6) w' => mail.rmlist_any (valV l cs (k : Int)) (hs (.inr g)) w')
 have HAd := Lib.hid (fun (g : kN l (k : Int) = 6) w' => mail.raddr_any (valV l cs (k : Int)) (hs (.inr g)) w')
 have HM : Hid (misB (kN l (k : Int)) (nd l (k : Int)).attrs (valV l cs (k : Int)) = if kN l (k : Int) = 5 then !absS (valV l cs (k : Int)) else if kN l (k : Int) = 6 then (if hasA nMultiple (nd l (k : Int)).attrs then !mail.listB (valV l cs (k : Int)) else !mail.addrB (valV l cs (k : Int))) else false) := Lib.hid rfl
 obtain ⟨oc, cc, rfl⟩ := CtlsAt.lenN hD.ctls
 have h0 : (0 : Int) ≤ (k : Int) := by omega
 have hk' : (k : Int) < (l.length : Int) := by omega
 generalize misB (kN l (k : Int)) (nd l (k : Int)).attrs (valV l cs (k : Int)) = mb at *
 generalize valV l cs (k : Int) = s at *
 generalize absS s = qa at *
 generalize mail.listB s = ql at *
 generalize mail.addrB s = qd at *
 generalize hasA nMultiple (nd l (k : Int)).attrs = qm at *
 generalize kN l (k : Int) = kd at *
 generalize nd l (k : Int) = n at *
 unfold nMultiple at HHas
 obtain ⟨res, hres⟩ : ∃ r, r = (decide (s ≠ []) && mb) := ⟨_, rfl⟩
 rw [← hres]
 have HR := Lib.hid hres
 clear hres
 obtain ⟨wA, hwA⟩ : ∃ wA, wA = w.alloc (.cells #[.slice (some ⟨b, off, none⟩) l.length cap, .slice oc cs.length cc] 28) := ⟨_, rfl⟩
 have hBA : Below w.heap.size w wA := by rw [hwA]; exact (Below.refl _ w).alloc (Nat.le_refl _) _
 have f0 : wA.cell? ⟨w.heap.size, 0, none⟩ = some (.slice (some ⟨b, off, none⟩) l.length cap) := by rw [hwA]; exact (doc_cells w _ _ _ _ _ _ _).1
 have f1 : wA.cell? ⟨w.heap.size, 1, none⟩ = some (.slice oc cs.length cc) := by rw [hwA]; exact (doc_cells w _ _ _ _ _ _ _).2
 clear hD _hq hFine hC
 go_enter Tryz.func47, Tryz.ntmps47
 go_wp2_with fail
 rw [← hwA]
 clear hwA
 refine (HVal.out _ hBA).mono ?_
 rintro e w1 ⟨rfl, hb1⟩
 have f0 := cell_below hb1 f0
 have f1 := cell_below hb1 f1
 have hB1 := below_trans hBA hb1
 clear HVal
 by_cases hs0 : s = []
 ·have HX : Hid (res = false) := Lib.hid (by rw [HR.out, decide_eq_false (by simpa using hs0)]; rfl)
  have hz : ((s.length : Int) == 0) = true := by simp [hs0]
  clear hs0 HM HR
  go_wp2_with fail
  go_ret
  exact ⟨ret_bool HX.out.symm, hB1⟩
 have hz : ((s.length : Int) == 0) = false := by simp [hs0]
 have HX0 : Hid (res = mb) := Lib.hid (by rw [HR.out, decide_eq_true hs0]; rfl)
 clear hs0 HR
 obtain ⟨va, vk, hn⟩ := HN.out w1 hB1
 have hof := HOf.out w1 va vk hn.attrs hn.kids
 unfold nodeV at hof
 obtain ⟨c0, c1, c2, c3, c4, _, _, _⟩ := hn
 go_wp2_with fail
 refine hof.mono ?_
 rintro e w2 ⟨rfl, hb2⟩
 have f0 := cell_below hb2 f0
 have hB2 := below_trans hB1 hb2
 clear hof HOf c0 c1 c2 c3 c4
 by_cases g5 : kd = 5
 ·have b5 : (kd == 5) = true := by simp [g5]
  have HX : Hid (res = !qa) := Lib.hid (by rw [HX0.out, HM.out, if_pos g5])
  have HAb := Lib.hid (HAb.out g5)
  clear HM g5
  go_wp2_with fail
  refine (HAb.out _).mono ?_
  rintro e w3 ⟨rfl, hb3⟩
  go_wp2_with fail
  go_ret
  exact ⟨ret_bool HX.out.symm, below_trans hB2 hb3⟩
 have b5 : (kd == 5) = false := by simpa using g5
 by_cases g6 : kd = 6
 case neg =>
  have b6 : (kd == 6) = false := by simpa using g6
  have HX : Hid (res = false) := Lib.hid (by rw [HX0.out, HM.out, if_neg g5, if_neg g6])
  clear HM g5 g6
  go_wp2_with fail
  go_ret
  exact ⟨ret_bool HX.out.symm, hB2⟩
 have b6 : (kd == 6) = true := by simp [g6]
 have HX : Hid (res = if qm then !ql else !qd) := Lib.hid (by rw [HX0.out, HM.out, if_neg g5, if_pos g6])
 obtain ⟨va, vk, hn⟩ := HN.out w2 hB2
 have hhas := HHas.out w2 va vk hn.attrs hn.kids
 unfold nodeV at hhas
 obtain ⟨c0, c1, c2, c3, c4, _, _, _⟩ := hn
 have HLi := Lib.hid (HLi.out g6)
 have HAd := Lib.hid (HAd.out g6)
 clear HM g5 g6
 go_wp2_with fail
 refine hhas.mono ?_
 rintro e w3 ⟨rfl, hb3⟩
 have hB3 := below_trans hB2 hb3
 clear hhas c0 c1 c2 c3 c4
 cases qm
 ·go_wp2_with fail
  refine (HAd.out _).mono ?_
  rintro e w4 ⟨rfl, hb4⟩
  go_wp2_with fail
  go_ret
  exact ⟨ret_bool (by rw [HX.out]; rfl), below_trans hB3 hb4⟩
 ·go_wp2_with fail
  refine (HLi.out _).mono ?_
  rintro e w4 ⟨rfl, hb4⟩
  go_wp2_with fail
  go_ret
  exact ⟨ret_bool (by rw [HX.out]; rfl), below_trans hB3 hb4⟩
end Go.Proofs.YtkhlfggnjcbniaaGreatDoor.doc
