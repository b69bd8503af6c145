/- A part of the proofs: lemmas and contracts. -/
import Derived.Deep.RegionLawGrows
import Derived.RangeFuncBox
import Derived.Test.YtkhlfggnjcbniaaGreatDoorP17
set_option maxHeartbeats 12800000
set_option maxRecDepth 1000000
namespace Go.Proofs.YtkhlfggnjcbniaaGreatDoor.doc
open Go.ChangeShapes Go.WideShapes Go.ChangeAt Go.RowKit Go.Lib atr link
theorem grownBy_set (W : World) (b o : Nat) (v : Value) : W.grownBy (W.setCell ⟨b, o, none⟩ v) (some b) :=
 ⟨rfl, rfl, rfl, (KeepsWalks.setCell W _ v).size, fun k _ hk => Below.heap_setCell _ _ _ k (fun e => hk (by rw [e]))⟩
theorem ownsRow_lower {w : World} {b b' : Nat} {e : TypeId} {size : Nat} {v : Value} {n : Nat} {xs : List Value} (h : w.ownsRow b e size v n xs) (hb : b' ≤ b) : w.ownsRow b' e size v n xs := by
 refine ⟨h.1, ?_⟩
 rcases h.2 with h | ⟨g', cap', cur, e1, e2, e3⟩
 ·exact .inl h
 ·exact .inr ⟨g', cap', cur, e1, Nat.le_trans hb e2, e3⟩

def topF (l : List Nd) : Nat → Int → Int
 | 0, k => k
 | n + 1, k => if (nd l k).parent < 0 then k else topF l n (nd l k).parent
def topP (l : List Nd) (k : Int) : Int := topF l (dep l k) k
theorem top_eq {l : List Nd} (h : Rt l) (k : Int) (hk : inR l k) : topP l k = if (nd l k).parent < 0 then k else topP l (nd l k).parent := by
 unfold topP
 rw [dep_kid h k hk]; rfl
theorem top_in {l : List Nd} (h : Rt l) : ∀ k, inR l k → inR l (topP l k) ∧ (nd l (topP l k)).parent < 0 := by
 refine by_up h _ (fun k hk ih => ?_)
 rw [top_eq h k hk]
 by_cases g : (nd l k).parent < 0
 ·rw [if_pos g]; exact ⟨hk, g⟩
 ·rw [if_neg g]; exact ih.resolve_left g
theorem top_any (v : Value) (l : List Nd) (hL : LFine l) (hR : rightB l = true) (k : Nat) (hk : k < l.length) (w : World) (hA : NodesAt w v l) :
  Calls Tryz.prog 59 #[v, .int .i64 k] w fun e w' => e = .returned (.int .i64 (topP l (k : Int))) ∧ Below w.heap.size w w' := by
 have hh := thas_any v l k hL w hA
 rw [hR, decide_eq_true (by omega : (0 : Int) ≤ (k : Int)), decide_eq_true (by omega : (k : Int) < (l.length : Int))] at hh
 have hRt := right_rt l hR
 have hf := hRt.few
 obtain ⟨b, off, cap, rfl, hb⟩ := nodes_addr hA (by omega)
 have HN := Lib.hid (fun w' (h : Below w.heap.size w w') j hj => nodes_get (hA.below h) j hj)
 have HP := Lib.hid (fun (j : Nat) (hj : j < l.length) => hRt.par (j : Int) ⟨by omega, by omega⟩)
 have HT := Lib.hid (fun (j : Nat) (hj : j < l.length) => top_eq hRt (j : Int) ⟨by omega, by omega⟩)
 have HDe := Lib.hid (fun (j : Nat) (hj : j < l.length) => dep_up hRt j hj)
 obtain ⟨res, hres⟩ : ∃ r, r = topP l (k : Int) := ⟨_, rfl⟩
 rw [← hres]
 have HX0 : Hid (res = topP l (k : Int)) := Lib.hid hres
 clear hres hRt hR hL hA
 go_enter Tryz.func59, Tryz.ntmps59
 go_wp2_with fail
 refine hh.mono ?_
 rintro e w1 ⟨rfl, hb1⟩
 clear hh
 go_wp2_with fail
 go_loopw [1] (fun s1 wr => ∃ m : Nat, s1 = .int .i64 m ∧ m < l.length ∧ Hid (res = topP l (m : Int)) ∧ wr = w1) (fun s1 _ => dep l (RowKit.intOf s1))
 case atStart => exact ⟨k, rfl, hk, HX0, rfl⟩
 case round =>
  obtain ⟨m, rfl, hm, hx, rfl⟩ := hrel
  obtain ⟨va, vk, hn⟩ := HN.out wr hb1 m hm
  have c3 := hn.c3
  clear hn
  have hpm := HP.out m hm
  have HTm := Lib.hid (HT.out m hm)
  have HD := Lib.hid (HDe.out m hm)
  have hm' : (m : Int) < (l.length : Int) := by omega
  by_cases g : (nd l (m : Int)).parent < 0
  ·have HX : Hid (res = (m : Int)) := Lib.hid (by rw [hx.out, HTm.out, if_pos g])
   have g2 : ¬ 0 ≤ (nd l (m : Int)).parent := by omega
   clear HTm HD
   generalize (nd l (m : Int)).parent = p at *
   go_wp2_with fail
   go_ret
   exact ⟨ret_int HX.out.symm, hb1⟩
  ·obtain ⟨p, hp⟩ : ∃ p : Nat, (nd l (m : Int)).parent = (p : Int) := ⟨(nd l (m : Int)).parent.toNat, by omega⟩
   have HX : Hid (res = topP l (p : Int)) := Lib.hid (by rw [hx.out, HTm.out, if_neg g, hp])
   have HD2 : Hid (dep l (p : Int) < dep l (m : Int)) := Lib.hid (by rw [← hp]; exact HD.out)
   have hpl : p < l.length := by omega
   rw [hp] at c3
   clear hp HTm HD g hpm
   go_wp2_with fail
   go_roundw
   case rel => exact ⟨p, rfl, hpl, HX, by first | rfl | trivial⟩
   case measure => exact HD2.out
theorem rtop_any (v : Value) (l : List Nd) (hR : rightB l = true) (k : Nat) (hk : k < l.length) (w : World) (hA : NodesAt w v l) :
  Calls Tryz.prog 63 #[v, .int .i64 k] w fun e w' => e = .returned (.int .i64 (topP l (k : Int))) ∧ w' = w := by
 have hRt := right_rt l hR
 have hf := hRt.few
 obtain ⟨b, off, cap, rfl, hb⟩ := nodes_addr hA (by omega)
 have HN := Lib.hid (fun j hj => nodes_get hA j hj)
 have HP := Lib.hid (fun (j : Nat) (hj : j < l.length) => hRt.par (j : Int) ⟨by omega, by omega⟩)
 have HT := Lib.hid (fun (j : Nat) (hj : j < l.length) => top_eq hRt (j : Int) ⟨by omega, by omega⟩)
 have HDe := Lib.hid (fun (j : Nat) (hj : j < l.length) => dep_up hRt j hj)
 obtain ⟨res, hres⟩ : ∃ r, r = topP l (k : Int) := ⟨_, rfl⟩
 rw [← hres]
 have HX0 : Hid (res = topP l (k : Int)) := Lib.hid hres
 clear hres hRt hR hA
 go_enter Tryz.func63, Tryz.ntmps63
 go_wp2_with fail
 go_loopw [1] (fun s1 wr => ∃ m : Nat, s1 = .int .i64 m ∧ m < l.length ∧ Hid (res = topP l (m : Int)) ∧ wr = w) (fun s1 _ => dep l (RowKit.intOf s1))
 case atStart => exact ⟨k, rfl, hk, HX0, rfl⟩
 case round =>
  obtain ⟨m, rfl, hm, hx, rfl⟩ := hrel
  obtain ⟨va, vk, hn⟩ := HN.out m hm
  have c3 := hn.c3
  clear hn
  have hpm := HP.out m hm
  have HTm := Lib.hid (HT.out m hm)
  have HD := Lib.hid (HDe.out m hm)
  have hm' : (m : Int) < (l.length : Int) := by omega
  by_cases g : (nd l (m : Int)).parent < 0
  ·have HX : Hid (res = (m : Int)) := Lib.hid (by rw [hx.out, HTm.out, if_pos g])
   have g2 : ¬ 0 ≤ (nd l (m : Int)).parent := by omega
   clear HTm HD
   generalize (nd l (m : Int)).parent = p at *
   go_wp2_with fail
   go_ret
   exact ⟨ret_int HX.out.symm, rfl⟩
  ·obtain ⟨p, hp⟩ : ∃ p : Nat, (nd l (m : Int)).parent = (p : Int) := ⟨(nd l (m : Int)).parent.toNat, by omega⟩
   have HX : Hid (res = topP l (p : Int)) := Lib.hid (by rw [hx.out, HTm.out, if_neg g, hp])
   have HD2 : Hid (dep l (p : Int) < dep l (m : Int)) := Lib.hid (by rw [← hp]; exact HD.out)
   have hpl : p < l.length := by omega
   rw [hp] at c3
   clear hp HTm HD g hpm
   go_wp2_with fail
   go_roundw
   case rel => exact ⟨p, rfl, hpl, HX, by first | rfl | trivial⟩
   case measure => exact HD2.out
theorem attr_cell {w : World} {va : Value} {a : List Attr} (h : AttrsAt w va a) (i : Nat) (hi : i < a.length) : ∃ b off cap, va = .slice (some ⟨b, off, none⟩) a.length cap ∧ b < w.heap.size ∧ w.cell? ⟨b, off + i * 2 + 1, none⟩ = some (.string ⟨(a[i].2).toArray⟩) := by
 rcases h with ⟨rfl, _⟩ | ⟨b, off, cap, e, h0, hb, hr⟩
 ·exact absurd hi (Nat.not_lt_zero _)
 ·exact ⟨b, off, cap, e, hb, (hr i hi).2⟩
def RetSB (s : List UInt8) (q : Bool) (w : World) (e : Ending) (w' : World) : Prop := e = .returned (.tuple #[.string ⟨s.toArray⟩, .bool q]) ∧ Below w.heap.size w w'
theorem tattr_any (v : Value) (l : List Nd) (hL : LFine l) (hR : rightB l = true) (k : Nat) (hk : k < l.length) (nm : List UInt8) (w : World) (hA : NodesAt w v l) :
  Calls Tryz.prog 215 #[v, .int .i64 k, .string ⟨nm.toArray⟩] w (RetSB ((fval nm (nd l (k : Int)).attrs).getD []) (hasA nm (nd l (k : Int)).attrs) w) := by
 have hh := thas_any v l k hL w hA
 rw [hR, decide_eq_true (by omega : (0 : Int) ≤ (k : Int)), decide_eq_true (by omega : (k : Int) < (l.length : Int))] at hh
 have hlen := hL.len
 obtain ⟨b, off, cap, rfl, hb⟩ := nodes_addr hA (by omega)
 have HN := Lib.hid (fun w' (h : Below w.heap.size w w') => nodes_get (hA.below h) k hk)
 have HF := Lib.hid (fun w' va (h : AttrsAt w' va (nd l (k : Int)).attrs) => tfind_any va (nd l (k : Int)).attrs nm (hL.nd _ (by omega) (by omega)).attrs w' h)
 have hw := fint_ways nm (nd l (k : Int)).attrs
 have HW := Lib.hid hw
 obtain ⟨s, hs⟩ : ∃ s, s = (fval nm (nd l (k : Int)).attrs).getD [] := ⟨_, rfl⟩
 obtain ⟨q, hq⟩ : ∃ q, q = hasA nm (nd l (k : Int)).attrs := ⟨_, rfl⟩
 rw [← hs, ← hq]
 have HS := Lib.hid hs
 have HQ := Lib.hid hq
 have h0 : (0 : Int) ≤ (k : Int) := by omega
 have hk' : (k : Int) < (l.length : Int) := by omega
 clear hs hq hw hL hR hA
 go_enter Tryz.func215, Tryz.ntmps215
 go_wp2_with fail
 refine hh.mono ?_
 rintro e w1 ⟨rfl, hb1⟩
 obtain ⟨va, vk, hn⟩ := HN.out w1 hb1
 have c2 := hn.c2
 have HAt := Lib.hid hn.attrs
 have hf := HF.out w1 va hn.attrs
 obtain ⟨aa, ac, rfl⟩ := AttrsAt.lenN hn.attrs
 clear hh hn HN HF
 generalize fint nm (nd l (k : Int)).attrs = fi at *
 go_wp2_with fail
 refine hf.mono ?_
 rintro e w2 ⟨rfl, hb2⟩
 have hb02 := below_trans hb1 hb2
 have c2 := cell_below hb2 c2
 clear hf
 rcases HW.out with ⟨j, hj, h1, h2, h3, h4⟩ | ⟨h1, h2, h3⟩
 ·subst h1
  obtain ⟨gb, go, gc, e, hgb, hcell⟩ := attr_cell HAt.out j hj
  cases e
  have hcell := cell_below hb2 hcell
  have HX : Hid (s = (nd l (k : Int)).attrs[j].2 ∧ q = true) := Lib.hid ⟨by rw [HS.out, h4]; rfl, by rw [HQ.out]; unfold hasA; rw [h4]; rfl⟩
  have hj' : (j : Int) < ((nd l (k : Int)).attrs.length : Int) := by omega
  clear h2 h3 h4 HW HS HQ
  generalize (nd l (k : Int)).attrs[j].2 = y at *
  generalize (nd l (k : Int)).attrs.length = al at *
  go_wp2_with fail
  go_ret2
  exact ⟨aret_sb HX.out.1.symm HX.out.2.symm, hb02⟩
 ·subst h1
  have HX : Hid (s = [] ∧ q = false) := Lib.hid ⟨by rw [HS.out, h3]; rfl, by rw [HQ.out]; unfold hasA; rw [h3]; rfl⟩
  clear h2 h3 HW HS HQ
  generalize (nd l (k : Int)).attrs.length = al at *
  go_wp2_with fail
  go_ret2
  exact ⟨aret_sb HX.out.1.symm HX.out.2.symm, hb02⟩
theorem rattr10_any (v : Value) (l : List Nd) (hL : LFine l) (k : Nat) (hk : k < l.length) (nm : List UInt8) (w : World) (hA : NodesAt w v l) :
  Calls Tryz.prog 217 #[v, .int .i64 k, .string ⟨nm.toArray⟩] w (RetSB ((fval nm (nd l (k : Int)).attrs).getD []) (hasA nm (nd l (k : Int)).attrs) w) := by
 have hlen := hL.len
 obtain ⟨b, off, cap, rfl, hb⟩ := nodes_addr hA (by omega)
 obtain ⟨va, vk, hn⟩ := nodes_get hA k hk
 have hf := rfindN_any va (nd l (k : Int)).attrs nm (hL.nd _ (by omega) (by omega)).attrs w hn.attrs
 have hw := fint_ways nm (nd l (k : Int)).attrs
 have HW := Lib.hid hw
 obtain ⟨s, hs⟩ : ∃ s, s = (fval nm (nd l (k : Int)).attrs).getD [] := ⟨_, rfl⟩
 obtain ⟨q, hq⟩ : ∃ q, q = hasA nm (nd l (k : Int)).attrs := ⟨_, rfl⟩
 rw [← hs, ← hq]
 have HS := Lib.hid hs
 have HQ := Lib.hid hq
 have h0 : (0 : Int) ≤ (k : Int) := by omega
 have hk' : (k : Int) < (l.length : Int) := by omega
 have c2 := hn.c2
 have HAt := Lib.hid hn.attrs
 obtain ⟨aa, ac, rfl⟩ := AttrsAt.lenN hn.attrs
 clear hs hq hw hL hA hn
 generalize fint nm (nd l (k : Int)).attrs = fi at *
 go_enter Tryz.func217, Tryz.ntmps217
 go_wp2_with fail
 refine hf.mono ?_
 rintro e w2 ⟨rfl, rfl⟩
 clear hf
 rcases HW.out with ⟨j, hj, h1, h2, h3, h4⟩ | ⟨h1, h2, h3⟩
 ·subst h1
  obtain ⟨gb, go, gc, e, hgb, hcell⟩ := attr_cell HAt.out j hj
  cases e
  have HX : Hid (s = (nd l (k : Int)).attrs[j].2 ∧ q = true) := Lib.hid ⟨by rw [HS.out, h4]; rfl, by rw [HQ.out]; unfold hasA; rw [h4]; rfl⟩
  have hj' : (j : Int) < ((nd l (k : Int)).attrs.length : Int) := by omega
  clear h2 h3 h4 HW HS HQ
  generalize (nd l (k : Int)).attrs[j].2 = y at *
  generalize (nd l (k : Int)).attrs.length = al at *
  go_wp2_with fail
  go_ret2
  exact ⟨aret_sb HX.out.1.symm HX.out.2.symm, Below.refl _ _⟩
 ·subst h1
  have HX : Hid (s = [] ∧ q = false) := Lib.hid ⟨by rw [HS.out, h3]; rfl, by rw [HQ.out]; unfold hasA; rw [h3]; rfl⟩
  clear h2 h3 HW HS HQ
  generalize (nd l (k : Int)).attrs.length = al at *
  go_wp2_with fail
  go_ret2
  exact ⟨aret_sb HX.out.1.symm HX.out.2.symm, Below.refl _ _⟩
end Go.Proofs.YtkhlfggnjcbniaaGreatDoor.doc
