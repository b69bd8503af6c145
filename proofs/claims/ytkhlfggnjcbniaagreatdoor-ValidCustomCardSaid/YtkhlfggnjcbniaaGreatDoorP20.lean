/- A part of the proofs: lemmas and contracts. -/
import Derived.LoopIn
import Derived.LoopNIn
import Derived.OwnWalkIn
import Derived.RangeFuncBound
import Derived.RangeFuncNested
import Derived.Shelf.RegionOpen
import Derived.Test.YtkhlfggnjcbniaaGreatDoorP17
import Derived.Test.YtkhlfggnjcbniaaGreatDoorP19
set_option maxHeartbeats 12800000
set_option maxRecDepth 1000000
namespace Go.Proofs.YtkhlfggnjcbniaaGreatDoor.doc
open Go.ChangeShapes Go.WideShapes Go.ChangeAt Go.RowKit Go.Lib Go.Shelf atr link
attribute [local go_sem] Oper.semAt_some
abbrev Opt (l : List Nd) (sel : Int) := { x : Int // x ∈ optsP l sel }
def vals {l : List Nd} {sel : Int} (xs : List (Opt l sel)) : List Int := xs.map Subtype.val
theorem vals_snoc {l : List Nd} {sel : Int} (xs : List (Opt l sel)) (x : Opt l sel) : vals (xs ++ [x]) = vals xs ++ [x.1] := by unfold vals; rw [List.map_append]; rfl
theorem below_grown {w w' : World} (h : Below w.heap.size w w') : w.grownBy w' none := ⟨h.os, h.tape, h.output, h.size, fun k hk _ => h.block k hk⟩
def IsSlice (v : Value) : Prop := ∃ a n c, v = .slice a n c
structure Kp (n₀ Bl Bs : Nat) (W W' : World) : Prop where
 low : Below n₀ W W'
 l : ∀ u, W.cell? ⟨Bl, 0, none⟩ = some u → W'.cell? ⟨Bl, 0, none⟩ = some u
 s : ∀ u, W.cell? ⟨Bs, 0, none⟩ = some u → W'.cell? ⟨Bs, 0, none⟩ = some u
theorem Kp.refl (n₀ Bl Bs : Nat) (W : World) : Kp n₀ Bl Bs W W := ⟨Below.refl _ _, fun _ h => h, fun _ h => h⟩
theorem Kp.trans {n₀ Bl Bs : Nat} {A B C : World} (h : Kp n₀ Bl Bs A B) (k : Kp n₀ Bl Bs B C) : Kp n₀ Bl Bs A C := ⟨h.low.trans k.low, fun u g => k.l u (h.l u g), fun u g => k.s u (h.s u g)⟩
theorem Kp.of_below {n₀ Bl Bs : Nat} {A B : World} (h : Below A.heap.size A B) (hn : n₀ ≤ A.heap.size) : Kp n₀ Bl Bs A B := ⟨h.mono hn, fun _ g => cell_below h g, fun _ g => cell_below h g⟩
theorem Kp.put {n₀ Bl Bs : Nat} {w : World} (hn : n₀ ≤ w.heap.size) (W : World) (l : Nat) (o o' : Obj) (hl : w.heap.size ≤ l) (h : W.heap[l]? = some o) (h1 : o.isCells = false) (h2 : o.isWalk = false) : Kp n₀ Bl Bs W (W.putObj l o') :=
 ⟨belowK_b hn W l o o' hl h h1 h2, fun _ g => cell_kept g (grownBy_putObj' W l o') (fun r e => by cases e; exact ⟨_, h, h1⟩), fun _ g => cell_kept g (grownBy_putObj' W l o') (fun r e => by cases e; exact ⟨_, h, h1⟩)⟩

theorem options_any (v : Value) (sel : Int) (hv : IsSlice v) (w : World) :
  Calls Tryz.prog 147 #[v, .int .i64 sel] w fun e w' => e = .returned (.func (.func 222) #[] #[.pointer (some ⟨w.heap.size, 0, none⟩), .pointer (some ⟨w.heap.size + 1, 0, none⟩)]) ∧ w' = (w.alloc (.cells #[v] 22)).alloc (.cells #[.int .i64 sel] 3) := by
 obtain ⟨oa, n, c, rfl⟩ := hv
 go_enter Tryz.func147, Tryz.ntmps147
 go_wp2_with fail
 go_ret
 exact ⟨rfl, rfl⟩
attribute [local go_sem] Oper.semAt_some
theorem opts_take (l : List Nd) (ks : List Int) (m : Nat) (h : m < ks.length) : (ks.take (m + 1)).flatMap (innerP l) = (ks.take m).flatMap (innerP l) ++ innerP l ks[m] := by
 rw [List.take_succ_eq_append_getElem h, List.flatMap_append]; simp
theorem inner_group (l : List Nd) (k : Int) (h : kN l k = 33) : innerP l k = (nd l k).kids.filter (optB l) := by unfold innerP; rw [if_pos h]
theorem inner_one (l : List Nd) (k : Int) (h : kN l k ≠ 33) : innerP l k = [k].filter (optB l) := by unfold innerP; rw [if_neg h]
theorem filt_take (p : Int → Bool) (is : List Int) (j : Nat) (h : j < is.length) : (is.take (j + 1)).filter p = (is.take j).filter p ++ if p is[j] then [is[j]] else [] := by
 rw [List.take_succ_eq_append_getElem h, List.filter_append]
 congr 1
 rw [List.filter_cons]
 split <;> rfl
theorem opts_prefix (l : List Nd) (sel : Int) (m : Nat) (hm : m < (nd l sel).kids.length) (is : List Int) (his : innerP l (nd l sel).kids[m] = is.filter (optB l)) (j : Nat) (_hj : j ≤ is.length) :
  (((nd l sel).kids.take m).flatMap (innerP l) ++ (is.take j).filter (optB l)) <+: optsP l sel := by
 have e : optsP l sel = ((nd l sel).kids.take m).flatMap (innerP l) ++ (is.take j).filter (optB l) ++ ((is.drop j).filter (optB l) ++ ((nd l sel).kids.drop (m + 1)).flatMap (innerP l)) := by
  have h1 : (nd l sel).kids = (nd l sel).kids.take m ++ (nd l sel).kids[m] :: (nd l sel).kids.drop (m + 1) := by
   rw [← List.drop_eq_getElem_cons hm, List.take_append_drop]
  have h2 : is.filter (optB l) = (is.take j).filter (optB l) ++ (is.drop j).filter (optB l) := by rw [← List.filter_append, List.take_append_drop]
  unfold optsP
  conv => lhs; rw [h1]
  rw [List.flatMap_append, List.flatMap_cons, his, h2]
  simp
 exact ⟨_, e.symm⟩
theorem opts_in (l : List Nd) (sel : Int) (m : Nat) (hm : m < (nd l sel).kids.length) (is : List Int) (his : innerP l (nd l sel).kids[m] = is.filter (optB l)) (o : Int) (ho : o ∈ is) (hb : optB l o = true) : o ∈ optsP l sel := by
 unfold optsP
 rw [List.mem_flatMap]
 exact ⟨_, List.getElem_mem hm, by rw [his]; exact List.mem_filter.2 ⟨ho, hb⟩⟩

theorem kids_le (l : List Nd) (hR : Rt l) (k : Int) (hk : inR l k) : (nd l k).kids.length ≤ 400 := by
 have := seen_le l _ (kids_nodup hR k hk) (fun x hx => (hR.kid k x hk hx).1)
 have := hR.few
 omega
theorem iter_in (l : List Nd) (hL : LFine l) (hR : rightB l = true) (sel : Nat) (hs : sel < l.length) (v : Value) (w0 : World) (hA : NodesAt w0 v l) (n : Nat) (hn1 : 1 ≤ n) (Bl Bs lp : Nat)
  (J Jx : List (Opt l (sel : Int)) → World → Prop) (W : World) (hW0 : Below w0.heap.size w0 W) (hcl : W.cell? ⟨Bl, 0, none⟩ = some v) (hcs : W.cell? ⟨Bs, 0, none⟩ = some (.int .i64 (sel : Int))) (hJ : AbidesFrom W.heap.size J)
  (hY : ∀ pre x W1, J pre W1 → pre.length < (optsP l (sel : Int)).length → YieldAt Fence.wide (n - 1) Tryz.prog lp #[.int .i64 x.1] W1 fun e W' =>
   (e = .returned (.bool true) ∧ J (pre ++ [x]) W' ∧ Kp w0.heap.size Bl Bs W1 W') ∨ (e = .returned (.bool false) ∧ Jx (pre ++ [x]) W'))
  (h0 : J [] W) :
  CallsIn Fence.wide n Tryz.prog 222 #[.func (.yield lp) #[] #[], .pointer (some ⟨Bl, 0, none⟩), .pointer (some ⟨Bs, 0, none⟩)] W fun e W' => (∃ u, e = .returned u) ∧
   ((∃ xs : List (Opt l (sel : Int)), vals xs = optsP l (sel : Int) ∧ J xs W') ∨ (∃ pre : List (Opt l (sel : Int)), vals pre <+: optsP l (sel : Int) ∧ Jx pre W')) := by
 have hRt := right_rt l hR
 have hf := hRt.few
 have HOT := Lib.hid (fun m h => opts_take l (nd l (sel : Int)).kids m h)
 have HOP := Lib.hid (fun m hm is his j hj => opts_prefix l (sel : Int) m hm is his j hj)
 have HOI := Lib.hid (fun m hm is his o ho hb => opts_in l (sel : Int) m hm is his o ho hb)
 have HOA : Hid (optsP l (sel : Int) = (nd l (sel : Int)).kids.flatMap (innerP l)) := Lib.hid rfl
 have HKid := Lib.hid (fun c hc => (hRt.kid (sel : Int) c ⟨by omega, by omega⟩ hc).1)
 have HKid2 := Lib.hid (fun k c (hk : inR l k) hc => (hRt.kid k c hk hc).1)
 have HKl := Lib.hid (fun k (hk : inR l k) => kids_le l hRt k hk)
 have hkl := kids_le l hRt (sel : Int) ⟨by omega, by omega⟩
 obtain ⟨b, off, cap, rfl, hb0⟩ := nodes_addr hA (by omega)
 have HG : Hid (∀ j : Nat, j < l.length → ∃ nm tx pr va vk, (∀ W', Below w0.heap.size w0 W' → W'.cell? ⟨b, off + j * 5, none⟩ = some (.string nm) ∧ W'.cell? ⟨b, off + j * 5 + 1, none⟩ = some (.string tx) ∧ W'.cell? ⟨b, off + j * 5 + 2, none⟩ = some va ∧ W'.cell? ⟨b, off + j * 5 + 3, none⟩ = some (.int .i64 pr) ∧ W'.cell? ⟨b, off + j * 5 + 4, none⟩ = some vk ∧ IntsAt W' vk (nd l (j : Int)).kids ∧
   (∀ n', CallsIn Fence.wide n' Tryz.prog 30 #[.agg #[.string nm, .string tx, va, .int .i64 pr, vk]] W' fun e w1 => e = .returned (.int .i64 (kN l (j : Int))) ∧ Below W'.heap.size W' w1))) := Lib.hid (fun j hj => by
  obtain ⟨va, vk, hn⟩ := nodes_get hA j hj
  refine ⟨⟨(nd l (j : Int)).name.toArray⟩, ⟨(nd l (j : Int)).text.toArray⟩, (nd l (j : Int)).parent, va, vk, fun W' hb => ?_⟩
  have h := hn.below hb
  exact ⟨h.c0, h.c1, h.c2, h.c3, h.c4, h.kids, fun n' => callsIn_wide.2 (of_any (nd l (j : Int)) va vk (hL.nd _ (by omega) (by omega)) W' h.attrs h.kids)⟩)
 have HY := Lib.hid hY
 have HJ := Lib.hid (fun s A B (h : J s A) (hb : Below A.heap.size A B) => hJ s A B none h (below_grown hb) (fun r e => by cases e))
 clear hY hJ hRt hL hR
 refine callsIn_of_wp Tryz.func222 rfl trivial ?_ rfl
 simp only [Tryz.ntmps222, List.size_toArray, List.length_cons, List.length_nil, Nat.reduceAdd, Nat.reduceSub, Array.replicate_succ, Array.replicate_zero, List.push_toArray, List.append_toArray, List.nil_append, List.cons_append]
 have h0' : (0 : Int) ≤ (sel : Int) := by omega
 have hs' : (sel : Int) < (l.length : Int) := by omega
 obtain ⟨nms, txs, prs, vas, vks, HSel⟩ := HG.out sel hs
 obtain ⟨_, _, _, _, c4, hki, _⟩ := HSel W hW0
 have HKs := Lib.hid (fun W' h => (HSel W' h).2.2.2.2.2.1)
 clear HSel
 have HIk := Lib.hid (fun W' (k : Kp w0.heap.size Bl Bs W W') => (hW0.trans k.low))
 generalize (nd l (sel : Int)).kids = ks at *
 obtain ⟨ka, kc, rfl⟩ := RowAt.lenN hki
 clear hki
 gi_wp2
 clear c4
 gi_loopw [15] (fun i wr => ∃ (m : Nat) (pre : List (Opt l (sel : Int))), m ≤ ks.length ∧ i = .int .i64 m ∧ Hid (vals pre = (ks.take m).flatMap (innerP l)) ∧ Hid (J pre wr) ∧ Kp w0.heap.size Bl Bs W wr) (fun i _ => ks.length - (RowKit.intOf i).toNat)
 case atStart => exact ⟨0, [], Nat.zero_le _, rfl, Lib.hid rfl, Lib.hid h0, Kp.refl _ _ _ _⟩
 case round =>
  clear h0
  generalize wr = wo at *
  obtain ⟨m, pre, hm, rfl, HV, HJr, hkp⟩ := hrel
  by_cases hlt : m < ks.length
  case neg =>
   obtain rfl : m = ks.length := by omega
   gi_wp2
   go_end0
   exact ⟨⟨_, rfl⟩, .inl ⟨pre, by rw [HV.out, HOA.out, List.take_length], HJr.out⟩⟩
  have hinl := HKid.out ks[m] (List.getElem_mem hlt)
  have hT := Lib.hid (HOT.out m hlt)
  have hP := Lib.hid (HOP.out m hlt)
  have hI := Lib.hid (HOI.out m hlt)
  have hkw := HKs.out wo (HIk.out _ hkp)
  obtain ⟨kb, ko, kcap, e, hkb⟩ := IntsAt.addr hkw (by omega)
  cases e
  have cx := IntsAt.cellAt hkw m hlt
  have hcl1 := hkp.l _ hcl
  clear hkw
  generalize ks[m] = kk at *
  obtain ⟨kn, rfl⟩ : ∃ kn : Nat, kk = (kn : Int) := ⟨kk.toNat, by have := hinl.1; omega⟩
  have hkn : kn < l.length := by have := hinl.2; omega
  have hkn' : (kn : Int) < (l.length : Int) := hinl.2
  have hkn0 : (0 : Int) ≤ (kn : Int) := hinl.1
  obtain ⟨nmk, txk, prk, vak, vkk, HSk⟩ := HG.out kn hkn
  have hbA : Below wo.heap.size wo (wo.alloc (.cells #[.int .i64 (kn : Int)] 3)) := (Below.refl _ wo).alloc (Nat.le_refl _) _
  have hkA := hkp.trans (Kp.of_below hbA (HIk.out _ hkp).size)
  have hJA := Lib.hid (HJ.out _ _ _ HJr.out hbA)
  have hclA := hkA.l _ hcl
  have hcb : (wo.alloc (.cells #[.int .i64 (kn : Int)] 3)).cell? ⟨wo.heap.size, 0, none⟩ = some (.int .i64 (kn : Int)) := World.cell?_alloc_new wo #[.int .i64 (kn : Int)] 3 0
  obtain ⟨e0, e1, e2, e3, e4, HIn, hof⟩ := HSk _ (HIk.out _ hkA)
  have hof := hof (n - 1)
  by_cases h33 : kN l (kn : Int) = 33
  ·rw [h33] at hof
   have HIs := Lib.hid (inner_group l (kn : Int) h33)
   have HRd := Lib.hid (fun W' h => (HSk W' h).2.2.2.2.2.1)
   have hisl := HKl.out (kn : Int) hinl
   have hisr := Lib.hid (fun c hc => HKid2.out (kn : Int) c hinl hc)
   gi_wp2
   refine ⟨trivial, hof.mono ?_⟩
   rintro e w1 ⟨rfl, hb1⟩
   have hk1 := hkA.trans (Kp.of_below hb1 (HIk.out _ hkA).size)
   have hJ1 := Lib.hid (HJ.out _ _ _ hJA.out hb1)
   have hclw := hk1.l _ hcl
   obtain ⟨_, _, _, _, f4, hiw, _⟩ := HSk w1 (HIk.out _ hk1)
   clear hof HSk e0 e1 e2 e3 e4 cx hclA hcb
   generalize (nd l (kn : Int)).kids = is at *
   obtain ⟨ia, ic, rfl⟩ := RowAt.lenN hiw
   clear hiw HIn
   gi_wp2
   clear f4 hclw
   gi_loopw [34] (fun i wq => ∃ (j : Nat) (pr2 : List (Opt l (sel : Int))), j ≤ is.length ∧ i = .int .i64 j ∧ Hid (vals pr2 = (ks.take m).flatMap (innerP l) ++ (is.take j).filter (optB l)) ∧ Hid (J pr2 wq) ∧ Kp w0.heap.size Bl Bs W wq ∧ True) (fun i _ => is.length - (RowKit.intOf i).toNat)
   case atStart => exact ⟨0, pre, Nat.zero_le _, rfl, Lib.hid (by rw [HV.out]; simp), hJ1, hk1, trivial⟩
   case round =>
    obtain ⟨j, pr2, hj, rfl, HV2, HJ2, hk2, hx⟩ := hrel
    by_cases hjl : j < is.length
    case neg =>
     obtain rfl : j = is.length := by omega
     gi_wp2
     go_roundw
     case rel => exact ⟨m + 1, pr2, by omega, by go_num, Lib.hid (by rw [HV2.out, List.take_length, hT.out, HIs.out]), HJ2, hk2⟩
     case measure => simp [RowKit.intOf]; omega
    have hor := hisr.out is[j] (List.getElem_mem hjl)
    have hPj := Lib.hid (hP.out is HIs.out (j + 1) hjl)
    have hFj := Lib.hid (filt_take (optB l) is j hjl)
    have hIj := Lib.hid (hI.out is HIs.out is[j] (List.getElem_mem hjl))
    have hiq := HRd.out wr (HIk.out _ hk2)
    obtain ⟨ib, io, icap, e, hib⟩ := IntsAt.addr hiq (by omega)
    cases e
    have cy := IntsAt.cellAt hiq j hjl
    clear hiq
    generalize is[j] = o at *
    obtain ⟨on, rfl⟩ : ∃ on : Nat, o = (on : Int) := ⟨o.toNat, by have := hor.1; omega⟩
    have hon : on < l.length := by have := hor.2; omega
    have hon' : (on : Int) < (l.length : Int) := hor.2
    have hon0 : (0 : Int) ≤ (on : Int) := hor.1
    obtain ⟨nmo, txo, pro, vao, vko, HSo⟩ := HG.out on hon
    obtain ⟨g0, g1, g2, g3, g4, _, hofo⟩ := HSo wr (HIk.out _ hk2)
    have hofo := hofo (n - 1)
    have hclq := hk2.l _ hcl
    clear HSo
    by_cases h32 : kN l (on : Int) = 32
    case neg =>
     have hFs : Hid ((is.take (j + 1)).filter (optB l) = (is.take j).filter (optB l)) := Lib.hid (by rw [hFj.out, if_neg (by unfold optB; simpa using h32), List.append_nil])
     generalize kN l (on : Int) = kd at *
     gi_wp2
     refine ⟨trivial, hofo.mono ?_⟩
     rintro e w3 ⟨rfl, hb3⟩
     have hk3 := hk2.trans (Kp.of_below hb3 (HIk.out _ hk2).size)
     have HJ3 := Lib.hid (HJ.out _ _ _ HJ2.out hb3)
     clear hofo
     gi_wp2
     refine ⟨fun _ h => (by cases h), ?_⟩
     gi_wp2
     go_roundw
     case rel => exact ⟨j + 1, pr2, by omega, by go_num, Lib.hid (by rw [HV2.out, hFs.out]), HJ3, hk3, trivial⟩
     case measure => simp [RowKit.intOf]; omega
    rw [h32] at hofo
    have hob : optB l (on : Int) = true := by unfold optB; simpa using h32
    have hmem := hIj.out hob
    have hFs : Hid ((is.take (j + 1)).filter (optB l) = (is.take j).filter (optB l) ++ [(on : Int)]) := Lib.hid (by rw [hFj.out, if_pos hob])
    have hVx : Hid (vals (pr2 ++ [(⟨(on : Int), hmem⟩ : Opt l (sel : Int))]) = (ks.take m).flatMap (innerP l) ++ (is.take (j + 1)).filter (optB l)) := Lib.hid (by rw [vals_snoc, HV2.out, hFs.out, List.append_assoc])
    have hlp : pr2.length < (optsP l (sel : Int)).length := by
     have h1 := hPj.out.length_le
     rw [← hVx.out] at h1
     unfold vals at h1
     rw [List.length_map, List.length_append, List.length_singleton] at h1
     omega
    gi_wp2
    refine ⟨trivial, hofo.mono ?_⟩
    rintro e w3 ⟨rfl, hb3⟩
    have hk3 := hk2.trans (Kp.of_below hb3 (HIk.out _ hk2).size)
    have HJ3 := Lib.hid (HJ.out _ _ _ HJ2.out hb3)
    obtain ⟨fn, tmps, assign, body, hy, hRy⟩ := HY.out pr2 ⟨(on : Int), hmem⟩ w3 HJ3.out hlp
    dsimp only at hy
    clear hofo
    gi_wp2
    refine hRy.mono ?_
    rintro e W3 (⟨rfl, hJ4, hk4⟩ | ⟨rfl, hJx4⟩)
    ·gi_wp2
     go_roundw
     case rel => exact ⟨j + 1, _, by omega, by go_num, hVx, Lib.hid hJ4, hk3.trans hk4, trivial⟩
     case measure => simp [RowKit.intOf]; omega
    ·gi_wp2
     refine bodyPost_ret (results_none rfl _ _ _) rfl ?_
     exact ⟨⟨_, rfl⟩, .inr ⟨_, by rw [hVx.out]; exact hPj.out, hJx4⟩⟩
  ·have HIs := Lib.hid (inner_one l (kn : Int) h33)
   obtain ⟨is, his0⟩ : ∃ is, is = [(kn : Int)] := ⟨_, rfl⟩
   rw [← his0] at HIs
   have hisr := Lib.hid (fun (c : Int) (hc : c ∈ is) => (by rw [his0] at hc; rw [List.mem_singleton.1 hc]; exact hinl : inR l c))
   have hisl : is.length = 1 := by rw [his0]; rfl
   generalize kN l (kn : Int) = kd at *
   gi_wp2
   refine ⟨trivial, hof.mono ?_⟩
   rintro e w1 ⟨rfl, hb1⟩
   have hk1 := hkA.trans (Kp.of_below hb1 (HIk.out _ hkA).size)
   have hJ1 := Lib.hid (HJ.out _ _ _ hJA.out hb1)
   have hcb1 := cell_below hb1 hcb
   clear hof HSk e0 e1 e2 e3 e4 cx hclA HIn
   gi_wp2
   have hta : is.take 1 = is := by rw [his0]; rfl
   have hkd : (kd == (33 : Int)) = false := by simpa using h33
   rw [hkd]
   clear hkd h33
   gi_loopw [34] (fun i wq => ∃ (j : Nat) (pr2 : List (Opt l (sel : Int))), j ≤ 1 ∧ i = .int .i64 j ∧ Hid (vals pr2 = (ks.take m).flatMap (innerP l) ++ (is.take j).filter (optB l)) ∧ Hid (J pr2 wq) ∧ Kp w0.heap.size Bl Bs W wq ∧ (j = 0 → wq.cell? ⟨wo.heap.size, 0, none⟩ = some (.int .i64 (kn : Int)))) (fun i _ => 1 - (RowKit.intOf i).toNat)
   case atStart => exact ⟨0, pre, Nat.zero_le _, rfl, Lib.hid (by rw [HV.out]; simp), hJ1, hk1, (fun _ => hcb1)⟩
   case round =>
    obtain ⟨j, pr2, hj, rfl, HV2, HJ2, hk2, hx⟩ := hrel
    by_cases hjl : j < 1
    case neg =>
     obtain rfl : j = 1 := by omega
     gi_wp2
     go_roundw
     case rel => exact ⟨m + 1, pr2, by omega, by go_num, Lib.hid (by rw [HV2.out, hta, hT.out, HIs.out]), HJ2, hk2⟩
     case measure => simp [RowKit.intOf]; omega
    have hjl' : j < is.length := by omega
    have hor := hisr.out is[j] (List.getElem_mem hjl')
    have hPj := Lib.hid (hP.out is HIs.out (j + 1) (by omega))
    have hFj := Lib.hid (filt_take (optB l) is j (by omega))
    have hIj := Lib.hid (hI.out is HIs.out is[j] (List.getElem_mem hjl'))
    obtain rfl : j = 0 := by omega
    have cy := hx rfl
    have hoe : is[0] = (kn : Int) := by simp [his0]
    rw [hoe] at hor hFj hIj
    obtain ⟨o, ho⟩ : ∃ o, o = (kn : Int) := ⟨_, rfl⟩
    rw [← ho] at cy hor hFj hIj
    clear ho hx hisl hoe his0 hta
    obtain ⟨on, rfl⟩ : ∃ on : Nat, o = (on : Int) := ⟨o.toNat, by have := hor.1; omega⟩
    have hon : on < l.length := by have := hor.2; omega
    have hon' : (on : Int) < (l.length : Int) := hor.2
    have hon0 : (0 : Int) ≤ (on : Int) := hor.1
    obtain ⟨nmo, txo, pro, vao, vko, HSo⟩ := HG.out on hon
    obtain ⟨g0, g1, g2, g3, g4, _, hofo⟩ := HSo wr (HIk.out _ hk2)
    have hofo := hofo (n - 1)
    have hclq := hk2.l _ hcl
    clear HSo
    by_cases h32 : kN l (on : Int) = 32
    case neg =>
     have hFs : Hid ((is.take (0 + 1)).filter (optB l) = (is.take 0).filter (optB l)) := Lib.hid (by rw [hFj.out, if_neg (by unfold optB; simpa using h32), List.append_nil])
     generalize kN l (on : Int) = kd at *
     gi_wp2
     refine ⟨trivial, hofo.mono ?_⟩
     rintro e w3 ⟨rfl, hb3⟩
     have hk3 := hk2.trans (Kp.of_below hb3 (HIk.out _ hk2).size)
     have HJ3 := Lib.hid (HJ.out _ _ _ HJ2.out hb3)
     clear hofo
     gi_wp2
     refine ⟨fun _ h => (by cases h), ?_⟩
     gi_wp2
     go_roundw
     case rel =>
      exact ⟨0 + 1, pr2, by omega, by go_num, Lib.hid (by rw [HV2.out, hFs.out]), HJ3, hk3, (fun h => absurd h (by omega))⟩
     case measure => simp [RowKit.intOf]
    rw [h32] at hofo
    have hob : optB l (on : Int) = true := by unfold optB; simpa using h32
    have hmem := hIj.out hob
    have hFs : Hid ((is.take (0 + 1)).filter (optB l) = (is.take 0).filter (optB l) ++ [(on : Int)]) := Lib.hid (by rw [hFj.out, if_pos hob])
    have hVx : Hid (vals (pr2 ++ [(⟨(on : Int), hmem⟩ : Opt l (sel : Int))]) = (ks.take m).flatMap (innerP l) ++ (is.take (0 + 1)).filter (optB l)) := Lib.hid (by rw [vals_snoc, HV2.out, hFs.out, List.append_assoc])
    have hlp : pr2.length < (optsP l (sel : Int)).length := by
     have h1 := hPj.out.length_le
     rw [← hVx.out] at h1
     unfold vals at h1
     rw [List.length_map, List.length_append, List.length_singleton] at h1
     omega
    gi_wp2
    refine ⟨trivial, hofo.mono ?_⟩
    rintro e w3 ⟨rfl, hb3⟩
    have hk3 := hk2.trans (Kp.of_below hb3 (HIk.out _ hk2).size)
    have HJ3 := Lib.hid (HJ.out _ _ _ HJ2.out hb3)
    obtain ⟨fn, tmps, assign, body, hy, hRy⟩ := HY.out pr2 ⟨(on : Int), hmem⟩ w3 HJ3.out hlp
    dsimp only at hy
    clear hofo
    gi_wp2
    refine hRy.mono ?_
    rintro e W3 (⟨rfl, hJ4, hk4⟩ | ⟨rfl, hJx4⟩)
    ·gi_wp2
     go_roundw
     case rel =>
      exact ⟨0 + 1, _, by omega, by go_num, hVx, Lib.hid hJ4, hk3.trans hk4, (fun h => absurd h (by omega))⟩
     case measure => simp [RowKit.intOf]
    ·gi_wp2
     refine bodyPost_ret (results_none rfl _ _ _) rfl ?_
     exact ⟨⟨_, rfl⟩, .inr ⟨_, by rw [hVx.out]; exact hPj.out, hJx4⟩⟩
end Go.Proofs.YtkhlfggnjcbniaaGreatDoor.doc
