/- A part of the proofs: lemmas and contracts. -/
import Derived.Test.YtkhlfggnjcbniaaGreatDoorP15
set_option maxHeartbeats 12800000
set_option maxRecDepth 1000000
namespace Go.Proofs.YtkhlfggnjcbniaaGreatDoor.doc

theorem climb_add (l : List Nd) : ∀ (m n : Nat) (k : Int), climb l (m + n) k = climb l n (climb l m k) := by
 intro m
 induction m with
 | zero => intro n k; rw [Nat.zero_add]; rfl
 | succ m ih =>
  intro n k
  rw [show m + 1 + n = (m + n) + 1 from by omega, climb_step, climb_step]
  by_cases h : k < 0
  ·rw [if_pos h, if_pos h, climb_neg l n k h]
  ·rw [if_neg h, if_neg h, ih]
theorem ord_anc {l : List Nd} (h : Rt l) : ∀ k, inR l k → ∀ x ∈ ordP l k, climb l (dep l x - dep l k) x = k := by
 refine by_depth h (fun k => ∀ x ∈ ordP l k, climb l (dep l x - dep l k) x = k) ?_
 intro k hk ih x hx
 rw [ord_eq h k hk] at hx
 rcases List.mem_cons.1 hx with rfl | hx
 ·rw [Nat.sub_self]; rfl
 ·obtain ⟨c, hc, hx⟩ := List.mem_flatMap.1 hx
  obtain ⟨c1, c2⟩ := h.kid k c hk hc
  have hd := dep_kid h c c1
  rw [c2] at hd
  have hx2 := (ord_in h c c1 x hx).2
  have e := ih c hc x hx
  rw [show dep l x - dep l k = (dep l x - dep l c) + 1 from by omega, climb_add, e, climb_step, if_neg (by have := c1.1; omega), c2]; rfl
theorem ord_nodup {l : List Nd} (h : Rt l) : ∀ k, inR l k → (ordP l k).Nodup := by
 refine by_depth h (fun k => (ordP l k).Nodup) ?_
 intro k hk ih
 rw [ord_eq h k hk, List.nodup_cons]
 refine ⟨?_, flat_nodup _ _ (kids_nodup h k hk) ih ?_⟩
 ·intro hx
  obtain ⟨c, hc, hx⟩ := List.mem_flatMap.1 hx
  obtain ⟨c1, c2⟩ := h.kid k c hk hc
  have hd := dep_kid h c c1
  rw [c2] at hd
  have := (ord_in h c c1 k hx).2
  omega
 ·intro x hx y hy hxy z hz hw
  obtain ⟨x1, x2⟩ := h.kid k x hk hx
  obtain ⟨y1, y2⟩ := h.kid k y hk hy
  have dx := dep_kid h x x1
  have dy := dep_kid h y y1
  rw [x2] at dx
  rw [y2] at dy
  have e1 := ord_anc h x x1 z hz
  have e2 := ord_anc h y y1 z hw
  rw [show dep l y = dep l x from by omega] at e2
  exact hxy (e1.symm.trans e2)
theorem ord_le {l : List Nd} (h : Rt l) (k : Int) (hk : inR l k) : (ordP l k).length ≤ l.length :=
 seen_le l _ (ord_nodup h k hk) (fun x hx => (ord_in h k hk x hx).1)
theorem ord_pos {l : List Nd} (h : Rt l) (k : Int) (hk : inR l k) : 1 ≤ (ordP l k).length := by rw [ord_eq h k hk, List.length_cons]; omega
theorem flat_ge {l : List Nd} (h : Rt l) : ∀ (st : List Int), (∀ c ∈ st, inR l c) → st.length ≤ (st.flatMap (ordP l)).length := by
 intro st
 induction st with
 | nil => intro _; exact Nat.zero_le _
 | cons c r ih =>
  intro hc
  have h1 := ih (fun x hx => hc x (List.mem_cons_of_mem _ hx))
  have h2 := ord_pos h c (hc c List.mem_cons_self)
  rw [List.flatMap_cons, List.length_append, List.length_cons]
  omega
structure St (l : List Nd) (id : Int) (out st : List Int) : Prop where
 sum : out ++ st.reverse.flatMap (ordP l) = ordP l id
 inr : ∀ c ∈ st, inR l c
theorem St.start {l : List Nd} (id : Int) (hi : inR l id) : St l id [] [id] := ⟨by simp, fun c hc => by rw [List.mem_singleton] at hc; rw [hc]; exact hi⟩
theorem St.le {l : List Nd} (h : Rt l) {id : Int} (hi : inR l id) {out st : List Int} (hs : St l id out st) : out.length + st.length ≤ l.length := by
 have h1 := ord_le h id hi
 have h2 := flat_ge h st.reverse (fun c hc => hs.inr c (List.mem_reverse.1 hc))
 have h3 := congrArg List.length hs.sum
 rw [List.length_append] at h3
 rw [List.length_reverse] at h2
 omega
theorem St.pop {l : List Nd} (h : Rt l) {id : Int} {out st : List Int} {k : Int} (hs : St l id out (st ++ [k])) : St l id (out ++ [k]) (st ++ (nd l k).kids.reverse) := by
 have hk := hs.inr k (List.mem_append_right _ List.mem_cons_self)
 refine ⟨?_, fun c hc => ?_⟩
 ·rw [← hs.sum]
  simp [ord_eq h k hk]
 ·rcases List.mem_append.1 hc with hc | hc
  ·exact hs.inr c (List.mem_append_left _ hc)
  ·exact (h.kid k c hk (List.mem_reverse.1 hc)).1
theorem St.done {l : List Nd} {id : Int} {out : List Int} (hs : St l id out []) : out = ordP l id := by have := hs.sum; simpa using this
theorem push_at (ks : List Int) (r : Nat) (h : r < ks.length) : (ks.drop r).reverse = (ks.drop (r + 1)).reverse ++ [ks[r]] := by
 rw [List.drop_eq_getElem_cons h, List.reverse_cons]
end Go.Proofs.YtkhlfggnjcbniaaGreatDoor.doc
namespace Go.Proofs.YtkhlfggnjcbniaaGreatDoor.doc
open Go.ChangeShapes Go.WideShapes Go.ChangeAt Go.RowKit Go.Lib atr link
theorem nodes_get {w : World} {b off : Nat} {l : List Nd} {cap n : Nat} (hA : NodesAt w (.slice (some ⟨b, off, none⟩) n cap) l) (k : Nat) (hk : k < l.length) : ∃ va vk, NodeAt w b (off + k * 5) (nd l (k : Int)) va vk := by
 obtain ⟨b', off', cap', e, _, h⟩ := NodesAt.at hA (by omega)
 cases e
 have := h (k : Int) (by omega) (by omega)
 rwa [Int.toNat_natCast] at this
theorem nodes_addr {w : World} {v : Value} {l : List Nd} (hA : NodesAt w v l) (h0 : 0 < l.length) : ∃ b off cap, v = .slice (some ⟨b, off, none⟩) l.length cap ∧ b < w.heap.size := by
 obtain ⟨b', off', cap', e, hb, _⟩ := NodesAt.at hA h0
 exact ⟨_, _, _, e, hb⟩

theorem fint_has (nm : List UInt8) (l : List Attr) : decide (0 ≤ fint nm l) = (fval nm l).isSome := by
 rcases fint_ways nm l with ⟨k, hk, h1, _, _, h4⟩ | ⟨h1, _, h3⟩
 ·rw [h1, h4]; exact decide_eq_true (by omega)
 ·rw [h1, h3]; rfl
theorem rhas15_any (n : Nd) (va vk : Value) (nm : List UInt8) (hn : n.attrs.length ≤ 140737488355328) (w : World) (hA : AttrsAt w va n.attrs) (hK : IntsAt w vk n.kids) :
  Calls Tryz.prog 76 #[nodeV n va vk, .string ⟨nm.toArray⟩] w fun e w' => e = .returned (.bool (hasA nm n.attrs)) ∧ Below w.heap.size w w' := by
 obtain ⟨nme, tx, a, p, ks⟩ := n
 dsimp only at hn hA hK
 obtain ⟨ka, kc, rfl⟩ := RowAt.lenN hK
 obtain ⟨aa, ac, rfl⟩ := AttrsAt.lenN hA
 unfold nodeV
 dsimp only
 have HE : Hid (hasA nm a = decide (0 ≤ fint nm a)) := Lib.hid (fint_has nm a).symm
 have hB1 : Below w.heap.size w (w.alloc (.cells #[.string ⟨nme.toArray⟩, .string ⟨tx.toArray⟩, .slice aa a.length ac, .int .i64 p, .slice ka ks.length kc] 41)) := (Below.refl _ w).alloc (Nat.le_refl _) _
 have hf := rfindN_any _ a nm hn _ (hA.below hB1)
 generalize fint nm a = fi at *
 generalize hasA nm a = r at *
 clear hA
 go_enter Tryz.func76, Tryz.ntmps76
 go_wp2_with fail
 refine hf.mono ?_
 rintro e w' ⟨rfl, rfl⟩
 clear hf
 go_wp2_with fail
 go_ret
 exact ⟨ret_bool HE.out.symm, hB1⟩

theorem ris_any (v : Value) (l : List Nd) (k kind : Int) (hL : LFine l) (w : World) (hA : NodesAt w v l) :
  Calls Tryz.prog 61 #[v, .int .i64 k, .int .i64 kind] w fun e w' => e = .returned (.bool (isP l k kind)) ∧ Below w.heap.size w w' := by
 have hh := rhas_any v l k hL w hA
 have HP : Hid (isP l k kind = (decide (0 ≤ k) && decide (k < (l.length : Int)) && (kN l k == kind) && rightB l)) := Lib.hid rfl
 obtain ⟨q, hq⟩ : ∃ q, q = (decide (0 ≤ k) && decide (k < (l.length : Int)) && rightB l) := ⟨_, rfl⟩
 rw [← hq] at hh
 cases q
 ·have HX : Hid (isP l k kind = false) := Lib.hid (by
   rw [HP.out]
   revert hq
   generalize decide (0 ≤ k) = a
   generalize decide (k < (l.length : Int)) = b
   generalize rightB l = c
   generalize (kN l k == kind) = d
   cases a <;> cases b <;> cases c <;> cases d <;> simp)
  obtain ⟨oa, cap, rfl⟩ := NodesAt.lenN hA
  generalize isP l k kind = r at *
  clear hA HP hL hq
  go_enter Tryz.func61, Tryz.ntmps61
  go_wp2_with fail
  refine hh.mono ?_
  rintro e w1 ⟨rfl, hb1⟩
  go_wp2_with fail
  go_ret
  exact ⟨ret_bool HX.out.symm, hb1⟩
 ·have hq2 : 0 ≤ k ∧ k < (l.length : Int) ∧ rightB l = true := by
   have := hq.symm
   simp only [Bool.and_eq_true, decide_eq_true_eq] at this
   exact ⟨this.1.1, this.1.2, this.2⟩
  obtain ⟨g0, g1, g2⟩ := hq2
  have HP2 : Hid (isP l k kind = (kN l k == kind)) := Lib.hid (by rw [HP.out, decide_eq_true g0, decide_eq_true g1, g2]; simp)
  obtain ⟨kn, rfl⟩ : ∃ kn : Nat, k = (kn : Int) := ⟨k.toNat, by omega⟩
  obtain ⟨b, off, cap, rfl, hb⟩ := nodes_addr hA (by omega)
  have HN := Lib.hid (fun w' (h : Below w.heap.size w w') => nodes_get (hA.below h) kn (by omega))
  have hfn := hL.nd _ g0 g1
  have HOf := Lib.hid (fun w' va vk h1 h2 => rof_any (nd l (kn : Int)) va vk hfn w' h1 h2)
  have HK : Hid (kindP (nd l (kn : Int)).name (nd l (kn : Int)).attrs = kN l (kn : Int)) := Lib.hid rfl
  rw [HK.out] at HOf
  generalize isP l (kn : Int) kind = r at *
  generalize kN l (kn : Int) = kd at *
  have hlen := hL.len
  clear hA hL hfn HP hq g2
  go_enter Tryz.func61, Tryz.ntmps61
  go_wp2_with fail
  refine hh.mono ?_
  rintro e w1 ⟨rfl, hb1⟩
  clear hh
  obtain ⟨va, vk, hn⟩ := HN.out w1 hb1
  have hof := HOf.out w1 va vk hn.attrs hn.kids
  unfold nodeV at hof
  obtain ⟨c0, c1, c2, c3, c4, _, _, _⟩ := hn
  generalize nd l (kn : Int) = n at *
  go_wp2_with fail
  refine hof.mono ?_
  rintro e w2 ⟨rfl, hb2⟩
  go_wp2_with fail
  go_ret
  exact ⟨ret_bool HP2.out.symm, below_trans hb1 hb2⟩
end Go.Proofs.YtkhlfggnjcbniaaGreatDoor.doc
namespace Go.Proofs.YtkhlfggnjcbniaaGreatDoor.doc
open Go.ChangeShapes Go.WideShapes Go.ChangeAt Go.RowKit Go.Lib atr link num str
theorem right_short {l : List Nd} (h : Rt l) (k : Int) (hk : inR l k) : ∀ a ∈ (nd l k).attrs, a.2.length ≤ 4000 := by
 intro a ha
 have := h.alone k hk
 unfold aloneP at this
 split at this
 ·simp only [Bool.and_eq_true, List.isEmpty_iff] at this
  rw [this.1.1] at ha; cases ha
 ·simp only [Bool.and_eq_true] at this
  obtain ⟨i, hi, rfl⟩ := List.getElem_of_mem ha
  have h2 := List.all_eq_true.1 this.2 i (List.mem_range.2 hi)
  unfold attrB1 at h2
  rw [atA_at _ i hi] at h2
  simp only [Bool.and_eq_true, decide_eq_true_eq] at h2
  exact h2.1.2
theorem val_short {l : List Nd} (h : Rt l) (k : Int) (hk : inR l k) (nm s : List UInt8) (he : fval nm (nd l k).attrs = some s) : s.length ≤ 4000 := by
 obtain ⟨a, ha, rfl⟩ := find_mem nm _ s he
 exact right_short h k hk a ha

end Go.Proofs.YtkhlfggnjcbniaaGreatDoor.doc
namespace Go.Proofs.YtkhlfggnjcbniaaGreatDoor.doc
open Go.ChangeShapes Go.WideShapes Go.ChangeAt Go.RowKit Go.Lib atr link num

theorem rattrN_any (v : Value) (l : List Attr) (nm : List UInt8) (hl : l.length ≤ 140737488355328) (w : World) (hA : AttrsAt w v l) :
  Calls Tryz.prog 109 #[v, .string ⟨nm.toArray⟩] w fun e w' => e = .returned (.tuple #[.string ⟨(attrS nm l).toArray⟩, .bool (attrB nm l)]) ∧ w = w' := by
 have hf := rfindN_any v l nm hl w hA
 have hw := fint_ways nm l
 have hS : attrS nm l = (fval nm l).getD [] := rfl
 have hB : attrB nm l = (fval nm l).isSome := rfl
 rcases hw with ⟨k, hk', h1, _, _, h4⟩ | ⟨h1, _, h3⟩
 ·rw [h1] at hf
  rw [hS, hB, h4]
  dsimp only [Option.getD, Option.isSome]
  rcases hA with ⟨rfl, _⟩ | ⟨b, off, cap, rfl, h0, hb, hR⟩
  ·exact absurd hk' (Nat.not_lt_zero _)
  ·obtain ⟨_, c2⟩ := hR k hk'
   generalize l[k].2 = y at *
   clear h1 h4 hB hR hS
   go_enter Tryz.func109, Tryz.ntmps109
   go_wp2_with fail
   refine hf.mono ?_
   rintro e w' ⟨rfl, rfl⟩
   clear hf
   go_wp2_with fail
   go_ret2
   exact ⟨rfl, rfl⟩
 ·rw [h1] at hf
  rw [hS, hB, h3]
  dsimp only [Option.getD, Option.isSome]
  clear h1 h3 hB hA hl hS
  go_enter Tryz.func109, Tryz.ntmps109
  go_wp2_with fail
  refine hf.mono ?_
  rintro e w' ⟨rfl, rfl⟩
  clear hf
  go_wp2_with fail
  go_ret2
  exact ⟨rfl, rfl⟩


end Go.Proofs.YtkhlfggnjcbniaaGreatDoor.doc
namespace Go.Proofs.YtkhlfggnjcbniaaGreatDoor.doc
open Go.ChangeShapes Go.WideShapes Go.ChangeAt Go.RowKit Go.Lib atr link

theorem pred_ownhas (nm : List UInt8) (B : Nat) (w : World) (hB : B < w.heap.size) (hcell : w.cell? ⟨B, 0, none⟩ = some (.string ⟨nm.toArray⟩)) :
  PredBelow Tryz.prog 219 #[.pointer (some ⟨B, 0, none⟩)] (fun x => .agg (encA x).toArray) (fun x => decide (x.1 = nm)) w := fun W x hb => by
 have hc : W.cell? ⟨B, 0, none⟩ = some (.string ⟨nm.toArray⟩) := (hb.cell (p := ⟨B, 0, none⟩) hB).trans hcell
 have hBW : B < W.heap.size := Nat.lt_of_lt_of_le hB hb.size
 have hne : B ≠ W.heap.size := by omega
 obtain ⟨a, b⟩ := x
 show Calls Tryz.prog 219 #[.agg #[.string ⟨a.toArray⟩, .string ⟨b.toArray⟩], .pointer (some ⟨B, 0, none⟩)] W _
 have he := lst_eq a nm
 have HE := Lib.hid he
 clear he
 go_enter Tryz.func219, Tryz.ntmps219
 go_wp2_with fail
 go_ret
 exact ⟨by first | rfl | (rw [← HE.out]; rfl), hb.alloc hb.size _⟩

theorem ownhas_any (n : Nd) (va vk : Value) (nm : List UInt8) (hn : n.attrs.length ≤ 140737488355328) (w : World) (hA : AttrsAt w va n.attrs) (hK : IntsAt w vk n.kids) :
  Calls Tryz.prog 136 #[nodeV n va vk, .string ⟨nm.toArray⟩] w fun e w' => e = .returned (.bool (hasA nm n.attrs)) ∧ Below w.heap.size w w' := by
 obtain ⟨nme, tx, a, p, ks⟩ := n
 dsimp only at hn hA hK
 obtain ⟨ka, kc, rfl⟩ := RowAt.lenN hK
 obtain ⟨aa, ac, rfl⟩ := AttrsAt.lenN hA
 unfold nodeV hasA
 dsimp only
 obtain ⟨w1, hw1⟩ : ∃ w1, w1 = (w.alloc (.cells #[.string ⟨nme.toArray⟩, .string ⟨tx.toArray⟩, .slice aa a.length ac, .int .i64 p, .slice ka ks.length kc] 41)).alloc (.cells #[.string ⟨nm.toArray⟩] 9) := ⟨_, rfl⟩
 have hB1 : Below w.heap.size w w1 := by rw [hw1]; exact ((Below.refl _ w).alloc (Nat.le_refl _) _).alloc (by simp) _
 have eg : ∀ args w, (callFunc 219 args).run Tryz.prog w = .ok (.enter 219 args) w := enters_of Tryz.func219 (by kernel_rfl) rfl
 have f0 : w1.cell? ⟨w.heap.size + 1, 0, none⟩ = some (.string ⟨nm.toArray⟩) := by
  have := World.cell?_alloc_new (w.alloc (.cells #[.string ⟨nme.toArray⟩, .string ⟨tx.toArray⟩, .slice aa a.length ac, .int .i64 p, .slice ka ks.length kc] 41)) #[.string ⟨nm.toArray⟩] 9 0
  rw [World.size_alloc] at this
  rw [hw1, this]; rfl
 have hI := contf_any 219 #[.pointer (some ⟨w.heap.size + 1, 0, none⟩)] eg nm _ a hn w1 (hA.below hB1)
  (pred_ownhas nm (w.heap.size + 1) _ (lt_of_cell f0) f0)
 clear hA eg f0
 generalize (fval nm a).isSome = r at *
 go_enter Tryz.func136, Tryz.ntmps136
 go_wp2_with fail
 rw [← hw1]
 refine hI.mono ?_
 rintro e w' ⟨rfl, hb'⟩
 clear hI
 go_wp2_with fail
 go_ret
 exact ⟨rfl, below_trans hB1 hb'⟩

theorem pred_vhas (nm : List UInt8) (B : Nat) (w : World) (hB : B < w.heap.size) (hcell : w.cell? ⟨B, 0, none⟩ = some (.string ⟨nm.toArray⟩)) :
  PredBelow Tryz.prog 140 #[.pointer (some ⟨B, 0, none⟩)] (fun x => .agg (encA x).toArray) (fun x => decide (x.1 = nm)) w := fun W x hb => by
 have hc : W.cell? ⟨B, 0, none⟩ = some (.string ⟨nm.toArray⟩) := (hb.cell (p := ⟨B, 0, none⟩) hB).trans hcell
 have hBW : B < W.heap.size := Nat.lt_of_lt_of_le hB hb.size
 have hne : B ≠ W.heap.size := by omega
 obtain ⟨a, b⟩ := x
 show Calls Tryz.prog 140 #[.agg #[.string ⟨a.toArray⟩, .string ⟨b.toArray⟩], .pointer (some ⟨B, 0, none⟩)] W _
 have he := lst_eq a nm
 have HE := Lib.hid he
 clear he
 go_enter Tryz.func140, Tryz.ntmps140
 go_wp2_with fail
 go_ret
 exact ⟨by first | rfl | (rw [← HE.out]; rfl), hb.alloc hb.size _⟩

theorem vhas_any (n : Nd) (va vk : Value) (nm : List UInt8) (hn : n.attrs.length ≤ 140737488355328) (w : World) (hA : AttrsAt w va n.attrs) (hK : IntsAt w vk n.kids) :
  Calls Tryz.prog 73 #[nodeV n va vk, .string ⟨nm.toArray⟩] w fun e w' => e = .returned (.bool (hasA nm n.attrs)) ∧ Below w.heap.size w w' := by
 obtain ⟨nme, tx, a, p, ks⟩ := n
 dsimp only at hn hA hK
 obtain ⟨ka, kc, rfl⟩ := RowAt.lenN hK
 obtain ⟨aa, ac, rfl⟩ := AttrsAt.lenN hA
 unfold nodeV hasA
 dsimp only
 obtain ⟨w1, hw1⟩ : ∃ w1, w1 = (w.alloc (.cells #[.string ⟨nme.toArray⟩, .string ⟨tx.toArray⟩, .slice aa a.length ac, .int .i64 p, .slice ka ks.length kc] 41)).alloc (.cells #[.string ⟨nm.toArray⟩] 9) := ⟨_, rfl⟩
 have hB1 : Below w.heap.size w w1 := by rw [hw1]; exact ((Below.refl _ w).alloc (Nat.le_refl _) _).alloc (by simp) _
 have eg : ∀ args w, (callFunc 140 args).run Tryz.prog w = .ok (.enter 140 args) w := enters_of Tryz.func140 (by kernel_rfl) rfl
 have f0 : w1.cell? ⟨w.heap.size + 1, 0, none⟩ = some (.string ⟨nm.toArray⟩) := by
  have := World.cell?_alloc_new (w.alloc (.cells #[.string ⟨nme.toArray⟩, .string ⟨tx.toArray⟩, .slice aa a.length ac, .int .i64 p, .slice ka ks.length kc] 41)) #[.string ⟨nm.toArray⟩] 9 0
  rw [World.size_alloc] at this
  rw [hw1, this]; rfl
 have hI := contf_any 140 #[.pointer (some ⟨w.heap.size + 1, 0, none⟩)] eg nm _ a hn w1 (hA.below hB1)
  (pred_vhas nm (w.heap.size + 1) _ (lt_of_cell f0) f0)
 clear hA eg f0
 generalize (fval nm a).isSome = r at *
 go_enter Tryz.func73, Tryz.ntmps73
 go_wp2_with fail
 rw [← hw1]
 refine hI.mono ?_
 rintro e w' ⟨rfl, hb'⟩
 clear hI
 go_wp2_with fail
 go_ret
 exact ⟨rfl, below_trans hB1 hb'⟩

theorem pred_vattr (nm : List UInt8) (B : Nat) (w : World) (hB : B < w.heap.size) (hcell : w.cell? ⟨B, 0, none⟩ = some (.string ⟨nm.toArray⟩)) :
  PredBelow Tryz.prog 167 #[.pointer (some ⟨B, 0, none⟩)] (fun x => .agg (encA x).toArray) (fun x => decide (x.1 = nm)) w := fun W x hb => by
 have hc : W.cell? ⟨B, 0, none⟩ = some (.string ⟨nm.toArray⟩) := (hb.cell (p := ⟨B, 0, none⟩) hB).trans hcell
 have hBW : B < W.heap.size := Nat.lt_of_lt_of_le hB hb.size
 have hne : B ≠ W.heap.size := by omega
 obtain ⟨a, b⟩ := x
 show Calls Tryz.prog 167 #[.agg #[.string ⟨a.toArray⟩, .string ⟨b.toArray⟩], .pointer (some ⟨B, 0, none⟩)] W _
 have he := lst_eq a nm
 have HE := Lib.hid he
 clear he
 go_enter Tryz.func167, Tryz.ntmps167
 go_wp2_with fail
 go_ret
 exact ⟨by first | rfl | (rw [← HE.out]; rfl), hb.alloc hb.size _⟩

theorem vattr_any (n : Nd) (va vk : Value) (nm : List UInt8) (hn : n.attrs.length ≤ 140737488355328) (w : World) (hA : AttrsAt w va n.attrs) (hK : IntsAt w vk n.kids) :
  Calls Tryz.prog 89 #[nodeV n va vk, .string ⟨nm.toArray⟩] w fun e w' => e = .returned (.string ⟨((fval nm n.attrs).getD []).toArray⟩) ∧ Below w.heap.size w w' := by
 obtain ⟨nme, tx, a, p, ks⟩ := n
 dsimp only at hn hA hK
 obtain ⟨ka, kc, rfl⟩ := RowAt.lenN hK
 obtain ⟨aa, ac, rfl⟩ := AttrsAt.lenN hA
 unfold nodeV
 dsimp only
 obtain ⟨w1, hw1⟩ : ∃ w1, w1 = (w.alloc (.cells #[.string ⟨nme.toArray⟩, .string ⟨tx.toArray⟩, .slice aa a.length ac, .int .i64 p, .slice ka ks.length kc] 41)).alloc (.cells #[.string ⟨nm.toArray⟩] 9) := ⟨_, rfl⟩
 have hB1 : Below w.heap.size w w1 := by rw [hw1]; exact ((Below.refl _ w).alloc (Nat.le_refl _) _).alloc (by simp) _
 have eg : ∀ args w, (callFunc 167 args).run Tryz.prog w = .ok (.enter 167 args) w := enters_of Tryz.func167 (by kernel_rfl) rfl
 have f2 : w1.cell? ⟨w.heap.size, 2, none⟩ = some (.slice aa a.length ac) := by
  rw [hw1, World.cell?_alloc_lt _ _ _ (by simp), World.cell?_alloc_new]; rfl
 have f0 : w1.cell? ⟨w.heap.size + 1, 0, none⟩ = some (.string ⟨nm.toArray⟩) := by
  have := World.cell?_alloc_new (w.alloc (.cells #[.string ⟨nme.toArray⟩, .string ⟨tx.toArray⟩, .slice aa a.length ac, .int .i64 p, .slice ka ks.length kc] 41)) #[.string ⟨nm.toArray⟩] 9 0
  rw [World.size_alloc] at this
  rw [hw1, this]; rfl
 have hI := idxfN_any 167 #[.pointer (some ⟨w.heap.size + 1, 0, none⟩)] eg nm _ a hn w1 (hA.below hB1)
  (pred_vattr nm (w.heap.size + 1) _ (lt_of_cell f0) f0)
 have hw := fint_ways nm a
 have HA := Lib.hid hA
 have HI := Lib.hid hI
 clear hA hI eg f0
 obtain ⟨s, hs⟩ : ∃ s, s = (fval nm a).getD [] := ⟨_, rfl⟩
 rw [← hs]
 have HS := Lib.hid hs
 clear hs
 rcases hw with ⟨k, hk, h1, h2, h3, h4⟩ | ⟨h1, h2, h3⟩
 ·have hI := HI.out
  rw [h1] at hI
  have HX : Hid (s = a[k].2) := Lib.hid (by rw [HS.out, h4]; rfl)
  clear h1 h2 h3 h4 HI
  rcases HA.out with ⟨rfl, _⟩ | ⟨b, off, cap, e, h0, hb, hR⟩
  ·exact absurd hk (Nat.not_lt_zero _)
  cases e
  have HC : Hid (∀ w', Below w.heap.size w w' → w'.cell? ⟨b, off + k * 2 + 1, none⟩ = some (.string ⟨(a[k].2).toArray⟩)) := Lib.hid (fun w' h => (h.cell (p := ⟨b, off + k * 2 + 1, none⟩) hb).trans (hR k hk).2)
  generalize a[k].2 = y at *
  obtain rfl := HX.out
  clear hR HS HX
  go_enter Tryz.func89, Tryz.ntmps89
  go_wp2_with fail
  rw [← hw1]
  refine hI.mono ?_
  rintro e w' ⟨rfl, hb'⟩
  clear hI
  have hBB := below_trans hB1 hb'
  have hc := HC.out w' hBB
  have hf2 := cell_below hb' f2
  clear HC
  go_wp2_with fail
  go_ret
  exact ⟨rfl, hBB⟩
 ·have hI := HI.out
  rw [h1] at hI
  have HX : Hid (s = []) := Lib.hid (by rw [HS.out, h3]; rfl)
  obtain rfl := HX.out
  clear h1 h2 h3 HI HA HS HX
  go_enter Tryz.func89, Tryz.ntmps89
  go_wp2_with fail
  rw [← hw1]
  refine hI.mono ?_
  rintro e w' ⟨rfl, hb'⟩
  clear hI
  go_wp2_with fail
  go_ret
  exact ⟨rfl, below_trans hB1 hb'⟩


def nearR (l : List Nd) (m : Int) (nm : List UInt8) : Int := if m < 0 then -1 else if (nd l m).name = nm then m else nearP l m nm
theorem near_R {l : List Nd} (h : Rt l) (k : Int) (hk : inR l k) (nm : List UInt8) : nearP l k nm = nearR l (nd l k).parent nm := near_eq h k hk nm
theorem nearR_neg (l : List Nd) (m : Int) (nm : List UInt8) (h : m < 0) : nearR l m nm = -1 := if_pos h
theorem nearR_yes (l : List Nd) (m : Int) (nm : List UInt8) (h : ¬ m < 0) (g : (nd l m).name = nm) : nearR l m nm = m := by unfold nearR; rw [if_neg h, if_pos g]
theorem nearR_no {l : List Nd} (h : Rt l) (m : Int) (hm : inR l m) (nm : List UInt8) (g : (nd l m).name ≠ nm) : nearR l m nm = nearR l (nd l m).parent nm := by
 have := near_R h m hm nm
 unfold nearR at this ⊢
 rw [if_neg (by have := hm.1; omega), if_neg g]; exact this
theorem dep_up {l : List Nd} (h : Rt l) (k : Nat) (hk : k < l.length) : dep l (nd l (k : Int)).parent < dep l (k : Int) := by
 have := dep_kid h (k : Int) ⟨by omega, by omega⟩
 omega

theorem up_any (v : Value) (l : List Nd) (hL : LFine l) (hR : rightB l = true) (k : Nat) (hk : k < l.length) (nm : List UInt8) (w : World) (hA : NodesAt w v l) :
  Calls Tryz.prog 33 #[v, .int .i64 k, .string ⟨nm.toArray⟩] w fun e w' => e = .returned (.int .i64 (nearP l (k : Int) nm)) ∧ Below w.heap.size w w' := by
 have hh := thas_any v l k hL w hA
 rw [hR, decide_eq_true (by omega : (0 : Int) ≤ (k : Int)), decide_eq_true (by omega : (k : Int) < (l.length : Int))] at hh
 have hRt := right_rt l hR
 have hf := hRt.few
 obtain ⟨b, off, cap, rfl, hb⟩ := nodes_addr hA (by omega)
 have HN := Lib.hid (fun w' (h : Below w.heap.size w w') j hj => nodes_get (hA.below h) j hj)
 have HP := Lib.hid (fun (j : Nat) (hj : j < l.length) => hRt.par (j : Int) ⟨by omega, by omega⟩)
 have HNo := Lib.hid (fun (j : Nat) (hj : j < l.length) => nearR_no hRt (j : Int) ⟨by omega, by omega⟩ nm)
 have HDe := Lib.hid (fun (j : Nat) (hj : j < l.length) => dep_up hRt j hj)
 have HX0 : Hid (nearP l (k : Int) nm = nearR l (nd l (k : Int)).parent nm) := Lib.hid (near_R hRt _ ⟨by omega, by omega⟩ nm)
 obtain ⟨res, hres⟩ : ∃ r, r = nearP l (k : Int) nm := ⟨_, rfl⟩
 rw [← hres] at HX0 ⊢
 have hpk := HP.out k hk
 clear hres hRt hR hL hA
 go_enter Tryz.func33, Tryz.ntmps33
 go_wp2_with fail
 refine hh.mono ?_
 rintro e w1 ⟨rfl, hb1⟩
 obtain ⟨vak, vkk, hnk⟩ := HN.out w1 hb1 k hk
 have d3 := hnk.c3
 clear hh hnk
 generalize (nd l (k : Int)).parent = p at *
 go_wp2_with fail
 go_loopw [7] (fun s7 wr => ∃ m : Int, s7 = .int .i64 m ∧ -1 ≤ m ∧ m < (l.length : Int) ∧ Hid (res = nearR l m nm) ∧ wr = w1) (fun s7 _ => dep l (RowKit.intOf s7))
 case atStart => exact ⟨p, rfl, hpk.1, hpk.2, HX0, rfl⟩
 case round =>
  obtain ⟨m, rfl, hm1, hm2, hx, rfl⟩ := hrel
  clear d3
  by_cases g : m < 0
  ·have HX : Hid (res = -1) := Lib.hid (by rw [hx.out, nearR_neg _ _ _ g])
   go_wp2_with fail
   go_ret
   exact ⟨ret_int HX.out.symm, hb1⟩
  ·obtain ⟨mn, rfl⟩ : ∃ mn : Nat, m = (mn : Int) := ⟨m.toNat, by omega⟩
   have hml : mn < l.length := by omega
   obtain ⟨va, vk, hn⟩ := HN.out wr hb1 mn hml
   have c0 := hn.c0
   have c3 := hn.c3
   have hq0 := lst_eq (nd l (mn : Int)).name nm
   clear hn
   have hpm := HP.out mn hml
   have hd := HDe.out mn hml
   by_cases g3 : (nd l (mn : Int)).name = nm
   ·have HX : Hid (res = (mn : Int)) := Lib.hid (by rw [hx.out, nearR_yes _ _ _ g g3])
    rw [decide_eq_true g3] at hq0
    generalize (nd l (mn : Int)).name = x at *
    clear g3 hd
    go_wp2_with fail
    go_ret
    exact ⟨ret_int HX.out.symm, hb1⟩
   ·have HX : Hid (res = nearR l (nd l (mn : Int)).parent nm) := Lib.hid (by rw [hx.out, HNo.out mn hml g3])
    rw [decide_eq_false g3] at hq0
    have HD := Lib.hid hd
    clear hd
    generalize (nd l (mn : Int)).name = x at *
    generalize (nd l (mn : Int)).parent = pp at *
    clear g3
    go_wp2_with fail
    go_roundw
    case rel => exact ⟨pp, rfl, hpm.1, hpm.2, HX, by first | rfl | trivial⟩
    case measure => exact HD.out
theorem rup_any (v : Value) (l : List Nd) (hR : rightB l = true) (k : Nat) (hk : k < l.length) (nm : List UInt8) (w : World) (hA : NodesAt w v l) :
  Calls Tryz.prog 35 #[v, .int .i64 k, .string ⟨nm.toArray⟩] w fun e w' => e = .returned (.int .i64 (nearP l (k : Int) nm)) ∧ Below w.heap.size w w' := by
 have hRt := right_rt l hR
 have hf := hRt.few
 obtain ⟨b, off, cap, rfl, hb⟩ := nodes_addr hA (by omega)
 have HN := Lib.hid (fun w' (h : Below w.heap.size w w') j hj => nodes_get (hA.below h) j hj)
 have HP := Lib.hid (fun (j : Nat) (hj : j < l.length) => hRt.par (j : Int) ⟨by omega, by omega⟩)
 have HNo := Lib.hid (fun (j : Nat) (hj : j < l.length) => nearR_no hRt (j : Int) ⟨by omega, by omega⟩ nm)
 have HDe := Lib.hid (fun (j : Nat) (hj : j < l.length) => dep_up hRt j hj)
 have HX0 : Hid (nearP l (k : Int) nm = nearR l (nd l (k : Int)).parent nm) := Lib.hid (near_R hRt _ ⟨by omega, by omega⟩ nm)
 obtain ⟨res, hres⟩ : ∃ r, r = nearP l (k : Int) nm := ⟨_, rfl⟩
 rw [← hres] at HX0 ⊢
 have hpk := HP.out k hk
 obtain ⟨vak, vkk, hnk⟩ := HN.out w (Below.refl _ _) k hk
 have d3 := hnk.c3
 clear hres hRt hR hA hnk
 generalize (nd l (k : Int)).parent = p at *
 go_enter Tryz.func35, Tryz.ntmps35
 go_wp2_with fail
 go_loopw [7] (fun s7 wr => ∃ m : Int, s7 = .int .i64 m ∧ -1 ≤ m ∧ m < (l.length : Int) ∧ Hid (res = nearR l m nm) ∧ wr = w) (fun s7 _ => dep l (RowKit.intOf s7))
 case atStart => exact ⟨p, rfl, hpk.1, hpk.2, HX0, rfl⟩
 case round =>
  obtain ⟨m, rfl, hm1, hm2, hx, rfl⟩ := hrel
  clear d3
  by_cases g : m < 0
  ·have HX : Hid (res = m) := Lib.hid (by rw [hx.out, nearR_neg _ _ _ g]; omega)
   go_wp2_with fail
   go_ret
   exact ⟨ret_int HX.out.symm, Below.refl _ _⟩
  ·obtain ⟨mn, rfl⟩ : ∃ mn : Nat, m = (mn : Int) := ⟨m.toNat, by omega⟩
   have hml : mn < l.length := by omega
   obtain ⟨va, vk, hn⟩ := HN.out wr (Below.refl _ _) mn hml
   have c0 := hn.c0
   have c3 := hn.c3
   have hq0 := lst_eq (nd l (mn : Int)).name nm
   clear hn
   have hpm := HP.out mn hml
   have hd := HDe.out mn hml
   by_cases g3 : (nd l (mn : Int)).name = nm
   ·have HX : Hid (res = (mn : Int)) := Lib.hid (by rw [hx.out, nearR_yes _ _ _ g g3])
    rw [decide_eq_true g3] at hq0
    generalize (nd l (mn : Int)).name = x at *
    clear g3 hd
    go_wp2_with fail
    go_ret
    exact ⟨ret_int HX.out.symm, Below.refl _ _⟩
   ·have HX : Hid (res = nearR l (nd l (mn : Int)).parent nm) := Lib.hid (by rw [hx.out, HNo.out mn hml g3])
    rw [decide_eq_false g3] at hq0
    have HD := Lib.hid hd
    clear hd
    generalize (nd l (mn : Int)).name = x at *
    generalize (nd l (mn : Int)).parent = pp at *
    clear g3
    go_wp2_with fail
    go_roundw
    case rel => exact ⟨pp, rfl, hpm.1, hpm.2, HX, by first | rfl | trivial⟩
    case measure => exact HD.out
def withR (l : List Nd) (m o : Int) : Bool := decide (0 ≤ m) && (decide (m = o) || withinP l m o)
theorem with_R {l : List Nd} (h : Rt l) (k : Int) (hk : inR l k) (o : Int) : withinP l k o = withR l (nd l k).parent o := by
 unfold withR withinP
 rw [anc_eq h k hk]
 by_cases g : (nd l k).parent < 0
 ·rw [if_pos g, decide_eq_false (by omega : ¬ 0 ≤ (nd l k).parent)]
  exact decide_eq_false List.not_mem_nil
 ·rw [if_neg g, decide_eq_true (by omega : 0 ≤ (nd l k).parent), Bool.true_and, Bool.eq_iff_iff, decide_eq_true_eq, Bool.or_eq_true, decide_eq_true_eq, decide_eq_true_eq, List.mem_cons]
  exact ⟨fun h => h.imp (fun e => e.symm) id, fun h => h.imp (fun e => e.symm) id⟩
theorem withR_neg (l : List Nd) (m o : Int) (h : m < 0) : withR l m o = false := by unfold withR; rw [decide_eq_false (by omega : ¬ 0 ≤ m)]; rfl
theorem withR_yes (l : List Nd) (m o : Int) (h : ¬ m < 0) (g : m = o) : withR l m o = true := by unfold withR; rw [decide_eq_true (by omega : 0 ≤ m), decide_eq_true g]; rfl
theorem withR_no {l : List Nd} (h : Rt l) (m : Int) (hm : inR l m) (o : Int) (g : m ≠ o) : withR l m o = withR l (nd l m).parent o := by
 rw [← with_R h m hm o]
 unfold withR
 rw [decide_eq_true hm.1, decide_eq_false g]; rfl
theorem rwithin_any (v : Value) (l : List Nd) (hR : rightB l = true) (k : Nat) (hk : k < l.length) (o : Int) (w : World) (hA : NodesAt w v l) :
  Calls Tryz.prog 141 #[v, .int .i64 k, .int .i64 o] w fun e w' => e = .returned (.bool (withinP l (k : Int) o)) ∧ Below w.heap.size w w' := by
 have hRt := right_rt l hR
 have hf := hRt.few
 obtain ⟨b, off, cap, rfl, hb⟩ := nodes_addr hA (by omega)
 have HN := Lib.hid (fun w' (h : Below w.heap.size w w') j hj => nodes_get (hA.below h) j hj)
 have HP := Lib.hid (fun (j : Nat) (hj : j < l.length) => hRt.par (j : Int) ⟨by omega, by omega⟩)
 have HNo := Lib.hid (fun (j : Nat) (hj : j < l.length) => withR_no hRt (j : Int) ⟨by omega, by omega⟩ o)
 have HDe := Lib.hid (fun (j : Nat) (hj : j < l.length) => dep_up hRt j hj)
 have HX0 : Hid (withinP l (k : Int) o = withR l (nd l (k : Int)).parent o) := Lib.hid (with_R hRt _ ⟨by omega, by omega⟩ o)
 obtain ⟨res, hres⟩ : ∃ r, r = withinP l (k : Int) o := ⟨_, rfl⟩
 rw [← hres] at HX0 ⊢
 have hpk := HP.out k hk
 obtain ⟨vak, vkk, hnk⟩ := HN.out w (Below.refl _ _) k hk
 have d3 := hnk.c3
 clear hres hRt hR hA hnk
 generalize (nd l (k : Int)).parent = p at *
 go_enter Tryz.func141, Tryz.ntmps141
 go_wp2_with fail
 go_loopw [7] (fun s7 wr => ∃ m : Int, s7 = .int .i64 m ∧ -1 ≤ m ∧ m < (l.length : Int) ∧ Hid (res = withR l m o) ∧ wr = w) (fun s7 _ => dep l (RowKit.intOf s7))
 case atStart => exact ⟨p, rfl, hpk.1, hpk.2, HX0, rfl⟩
 case round =>
  obtain ⟨m, rfl, hm1, hm2, hx, rfl⟩ := hrel
  clear d3
  by_cases g : m < 0
  ·have HX : Hid (res = false) := Lib.hid (by rw [hx.out, withR_neg _ _ _ g])
   go_wp2_with fail
   go_ret
   exact ⟨ret_bool HX.out.symm, Below.refl _ _⟩
  ·obtain ⟨mn, rfl⟩ : ∃ mn : Nat, m = (mn : Int) := ⟨m.toNat, by omega⟩
   have hml : mn < l.length := by omega
   obtain ⟨va, vk, hn⟩ := HN.out wr (Below.refl _ _) mn hml
   have c3 := hn.c3
   clear hn
   have hpm := HP.out mn hml
   have hd := HDe.out mn hml
   by_cases g3 : (mn : Int) = o
   ·have HX : Hid (res = true) := Lib.hid (by rw [hx.out, withR_yes _ _ _ g g3])
    have gb : ((mn : Int) == o) = true := by simpa using g3
    clear g3 hd
    go_wp2_with fail
    go_ret
    exact ⟨ret_bool HX.out.symm, Below.refl _ _⟩
   ·have HX : Hid (res = withR l (nd l (mn : Int)).parent o) := Lib.hid (by rw [hx.out, HNo.out mn hml g3])
    have gb : ((mn : Int) == o) = false := by simpa using g3
    have HD := Lib.hid hd
    clear hd
    generalize (nd l (mn : Int)).parent = pp at *
    clear g3
    go_wp2_with fail
    go_roundw
    case rel => exact ⟨pp, rfl, hpm.1, hpm.2, HX, by first | rfl | trivial⟩
    case measure => exact HD.out

def kO (l : List Nd) (k : Int) : Int := if 0 ≤ k ∧ k < (l.length : Int) then kN l k else 0
theorem kO_in (l : List Nd) (k : Int) (h0 : 0 ≤ k) (h1 : k < (l.length : Int)) : kO l k = kN l k := if_pos ⟨h0, h1⟩
theorem kO_out (l : List Nd) (k : Int) (h : ¬ (0 ≤ k ∧ k < (l.length : Int))) : kO l k = 0 := if_neg h
theorem okind_any (v : Value) (l : List Nd) (hL : LFine l) (k : Int) (w : World) (hA : NodesAt w v l) :
  Calls Tryz.prog 135 #[v, .int .i64 k] w fun e w' => e = .returned (.int .i64 (kO l k)) ∧ Below w.heap.size w w' := by
 have hlen := hL.len
 by_cases g0 : 0 ≤ k
 case neg =>
  rw [kO_out l k (by omega)]
  obtain ⟨oa, cap, rfl⟩ := NodesAt.lenN hA
  clear hA hL
  go_enter Tryz.func135, Tryz.ntmps135
  go_wp2_with fail
  go_ret
  exact ⟨rfl, Below.refl _ _⟩
 by_cases g1 : k < (l.length : Int)
 case neg =>
  rw [kO_out l k (by omega)]
  obtain ⟨oa, cap, rfl⟩ := NodesAt.lenN hA
  clear hA hL
  go_enter Tryz.func135, Tryz.ntmps135
  go_wp2_with fail
  go_ret
  exact ⟨rfl, Below.refl _ _⟩
 rw [kO_in l k g0 g1]
 obtain ⟨kn, rfl⟩ : ∃ kn : Nat, k = (kn : Int) := ⟨k.toNat, by omega⟩
 obtain ⟨b, off, cap, rfl, hb⟩ := nodes_addr hA (by omega)
 obtain ⟨va, vk, hn⟩ := nodes_get hA kn (by omega)
 have hof := of_any (nd l (kn : Int)) va vk (hL.nd _ g0 g1) w hn.attrs hn.kids
 have HK : Hid (kindP (nd l (kn : Int)).name (nd l (kn : Int)).attrs = kN l (kn : Int)) := Lib.hid rfl
 rw [HK.out] at hof
 unfold nodeV at hof
 obtain ⟨c0, c1, c2, c3, c4, _, _, _⟩ := hn
 generalize kN l (kn : Int) = r at *
 generalize nd l (kn : Int) = n at *
 clear hA hL
 go_enter Tryz.func135, Tryz.ntmps135
 go_wp2_with fail
 refine hof.mono ?_
 rintro e w1 ⟨rfl, hb1⟩
 go_wp2_with fail
 go_ret
 exact ⟨rfl, hb1⟩

theorem pred_legend (v : Value) (l : List Nd) (hL : LFine l) (ks : List Int) (hks : ∀ x ∈ ks, inR l x) (B : Nat) (w : World) (hB : B < w.heap.size) (hcell : w.cell? ⟨B, 0, none⟩ = some v) (hA : NodesAt w v l) :
  PredI 220 #[.pointer (some ⟨B, 0, none⟩)] (lgB l) ks w := fun W x hx hb => by
 have hc : W.cell? ⟨B, 0, none⟩ = some v := (hb.cell (p := ⟨B, 0, none⟩) hB).trans hcell
 have hk := okind_any v l hL x W (hA.below hb)
 have hin := hks x hx
 rw [kO_in l x hin.1 hin.2] at hk
 obtain ⟨oa, cap, rfl⟩ := NodesAt.lenN hA
 show Calls Tryz.prog 220 #[.int .i64 x, .pointer (some ⟨B, 0, none⟩)] W _
 have HX : Hid (lgB l x = (kN l x == 34)) := Lib.hid rfl
 generalize lgB l x = q at *
 generalize kN l x = kd at *
 clear hA hL hcell hin hx hks
 go_enter Tryz.func220, Tryz.ntmps220
 go_wp2_with fail
 refine hk.mono ?_
 rintro e w1 ⟨rfl, hb1⟩
 clear hk
 go_wp2_with fail
 go_ret
 exact ⟨ret_bool HX.out.symm, hb.trans (hb1.mono hb.size)⟩

theorem legend_any (v : Value) (l : List Nd) (hL : LFine l) (hR : rightB l = true) (k : Nat) (hk : k < l.length) (w : World) (hA : NodesAt w v l) :
  Calls Tryz.prog 137 #[v, .int .i64 k] w fun e w' => e = .returned (.int .i64 (legP l (lgB l) (k : Int))) ∧ Below w.heap.size w w' := by
 have hRt := right_rt l hR
 have hkin : inR l (k : Int) := ⟨by omega, by omega⟩
 have hkk : ∀ x ∈ (nd l (k : Int)).kids, inR l x := fun x hx => (hRt.kid _ x hkin hx).1
 have hkl := (hL.nd (k : Int) (by omega) (by omega)).kids
 obtain ⟨b, off, cap, rfl, hb⟩ := nodes_addr hA (by omega)
 obtain ⟨w1, hw1⟩ : ∃ w1, w1 = w.alloc (.cells #[.slice (some ⟨b, off, none⟩) l.length cap] 22) := ⟨_, rfl⟩
 have hB1 : Below w.heap.size w w1 := by rw [hw1]; exact (Below.refl _ w).alloc (Nat.le_refl _) _
 have f0 : w1.cell? ⟨w.heap.size, 0, none⟩ = some (.slice (some ⟨b, off, none⟩) l.length cap) := by rw [hw1, World.cell?_alloc_new]; rfl
 have hA1 := hA.below hB1
 have HA1 := Lib.hid hA1
 have HN := Lib.hid (fun w' (h : Below w1.heap.size w1 w') => nodes_get (HA1.out.below h) k hk)
 obtain ⟨va, vk, hn0⟩ := nodes_get hA k hk
 have hn := hn0.below hB1
 have c4w := hn0.c4
 have eg : ∀ args w, (callFunc 220 args).run Tryz.prog w = .ok (.enter 220 args) w := enters_of Tryz.func220 (by kernel_rfl) rfl
 have hI := idxi_any 220 #[.pointer (some ⟨w.heap.size, 0, none⟩)] eg (lgB l) vk _ hkl w1 hn.kids (pred_legend _ l hL _ hkk w.heap.size w1 (lt_of_cell f0) f0 hA1)
 have hw := pidx_ways (lgB l) (nd l (k : Int)).kids
 have HL : Hid (legP l (lgB l) (k : Int) = ((nd l (k : Int)).kids.find? (lgB l)).getD (-1)) := Lib.hid rfl
 obtain ⟨res, hres⟩ : ∃ r, r = legP l (lgB l) (k : Int) := ⟨_, rfl⟩
 rw [← hres] at HL ⊢
 have c4 := hn.c4
 have HKs := Lib.hid hn.kids
 obtain ⟨ko, kc, rfl⟩ := RowAt.lenN hn.kids
 clear hres hn hn0 HN hRt hR hL hA hA1 hkin hkk eg
 rcases hw with ⟨j, hj, h1, h2, h3, h4, _⟩ | ⟨h1, h2, h3, _⟩
 ·have HX : Hid (res = (nd l (k : Int)).kids[j]) := Lib.hid (by rw [HL.out, h4]; rfl)
  obtain ⟨kb, ko2, kcap, e, hkb⟩ := IntsAt.addr HKs.out (by omega)
  cases e
  have e0 := IntsAt.cellAt HKs.out j hj
  rw [h1] at hI
  clear h1 h2 h3 h4 HL
  generalize (nd l (k : Int)).kids[j] = y at *
  obtain rfl := HX.out
  clear HX
  generalize (nd l (k : Int)).kids.length = kl at *
  go_enter Tryz.func137, Tryz.ntmps137
  go_wp2_with fail
  rw [← hw1]
  clear hw1 c4w
  refine hI.mono ?_
  rintro e w2 ⟨rfl, hb2⟩
  have g0 := cell_below hb2 f0
  have g4 := cell_below hb2 c4
  have g1 := cell_below hb2 e0
  clear hI f0 c4 e0
  go_wp2_with fail
  go_ret
  exact ⟨rfl, below_trans hB1 hb2⟩
 ·have HX : Hid (res = -1) := Lib.hid (by rw [HL.out, h3]; rfl)
  rw [h1] at hI
  clear h1 h2 h3 HL
  generalize (nd l (k : Int)).kids.length = kl at *
  go_enter Tryz.func137, Tryz.ntmps137
  go_wp2_with fail
  rw [← hw1]
  clear hw1 c4w
  refine hI.mono ?_
  rintro e w2 ⟨rfl, hb2⟩
  clear hI
  go_wp2_with fail
  go_ret
  exact ⟨ret_int HX.out.symm, below_trans hB1 hb2⟩
end Go.Proofs.YtkhlfggnjcbniaaGreatDoor.doc
