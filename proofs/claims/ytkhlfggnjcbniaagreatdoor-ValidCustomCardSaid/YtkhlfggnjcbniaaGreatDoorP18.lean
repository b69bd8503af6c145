/- A part of the proofs: lemmas and contracts. -/
import Derived.Deep.RegionLawGrows
import Derived.RangeFuncBox
import Derived.Test.YtkhlfggnjcbniaaGreatDoorP17
set_option maxHeartbeats 12800000
set_option maxRecDepth 1000000
namespace Go.Proofs.YtkhlfggnjcbniaaGreatDoor.doc
open Go.ChangeShapes Go.WideShapes Go.ChangeAt Go.RowKit Go.Lib atr link

theorem infoA : (Tryz.prog.info? 45).map (fun i => (i.zero, i.size, i.bytes)) = some (some (.agg #[.string ⟨#[]⟩, .string ⟨#[]⟩]), 2, 32) := by kernel_rfl
theorem infoN : (Tryz.prog.info? 41).map (fun i => (i.zero, i.size, i.bytes)) = some (some (.agg #[.string ⟨#[]⟩, .string ⟨#[]⟩, .slice none 0 0, .int .i64 0, .slice none 0 0]), 5, 88) := by kernel_rfl

theorem run_append_nil {P : Program} {w : World} (t ty e : TypeId) (i : TypeInfo) (z : Value) (size bytes : Nat) (ht : P.underlying t = some (.slice e)) (hi : P.info? e = some i) (hz : i.zero = some z)
  (hsize : i.size = size) (hby : i.bytes = bytes) (hzs : z.cells.size = size) (hsz : 0 < size) (v : Value) (m : Nat) (news : List Value) (hR : RowAt w v m news) (hl : news.length = m * size) (h1 : ∀ u ∈ news, u.oneCell' = true) (b1 : m ≤ maxLen) (b2 : m * bytes ≤ 140737488355328) :
  ∃ v' w', (Builtin.append_ #[t, t] ty #[.slice none 0 0, v]).run P w = .ok v' w' ∧ w'.ownsRow w.heap.size e size v' m news ∧ w.grownBy w' none := by
 have key : ∀ (ad : Addr) (c : Nat), (∀ j u, news[j]? = some u → w.cell? (ad.add j) = some u) → ∃ v' w', (Builtin.append_ #[t, t] ty #[.slice none 0 0, .slice (some ad) m c]).run P w = .ok v' w' ∧ w'.ownsRow w.heap.size e size v' m news ∧ w.grownBy w' none := by
  intro ad c hc
  obtain ⟨v', w', hr, h2, h3, _⟩ := run_append_own (P := P) w w.heap.size t ty e i z size bytes ht hi hz hsize hby hzs hsz (.slice none 0 0) 0 [] (World.ownsRow_nil _ _ _ _) ad m c news hl hc h1 (by omega) (by rw [Nat.zero_add]; exact b2) (Nat.le_refl _)
  refine ⟨v', w', hr, ?_, h3⟩
  rw [Nat.zero_add] at h2
  exact h2
 rcases hR with ⟨h0, h3, oa, cap, rfl⟩ | ⟨b, off, cap, rfl, h0, hb, hc⟩
 ·subst h0 h3
  cases oa with
  | some ad => exact key ad cap (fun j u hu => by simp at hu)
  | none =>
   exact ⟨_, w, by simp [Builtin.append_, run_underlying ht, sizeOf, typeInfo, hi, Builtin.lenOf, Builtin.firstCells], World.ownsRow_nil _ _ _ _, World.grownBy.refl _ _⟩
 ·exact key ⟨b, off, none⟩ cap (fun j u hu => by rw [Lib.add_plain]; exact hc j u hu)
theorem step_append_nil {P : Program} {ops : Array Oper} {o : Oper} {a : Act} {w : World} {K : Act → World → Prop} {Q : Exit → Act → World → Prop} {E : Prop}
  (hg : o.guard = none) (s x : Operand) (t : TypeId) (hop : o.op = Op.call { callee := Callee.builtin Builtin.append, args := #[s, x], argTypes := #[t, t] })
  (e : TypeId) (i : TypeInfo) (z : Value) (size bytes : Nat) (ht : P.underlying t = some (.slice e)) (hi : P.info? e = some i) (hz : i.zero = some z)
  (hsize : i.size = size) (hby : i.bytes = bytes) (hzs : z.cells.size = size) (hsz : 0 < size) (hs : a.eval s = .slice none 0 0) (v : Value) (hx : a.eval x = v) (m : Nat) (news : List Value) (hR : RowAt w v m news) (hl : news.length = m * size) (h1 : ∀ u ∈ news, u.oneCell' = true) (b1 : m ≤ maxLen) (b2 : m * bytes ≤ 140737488355328)
  (hK : ∀ v' w', w'.ownsRow w.heap.size e size v' m news → w.grownBy w' none → K (a.put o.dst v') w') :
  if Region.wanted o (yielded ops a.tmps) = true then Oper.wp P o a w K Q else E := by
 have hw : Region.wanted o (yielded ops a.tmps) = true := by simp [Region.wanted, hg]
 rw [if_pos hw]
 obtain ⟨v', w', hrun, r1, r2⟩ := run_append_nil (P := P) (w := w) t o.type e i z size bytes ht hi hz hsize hby hzs hsz v m news hR hl h1 b1 b2
 unfold Oper.wp
 simp [execOp, hop, resolve, invoke, builtin, hs, hx, hrun, Result.andThen]
 exact hK v' w' r1 r2

theorem nodes_all {w : World} {v : Value} {l : List Nd} (hA : NodesAt w v l) (k : Nat) (hk : k < l.length) : ∃ b off cap va vk, v = .slice (some ⟨b, off, none⟩) l.length cap ∧ NodeAt w b (off + k * 5) (nd l (k : Int)) va vk := by
 obtain ⟨b, off, cap, rfl, _⟩ := nodes_addr hA (by omega)
 obtain ⟨va, vk, h⟩ := nodes_get hA k hk
 exact ⟨b, off, cap, va, vk, rfl, h⟩
theorem rowA_flat {w : World} {b : Nat} : ∀ (l : List Attr) (off : Nat), RowA w b off l → ∀ j u, (l.flatMap encA)[j]? = some u → w.cell? ⟨b, off + j, none⟩ = some u := by
 intro l
 induction l with
 | nil => intro off _ j u h; simp at h
 | cons x r ih =>
  intro off h j u hj
  rw [List.flatMap_cons] at hj
  match j with
  | 0 => have := (h 0 (by simp)).1; simp [encA] at hj; subst hj; simpa using this
  | 1 => have := (h 0 (by simp)).2; simp [encA] at hj; subst hj; simpa using this
  | j + 2 =>
   have hj' : (r.flatMap encA)[j]? = some u := by simpa [encA] using hj
   have := ih (off + 2) (fun k hk => by
    have := h (k + 1) (by simp; omega)
    simp only [List.getElem_cons_succ] at this
    rw [show off + 2 + k * 2 = off + (k + 1) * 2 from by omega]
    exact this) j u hj'
   rw [show off + (j + 2) = off + 2 + j from by omega]
   exact this
theorem attrs_row {w : World} {v : Value} {l : List Attr} (h : AttrsAt w v l) : RowAt w v l.length (l.flatMap encA) := by
 rcases h with ⟨rfl, oa, cap, rfl⟩ | ⟨b, off, cap, rfl, h0, hb, hR⟩
 ·exact .inl ⟨rfl, rfl, oa, cap, rfl⟩
 ·exact .inr ⟨b, off, cap, rfl, h0, hb, rowA_flat l off hR⟩
theorem encA_one (l : List Attr) : ∀ u ∈ l.flatMap encA, u.oneCell' = true := by
 intro u hu
 obtain ⟨x, _, hu⟩ := List.mem_flatMap.1 hu
 simp only [encA, List.mem_cons, List.not_mem_nil, or_false] at hu
 rcases hu with rfl | rfl <;> rfl
theorem encA_flat_len (l : List Attr) : (l.flatMap encA).length = l.length * 2 := by
 induction l with
 | nil => rfl
 | cons x r ih => rw [List.flatMap_cons, List.length_append, ih, List.length_cons]; simp [encA]; omega
theorem intsV_one (l : List Int) : ∀ u ∈ intsV l, u.oneCell' = true := by
 intro u hu
 obtain ⟨x, _, rfl⟩ := List.mem_map.1 hu
 rfl
theorem grownBy_set (W : World) (b o : Nat) (v : Value) : W.grownBy (W.setCell ⟨b, o, none⟩ v) (some b) :=
 ⟨rfl, rfl, rfl, (KeepsWalks.setCell W _ v).size, fun k _ hk => Below.heap_setCell _ _ _ k (fun e => hk (by rw [e]))⟩
theorem below_grown_by {w w1 w5 : World} (hb : Below w.heap.size w w1) (h : w1.grownBy w5 none) : Below w.heap.size w w5 :=
 hb.grown h hb.size (fun k e => by cases e)
def encN (n : Nd) (p : Value × Value) : List Value := [.string ⟨n.name.toArray⟩, .string ⟨n.text.toArray⟩, p.1, .int .i64 n.parent, p.2]
structure CpR (w : World) (B : Nat) (v : Value) (l : List Nd) (ps : List (Value × Value)) : Prop where
 len : ps.length = l.length
 row : w.ownsRow B 41 5 v l.length ((l.zip ps).flatMap (fun x => encN x.1 x.2))
 attrs : ∀ j (h : j < l.length) (h' : j < ps.length), w.ownsRow B 45 2 ps[j].1 l[j].attrs.length (l[j].attrs.flatMap encA)
 kids : ∀ j (h : j < l.length) (h' : j < ps.length), w.ownsRow B 3 1 ps[j].2 l[j].kids.length (intsV l[j].kids)

theorem ownsRow_lower {w : World} {b b' : Nat} {e : TypeId} {size : Nat} {v : Value} {n : Nat} {xs : List Value} (h : w.ownsRow b e size v n xs) (hb : b' ≤ b) : w.ownsRow b' e size v n xs := by
 refine ⟨h.1, ?_⟩
 rcases h.2 with h | ⟨g', cap', cur, e1, e2, e3⟩
 ·exact .inl h
 ·exact .inr ⟨g', cap', cur, e1, Nat.le_trans hb e2, e3⟩
structure Bx (W : World) (k : Nat) (x0 x1 x2 x3 x4 : Value) : Prop where
 c0 : W.cell? ⟨k, 0, none⟩ = some x0
 c1 : W.cell? ⟨k, 1, none⟩ = some x1
 c2 : W.cell? ⟨k, 2, none⟩ = some x2
 c3 : W.cell? ⟨k, 3, none⟩ = some x3
 c4 : W.cell? ⟨k, 4, none⟩ = some x4
 z2 : W.frozen? ⟨k, 2, none⟩ = false
 z4 : W.frozen? ⟨k, 4, none⟩ = false
theorem Bx.grown {W W' : World} {k : Nat} {x0 x1 x2 x3 x4 : Value} (h : Bx W k x0 x1 x2 x3 x4) (hg : W.grownBy W' none) : Bx W' k x0 x1 x2 x3 x4 :=
  ⟨cell_kept h.c0 hg (fun r e => by cases e), cell_kept h.c1 hg (fun r e => by cases e), cell_kept h.c2 hg (fun r e => by cases e), cell_kept h.c3 hg (fun r e => by cases e), cell_kept h.c4 hg (fun r e => by cases e),
   (frozen_kept h.c2 hg (fun r e => by cases e)).trans h.z2, (frozen_kept h.c4 hg (fun r e => by cases e)).trans h.z4⟩
theorem Bx.drew {W : World} {k : Nat} {x0 x1 x2 x3 x4 : Value} (h : Bx W k x0 x1 x2 x3 x4) : Bx W.drew k x0 x1 x2 x3 x4 := ⟨h.c0, h.c1, h.c2, h.c3, h.c4, h.z2, h.z4⟩
theorem Bx.set2 {W : World} {k : Nat} {x0 x1 x2 x3 x4 : Value} (h : Bx W k x0 x1 x2 x3 x4) (v : Value) : Bx (W.setCell ⟨k, 2, none⟩ v) k x0 x1 v x3 x4 :=
  ⟨(World.cell?_setCell_other _ _ _ _ (by simp)).trans h.c0, (World.cell?_setCell_other _ _ _ _ (by simp)).trans h.c1, World.cell?_setCell_same _ _ _ h.c2, (World.cell?_setCell_other _ _ _ _ (by simp)).trans h.c3, (World.cell?_setCell_other _ _ _ _ (by simp)).trans h.c4,
   by rw [World.frozen?_setCell]; exact h.z2, by rw [World.frozen?_setCell]; exact h.z4⟩
theorem Bx.set4 {W : World} {k : Nat} {x0 x1 x2 x3 x4 : Value} (h : Bx W k x0 x1 x2 x3 x4) (v : Value) : Bx (W.setCell ⟨k, 4, none⟩ v) k x0 x1 x2 x3 v :=
  ⟨(World.cell?_setCell_other _ _ _ _ (by simp)).trans h.c0, (World.cell?_setCell_other _ _ _ _ (by simp)).trans h.c1, (World.cell?_setCell_other _ _ _ _ (by simp)).trans h.c2, (World.cell?_setCell_other _ _ _ _ (by simp)).trans h.c3, World.cell?_setCell_same _ _ _ h.c4,
   by rw [World.frozen?_setCell]; exact h.z2, by rw [World.frozen?_setCell]; exact h.z4⟩
theorem own_set {w : World} {b e : Nat} {size : Nat} {v : Value} {n : Nat} {xs : List Value} (h : w.ownsRow b e size v n xs) {k : Nat} (hk : k < b) (o : Nat) (u : Value) : (w.setCell ⟨k, o, none⟩ u).ownsRow b e size v n xs :=
 h.kept (grownBy_set w k o u) (.inr (fun e' => by have := (h.lt k e').1; omega))
theorem own_grown {w w' : World} {b e : Nat} {size : Nat} {v : Value} {n : Nat} {xs : List Value} (h : w.ownsRow b e size v n xs) (hg : w.grownBy w' none) : w'.ownsRow b e size v n xs :=
 h.kept hg (by rcases Classical.em (v.ownBlock = none) with h | h; exact .inl h; exact .inr h)
theorem own_apart {w : World} {b e b' e' : Nat} {size size' : Nat} {v v' : Value} {n n' : Nat} {xs xs' : List Value} (h : w.ownsRow b e size v n xs) (h' : w.ownsRow b' e' size' v' n' xs') (he : e ≠ e') : v.ownBlock = none ∨ v.ownBlock ≠ v'.ownBlock := by
 rcases h.2 with ⟨rfl, _⟩ | ⟨g, cap, cur, rfl, _, hg, _⟩
 ·exact .inl rfl
 ·refine .inr fun e1 => ?_
  rcases h'.2 with ⟨rfl, _⟩ | ⟨g', cap', cur', rfl, _, hg', _⟩
  ·simp [Value.ownBlock] at e1
  ·obtain rfl : g = g' := by simpa [Value.ownBlock] using e1
   rw [hg] at hg'
   simp at hg'
   exact he hg'.2
theorem CpR.nil (w : World) (B : Nat) : CpR w B (.slice none 0 0) [] [] := ⟨rfl, World.ownsRow_nil _ _ _ _, fun j h => absurd h (by simp), fun j h => absurd h (by simp)⟩
theorem CpR.below {w w' : World} {B : Nat} {v : Value} {l : List Nd} {ps : List (Value × Value)} (h : CpR w B v l ps) (hb : Below w.heap.size w w') : CpR w' B v l ps :=
 ⟨h.len, ownsRow_below h.row hb, fun j a b => ownsRow_below (h.attrs j a b) hb, fun j a b => ownsRow_below (h.kids j a b) hb⟩
theorem CpR.snoc {w w9 : World} {B : Nat} {v v9 : Value} {l : List Nd} {ps : List (Value × Value)} (h : CpR w B v l ps) (n : Nd) (p : Value × Value) (o : Obj) (h2 : w.ownsRow B 45 2 p.1 n.attrs.length (n.attrs.flatMap encA)) (h4 : w.ownsRow B 3 1 p.2 n.kids.length (intsV n.kids))
  (hg : (w.alloc o).grownBy w9 v.ownBlock) (h9 : w9.ownsRow B 41 5 v9 (l.length + 1) ((l.zip ps).flatMap (fun x => encN x.1 x.2) ++ encN n p)) : CpR w9 B v9 (l ++ [n]) (ps ++ [p]) := by
 have hr := h.row.alloc o
 refine ⟨by rw [List.length_append, List.length_append, h.len]; rfl, ?_, ?_, ?_⟩
 ·rw [List.zip_append h.len.symm, List.flatMap_append, List.length_append]
  simpa using h9
 ·intro j hj hj'
  by_cases e : j < l.length
  ·have e' : j < ps.length := by rw [h.len]; exact e
   have q := (h.attrs j e e').alloc o
   rw [List.getElem_append_left e, List.getElem_append_left e']
   exact q.kept hg (own_apart q hr (by decide))
  ·obtain rfl : j = l.length := by simp at hj; omega
   have q := h2.alloc o
   have e1 : (l ++ [n])[l.length] = n := by simp
   have e2 : (ps ++ [p])[l.length]'hj' = p := by rw [List.getElem_append_right (by rw [h.len]; exact Nat.le_refl _)]; simp
   rw [e1, e2]
   exact q.kept hg (own_apart q hr (by decide))
 ·intro j hj hj'
  by_cases e : j < l.length
  ·have e' : j < ps.length := by rw [h.len]; exact e
   have q := (h.kids j e e').alloc o
   rw [List.getElem_append_left e, List.getElem_append_left e']
   exact q.kept hg (own_apart q hr (by decide))
  ·obtain rfl : j = l.length := by simp at hj; omega
   have q := h4.alloc o
   have e1 : (l ++ [n])[l.length] = n := by simp
   have e2 : (ps ++ [p])[l.length]'hj' = p := by rw [List.getElem_append_right (by rw [h.len]; exact Nat.le_refl _)]; simp
   rw [e1, e2]
   exact q.kept hg (own_apart q hr (by decide))
theorem below_trans' {B : Nat} {w wr w8 : World} (h : Below B w wr) (k : Below wr.heap.size wr w8) (hB : B ≤ wr.heap.size) : Below B w w8 := h.trans (k.mono hB)
theorem take_snocN (l : List Nd) (m : Nat) (h : m < l.length) : l.take (m + 1) = l.take m ++ [nd l (m : Int)] := by rw [List.take_succ_eq_append_getElem h, nd_cast l m h]
theorem low_own {w wr w1 : World} {B e size n : Nat} {v : Value} {xs : List Value} (hrow : wr.ownsRow B e size v n xs) (hb : Below B w wr) (hbs : B ≤ wr.heap.size) (o : Obj) (hg : (wr.alloc o).grownBy w1 v.ownBlock) : Below B w w1 ∧ B ≤ w1.heap.size := by
 have h1 : B ≤ (wr.alloc o).heap.size := by simp; omega
 exact ⟨(hb.alloc hbs o).grown hg h1 (fun k e => (hrow.lt k e).1), Nat.le_trans h1 hg.size⟩
structure LBytes (l : List Nd) : Prop where
 len : l.length * 88 ≤ 140737488355328
 attrs : ∀ n ∈ l, n.attrs.length * 32 ≤ 140737488355328
 kids : ∀ n ∈ l, n.kids.length * 8 ≤ 140737488355328
theorem LBytes.at {l : List Nd} (h : LBytes l) (m : Nat) (hm : m < l.length) : (nd l (m : Int)).attrs.length * 32 ≤ 140737488355328 ∧ (nd l (m : Int)).kids.length * 8 ≤ 140737488355328 := by
 have hk := nd_cast l m hm
 rw [hk]
 exact ⟨h.attrs _ (List.getElem_mem hm), h.kids _ (List.getElem_mem hm)⟩
theorem copied_any (v : Value) (l : List Nd) (hL : LBytes l) (w : World) (hA : NodesAt w v l) :
  Calls Tryz.prog 11 #[v] w fun e w' => ∃ v' ps, e = .returned v' ∧ CpR w' w.heap.size v' l ps ∧ Below w.heap.size w w' := by
 obtain ⟨ia, hia, hza, hza1, hza2⟩ := info_parts infoA
 obtain ⟨ii, hii, hzi, hzi1, hzi2⟩ := info_parts infoI
 obtain ⟨inn, hin, hzn, hzn1, hzn2⟩ := info_parts infoN
 have hlen := hL.len
 obtain ⟨oa, cap, rfl⟩ := NodesAt.lenN hA
 obtain ⟨B, hB⟩ : ∃ B, B = w.heap.size := ⟨_, rfl⟩
 rw [← hB]
 have HN := Lib.hid (fun w' (h : Below B w w') j hj => nodes_all (hA.below (w' := w') (by rw [← hB]; exact h)) j hj)
 have HB := Lib.hid hB
 clear hB
 go_enter Tryz.func11, Tryz.ntmps11
 go_wp2_with fail
 go_loopw [3, 4] (fun s3 s4 wr => ∃ (m : Nat) (ps : List (Value × Value)), s4 = .int .i64 m ∧ m ≤ l.length ∧ Hid (CpR wr B s3 (l.take m) ps) ∧ Below B w wr ∧ B ≤ wr.heap.size) (fun _ s4 _ => l.length - (RowKit.intOf s4).toNat)
 case atStart => exact ⟨0, [], rfl, Nat.zero_le _, Lib.hid (CpR.nil _ _), Below.refl _ _, by rw [HB.out]; exact Nat.le_refl _⟩
 case round =>
  obtain ⟨m, ps, rfl, hm, hcp, hbw, hbs⟩ := hrel
  by_cases hlt : m < l.length
  case neg =>
   obtain rfl : m = l.length := by omega
   have hcp2 := hcp.out
   rw [List.take_length] at hcp2
   obtain ⟨a3, c3', rfl⟩ := RowAt.lenN (RowAt.of_owns hcp2.row)
   have HCP := Lib.hid hcp2
   clear hcp hcp2
   go_wp2_with fail
   go_ret
   exact ⟨_, ps, rfl, HCP.out, hbw⟩
  obtain ⟨b, off, cap2, va, vk, e, hn⟩ := HN.out wr hbw m hlt
  cases e
  have c0 := hn.c0
  have c1 := hn.c1
  have c2 := hn.c2
  have c3 := hn.c3
  have c4 := hn.c4
  obtain ⟨X, hX⟩ : ∃ X, X = Obj.cells #[.string ⟨#[]⟩, .string ⟨#[]⟩, .slice none 0 0, .int .i64 0, .slice none 0 0] 41 := ⟨_, rfl⟩
  have hbX : Below wr.heap.size wr (wr.alloc X) := (Below.refl _ wr).alloc (Nat.le_refl _) _
  have d0 := cell_below hbX c0
  have d1 := cell_below hbX c1
  have d2 := cell_below hbX c2
  have d3 := cell_below hbX c3
  have d4 := cell_below hbX c4
  rw [hX] at d0 d1 d2 d3 d4
  go_upto_region 5 with fail
  go_region
  obtain ⟨wq, hwq⟩ : ∃ wq, wq = (wr.alloc (.cells #[.string ⟨(nd l (m : Int)).name.toArray⟩, .string ⟨(nd l (m : Int)).text.toArray⟩, .slice none 0 0, .int .i64 (nd l (m : Int)).parent, .slice none 0 0] 41)).drew := ⟨_, rfl⟩
  rw [← hwq]
  have hbq : Below wr.heap.size wr wq := by rw [hwq]; exact ((Below.refl _ wr).alloc (Nat.le_refl _) _).drew
  have hzq : wq.heap.size = wr.heap.size + 1 := by rw [hwq]; simp
  have hx5 : Bx wq wr.heap.size (.string ⟨(nd l (m : Int)).name.toArray⟩) (.string ⟨(nd l (m : Int)).text.toArray⟩) (.slice none 0 0) (.int .i64 (nd l (m : Int)).parent) (.slice none 0 0) := by rw [hwq]; constructor <;> simp
  have f2 := hx5.c2
  have g2 := cell_below hbq c2
  have g4 := cell_below hbq c4
  have HA := Lib.hid (attrs_row (hn.attrs.below hbq))
  have HK0 := Lib.hid hn.kids
  have H4 := Lib.hid c4
  have HLt := Lib.hid (lt_of_cell c4)
  clear hwq d0 d1 d2 d3 d4 c0 c1 c3 hX hbX
  obtain ⟨hat, hkd⟩ := hL.at m hlt
  have HAl := Lib.hid hat
  have HKl := Lib.hid hkd
  obtain ⟨aa, ac, rfl⟩ := AttrsAt.lenN hn.attrs
  obtain ⟨ka, kc, rfl⟩ := RowAt.lenN hn.kids
  clear hn hat hkd c2 c4
  go_wp2_with fail
  go_region_law (refine step_append_nil rfl _ _ 38 rfl 45 ia _ 2 32 Tryz.underlying38 hia hza hza1 hza2 rfl (by decide) (by simp [Act.eval]) _ rfl (nd l (m : Int)).attrs.length ((nd l (m : Int)).attrs.flatMap encA) (RowAt.below HA.out ((Below.refl _ _).drew) (Nat.le_refl _)) (encA_flat_len _) (encA_one _) (by have := HAl.out; unfold maxLen; omega) (by have := HAl.out; omega) ?_; intro v2 w5 hown2 hgrow2; have hx6 := hx5.drew.grown hgrow2; have h52 := hx6.c2; have h53 := hx6.z2; obtain ⟨a2, cp2, rfl⟩ := RowAt.lenN (RowAt.of_owns hown2))
  all_goals
   have hown2 : (w5.setCell ⟨wr.heap.size, 2, none⟩ (.slice a2 (nd l (m : Int)).attrs.length cp2)).ownsRow (wr.heap.size + 1) 45 2 (.slice a2 (nd l (m : Int)).attrs.length cp2) (nd l (m : Int)).attrs.length ((nd l (m : Int)).attrs.flatMap encA) :=
    own_set (by rw [show wq.drew.heap.size = wr.heap.size + 1 from hzq] at hown2; exact hown2) (by omega) 2 _
   have hx6 := hx6.set2 (.slice a2 (nd l (m : Int)).attrs.length cp2)
   have hb6 : Below wr.heap.size wr (w5.setCell ⟨wr.heap.size, 2, none⟩ (.slice a2 (nd l (m : Int)).attrs.length cp2)) := (below_grown_by hbq.drew hgrow2).setCell (p := ⟨wr.heap.size, 2, none⟩) (Nat.le_refl _) _
   obtain ⟨w6, hw6⟩ : ∃ w6, w6 = (w5.setCell ⟨wr.heap.size, 2, none⟩ (.slice a2 (nd l (m : Int)).attrs.length cp2)) := ⟨_, rfl⟩
   rw [← hw6] at hown2 hx6 hb6 ⊢
   clear hw6 h52 h53 hgrow2
   have k4 := (hb6.cell (p := ⟨b, off + m * 5 + 4, none⟩) HLt.out).trans H4.out
   have hKr : RowAt w6 (.slice ka (nd l (m : Int)).kids.length kc) (nd l (m : Int)).kids.length (intsV (nd l (m : Int)).kids) := by
    have := HK0.out
    unfold IntsAt at this
    rw [intsV_flat] at this
    exact RowAt.below this hb6 (Nat.le_refl _)
   have HKr := Lib.hid hKr
   have n4 := hx6.c4
   clear hKr f2 g2 g4
   go_wp2_with fail
   go_region_law (refine step_append_nil rfl _ _ 39 rfl 3 ii _ 1 8 Tryz.underlying39 hii hzi hzi1 hzi2 rfl (by decide) (by simp [Act.eval]) _ rfl (nd l (m : Int)).kids.length (intsV (nd l (m : Int)).kids) (RowAt.below HKr.out ((Below.refl _ _).drew) (Nat.le_refl _)) (by rw [intsV_len, Nat.mul_one]) (intsV_one _) (by have := HKl.out; unfold maxLen; omega) (by have := HKl.out; omega) ?_; intro v4 w7 hown4 hgrow4; have hx8 := hx6.drew.grown hgrow4; have h72 := hx8.c4; have h73 := hx8.z4; obtain ⟨a4, cp4, rfl⟩ := RowAt.lenN (RowAt.of_owns hown4))
  all_goals
   have hz6 := hb6.size
   have hlt6 : wr.heap.size < w6.heap.size := lt_of_cell n4
   have hown4 : (w7.setCell ⟨wr.heap.size, 4, none⟩ (.slice a4 (nd l (m : Int)).kids.length cp4)).ownsRow (wr.heap.size + 1) 3 1 (.slice a4 (nd l (m : Int)).kids.length cp4) (nd l (m : Int)).kids.length (intsV (nd l (m : Int)).kids) :=
    own_set (ownsRow_lower hown4 (show wr.heap.size + 1 ≤ w6.drew.heap.size from hlt6)) (by omega) 4 _
   have hown2 : (w7.setCell ⟨wr.heap.size, 4, none⟩ (.slice a4 (nd l (m : Int)).kids.length cp4)).ownsRow (wr.heap.size + 1) 45 2 (.slice a2 (nd l (m : Int)).attrs.length cp2) (nd l (m : Int)).attrs.length ((nd l (m : Int)).attrs.flatMap encA) :=
    own_set (own_grown hown2.drew hgrow4) (by omega) 4 _
   have hx8 := hx8.set4 (.slice a4 (nd l (m : Int)).kids.length cp4)
   have hb8 : Below wr.heap.size wr (w7.setCell ⟨wr.heap.size, 4, none⟩ (.slice a4 (nd l (m : Int)).kids.length cp4)) := (below_grown_by hb6.drew hgrow4).setCell (p := ⟨wr.heap.size, 4, none⟩) (Nat.le_refl _) _
   obtain ⟨w8, hw8⟩ : ∃ w8, w8 = (w7.setCell ⟨wr.heap.size, 4, none⟩ (.slice a4 (nd l (m : Int)).kids.length cp4)) := ⟨_, rfl⟩
   rw [← hw8] at hown4 hown2 hx8 hb8 ⊢
   clear hw8 h72 h73 hgrow4 hx6 hb6
   have hz8 := hb8.size
   have hcp8 := hcp.out.below hb8
   have hbw8 := below_trans' hbw hb8 hbs
   obtain ⟨x0, x1, x2, x3, x4, _, _⟩ := hx8
   have HTk := Lib.hid (take_snocN l m hlt)
   have HTl : Hid ((l.take m).length = m) := Lib.hid (by rw [List.length_take]; omega)
   obtain ⟨a3, c3', rfl⟩ := RowAt.lenN (RowAt.of_owns hcp8.row)
   have HCP := Lib.hid hcp8
   have hrow8 := hcp8.row
   rw [HTl.out] at hrow8
   rw [HTl.out]
   clear hcp8 hcp
   go_wp2_with (at_builtin; refine wpList_append_lies _ rfl _ _ 22 rfl B 41 inn _ 5 88 Tryz.underlying22 hin hzn hzn1 hzn2 rfl (by decide) _ _ _ rfl (World.ownsRow.alloc hrow8 _) ⟨w8.heap.size, 0, none⟩ 1 1 (encN (nd l (m : Int)) (.slice a2 (nd l (m : Int)).attrs.length cp2, .slice a4 (nd l (m : Int)).kids.length cp4)) rfl rfl ?_ ?_ (by decide) ?_ ?_ ?_ _ rfl ?_)
   all_goals first | exact World.news_of_block (cs := #[.string ⟨(nd l (m : Int)).name.toArray⟩, .string ⟨(nd l (m : Int)).text.toArray⟩, .slice a2 (nd l (m : Int)).attrs.length cp2, .int .i64 (nd l (m : Int)).parent, .slice a4 (nd l (m : Int)).kids.length cp4]) (t := 41) (fr := (0, 0)) (heap_alloc_new w8 _) | (intro u hu; simp only [encN, List.mem_cons, List.not_mem_nil, or_false] at hu; rcases hu with rfl | rfl | rfl | rfl | rfl <;> rfl) | (unfold maxLen; omega) | omega | (simp; omega) | skip
   intro g9 cap9 w9 hown9 hgrow9 hat9 hlt9
   have hcp9 : CpR w9 B (.slice (some ⟨g9, 0, none⟩) (m + 1) cap9) (l.take (m + 1)) (ps ++ [(.slice a2 (nd l (m : Int)).attrs.length cp2, .slice a4 (nd l (m : Int)).kids.length cp4)]) := by
    rw [HTk.out]
    exact HCP.out.snoc (nd l (m : Int)) _ _ (ownsRow_lower hown2 (by omega)) (ownsRow_lower hown4 (by omega)) (by rw [HTl.out]; exact hgrow9) (by rw [HTl.out]; exact hown9)
   obtain ⟨hbw9, hbs9⟩ := low_own hrow8 hbw8 (by omega) _ hgrow9
   have HC9 := Lib.hid hcp9
   clear hown9 hgrow9 hat9 hcp9 HCP hrow8 hown2 hown4 x0 x1 x2 x3 x4
   go_wp2_with fail
   go_roundw
   case rel => exact ⟨m + 1, _, by go_num, by omega, HC9, hbw9, hbs9⟩
   case measure => simp [RowKit.intOf]; omega

def topF (l : List Nd) : Nat → Int → Int
 | 0, k => k
 | n + 1, k => if (nd l k).parent < 0 then k else topF l n (nd l k).parent
def topP (l : List Nd) (k : Int) : Int := topF l (dep l k) k
theorem top_eq {l : List Nd} (h : Rt l) (k : Int) (hk : inR l k) : topP l k = if (nd l k).parent < 0 then k else topP l (nd l k).parent := by
 unfold topP
 rw [dep_kid h k hk]; rfl
theorem top_in {l : List Nd} (h : Rt l) : ∀ k, inR l k → inR l (topP l k) ∧ (nd l (topP l k)).parent < 0 := by
 refine by_up h _ (fun k hk ih => ?_)
 rw [top_eq h k hk]
 by_cases g : (nd l k).parent < 0
 ·rw [if_pos g]; exact ⟨hk, g⟩
 ·rw [if_neg g]; exact ih.resolve_left g
theorem top_any (v : Value) (l : List Nd) (hL : LFine l) (hR : rightB l = true) (k : Nat) (hk : k < l.length) (w : World) (hA : NodesAt w v l) :
  Calls Tryz.prog 59 #[v, .int .i64 k] w fun e w' => e = .returned (.int .i64 (topP l (k : Int))) ∧ Below w.heap.size w w' := by
 have hh := thas_any v l k hL w hA
 rw [hR, decide_eq_true (by omega : (0 : Int) ≤ (k : Int)), decide_eq_true (by omega : (k : Int) < (l.length : Int))] at hh
 have hRt := right_rt l hR
 have hf := hRt.few
 obtain ⟨b, off, cap, rfl, hb⟩ := nodes_addr hA (by omega)
 have HN := Lib.hid (fun w' (h : Below w.heap.size w w') j hj => nodes_get (hA.below h) j hj)
 have HP := Lib.hid (fun (j : Nat) (hj : j < l.length) => hRt.par (j : Int) ⟨by omega, by omega⟩)
 have HT := Lib.hid (fun (j : Nat) (hj : j < l.length) => top_eq hRt (j : Int) ⟨by omega, by omega⟩)
 have HDe := Lib.hid (fun (j : Nat) (hj : j < l.length) => dep_up hRt j hj)
 obtain ⟨res, hres⟩ : ∃ r, r = topP l (k : Int) := ⟨_, rfl⟩
 rw [← hres]
 have HX0 : Hid (res = topP l (k : Int)) := Lib.hid hres
 clear hres hRt hR hL hA
 go_enter Tryz.func59, Tryz.ntmps59
 go_wp2_with fail
 refine hh.mono ?_
 rintro e w1 ⟨rfl, hb1⟩
 clear hh
 go_wp2_with fail
 go_loopw [1] (fun s1 wr => ∃ m : Nat, s1 = .int .i64 m ∧ m < l.length ∧ Hid (res = topP l (m : Int)) ∧ wr = w1) (fun s1 _ => dep l (RowKit.intOf s1))
 case atStart => exact ⟨k, rfl, hk, HX0, rfl⟩
 case round =>
  obtain ⟨m, rfl, hm, hx, rfl⟩ := hrel
  obtain ⟨va, vk, hn⟩ := HN.out wr hb1 m hm
  have c3 := hn.c3
  clear hn
  have hpm := HP.out m hm
  have HTm := Lib.hid (HT.out m hm)
  have HD := Lib.hid (HDe.out m hm)
  have hm' : (m : Int) < (l.length : Int) := by omega
  by_cases g : (nd l (m : Int)).parent < 0
  ·have HX : Hid (res = (m : Int)) := Lib.hid (by rw [hx.out, HTm.out, if_pos g])
   have g2 : ¬ 0 ≤ (nd l (m : Int)).parent := by omega
   clear HTm HD
   generalize (nd l (m : Int)).parent = p at *
   go_wp2_with fail
   go_ret
   exact ⟨ret_int HX.out.symm, hb1⟩
  ·obtain ⟨p, hp⟩ : ∃ p : Nat, (nd l (m : Int)).parent = (p : Int) := ⟨(nd l (m : Int)).parent.toNat, by omega⟩
   have HX : Hid (res = topP l (p : Int)) := Lib.hid (by rw [hx.out, HTm.out, if_neg g, hp])
   have HD2 : Hid (dep l (p : Int) < dep l (m : Int)) := Lib.hid (by rw [← hp]; exact HD.out)
   have hpl : p < l.length := by omega
   rw [hp] at c3
   clear hp HTm HD g hpm
   go_wp2_with fail
   go_roundw
   case rel => exact ⟨p, rfl, hpl, HX, by first | rfl | trivial⟩
   case measure => exact HD2.out
theorem attr_cell {w : World} {va : Value} {a : List Attr} (h : AttrsAt w va a) (i : Nat) (hi : i < a.length) : ∃ b off cap, va = .slice (some ⟨b, off, none⟩) a.length cap ∧ b < w.heap.size ∧ w.cell? ⟨b, off + i * 2 + 1, none⟩ = some (.string ⟨(a[i].2).toArray⟩) := by
 rcases h with ⟨rfl, _⟩ | ⟨b, off, cap, e, h0, hb, hr⟩
 ·exact absurd hi (Nat.not_lt_zero _)
 ·exact ⟨b, off, cap, e, hb, (hr i hi).2⟩
def RetSB (s : List UInt8) (q : Bool) (w : World) (e : Ending) (w' : World) : Prop := e = .returned (.tuple #[.string ⟨s.toArray⟩, .bool q]) ∧ Below w.heap.size w w'
theorem tattr_any (v : Value) (l : List Nd) (hL : LFine l) (hR : rightB l = true) (k : Nat) (hk : k < l.length) (nm : List UInt8) (w : World) (hA : NodesAt w v l) :
  Calls Tryz.prog 215 #[v, .int .i64 k, .string ⟨nm.toArray⟩] w (RetSB ((fval nm (nd l (k : Int)).attrs).getD []) (hasA nm (nd l (k : Int)).attrs) w) := by
 have hh := thas_any v l k hL w hA
 rw [hR, decide_eq_true (by omega : (0 : Int) ≤ (k : Int)), decide_eq_true (by omega : (k : Int) < (l.length : Int))] at hh
 have hlen := hL.len
 obtain ⟨b, off, cap, rfl, hb⟩ := nodes_addr hA (by omega)
 have HN := Lib.hid (fun w' (h : Below w.heap.size w w') => nodes_get (hA.below h) k hk)
 have HF := Lib.hid (fun w' va (h : AttrsAt w' va (nd l (k : Int)).attrs) => tfind_any va (nd l (k : Int)).attrs nm (hL.nd _ (by omega) (by omega)).attrs w' h)
 have hw := fint_ways nm (nd l (k : Int)).attrs
 have HW := Lib.hid hw
 obtain ⟨s, hs⟩ : ∃ s, s = (fval nm (nd l (k : Int)).attrs).getD [] := ⟨_, rfl⟩
 obtain ⟨q, hq⟩ : ∃ q, q = hasA nm (nd l (k : Int)).attrs := ⟨_, rfl⟩
 rw [← hs, ← hq]
 have HS := Lib.hid hs
 have HQ := Lib.hid hq
 have h0 : (0 : Int) ≤ (k : Int) := by omega
 have hk' : (k : Int) < (l.length : Int) := by omega
 clear hs hq hw hL hR hA
 go_enter Tryz.func215, Tryz.ntmps215
 go_wp2_with fail
 refine hh.mono ?_
 rintro e w1 ⟨rfl, hb1⟩
 obtain ⟨va, vk, hn⟩ := HN.out w1 hb1
 have c2 := hn.c2
 have HAt := Lib.hid hn.attrs
 have hf := HF.out w1 va hn.attrs
 obtain ⟨aa, ac, rfl⟩ := AttrsAt.lenN hn.attrs
 clear hh hn HN HF
 generalize fint nm (nd l (k : Int)).attrs = fi at *
 go_wp2_with fail
 refine hf.mono ?_
 rintro e w2 ⟨rfl, hb2⟩
 have hb02 := below_trans hb1 hb2
 have c2 := cell_below hb2 c2
 clear hf
 rcases HW.out with ⟨j, hj, h1, h2, h3, h4⟩ | ⟨h1, h2, h3⟩
 ·subst h1
  obtain ⟨gb, go, gc, e, hgb, hcell⟩ := attr_cell HAt.out j hj
  cases e
  have hcell := cell_below hb2 hcell
  have HX : Hid (s = (nd l (k : Int)).attrs[j].2 ∧ q = true) := Lib.hid ⟨by rw [HS.out, h4]; rfl, by rw [HQ.out]; unfold hasA; rw [h4]; rfl⟩
  have hj' : (j : Int) < ((nd l (k : Int)).attrs.length : Int) := by omega
  clear h2 h3 h4 HW HS HQ
  generalize (nd l (k : Int)).attrs[j].2 = y at *
  generalize (nd l (k : Int)).attrs.length = al at *
  go_wp2_with fail
  go_ret2
  exact ⟨aret_sb HX.out.1.symm HX.out.2.symm, hb02⟩
 ·subst h1
  have HX : Hid (s = [] ∧ q = false) := Lib.hid ⟨by rw [HS.out, h3]; rfl, by rw [HQ.out]; unfold hasA; rw [h3]; rfl⟩
  clear h2 h3 HW HS HQ
  generalize (nd l (k : Int)).attrs.length = al at *
  go_wp2_with fail
  go_ret2
  exact ⟨aret_sb HX.out.1.symm HX.out.2.symm, hb02⟩
end Go.Proofs.YtkhlfggnjcbniaaGreatDoor.doc
