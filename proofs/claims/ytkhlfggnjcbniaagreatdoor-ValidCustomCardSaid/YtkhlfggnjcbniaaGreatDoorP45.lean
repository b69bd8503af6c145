/- A part of the proofs: lemmas and contracts. -/
import Derived.Test.YtkhlfggnjcbniaaGreatDoorP27
set_option maxHeartbeats 12800000
set_option maxRecDepth 1000000
namespace Go.Proofs.YtkhlfggnjcbniaaGreatDoor.doc
open Go.ChangeShapes Go.WideShapes Go.RowKit Go.Lib Go.Deep atr ctl

def boolV : Value → Bool
 | .bool b => b
 | _ => false
section
variable {H : Type} {enc : TypeId × Value → H} {W : World} {base : Nat} {sp : Nat → Bool} {held : Bool}
theorem strF {n : Nat} {v : Value} {y : DataW H × List MemPlace} (h : DataW.trod enc Tryz.prog W base sp held n 9 [v] = some y) (hL : Light Tryz.prog 9 y.1) : v = .string ⟨(strOf v).toArray⟩ ∧ (strOf v).length ≤ reachBytes := by
 obtain ⟨s, e, hy, _⟩ := DataW.trod_string Tryz.underlying9 h
 have e := (List.cons.inj e).1
 subst e
 refine ⟨rfl, ?_⟩
 rw [hy] at hL
 exact hL.str
theorem boolF {n : Nat} {v : Value} {y : DataW H × List MemPlace} (h : DataW.trod enc Tryz.prog W base sp held n 4 [v] = some y) : v = .bool (boolV v) := by
 obtain ⟨s, e, _⟩ := DataW.trod_bool Tryz.underlying4 h
 have e := (List.cons.inj e).1
 subst e; rfl
theorem intF {n : Nat} {v : Value} {y : DataW H × List MemPlace} (h : DataW.trod enc Tryz.prog W base sp held n 3 [v] = some y) : v = .int .i64 (RowKit.intOf v) ∧ (Lit.int .i64 (RowKit.intOf v)).wf = true := by
 obtain ⟨k, e, _, hk⟩ := DataW.trod_int Tryz.underlying3 h
 have e := (List.cons.inj e).1
 subst e
 exact ⟨rfl, hk⟩
def cellV (W : World) (b o : Nat) : Value := (W.cell? ⟨b, o, none⟩).getD undef
theorem open_attrsL {fuel : Nat} {cs : List Value} {x : DataW H × List MemPlace} (hL : Light Tryz.prog 38 x.1) (hlt : ∀ p ∈ x.2, p.block < W.heap.size) (h : DataW.trod enc Tryz.prog W base sp held fuel 38 cs = some x) :
  ∃ (v : Value) (l : List Attr), cs = [v] ∧ AttrsAt W v l ∧ CapOk v ∧ l.length * 32 ≤ reachBytes ∧ ∀ a ∈ l, a.1.length ≤ reachBytes ∧ a.2.length ≤ reachBytes := by
 rcases open_rows Tryz.underlying38 Tryz.underlying45 (by kernel_rfl) (by kernel_rfl) h hL with ⟨rfl, _⟩ | ⟨a, len, cap, rfl, hlc, hcm, hby, hpl, hf⟩
 ·exact ⟨_, [], rfl, AttrsAt.nil W, CapOk.nil, Nat.zero_le _, fun a h => by cases h⟩
 ·have hsz : Tryz.prog.bytesOf 45 = 32 := by kernel_rfl
  rw [hsz] at hby
  have hcap : CapOk (.slice (some a) len cap) := fun a n c e => by cases e; exact hlc
  rcases Nat.eq_zero_or_pos len with h0 | h0
  ·subst h0
   exact ⟨_, [], rfl, .inl ⟨rfl, _, _, rfl⟩, hcap, Nat.zero_le _, fun a h => by cases h⟩
  ·obtain ⟨b, off, spot⟩ := a
   have hspot : spot = none := by
    obtain ⟨v, y, n, hc, _⟩ := hf 0 h0 0 _ rfl
    simpa [Addr.add] using World.cell?_spot hc
   subst hspot
   have key : ∀ i, i < len → W.cell? ⟨b, off + i * 2, none⟩ = some (.string ⟨(strOf (cellV W b (off + i * 2))).toArray⟩) ∧ W.cell? ⟨b, off + i * 2 + 1, none⟩ = some (.string ⟨(strOf (cellV W b (off + i * 2 + 1))).toArray⟩) ∧
     (strOf (cellV W b (off + i * 2))).length ≤ reachBytes ∧ (strOf (cellV W b (off + i * 2 + 1))).length ≤ reachBytes := by
    intro i hi
    obtain ⟨v0, y0, n0, c0, t0, l0, _⟩ := hf i hi 0 _ rfl
    obtain ⟨v1, y1, n1, c1, t1, l1, _⟩ := hf i hi 1 _ rfl
    have c0 : W.cell? ⟨b, off + i * 2, none⟩ = some v0 := by rw [Go.WideShapes.add_plain] at c0; exact c0
    have c1 : W.cell? ⟨b, off + i * 2 + 1, none⟩ = some v1 := by rw [Go.WideShapes.add_plain] at c1; exact c1
    have e0 := strF t0 l0
    have e1 := strF t1 l1
    unfold cellV
    rw [c0, c1]
    exact ⟨congrArg some e0.1, congrArg some e1.1, e0.2, e1.2⟩
   refine ⟨_, (List.range len).map (fun i => (strOf (cellV W b (off + i * 2)), strOf (cellV W b (off + i * 2 + 1)))), rfl, .inr ⟨b, off, cap, by simp, by simpa using h0, hlt _ (hpl 0 (by show 0 < len * 2; omega)), ?_⟩, hcap, by simpa using hby, ?_⟩
   ·intro j hj
    have hj' : j < len := by simpa using hj
    simp only [List.getElem_map, List.getElem_range]
    exact ⟨(key j hj').1, (key j hj').2.1⟩
   ·intro a ha
    obtain ⟨i, hi, rfl⟩ := List.mem_map.1 ha
    exact (key i (List.mem_range.1 hi)).2.2
theorem open_intsL {fuel : Nat} {cs : List Value} {x : DataW H × List MemPlace} (hL : Light Tryz.prog 39 x.1) (hlt : ∀ p ∈ x.2, p.block < W.heap.size) (h : DataW.trod enc Tryz.prog W base sp held fuel 39 cs = some x) :
  ∃ (v : Value) (ks : List Int), cs = [v] ∧ IntsAt W v ks ∧ ks.length * 8 ≤ reachBytes ∧ ∀ k ∈ ks, (Lit.int .i64 k).wf = true := by
 rcases open_slice1 Tryz.underlying39 (by kernel_rfl) h with ⟨rfl, _⟩ | ⟨a, len, cap, m, n, V, D, Pl, rfl, hb, hl, hm, hmm, hx, hi⟩
 ·exact ⟨_, [], rfl, IntsAt.nil W, Nat.zero_le _, fun k h => by cases h⟩
 ·have hml : len ≤ m := by rw [hmm]; split <;> omega
  have hs : ∀ i, i < len → V i = .int .i64 (RowKit.intOf (V i)) ∧ (Lit.int .i64 (RowKit.intOf (V i))).wf = true := fun i h => intF (hi i (by omega)).2
  have hby : len * 8 ≤ reachBytes := by
   rw [hx] at hL
   have := hL.slice Tryz.underlying39
   simp only [List.length_map, List.length_range] at this
   have hsz : Tryz.prog.bytesOf 3 = 8 := by kernel_rfl
   rw [hsz] at this
   omega
  refine ⟨_, (List.range len).map (fun i => RowKit.intOf (V i)), rfl, ?_, by simpa using hby, ?_⟩
  ·rcases Nat.eq_zero_or_pos len with h0 | h0
   ·subst h0; exact .inl ⟨rfl, rfl, _, _, rfl⟩
   ·right
    obtain ⟨b, off, spot⟩ := a
    have c0 := (hi 0 (by omega)).1
    have hspot : spot = none := by simpa [Addr.add] using World.cell?_spot c0
    subst hspot
    refine ⟨b, off, cap, by simp, by simpa using h0, hlt (.cell b off) (by rw [hx]; exact List.mem_append_left _ (MemPlace.mem_row.2 ⟨0, by omega, rfl⟩)), ?_⟩
    intro j u hj
    have hjl : j < ((List.range len).map (fun i => RowKit.intOf (V i))).length := by
     have := (List.getElem?_eq_some_iff.1 hj).1
     rw [flat_len encI 1 encI_len] at this
     omega
    have hj' : j < len := by simpa using hjl
    rw [ints_get _ j hjl, List.getElem_map, List.getElem_range, ← (hs j hj').1] at hj
    cases hj
    have c1 := (hi j (by omega)).1
    rw [Go.WideShapes.add_plain] at c1
    exact c1
  ·intro k hk
   obtain ⟨i, hi', rfl⟩ := List.mem_map.1 hk
   exact (hs i (List.mem_range.1 hi')).2

structure NdOk (n : Nd) : Prop where
 fine : NFine n
 ab : n.attrs.length * 32 ≤ 140737488355328
 kb : n.kids.length * 8 ≤ 140737488355328
theorem list_of {α : Type} (_d : α) (n : Nat) (P : Nat → α → Prop) (h : ∀ i, i < n → ∃ a, P i a) : ∃ l : List α, l.length = n ∧ ∀ i (hi : i < l.length), P i l[i] := by
 induction n with
 | zero => exact ⟨[], rfl, fun i hi => absurd hi (Nat.not_lt_zero _)⟩
 | succ n ih =>
  obtain ⟨l, h1, h2⟩ := ih (fun i hi => h i (by omega))
  obtain ⟨a, ha⟩ := h n (by omega)
  refine ⟨l ++ [a], by simp [h1], fun i hi => ?_⟩
  rcases Nat.lt_or_ge i l.length with g | g
  ·rw [List.getElem_append_left g]; exact h2 i g
  ·have : i = n := by simp at hi; omega
   subst this
   rw [List.getElem_append_right g]
   simpa [h1] using ha
theorem open_nodes_cells {fuel : Nat} {cs : List Value} {x : DataW H × List MemPlace} (hL : Light Tryz.prog 22 x.1) (hlt : ∀ p ∈ x.2, p.block < W.heap.size) (h : DataW.trod enc Tryz.prog W base sp held fuel 22 cs = some x) :
  ∃ (v : Value) (l : List Nd), cs = [v] ∧ NodesAt W v l ∧ LFine l ∧ LBytes l := by
 rcases open_rows Tryz.underlying22 Tryz.underlying41 (by kernel_rfl) (by kernel_rfl) h hL with ⟨rfl, _⟩ | ⟨a, len, cap, rfl, hlc, hcm, hby, hpl, hf⟩
 ·exact ⟨_, [], rfl, .inl ⟨rfl, _, _, rfl⟩, ⟨Nat.zero_le _, fun a h => by cases h⟩, ⟨Nat.zero_le _, fun a h => (by cases h), fun a h => by cases h⟩⟩
 ·have hsz : Tryz.prog.bytesOf 41 = 88 := by kernel_rfl
  rw [hsz] at hby
  have hby' : len * 88 ≤ 140737488355328 := Nat.le_trans hby (by decide)
  rcases Nat.eq_zero_or_pos len with h0 | h0
  ·subst h0
   exact ⟨_, [], rfl, .inl ⟨rfl, _, _, rfl⟩, ⟨Nat.zero_le _, fun a h => by cases h⟩, ⟨Nat.zero_le _, fun a h => (by cases h), fun a h => by cases h⟩⟩
  ·obtain ⟨b, off, spot⟩ := a
   have hspot : spot = none := by
    obtain ⟨v, y, n, hc, _⟩ := hf 0 h0 0 _ rfl
    simpa [Addr.add] using World.cell?_spot hc
   subst hspot
   obtain ⟨l, hl1, hl2⟩ := list_of (default : Nd) len (fun i n => (∃ va vk, NodeAt W b (off + i * 5) n va vk) ∧ NdOk n) (by
    intro i hi
    obtain ⟨v0, y0, n0, c0, t0, l0, _⟩ := hf i hi 0 _ rfl
    obtain ⟨v1, y1, n1, c1, t1, l1, _⟩ := hf i hi 1 _ rfl
    obtain ⟨v2, y2, n2, c2, t2, l2, p2⟩ := hf i hi 2 _ rfl
    obtain ⟨v3, y3, n3, c3, t3, l3, _⟩ := hf i hi 3 _ rfl
    obtain ⟨v4, y4, n4, c4, t4, l4, p4⟩ := hf i hi 4 _ rfl
    have c0 : W.cell? ⟨b, off + (i * 5 + 0), none⟩ = some v0 := by rw [Go.WideShapes.add_plain] at c0; exact c0
    have c1 : W.cell? ⟨b, off + (i * 5 + 1), none⟩ = some v1 := by rw [Go.WideShapes.add_plain] at c1; exact c1
    have c2 : W.cell? ⟨b, off + (i * 5 + 2), none⟩ = some v2 := by rw [Go.WideShapes.add_plain] at c2; exact c2
    have c3 : W.cell? ⟨b, off + (i * 5 + 3), none⟩ = some v3 := by rw [Go.WideShapes.add_plain] at c3; exact c3
    have c4 : W.cell? ⟨b, off + (i * 5 + 4), none⟩ = some v4 := by rw [Go.WideShapes.add_plain] at c4; exact c4
    have e0 := strF t0 l0
    have e1 := strF t1 l1
    have e3 := intF t3
    obtain ⟨va, la, e2, hA, hcap, hab, han⟩ := open_attrsL l2 (fun p hp => hlt p (p2 p hp)) t2
    obtain ⟨vk, ks, e4, hK, hkb, hkn⟩ := open_intsL l4 (fun p hp => hlt p (p4 p hp)) t4
    have e2 := (List.cons.inj e2).1
    have e4 := (List.cons.inj e4).1
    subst e2
    subst e4
    refine ⟨⟨strOf v0, strOf v1, la, RowKit.intOf v3, ks⟩, ⟨v2, v4, ?_, ?_, ?_, ?_, ?_, hA, hK, hcap⟩, ⟨?_, ?_, ?_, ?_, ?_, e3.2, hkn⟩, Nat.le_trans hab (by decide), Nat.le_trans hkb (by decide)⟩
    ·rw [← e0.1]; exact c0
    ·rw [← e1.1]; exact c1
    ·exact c2
    ·rw [← e3.1]; exact c3
    ·exact c4
    ·exact Nat.le_trans e0.2 (by decide)
    ·exact Nat.le_trans e1.2 (by decide)
    ·exact Nat.le_trans (Nat.le_mul_of_pos_right _ (by decide)) (Nat.le_trans hab (by decide))
    ·show ks.length ≤ 17592186044416
     have : ks.length * 8 ≤ 140737488355328 := Nat.le_trans hkb (by decide)
     omega
    ·intro a ha
     exact ⟨Nat.le_trans (han a ha).1 (by decide), Nat.le_trans (han a ha).2 (by decide)⟩)
   have hm : ∀ n ∈ l, NdOk n := by
    intro n hn
    obtain ⟨i, hi, rfl⟩ := List.getElem_of_mem hn
    exact (hl2 i hi).2
   refine ⟨_, l, rfl, .inr ⟨b, off, cap, by rw [hl1], by omega, hlt _ (hpl 0 (by show 0 < len * 5; omega)), fun j hj => (hl2 j hj).1⟩, ⟨by omega, fun n hn => (hm n hn).fine⟩, ⟨by omega, fun n hn => (hm n hn).ab, fun n hn => (hm n hn).kb⟩⟩
structure CtlOk (c : Ctl) : Prop where
 value : c.value.length ≤ 140737488351232
 custom : c.custom.length ≤ 140737488351232
 files : c.files.length * 72 ≤ 140737488355328
 fname : ∀ a ∈ c.files, a.fname.length ≤ 140737488351232
theorem open_entsL {fuel : Nat} {cs : List Value} {x : DataW H × List MemPlace} (hL : Light Tryz.prog 33 x.1) (hlt : ∀ p ∈ x.2, p.block < W.heap.size) (h : DataW.trod enc Tryz.prog W base sp held fuel 33 cs = some x) :
  ∃ (v : Value) (fs : List Ent), cs = [v] ∧ EntsAt W v fs ∧ fs.length * 72 ≤ reachBytes ∧ ∀ a ∈ fs, a.fname.length ≤ reachBytes := by
 rcases open_rows Tryz.underlying33 Tryz.underlying110 (by kernel_rfl) (by kernel_rfl) h hL with ⟨rfl, _⟩ | ⟨a, len, cap, rfl, hlc, hcm, hby, hpl, hf⟩
 ·exact ⟨_, [], rfl, EntsAt.nil W, Nat.zero_le _, fun a h => by cases h⟩
 ·have hsz : Tryz.prog.bytesOf 110 = 72 := by kernel_rfl
  rw [hsz] at hby
  rcases Nat.eq_zero_or_pos len with h0 | h0
  ·subst h0
   exact ⟨_, [], rfl, .inl ⟨rfl, rfl, _, _, rfl⟩, Nat.zero_le _, fun a h => by cases h⟩
  ·obtain ⟨b, off, spot⟩ := a
   have hspot : spot = none := by
    obtain ⟨v, y, n, hc, _⟩ := hf 0 h0 0 _ rfl
    simpa [Addr.add] using World.cell?_spot hc
   subst hspot
   obtain ⟨l, hl1, hl2⟩ := list_of (default : Ent) len (fun i n => (∀ k, k < 5 → W.cell? ⟨b, off + (i * 5 + k), none⟩ = (encE n)[k]?) ∧ n.fname.length ≤ reachBytes) (by
    intro i hi
    obtain ⟨v0, y0, n0, c0, t0, l0, _⟩ := hf i hi 0 _ rfl
    obtain ⟨v1, y1, n1, c1, t1, l1, _⟩ := hf i hi 1 _ rfl
    obtain ⟨v2, y2, n2, c2, t2, l2, _⟩ := hf i hi 2 _ rfl
    obtain ⟨v3, y3, n3, c3, t3, l3, _⟩ := hf i hi 3 _ rfl
    obtain ⟨v4, y4, n4, c4, t4, l4, _⟩ := hf i hi 4 _ rfl
    have c0 : W.cell? ⟨b, off + (i * 5 + 0), none⟩ = some v0 := by rw [Go.WideShapes.add_plain] at c0; exact c0
    have c1 : W.cell? ⟨b, off + (i * 5 + 1), none⟩ = some v1 := by rw [Go.WideShapes.add_plain] at c1; exact c1
    have c2 : W.cell? ⟨b, off + (i * 5 + 2), none⟩ = some v2 := by rw [Go.WideShapes.add_plain] at c2; exact c2
    have c3 : W.cell? ⟨b, off + (i * 5 + 3), none⟩ = some v3 := by rw [Go.WideShapes.add_plain] at c3; exact c3
    have c4 : W.cell? ⟨b, off + (i * 5 + 4), none⟩ = some v4 := by rw [Go.WideShapes.add_plain] at c4; exact c4
    have e0 := strF t0 l0
    have e1 := strF t1 l1
    have e2 := boolF t2
    have e3 := strF t3 l3
    have e4 := strF t4 l4
    refine ⟨⟨strOf v0, strOf v1, boolV v2, strOf v3, strOf v4⟩, fun k hk => ?_, e3.2⟩
    match k, hk with
    | 0, _ => rw [c0]; exact congrArg some e0.1
    | 1, _ => rw [c1]; exact congrArg some e1.1
    | 2, _ => rw [c2]; exact congrArg some e2
    | 3, _ => rw [c3]; exact congrArg some e3.1
    | 4, _ => rw [c4]; exact congrArg some e4.1)
   refine ⟨_, l, rfl, .inr ⟨b, off, cap, by rw [hl1], by omega, hlt _ (hpl 0 (by show 0 < len * 5; omega)), ?_⟩, by omega, ?_⟩
   ·intro j u hj
    have hjl := (List.getElem?_eq_some_iff.1 hj).1
    rw [flat_len encE 5 encE_len] at hjl
    have hi : j / 5 < l.length := by omega
    have h1 := flat_at encE 5 encE_len l (j / 5) hi (j % 5) (by omega)
    rw [show j / 5 * 5 + j % 5 = j from by omega, hj] at h1
    have h2 := (hl2 (j / 5) hi).1 (j % 5) (by omega)
    rw [show j / 5 * 5 + j % 5 = j from by omega] at h2
    rw [h2]; exact h1.symm
   ·intro a ha
    obtain ⟨i, hi, rfl⟩ := List.getElem_of_mem ha
    exact (hl2 i hi).2
theorem open_ctls_cells {fuel : Nat} {cs : List Value} {x : DataW H × List MemPlace} (hL : Light Tryz.prog 26 x.1) (hlt : ∀ p ∈ x.2, p.block < W.heap.size) (h : DataW.trod enc Tryz.prog W base sp held fuel 26 cs = some x) :
  ∃ (v : Value) (l : List Ctl), cs = [v] ∧ CtlsAt W v l ∧ l.length * 64 ≤ 140737488355328 ∧ ∀ c ∈ l, CtlOk c := by
 rcases open_rows Tryz.underlying26 Tryz.underlying35 (by kernel_rfl) (by kernel_rfl) h hL with ⟨rfl, _⟩ | ⟨a, len, cap, rfl, hlc, hcm, hby, hpl, hf⟩
 ·exact ⟨_, [], rfl, .inl ⟨rfl, _, _, rfl⟩, Nat.zero_le _, fun a h => by cases h⟩
 ·have hsz : Tryz.prog.bytesOf 35 = 64 := by kernel_rfl
  rw [hsz] at hby
  have hby' : len * 64 ≤ 140737488355328 := Nat.le_trans hby (by decide)
  rcases Nat.eq_zero_or_pos len with h0 | h0
  ·subst h0
   exact ⟨_, [], rfl, .inl ⟨rfl, _, _, rfl⟩, Nat.zero_le _, fun a h => by cases h⟩
  ·obtain ⟨b, off, spot⟩ := a
   have hspot : spot = none := by
    obtain ⟨v, y, n, hc, _⟩ := hf 0 h0 0 _ rfl
    simpa [Addr.add] using World.cell?_spot hc
   subst hspot
   obtain ⟨l, hl1, hl2⟩ := list_of (default : Ctl) len (fun i c => (∃ f, CtlAt W b (off + i * 10) c f) ∧ CtlOk c) (by
    intro i hi
    obtain ⟨v0, y0, n0, c0, t0, l0, _⟩ := hf i hi 0 _ rfl
    obtain ⟨v1, y1, n1, c1, t1, _⟩ := hf i hi 1 _ rfl
    obtain ⟨v2, y2, n2, c2, t2, _⟩ := hf i hi 2 _ rfl
    obtain ⟨v3, y3, n3, c3, t3, _⟩ := hf i hi 3 _ rfl
    obtain ⟨v4, y4, n4, c4, t4, _⟩ := hf i hi 4 _ rfl
    obtain ⟨v5, y5, n5, c5, t5, _⟩ := hf i hi 5 _ rfl
    obtain ⟨v6, y6, n6, c6, t6, _⟩ := hf i hi 6 _ rfl
    obtain ⟨v7, y7, n7, c7, t7, _⟩ := hf i hi 7 _ rfl
    obtain ⟨v8, y8, n8, c8, t8, l8, _⟩ := hf i hi 8 _ rfl
    obtain ⟨v9, y9, n9, c9, t9, l9, p9⟩ := hf i hi 9 _ rfl
    have q : ∀ k v, W.cell? (Addr.add ⟨b, off, none⟩ (i * 10 + k)) = some v → W.cell? ⟨b, off + i * 10 + k, none⟩ = some v := fun k v h => by
     rw [Go.WideShapes.add_plain] at h; rw [Nat.add_assoc]; exact h
    have c0 := q 0 _ c0
    have c1 := q 1 _ c1
    have c2 := q 2 _ c2
    have c3 := q 3 _ c3
    have c4 := q 4 _ c4
    have c5 := q 5 _ c5
    have c6 := q 6 _ c6
    have c7 := q 7 _ c7
    have c8 := q 8 _ c8
    have c9 := q 9 _ c9
    have e0 := strF t0 l0
    have e8 := strF t8 l8
    obtain ⟨vf, fs, e9, hF, hfb, hfn⟩ := open_entsL l9 (fun p hp => hlt p (p9 p hp)) t9
    have e9 := (List.cons.inj e9).1
    subst e9
    refine ⟨⟨strOf v0, boolV v1, boolV v2, boolV v3, boolV v4, boolV v5, boolV v6, boolV v7, strOf v8, fs⟩, ⟨v9, fun k u hu => ?_, hF⟩, ⟨e0.2, e8.2, Nat.le_trans hfb (by decide), hfn⟩⟩
    unfold encC at hu
    rw [← e0.1, ← e8.1, ← boolF t1, ← boolF t2, ← boolF t3, ← boolF t4, ← boolF t5, ← boolF t6, ← boolF t7] at hu
    match k, hu with
    | 0, hu => cases hu; exact c0
    | 1, hu => cases hu; exact c1
    | 2, hu => cases hu; exact c2
    | 3, hu => cases hu; exact c3
    | 4, hu => cases hu; exact c4
    | 5, hu => cases hu; exact c5
    | 6, hu => cases hu; exact c6
    | 7, hu => cases hu; exact c7
    | 8, hu => cases hu; exact c8
    | 9, hu => cases hu; exact c9)
   refine ⟨_, l, rfl, .inr ⟨b, off, cap, by rw [hl1], by omega, hlt _ (hpl 0 (by show 0 < len * 10; omega)), fun j hj => (hl2 j hj).1⟩, by omega, ?_⟩
   intro c hc
   obtain ⟨i, hi, rfl⟩ := List.getElem_of_mem hc
   exact (hl2 i hi).2
def docV (vn vc : Value) : Value := .agg #[vn, vc]
theorem open_doc {r : Reach} {b0 : Nat} {v : Value} {dd : DataW H} {p : List MemPlace} (hv : Value.okWide Tryz.prog W r b0 28 v) (h : DataW.Trod enc Tryz.prog W 0 (fun _ => true) true 28 v dd p) (hL : Light Tryz.prog 28 dd) (hlt : ∀ q ∈ p, q.block < W.heap.size) :
  ∃ (vn vc : Value) (l : List Nd) (cs : List Ctl), v = docV vn vc ∧ NodesAt W vn l ∧ LFine l ∧ LBytes l ∧ CtlsAt W vc cs ∧ cs.length * 64 ≤ 140737488355328 ∧ ∀ c ∈ cs, CtlOk c := by
 obtain ⟨cs, rfl, hsz⟩ := okWide_struct Tryz.underlying28 hv
 obtain ⟨l⟩ := cs
 have hC : Tryz.prog.cellsOf 28 = 2 := by kernel_rfl
 match l, hsz.trans hC with
 | [c0, c1], _ =>
  obtain ⟨fuel, hf⟩ := h
  obtain ⟨_, hf⟩ := open_fields (x := (dd, p)) Tryz.underlying28 hf hL
  obtain ⟨y0, n0, t0, l0, p0⟩ := hf 0 _ rfl
  obtain ⟨y1, n1, t1, l1, p1⟩ := hf 1 _ rfl
  have z0 : Tryz.prog.cellsOf 22 = 1 := by kernel_rfl
  have z1 : Tryz.prog.cellsOf 26 = 1 := by kernel_rfl
  have t0 : DataW.trod enc Tryz.prog W 0 (fun _ => true) true n0 22 (([c0, c1].drop 0).take (Tryz.prog.cellsOf 22)) = some y0 := t0
  have t1 : DataW.trod enc Tryz.prog W 0 (fun _ => true) true n1 26 (([c0, c1].drop 1).take (Tryz.prog.cellsOf 26)) = some y1 := t1
  rw [z0] at t0
  rw [z1] at t1
  obtain ⟨vn, ln, e0, h1, h2, h3⟩ := open_nodes_cells l0 (fun q hq => hlt q (p0 q hq)) t0
  obtain ⟨vc, lc, e1, h4, h5, h6⟩ := open_ctls_cells l1 (fun q hq => hlt q (p1 q hq)) t1
  have e0 : c0 = vn := (List.cons.inj e0).1
  have e1 : c1 = vc := (List.cons.inj e1).1
  subst e0
  subst e1
  exact ⟨c0, c1, ln, lc, rfl, h1, h2, h3, h4, h5, h6⟩
end
end Go.Proofs.YtkhlfggnjcbniaaGreatDoor.doc
