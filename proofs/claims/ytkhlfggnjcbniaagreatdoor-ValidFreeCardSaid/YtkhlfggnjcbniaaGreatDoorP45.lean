/- A part of the proofs: lemmas and contracts. -/
import Derived.Test.YtkhlfggnjcbniaaGreatDoorP33
set_option maxHeartbeats 12800000
set_option maxRecDepth 1000000
namespace Go.Proofs.YtkhlfggnjcbniaaGreatDoor.ctl
open Go.ChangeShapes Go.WideShapes Go.RowKit Go.Lib Go.Deep atr

def boolOf : Value → Bool
 | .bool b => b
 | _ => false
section
variable {H : Type} {enc : TypeId × Value → H} {W : World} {base : Nat} {sp : Nat → Bool} {held : Bool}
theorem str_field {n : Nat} {v : Value} {y : DataW H × List MemPlace} (h : DataW.trod enc Tryz.prog W base sp held n 9 [v] = some y) (hL : Light Tryz.prog 9 y.1) : v = .string ⟨(strOf v).toArray⟩ ∧ (strOf v).length ≤ reachBytes := by
 obtain ⟨s, e, hy, _⟩ := DataW.trod_string Tryz.underlying9 h
 have e := (List.cons.inj e).1
 subst e
 refine ⟨rfl, ?_⟩
 rw [hy] at hL
 exact hL.str
theorem bool_field {n : Nat} {v : Value} {y : DataW H × List MemPlace} (h : DataW.trod enc Tryz.prog W base sp held n 4 [v] = some y) : v = .bool (boolOf v) := by
 obtain ⟨s, e, _⟩ := DataW.trod_bool Tryz.underlying4 h
 have e := (List.cons.inj e).1
 subst e; rfl
def cellAt (W : World) (b o : Nat) : Value := (W.cell? ⟨b, o, none⟩).getD undef
theorem open_ents_cells {fuel : Nat} {cs : List Value} {x : DataW H × List MemPlace} (hL : Light Tryz.prog 33 x.1) (hlt : ∀ p ∈ x.2, p.block < W.heap.size) (h : DataW.trod enc Tryz.prog W base sp held fuel 33 cs = some x) :
  ∃ (v : Value) (fs : List Ent), cs = [v] ∧ EntsAt W v fs ∧ fs.length * 72 ≤ reachBytes ∧ ∀ a ∈ fs, a.fname.length ≤ reachBytes := by
 rcases open_rows Tryz.underlying33 Tryz.underlying110 (by kernel_rfl) (by kernel_rfl) h hL with ⟨rfl, _⟩ | ⟨a, len, cap, rfl, hlc, hcm, hby, hpl, hf⟩
 ·exact ⟨_, [], rfl, EntsAt.nil W, Nat.zero_le _, fun a h => by cases h⟩
 ·have hsz : Tryz.prog.bytesOf 110 = 72 := by kernel_rfl
  rw [hsz] at hby
  rcases Nat.eq_zero_or_pos len with h0 | h0
  ·subst h0
   exact ⟨_, [], rfl, .inl ⟨rfl, rfl, _, _, rfl⟩, Nat.zero_le _, fun a h => by cases h⟩
  ·obtain ⟨b, off, spot⟩ := a
   have hspot : spot = none := by
    obtain ⟨v, y, n, hc, _⟩ := hf 0 h0 0 _ rfl
    simpa [Addr.add] using World.cell?_spot hc
   subst hspot
   have key : ∀ i, i < len → ∀ k, k < 5 → W.cell? ⟨b, off + (i * 5 + k), none⟩ = (encE ⟨strOf (cellAt W b (off + (i * 5 + 0))), strOf (cellAt W b (off + (i * 5 + 1))), boolOf (cellAt W b (off + (i * 5 + 2))), strOf (cellAt W b (off + (i * 5 + 3))), strOf (cellAt W b (off + (i * 5 + 4)))⟩)[k]? ∧ (strOf (cellAt W b (off + (i * 5 + 3)))).length ≤ reachBytes := by
    intro i hi k hk
    obtain ⟨v0, y0, n0, c0, t0, l0, _⟩ := hf i hi 0 _ rfl
    obtain ⟨v1, y1, n1, c1, t1, l1, _⟩ := hf i hi 1 _ rfl
    obtain ⟨v2, y2, n2, c2, t2, l2, _⟩ := hf i hi 2 _ rfl
    obtain ⟨v3, y3, n3, c3, t3, l3, _⟩ := hf i hi 3 _ rfl
    obtain ⟨v4, y4, n4, c4, t4, l4, _⟩ := hf i hi 4 _ rfl
    have c0 : W.cell? ⟨b, off + (i * 5 + 0), none⟩ = some v0 := by rw [Go.WideShapes.add_plain] at c0; exact c0
    have c1 : W.cell? ⟨b, off + (i * 5 + 1), none⟩ = some v1 := by rw [Go.WideShapes.add_plain] at c1; exact c1
    have c2 : W.cell? ⟨b, off + (i * 5 + 2), none⟩ = some v2 := by rw [Go.WideShapes.add_plain] at c2; exact c2
    have c3 : W.cell? ⟨b, off + (i * 5 + 3), none⟩ = some v3 := by rw [Go.WideShapes.add_plain] at c3; exact c3
    have c4 : W.cell? ⟨b, off + (i * 5 + 4), none⟩ = some v4 := by rw [Go.WideShapes.add_plain] at c4; exact c4
    have e0 := str_field t0 l0
    have e1 := str_field t1 l1
    have e2 := bool_field t2
    have e3 := str_field t3 l3
    have e4 := str_field t4 l4
    unfold cellAt
    rw [c0, c1, c2, c3, c4]
    dsimp only [Option.getD, encE]
    refine ⟨?_, e3.2⟩
    match k, hk with
    | 0, _ => rw [c0]; exact congrArg some e0.1
    | 1, _ => rw [c1]; exact congrArg some e1.1
    | 2, _ => rw [c2]; exact congrArg some e2
    | 3, _ => rw [c3]; exact congrArg some e3.1
    | 4, _ => rw [c4]; exact congrArg some e4.1
   refine ⟨_, (List.range len).map (fun i => ⟨strOf (cellAt W b (off + (i * 5 + 0))), strOf (cellAt W b (off + (i * 5 + 1))), boolOf (cellAt W b (off + (i * 5 + 2))), strOf (cellAt W b (off + (i * 5 + 3))), strOf (cellAt W b (off + (i * 5 + 4)))⟩), rfl, ?_, by simpa using hby, ?_⟩
   ·right
    refine ⟨b, off, cap, by simp, by simpa using h0, ?_, ?_⟩
    ·exact hlt _ (hpl 0 (by show 0 < len * 5; omega))
    ·intro j u hj
     have hlen := flat_len encE 5 encE_len ((List.range len).map (fun i => (⟨strOf (cellAt W b (off + (i * 5 + 0))), strOf (cellAt W b (off + (i * 5 + 1))), boolOf (cellAt W b (off + (i * 5 + 2))), strOf (cellAt W b (off + (i * 5 + 3))), strOf (cellAt W b (off + (i * 5 + 4)))⟩ : Ent)))
     have hjl := (List.getElem?_eq_some_iff.1 hj).1
     rw [hlen] at hjl
     have hlr : (List.range len).length = len := List.length_range
     rw [List.length_map, hlr] at hjl
     have hi : j / 5 < len := by omega
     have hk : j % 5 < 5 := by omega
     have e : j = j / 5 * 5 + j % 5 := by omega
     have h1 := flat_at encE 5 encE_len ((List.range len).map (fun i => (⟨strOf (cellAt W b (off + (i * 5 + 0))), strOf (cellAt W b (off + (i * 5 + 1))), boolOf (cellAt W b (off + (i * 5 + 2))), strOf (cellAt W b (off + (i * 5 + 3))), strOf (cellAt W b (off + (i * 5 + 4)))⟩ : Ent))) (j / 5) (by simpa using hi) (j % 5) hk
     rw [← e, hj, List.getElem_map, List.getElem_range] at h1
     have h2 := (key (j / 5) hi (j % 5) hk).1
     rw [← e] at h2
     rw [h2]; exact h1.symm
   ·intro a ha
    obtain ⟨i, hi, rfl⟩ := List.mem_map.1 ha
    exact (key i (List.mem_range.1 hi) 0 (by decide)).2
theorem open_ctl_cells {fuel : Nat} {c0 c1 c2 c3 c4 c5 c6 c7 c8 c9 : Value} {x : DataW H × List MemPlace} (hL : Light Tryz.prog 35 x.1) (hlt : ∀ p ∈ x.2, p.block < W.heap.size) (h : DataW.trod enc Tryz.prog W base sp held fuel 35 [c0, c1, c2, c3, c4, c5, c6, c7, c8, c9] = some x) :
  c0 = .string ⟨(strOf c0).toArray⟩ ∧ c1 = .bool (boolOf c1) ∧ c2 = .bool (boolOf c2) ∧ c3 = .bool (boolOf c3) ∧ c4 = .bool (boolOf c4) ∧ c5 = .bool (boolOf c5) ∧ c6 = .bool (boolOf c6) ∧ c7 = .bool (boolOf c7) ∧ c8 = .string ⟨(strOf c8).toArray⟩ ∧
   ∃ fs : List Ent, EntsAt W c9 fs ∧ fs.length * 72 ≤ reachBytes ∧ ∀ a ∈ fs, a.fname.length ≤ reachBytes := by
 obtain ⟨_, hf⟩ := open_fields Tryz.underlying35 h hL
 obtain ⟨y0, n0, t0, l0, _⟩ := hf 0 _ rfl
 obtain ⟨y1, n1, t1, _⟩ := hf 1 _ rfl
 obtain ⟨y2, n2, t2, _⟩ := hf 2 _ rfl
 obtain ⟨y3, n3, t3, _⟩ := hf 3 _ rfl
 obtain ⟨y4, n4, t4, _⟩ := hf 4 _ rfl
 obtain ⟨y5, n5, t5, _⟩ := hf 5 _ rfl
 obtain ⟨y6, n6, t6, _⟩ := hf 6 _ rfl
 obtain ⟨y7, n7, t7, _⟩ := hf 7 _ rfl
 obtain ⟨y8, n8, t8, l8, _⟩ := hf 8 _ rfl
 obtain ⟨y9, n9, t9, l9, p9⟩ := hf 9 _ rfl
 have z9 : Tryz.prog.cellsOf 9 = 1 := by kernel_rfl
 have z4 : Tryz.prog.cellsOf 4 = 1 := by kernel_rfl
 have z22 : Tryz.prog.cellsOf 33 = 1 := by kernel_rfl
 have t0 : DataW.trod enc Tryz.prog W base sp held n0 9 (([c0, c1, c2, c3, c4, c5, c6, c7, c8, c9].drop 0).take (Tryz.prog.cellsOf 9)) = some y0 := t0
 have t1 : DataW.trod enc Tryz.prog W base sp held n1 4 (([c0, c1, c2, c3, c4, c5, c6, c7, c8, c9].drop 1).take (Tryz.prog.cellsOf 4)) = some y1 := t1
 have t2 : DataW.trod enc Tryz.prog W base sp held n2 4 (([c0, c1, c2, c3, c4, c5, c6, c7, c8, c9].drop 2).take (Tryz.prog.cellsOf 4)) = some y2 := t2
 have t3 : DataW.trod enc Tryz.prog W base sp held n3 4 (([c0, c1, c2, c3, c4, c5, c6, c7, c8, c9].drop 3).take (Tryz.prog.cellsOf 4)) = some y3 := t3
 have t4 : DataW.trod enc Tryz.prog W base sp held n4 4 (([c0, c1, c2, c3, c4, c5, c6, c7, c8, c9].drop 4).take (Tryz.prog.cellsOf 4)) = some y4 := t4
 have t5 : DataW.trod enc Tryz.prog W base sp held n5 4 (([c0, c1, c2, c3, c4, c5, c6, c7, c8, c9].drop 5).take (Tryz.prog.cellsOf 4)) = some y5 := t5
 have t6 : DataW.trod enc Tryz.prog W base sp held n6 4 (([c0, c1, c2, c3, c4, c5, c6, c7, c8, c9].drop 6).take (Tryz.prog.cellsOf 4)) = some y6 := t6
 have t7 : DataW.trod enc Tryz.prog W base sp held n7 4 (([c0, c1, c2, c3, c4, c5, c6, c7, c8, c9].drop 7).take (Tryz.prog.cellsOf 4)) = some y7 := t7
 have t8 : DataW.trod enc Tryz.prog W base sp held n8 9 (([c0, c1, c2, c3, c4, c5, c6, c7, c8, c9].drop 8).take (Tryz.prog.cellsOf 9)) = some y8 := t8
 have t9 : DataW.trod enc Tryz.prog W base sp held n9 33 (([c0, c1, c2, c3, c4, c5, c6, c7, c8, c9].drop 9).take (Tryz.prog.cellsOf 33)) = some y9 := t9
 rw [z9] at t0 t8
 rw [z4] at t1 t2 t3 t4 t5 t6 t7
 rw [z22] at t9
 refine ⟨(str_field (v := c0) t0 l0).1, bool_field (v := c1) t1, bool_field (v := c2) t2, bool_field (v := c3) t3, bool_field (v := c4) t4, bool_field (v := c5) t5, bool_field (v := c6) t6, bool_field (v := c7) t7, (str_field (v := c8) t8 l8).1, ?_⟩
 obtain ⟨v, fs, e, h1, h2, h3⟩ := open_ents_cells (cs := [c9]) l9 (fun p hp => hlt p (p9 p hp)) t9
 have e := (List.cons.inj e).1
 subst e
 exact ⟨fs, h1, h2, h3⟩
end
end Go.Proofs.YtkhlfggnjcbniaaGreatDoor.ctl
namespace Go.Proofs.YtkhlfggnjcbniaaGreatDoor.doc
open Go.ChangeShapes Go.WideShapes Go.RowKit Go.Lib Go.Deep atr ctl

theorem open_ctl {H : Type} {enc : TypeId × Value → H} {W : World} {r : Reach} {b0 : Nat} {v : Value} {dd : DataW H} {p : List MemPlace} (hv : Value.okWide Tryz.prog W r b0 35 v) (h : DataW.Trod enc Tryz.prog W 0 (fun _ => true) true 35 v dd p) (hL : Light Tryz.prog 35 dd) (hlt : ∀ q ∈ p, q.block < W.heap.size) :
  ∃ (c : Ctl) (f : Value), v = .agg (encC c f).toArray ∧ EntsAt W f c.files ∧ c.files.length * 72 ≤ reachBytes ∧ ∀ a ∈ c.files, a.fname.length ≤ reachBytes := by
 obtain ⟨cs, rfl, hsz⟩ := okWide_struct Tryz.underlying35 hv
 obtain ⟨l⟩ := cs
 have hC : Tryz.prog.cellsOf 35 = 10 := by kernel_rfl
 match l, hsz.trans hC with
 | [c1, c2, c3, c4, c5, c6, c7, c8, c9, c10], _ =>
  obtain ⟨fuel, hf⟩ := h
  obtain ⟨e1, e2, e3, e4, e5, e6, e7, e8, e9, fs, h1, h2, h3⟩ := open_ctl_cells (x := (dd, p)) (c0 := c1) (c1 := c2) (c2 := c3) (c3 := c4) (c4 := c5) (c5 := c6) (c6 := c7) (c7 := c8) (c8 := c9) (c9 := c10) hL hlt hf
  refine ⟨⟨strOf c1, boolOf c2, boolOf c3, boolOf c4, boolOf c5, boolOf c6, boolOf c7, boolOf c8, strOf c9, fs⟩, c10, ?_, h1, h2, h3⟩
  unfold encC
  dsimp only
  rw [← e1, ← e2, ← e3, ← e4, ← e5, ← e6, ← e7, ← e8, ← e9]
end Go.Proofs.YtkhlfggnjcbniaaGreatDoor.doc
