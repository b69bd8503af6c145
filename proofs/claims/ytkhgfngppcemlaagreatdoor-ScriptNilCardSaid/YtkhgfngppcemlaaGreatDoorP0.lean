/- A block of cells that is known whole, and may be written. A function whose result, a struct, lies in a cell; beside it one slot, or two. -/
import Derived.ProofKit
import Derived.WalkKit
namespace Go.Proofs.YtkhgfngppcemlaaGreatDoor
open Go.RowKit

def Blk (w : World) (B : Nat) (cs : List Value) : Prop := ∃ T, w.heap[B]? = some (.cells cs.toArray T (0, 0))
theorem Blk.lt {w : World} {B : Nat} {cs : List Value} (h : Blk w B cs) : B < w.heap.size := by
  obtain ⟨T, h⟩ := h
  apply Nat.lt_of_not_le; intro g
  rw [Array.getElem?_eq_none g] at h; cases h
theorem Blk.cell {w : World} {B : Nat} {cs : List Value} (h : Blk w B cs) (k : Nat) : w.cell? ⟨B, k, none⟩ = cs[k]? := by
  obtain ⟨T, h⟩ := h
  simp [World.cell?, h]
theorem Blk.frozen {w : World} {B : Nat} {cs : List Value} (h : Blk w B cs) (k : Nat) : w.frozen? ⟨B, k, none⟩ = false := by
  obtain ⟨T, h⟩ := h
  simp [World.frozen?, h]
theorem Blk.set {w : World} {B : Nat} {cs : List Value} (h : Blk w B cs) (k : Nat) (v : Value) : Blk (w.setCell ⟨B, k, none⟩ v) B (cs.set k v) := by
  have hlt := h.lt
  obtain ⟨T, h⟩ := h
  have h' : w.heap[B] = .cells cs.toArray T (0, 0) := by simpa [Array.getElem?_eq_getElem hlt] using h
  refine ⟨T, ?_⟩
  show (w.heap.modify B _)[B]? = _
  rw [Array.getElem?_eq_getElem (by simpa using hlt), Array.getElem_modify_self, h']
  simp
theorem Blk.other {w : World} {B : Nat} {cs : List Value} (h : Blk w B cs) (a : Addr) (v : Value) (ha : a.block ≠ B) : Blk (w.setCell a v) B cs := by
  obtain ⟨T, h⟩ := h
  exact ⟨T, by rw [Below.heap_setCell w a v B (Ne.symm ha)]; exact h⟩
theorem Blk.alloc {w : World} {B : Nat} {cs : List Value} (h : Blk w B cs) (o : Obj) : Blk (w.alloc o) B cs := by
  have hlt := h.lt
  obtain ⟨T, h⟩ := h
  exact ⟨T, by rw [Below.heap_alloc w o B hlt]; exact h⟩
theorem Blk.drew {w : World} {B : Nat} {cs : List Value} (h : Blk w B cs) : Blk w.drew B cs := h
theorem Blk.fresh (w : World) (cs : List Value) (T : TypeId) : Blk (w.alloc (.cells cs.toArray T)) w.heap.size cs := by
  refine ⟨T, ?_⟩
  show (w.heap.push _)[w.heap.size]? = _
  simp
theorem Blk.below {w w' : World} {B : Nat} {cs : List Value} (h : Blk w B cs) {n : Nat} (hb : Below n w w') (hn : B < n) : Blk w' B cs := by
  obtain ⟨T, h⟩ := h
  exact ⟨T, by rw [hb.block _ hn]; exact h⟩
theorem Blk.kept {w w' : World} {B : Nat} {cs : List Value} (h : Blk w B cs) (hb : Below w.heap.size w w') : Blk w' B cs := h.below hb h.lt
/-- ten cells -/
theorem Blk.ten {w : World} {B : Nat} {a0 a1 a2 a3 a4 a5 a6 a7 a8 a9 : Value} (h : Blk w B [a0, a1, a2, a3, a4, a5, a6, a7, a8, a9]) :
    w.cell? ⟨B, 0, none⟩ = some a0 ∧ w.cell? ⟨B, 1, none⟩ = some a1 ∧ w.cell? ⟨B, 2, none⟩ = some a2 ∧ w.cell? ⟨B, 3, none⟩ = some a3 ∧ w.cell? ⟨B, 4, none⟩ = some a4 ∧ w.cell? ⟨B, 5, none⟩ = some a5 ∧ w.cell? ⟨B, 6, none⟩ = some a6 ∧ w.cell? ⟨B, 7, none⟩ = some a7 ∧ w.cell? ⟨B, 8, none⟩ = some a8 ∧ w.cell? ⟨B, 9, none⟩ = some a9 ∧
    w.frozen? ⟨B, 0, none⟩ = false ∧ w.frozen? ⟨B, 1, none⟩ = false ∧ w.frozen? ⟨B, 2, none⟩ = false ∧ w.frozen? ⟨B, 3, none⟩ = false ∧ w.frozen? ⟨B, 4, none⟩ = false ∧ w.frozen? ⟨B, 5, none⟩ = false ∧ w.frozen? ⟨B, 6, none⟩ = false ∧ w.frozen? ⟨B, 7, none⟩ = false ∧ w.frozen? ⟨B, 8, none⟩ = false ∧ w.frozen? ⟨B, 9, none⟩ = false :=
  ⟨h.cell 0, h.cell 1, h.cell 2, h.cell 3, h.cell 4, h.cell 5, h.cell 6, h.cell 7, h.cell 8, h.cell 9, h.frozen 0, h.frozen 1, h.frozen 2, h.frozen 3, h.frozen 4, h.frozen 5, h.frozen 6, h.frozen 7, h.frozen 8, h.frozen 9⟩
end Go.Proofs.YtkhgfngppcemlaaGreatDoor
namespace Go.Proofs.YtkhgfngppcemlaaGreatDoor
open Go.RowKit
theorem rcell1 {fn : Func} {p : Tmp} {ty : TypeId} (h : fn.results = #[.cell p ty]) (tmps : Array Value) (P : Program) (w : World) :
    (results fn tmps).run P w = ((asAddr (tmps.getD p undef)).run P w).andThen fun a w₁ => (loadVar ty a).run P w₁ := by
  simp only [results, h]
  simp [Sem.run_bind, Result.andThen]
end Go.Proofs.YtkhgfngppcemlaaGreatDoor
