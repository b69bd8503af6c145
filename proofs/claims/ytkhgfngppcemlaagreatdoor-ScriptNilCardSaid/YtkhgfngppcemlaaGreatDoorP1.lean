/- What every contract asks of the world: the library's variables that are read hold what they were laid with (or some number); and that this is kept by whatever leaves the old blocks as they are. Small facts on bytes. A function that has one struct of ten cells in a box, and its result in another: both blocks, above what was there at first. -/
import Derived.Lib.Hide
import Derived.Lib.ItoaMem
import Derived.ProofKit
import Derived.WalkKit
import Derived.WalkSmall
import Derived.Test.YtkhgfngppcemlaaGreatDoorRows
import Derived.Test.YtkhgfngppcemlaaGreatDoorP0
namespace Go.Proofs.YtkhgfngppcemlaaGreatDoor
open Go.RowKit

/-- The library's variables, as far as they are read: a number, and the powers of ten. -/
structure G (w : World) : Prop where
  ml : ∃ m, w.cell? ⟨0, 0, none⟩ = some (.int .i64 m)
  p10 : Lib.TabIs Tryz.prog w "internal/strconv.uint64pow10" .u64 Lib.pow10Tab
theorem gPow : Tryz.prog.globalNamed "internal/strconv.uint64pow10" = some 3 := by kernel_rfl

theorem lt_of_cell {w : World} {b o : Nat} {v : Value} (h : w.cell? ⟨b, o, none⟩ = some v) : b < w.heap.size := by
  apply Nat.lt_of_not_le; intro g
  simp [World.cell?, Array.getElem?_eq_none g] at h

theorem lt_of_var {P : Program} {w : World} {n : String} {g : Nat} {cs : Array Value} (hg : P.globalNamed n = some g) (hv : w.var? P n = some cs) : g < w.heap.size := by
  apply Nat.lt_of_not_le; intro h
  unfold World.var? at hv
  simp [hg, Array.getElem?_eq_none h] at hv

theorem cell_below {w w' : World} (h : Below w.heap.size w w') {b o : Nat} {v : Value} (hc : w.cell? ⟨b, o, none⟩ = some v) : w'.cell? ⟨b, o, none⟩ = some v := by
  rw [h.cell (lt_of_cell hc)]; exact hc

theorem G.below {w w' : World} (h : G w) (hb : Below w.heap.size w w') : G w' where
  ml := h.ml.elim fun m hm => ⟨m, cell_below hb hm⟩
  p10 := var?_below hb gPow (lt_of_var gPow h.p10) h.p10
theorem below_trans {a b c : World} (h : Below a.heap.size a b) (k : Below b.heap.size b c) : Below a.heap.size a c := h.trans (k.mono h.size)

/-- strings joined -/
theorem bapp0 (a b : Array UInt8) : (⟨a⟩ : ByteArray) ++ ⟨b⟩ = ⟨a ++ b⟩ := by
  apply ByteArray.ext
  rw [ByteArray.data_append]
@[go_sem] theorem bapp (a b : List UInt8) : (⟨a.toArray⟩ : ByteArray) ++ ⟨b.toArray⟩ = ⟨(a ++ b).toArray⟩ := by rw [bapp0]; simp
@[go_sem] theorem bapp1 (c : UInt8) (b : List UInt8) : (⟨#[c]⟩ : ByteArray) ++ ⟨b.toArray⟩ = ⟨(c :: b).toArray⟩ := by rw [bapp0]; simp
@[go_sem] theorem bapp2 (a : List UInt8) (c : UInt8) : (⟨a.toArray⟩ : ByteArray) ++ ⟨#[c]⟩ = ⟨(a ++ [c]).toArray⟩ := by rw [bapp0]; simp

/-- a piece of a string -/
@[go_sem] theorem bext (x : List UInt8) (a b : Nat) : (⟨x.toArray⟩ : ByteArray).extract a b = ⟨((x.drop a).take (b - a)).toArray⟩ := by rw [ByteArray.extract_mk]
@[go_sem] theorem take_drop_all (x : List UInt8) (a : Nat) : (x.drop a).take (x.length - a) = x.drop a := List.take_of_length_le (by simp)

@[go_sem] theorem take_tail_all (x : List UInt8) : x.tail.take (x.length - 1) = x.tail := List.take_of_length_le (by simp)

theorem bsize (x : List UInt8) : (⟨x.toArray⟩ : ByteArray).size = x.length := rfl

end Go.Proofs.YtkhgfngppcemlaaGreatDoor
namespace Go.Proofs.YtkhgfngppcemlaaGreatDoor.link
open Go.ChangeShapes Go.WideShapes Go.ChangeAt Go.RowKit Go.Lib

theorem ret_bool {a b : Bool} (h : a = b) : Ending.returned (.bool a) = .returned (.bool b) := by rw [h]
theorem ret_int {k : IntKind} {a b : Int} (h : a = b) : Ending.returned (.int k a) = .returned (.int k b) := by rw [h]

theorem byte_at (l : List UInt8) (i : Nat) (h : i < l.length) : ∃ c rest, l.drop i = c :: rest ∧ l.drop (i + 1) = rest ∧ ∀ h', (⟨l.toArray⟩ : ByteArray)[i]'h' = c :=
  ⟨l[i], l.drop (i + 1), List.drop_eq_getElem_cons h, rfl, fun _ => rfl⟩

end Go.Proofs.YtkhgfngppcemlaaGreatDoor.link
namespace Go.Proofs.YtkhgfngppcemlaaGreatDoor
open Go.RowKit

structure Two (w w1 : World) (cs rs : List Value) : Prop where
  low : Below w.heap.size w w1
  p : Blk w1 w.heap.size cs
  r : Blk w1 (w.heap.size + 1) rs
theorem Two.start (w : World) (cs rs : List Value) (T T' : TypeId) : Two w ((w.alloc (.cells cs.toArray T)).alloc (.cells rs.toArray T')) cs rs :=
  ⟨((Below.refl _ _).alloc (Nat.le_refl _) _).alloc (by simp) _, (Blk.fresh w cs T).alloc _, by
    have h := Blk.fresh (w.alloc (.cells cs.toArray T)) rs T'
    rw [World.size_alloc] at h
    exact h⟩
theorem Two.below {w w1 w2 : World} {cs rs : List Value} (h : Two w w1 cs rs) (hb : Below w1.heap.size w1 w2) : Two w w2 cs rs :=
  ⟨below_trans h.low hb, h.p.kept hb, h.r.kept hb⟩
theorem Two.drew {w w1 : World} {cs rs : List Value} (h : Two w w1 cs rs) : Two w w1.drew cs rs := ⟨h.low.drew, h.p, h.r⟩
theorem Two.facts {w w1 : World} {a0 a1 a2 a3 a4 a5 a6 a7 a8 a9 r0 r1 r2 r3 r4 r5 r6 r7 r8 r9 : Value} (h : Two w w1 [a0, a1, a2, a3, a4, a5, a6, a7, a8, a9] [r0, r1, r2, r3, r4, r5, r6, r7, r8, r9]) :
    w1.cell? ⟨w.heap.size, 0, none⟩ = some a0 ∧ w1.cell? ⟨w.heap.size, 1, none⟩ = some a1 ∧ w1.cell? ⟨w.heap.size, 2, none⟩ = some a2 ∧ w1.cell? ⟨w.heap.size, 3, none⟩ = some a3 ∧ w1.cell? ⟨w.heap.size, 4, none⟩ = some a4 ∧ w1.cell? ⟨w.heap.size, 5, none⟩ = some a5 ∧ w1.cell? ⟨w.heap.size, 6, none⟩ = some a6 ∧ w1.cell? ⟨w.heap.size, 7, none⟩ = some a7 ∧ w1.cell? ⟨w.heap.size, 8, none⟩ = some a8 ∧ w1.cell? ⟨w.heap.size, 9, none⟩ = some a9 ∧
    w1.frozen? ⟨w.heap.size, 0, none⟩ = false ∧ w1.frozen? ⟨w.heap.size, 1, none⟩ = false ∧ w1.frozen? ⟨w.heap.size, 2, none⟩ = false ∧ w1.frozen? ⟨w.heap.size, 3, none⟩ = false ∧ w1.frozen? ⟨w.heap.size, 4, none⟩ = false ∧ w1.frozen? ⟨w.heap.size, 5, none⟩ = false ∧ w1.frozen? ⟨w.heap.size, 6, none⟩ = false ∧ w1.frozen? ⟨w.heap.size, 7, none⟩ = false ∧ w1.frozen? ⟨w.heap.size, 8, none⟩ = false ∧ w1.frozen? ⟨w.heap.size, 9, none⟩ = false ∧
    w1.cell? ⟨w.heap.size + 1, 0, none⟩ = some r0 ∧ w1.cell? ⟨w.heap.size + 1, 1, none⟩ = some r1 ∧ w1.cell? ⟨w.heap.size + 1, 2, none⟩ = some r2 ∧ w1.cell? ⟨w.heap.size + 1, 3, none⟩ = some r3 ∧ w1.cell? ⟨w.heap.size + 1, 4, none⟩ = some r4 ∧ w1.cell? ⟨w.heap.size + 1, 5, none⟩ = some r5 ∧ w1.cell? ⟨w.heap.size + 1, 6, none⟩ = some r6 ∧ w1.cell? ⟨w.heap.size + 1, 7, none⟩ = some r7 ∧ w1.cell? ⟨w.heap.size + 1, 8, none⟩ = some r8 ∧ w1.cell? ⟨w.heap.size + 1, 9, none⟩ = some r9 ∧
    w1.frozen? ⟨w.heap.size + 1, 0, none⟩ = false ∧ w1.frozen? ⟨w.heap.size + 1, 1, none⟩ = false ∧ w1.frozen? ⟨w.heap.size + 1, 2, none⟩ = false ∧ w1.frozen? ⟨w.heap.size + 1, 3, none⟩ = false ∧ w1.frozen? ⟨w.heap.size + 1, 4, none⟩ = false ∧ w1.frozen? ⟨w.heap.size + 1, 5, none⟩ = false ∧ w1.frozen? ⟨w.heap.size + 1, 6, none⟩ = false ∧ w1.frozen? ⟨w.heap.size + 1, 7, none⟩ = false ∧ w1.frozen? ⟨w.heap.size + 1, 8, none⟩ = false ∧ w1.frozen? ⟨w.heap.size + 1, 9, none⟩ = false :=
  ⟨h.p.cell 0, h.p.cell 1, h.p.cell 2, h.p.cell 3, h.p.cell 4, h.p.cell 5, h.p.cell 6, h.p.cell 7, h.p.cell 8, h.p.cell 9, h.p.frozen 0, h.p.frozen 1, h.p.frozen 2, h.p.frozen 3, h.p.frozen 4, h.p.frozen 5, h.p.frozen 6, h.p.frozen 7, h.p.frozen 8, h.p.frozen 9, h.r.cell 0, h.r.cell 1, h.r.cell 2, h.r.cell 3, h.r.cell 4, h.r.cell 5, h.r.cell 6, h.r.cell 7, h.r.cell 8, h.r.cell 9, h.r.frozen 0, h.r.frozen 1, h.r.frozen 2, h.r.frozen 3, h.r.frozen 4, h.r.frozen 5, h.r.frozen 6, h.r.frozen 7, h.r.frozen 8, h.r.frozen 9⟩
end Go.Proofs.YtkhgfngppcemlaaGreatDoor
