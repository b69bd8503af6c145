/- What every contract asks of the world: the library's variables that are read hold what they were laid with (or some number); and that this is kept by whatever leaves the old blocks as they are. Small facts on bytes. -/
import Derived.Lib.Hide
import Derived.Lib.ItoaMem
import Derived.ProofKit
import Derived.WalkKit
import Derived.WalkSmall
import Derived.Test.YtkhlfggnjcbniaaGreatDoorRows
namespace Go.Proofs.YtkhlfggnjcbniaaGreatDoor
open Go.RowKit

/-- The library's variables, as far as they are read: a number, and the powers of ten. -/
structure G (w : World) : Prop where
  ml : ∃ m, w.cell? ⟨6, 0, none⟩ = some (.int .i64 m)
  p10 : Lib.TabIs Tryz.prog w "internal/strconv.uint64pow10" .u64 Lib.pow10Tab
/-- .. and the two errors. -/
structure GE (w : World) : Prop where
  er : ∃ ev, w.cell? ⟨5, 0, none⟩ = some ev ∧ (ev = .nilIface ∨ ∃ te pe, ev = .iface te pe)
  es : ∃ ev, w.cell? ⟨4, 0, none⟩ = some ev ∧ (ev = .nilIface ∨ ∃ te pe, ev = .iface te pe)

theorem gPow : Tryz.prog.globalNamed "internal/strconv.uint64pow10" = some 7 := by kernel_rfl

theorem lt_of_cell {w : World} {b o : Nat} {v : Value} (h : w.cell? ⟨b, o, none⟩ = some v) : b < w.heap.size := by
  apply Nat.lt_of_not_le; intro g
  simp [World.cell?, Array.getElem?_eq_none g] at h

theorem lt_of_var {P : Program} {w : World} {n : String} {g : Nat} {cs : Array Value} (hg : P.globalNamed n = some g) (hv : w.var? P n = some cs) : g < w.heap.size := by
  apply Nat.lt_of_not_le; intro h
  unfold World.var? at hv
  simp [hg, Array.getElem?_eq_none h] at hv

theorem cell_below {w w' : World} (h : Below w.heap.size w w') {b o : Nat} {v : Value} (hc : w.cell? ⟨b, o, none⟩ = some v) : w'.cell? ⟨b, o, none⟩ = some v := by
  rw [h.cell (lt_of_cell hc)]; exact hc

theorem G.below {w w' : World} (h : G w) (hb : Below w.heap.size w w') : G w' where
  ml := h.ml.elim fun m hm => ⟨m, cell_below hb hm⟩
  p10 := var?_below hb gPow (lt_of_var gPow h.p10) h.p10
theorem GE.below {w w' : World} (h : GE w) (hb : Below w.heap.size w w') : GE w' where
  er := h.er.elim fun ev he => ⟨ev, cell_below hb he.1, he.2⟩
  es := h.es.elim fun ev he => ⟨ev, cell_below hb he.1, he.2⟩
theorem below_trans {a b c : World} (h : Below a.heap.size a b) (k : Below b.heap.size b c) : Below a.heap.size a c := h.trans (k.mono h.size)

/-- strings joined -/
theorem bapp0 (a b : Array UInt8) : (⟨a⟩ : ByteArray) ++ ⟨b⟩ = ⟨a ++ b⟩ := by
  apply ByteArray.ext
  rw [ByteArray.data_append]
@[go_sem] theorem bapp (a b : List UInt8) : (⟨a.toArray⟩ : ByteArray) ++ ⟨b.toArray⟩ = ⟨(a ++ b).toArray⟩ := by rw [bapp0]; simp
@[go_sem] theorem bapp1 (c : UInt8) (b : List UInt8) : (⟨#[c]⟩ : ByteArray) ++ ⟨b.toArray⟩ = ⟨(c :: b).toArray⟩ := by rw [bapp0]; simp
@[go_sem] theorem bapp2 (a : List UInt8) (c : UInt8) : (⟨a.toArray⟩ : ByteArray) ++ ⟨#[c]⟩ = ⟨(a ++ [c]).toArray⟩ := by rw [bapp0]; simp

/-- a piece of a string -/
@[go_sem] theorem bext (x : List UInt8) (a b : Nat) : (⟨x.toArray⟩ : ByteArray).extract a b = ⟨((x.drop a).take (b - a)).toArray⟩ := by rw [ByteArray.extract_mk]
@[go_sem] theorem take_drop_all (x : List UInt8) (a : Nat) : (x.drop a).take (x.length - a) = x.drop a := List.take_of_length_le (by simp)

@[go_sem] theorem take_tail_all (x : List UInt8) : x.tail.take (x.length - 1) = x.tail := List.take_of_length_le (by simp)

theorem bsize (x : List UInt8) : (⟨x.toArray⟩ : ByteArray).size = x.length := rfl

end Go.Proofs.YtkhlfggnjcbniaaGreatDoor
namespace Go.Proofs.YtkhlfggnjcbniaaGreatDoor.link
open Go.ChangeShapes Go.WideShapes Go.ChangeAt Go.RowKit Go.Lib

theorem ret_bool {a b : Bool} (h : a = b) : Ending.returned (.bool a) = .returned (.bool b) := by rw [h]
theorem ret_int {k : IntKind} {a b : Int} (h : a = b) : Ending.returned (.int k a) = .returned (.int k b) := by rw [h]

theorem byte_at (l : List UInt8) (i : Nat) (h : i < l.length) : ∃ c rest, l.drop i = c :: rest ∧ l.drop (i + 1) = rest ∧ ∀ h', (⟨l.toArray⟩ : ByteArray)[i]'h' = c :=
  ⟨l[i], l.drop (i + 1), List.drop_eq_getElem_cons h, rfl, fun _ => rfl⟩

theorem byteq (c d : UInt8) (n : Int) (h : (d.toNat : Int) = n) : ((c.toNat : Int) == n) = (c == d) := by
  subst h
  rw [Bool.eq_iff_iff]
  simp only [beq_iff_eq]
  constructor
  · intro h; exact UInt8.toNat_inj.1 (by omega)
  · rintro rfl; rfl

end Go.Proofs.YtkhlfggnjcbniaaGreatDoor.link
