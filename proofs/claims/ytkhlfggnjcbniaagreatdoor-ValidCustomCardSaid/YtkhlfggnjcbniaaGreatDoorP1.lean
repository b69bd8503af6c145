/- A part of the proofs: lemmas and contracts. -/
import Derived.Ground.MpProg
import Derived.Lib.ItoaMem
import Derived.Shelf.Strings.BuilderK
import Derived.WalkSmall
import Derived.Test.YtkhlfggnjcbniaaGreatDoorP0
set_option maxHeartbeats 12800000
set_option maxRecDepth 1000000
namespace Go.Proofs.YtkhlfggnjcbniaaGreatDoor
open Go.RowKit

structure G (w : World) : Prop where
 ml : ∃ m, w.cell? ⟨6, 0, none⟩ = some (.int .i64 m)
 p10 : Lib.TabIs Tryz.prog w "internal/strconv.uint64pow10" .u64 Lib.pow10Tab
structure GE (w : World) : Prop where
 er : ∃ ev, w.cell? ⟨5, 0, none⟩ = some ev ∧ (ev = .nilIface ∨ ∃ te pe, ev = .iface te pe)
 es : ∃ ev, w.cell? ⟨4, 0, none⟩ = some ev ∧ (ev = .nilIface ∨ ∃ te pe, ev = .iface te pe)

theorem gPow : Tryz.prog.globalNamed "internal/strconv.uint64pow10" = some 7 := by kernel_rfl

theorem lt_of_cell {w : World} {b o : Nat} {v : Value} (h : w.cell? ⟨b, o, none⟩ = some v) : b < w.heap.size := by
 apply Nat.lt_of_not_le; intro g
 simp [World.cell?, Array.getElem?_eq_none g] at h

theorem lt_of_var {P : Program} {w : World} {n : String} {g : Nat} {cs : Array Value} (hg : P.globalNamed n = some g) (hv : w.var? P n = some cs) : g < w.heap.size := by
 apply Nat.lt_of_not_le; intro h
 unfold World.var? at hv
 simp [hg, Array.getElem?_eq_none h] at hv

theorem cell_below {w w' : World} (h : Below w.heap.size w w') {b o : Nat} {v : Value} (hc : w.cell? ⟨b, o, none⟩ = some v) : w'.cell? ⟨b, o, none⟩ = some v := by
 rw [h.cell (lt_of_cell hc)]; exact hc

theorem G.below {w w' : World} (h : G w) (hb : Below w.heap.size w w') : G w' where
 ml := h.ml.elim fun m hm => ⟨m, cell_below hb hm⟩
 p10 := var?_below hb gPow (lt_of_var gPow h.p10) h.p10
theorem GE.below {w w' : World} (h : GE w) (hb : Below w.heap.size w w') : GE w' where
 er := h.er.elim fun ev he => ⟨ev, cell_below hb he.1, he.2⟩
 es := h.es.elim fun ev he => ⟨ev, cell_below hb he.1, he.2⟩
theorem below_trans {a b c : World} (h : Below a.heap.size a b) (k : Below b.heap.size b c) : Below a.heap.size a c := h.trans (k.mono h.size)

theorem bapp0 (a b : Array UInt8) : (⟨a⟩ : ByteArray) ++ ⟨b⟩ = ⟨a ++ b⟩ := by
 apply ByteArray.ext
 rw [ByteArray.data_append]
@[go_sem] theorem bapp (a b : List UInt8) : (⟨a.toArray⟩ : ByteArray) ++ ⟨b.toArray⟩ = ⟨(a ++ b).toArray⟩ := by rw [bapp0]; simp
@[go_sem] theorem bapp1 (c : UInt8) (b : List UInt8) : (⟨#[c]⟩ : ByteArray) ++ ⟨b.toArray⟩ = ⟨(c :: b).toArray⟩ := by rw [bapp0]; simp
@[go_sem] theorem bapp2 (a : List UInt8) (c : UInt8) : (⟨a.toArray⟩ : ByteArray) ++ ⟨#[c]⟩ = ⟨(a ++ [c]).toArray⟩ := by rw [bapp0]; simp

@[go_sem] theorem bext (x : List UInt8) (a b : Nat) : (⟨x.toArray⟩ : ByteArray).extract a b = ⟨((x.drop a).take (b - a)).toArray⟩ := by rw [ByteArray.extract_mk]
@[go_sem] theorem take_drop_all (x : List UInt8) (a : Nat) : (x.drop a).take (x.length - a) = x.drop a := List.take_of_length_le (by simp)

@[go_sem] theorem take_tail_all (x : List UInt8) : x.tail.take (x.length - 1) = x.tail := List.take_of_length_le (by simp)

theorem bsize (x : List UInt8) : (⟨x.toArray⟩ : ByteArray).size = x.length := rfl

end Go.Proofs.YtkhlfggnjcbniaaGreatDoor
namespace Go.Proofs.YtkhlfggnjcbniaaGreatDoor.link
open Go.ChangeShapes Go.WideShapes Go.ChangeAt Go.RowKit Go.Lib

theorem ret_bool {a b : Bool} (h : a = b) : Ending.returned (.bool a) = .returned (.bool b) := by rw [h]
theorem ret_int {k : IntKind} {a b : Int} (h : a = b) : Ending.returned (.int k a) = .returned (.int k b) := by rw [h]

theorem byte_at (l : List UInt8) (i : Nat) (h : i < l.length) : ∃ c rest, l.drop i = c :: rest ∧ l.drop (i + 1) = rest ∧ ∀ h', (⟨l.toArray⟩ : ByteArray)[i]'h' = c :=
 ⟨l[i], l.drop (i + 1), List.drop_eq_getElem_cons h, rfl, fun _ => rfl⟩

theorem byteq (c d : UInt8) (n : Int) (h : (d.toNat : Int) = n) : ((c.toNat : Int) == n) = (c == d) := by
 subst h
 rw [Bool.eq_iff_iff]
 simp only [beq_iff_eq]
 constructor
 ·intro h; exact UInt8.toNat_inj.1 (by omega)
 ·rintro rfl; rfl

end Go.Proofs.YtkhlfggnjcbniaaGreatDoor.link
namespace Go.Proofs.YtkhlfggnjcbniaaGreatDoor
open Go.RowKit

structure Two (w w1 : World) (cs rs : List Value) : Prop where
 low : Below w.heap.size w w1
 p : Blk w1 w.heap.size cs
 r : Blk w1 (w.heap.size + 1) rs
end Go.Proofs.YtkhlfggnjcbniaaGreatDoor
namespace Go.Proofs.YtkhlfggnjcbniaaGreatDoor.doc
open Go.Shelf Go.ChangeShapes Go.WideShapes Go.ChangeAt Go.RowKit

def ren170 : Go.Shelf.Ren := ⟨fun | 170 => 280 | n => n, fun | 0 => 0 | 3 => 3 | 37 => 106 | 70 => 212 | 72 => 214 | n => n, fun | n => n⟩
theorem lays170 : Go.Proofs.Lays.n170 Tryz.prog ren170 := {
 mixed := by kernel_rfl
 f170 := Tryz.func280.trans (congrArg some (by kernel_rfl))
 t0 := Tryz.underlying0
 a0 := Tryz.isAgg0
 z0 := Tryz.sizeOf0
 v0 := Tryz.zeroValue0
 t3 := Tryz.underlying3
 a3 := Tryz.isAgg3
 z3 := Tryz.sizeOf3
 v3 := Tryz.zeroValue3
 t37 := Tryz.underlying106
 a37 := Tryz.isAgg106
 z37 := Tryz.sizeOf106
 v37 := Tryz.zeroValue106
 t70 := Tryz.underlying212
 a70 := Tryz.isAgg212
 z70 := Tryz.sizeOf212
 v70 := Tryz.zeroValue212
 t72 := Tryz.underlying214
 a72 := Tryz.isAgg214
 z72 := Tryz.sizeOf214
 v72 := Tryz.zeroValue214 }
def ren169 : Go.Shelf.Ren := ⟨fun | 169 => 282 | n => n, fun | 0 => 0 | 3 => 3 | 9 => 9 | 37 => 106 | 70 => 212 | 72 => 214 | 127 => 253 | n => n, fun | n => n⟩
theorem lays169 : Go.Proofs.Lays.n169 Tryz.prog ren169 := {
 mixed := by kernel_rfl
 f169 := Tryz.func282.trans (congrArg some (by kernel_rfl))
 t0 := Tryz.underlying0
 a0 := Tryz.isAgg0
 z0 := Tryz.sizeOf0
 v0 := Tryz.zeroValue0
 t3 := Tryz.underlying3
 a3 := Tryz.isAgg3
 z3 := Tryz.sizeOf3
 v3 := Tryz.zeroValue3
 t9 := Tryz.underlying9
 a9 := Tryz.isAgg9
 z9 := Tryz.sizeOf9
 v9 := Tryz.zeroValue9
 t37 := Tryz.underlying106
 a37 := Tryz.isAgg106
 z37 := Tryz.sizeOf106
 v37 := Tryz.zeroValue106
 t70 := Tryz.underlying212
 a70 := Tryz.isAgg212
 z70 := Tryz.sizeOf212
 v70 := Tryz.zeroValue212
 t72 := Tryz.underlying214
 a72 := Tryz.isAgg214
 z72 := Tryz.sizeOf214
 v72 := Tryz.zeroValue214
 t127 := Tryz.underlying253
 a127 := Tryz.isAgg253
 z127 := Tryz.sizeOf253
 v127 := Tryz.zeroValue253 }
def ren167 : Go.Shelf.Ren := ⟨fun | 167 => 281 | 240 => 322 | 276 => 346 | n => n, fun | 0 => 0 | 4 => 4 | 5 => 5 | 9 => 9 | 20 => 20 | 37 => 106 | 70 => 212 | 72 => 214 | 75 => 90 | 80 => 217 | 164 => 265 | n => n, fun | n => n⟩
theorem lays167 : Go.Proofs.Lays.n167 Tryz.prog ren167 := {
 mixed := by kernel_rfl
 f167 := Tryz.func281.trans (congrArg some (by kernel_rfl))
 f240 := Tryz.func322.trans (congrArg some (by kernel_rfl))
 f276 := Tryz.func346.trans (congrArg some (by kernel_rfl))
 t0 := Tryz.underlying0
 a0 := Tryz.isAgg0
 z0 := Tryz.sizeOf0
 v0 := Tryz.zeroValue0
 t4 := Tryz.underlying4
 a4 := Tryz.isAgg4
 z4 := Tryz.sizeOf4
 v4 := Tryz.zeroValue4
 t5 := Tryz.underlying5
 a5 := Tryz.isAgg5
 z5 := Tryz.sizeOf5
 v5 := Tryz.zeroValue5
 t9 := Tryz.underlying9
 a9 := Tryz.isAgg9
 z9 := Tryz.sizeOf9
 v9 := Tryz.zeroValue9
 t20 := Tryz.underlying20
 a20 := Tryz.isAgg20
 z20 := Tryz.sizeOf20
 v20 := Tryz.zeroValue20
 t37 := Tryz.underlying106
 a37 := Tryz.isAgg106
 z37 := Tryz.sizeOf106
 v37 := Tryz.zeroValue106
 t70 := Tryz.underlying212
 a70 := Tryz.isAgg212
 z70 := Tryz.sizeOf212
 v70 := Tryz.zeroValue212
 t72 := Tryz.underlying214
 a72 := Tryz.isAgg214
 z72 := Tryz.sizeOf214
 v72 := Tryz.zeroValue214
 t75 := Tryz.underlying90
 a75 := Tryz.isAgg90
 z75 := Tryz.sizeOf90
 v75 := Tryz.zeroValue90
 t164 := Tryz.underlying265
 a164 := Tryz.isAgg265
 z164 := Tryz.sizeOf265
 v164 := Tryz.zeroValue265 }
theorem extra169 : Builder.Extra Tryz.prog ren169 := {
 sizeBuilder := by kernel_rfl
 liesBuilder := by kernel_rfl
 t5 := Tryz.underlying5
 a5 := Tryz.isAgg5
 z5 := Tryz.sizeOf5
 v5 := Tryz.zeroValue5
 infoByte := by kernel_rfl
 cellsByte := by kernel_rfl
 sizeByte := by kernel_rfl
 neB5 := by decide }
theorem extra167 : Builder.Extra Tryz.prog ren167 := {
 sizeBuilder := by kernel_rfl
 liesBuilder := by kernel_rfl
 t5 := Tryz.underlying5
 a5 := Tryz.isAgg5
 z5 := Tryz.sizeOf5
 v5 := Tryz.zeroValue5
 infoByte := by kernel_rfl
 cellsByte := by kernel_rfl
 sizeByte := by kernel_rfl
 neB5 := by decide }
theorem bld_len (B b : Nat) (bs : List Value) (w : World) (h : Lib.IsBuilderF 214 5 B b bs w) :
  Calls Tryz.prog 280 #[.pointer (some ⟨b, 0, none⟩)] w fun e w' => e = .returned (.int .i64 bs.length) ∧ w' = w := Any.Builder_Len_f lays170 B b bs w h
theorem bld_write (B b : Nat) (bs : List Value) (c : Int) (w : World) (h : Lib.IsBuilderF 214 5 B b bs w) (hlen : bs.length + 1 ≤ 140737488355328) (hBw : B ≤ w.heap.size) :
  Calls Tryz.prog 281 #[.pointer (some ⟨b, 0, none⟩), .int .u8 c] w fun e w' => e = .returned .nilIface ∧ Lib.IsBuilderF 214 5 B b (bs ++ [.int .u8 c]) w' ∧ Below B w w' :=
 (Any.Builder_WriteByte_k lays167 extra167 B b bs c w h hlen hBw).mono fun _ _ h => ⟨h.1, .inr h.2.1, h.2.2.1⟩
theorem bld_string (B b : Nat) (l : List UInt8) (w : World) (h : Lib.IsBuilderF 214 5 B b (Lib.byteCells l) w) (hBw : B ≤ w.heap.size) :
  Calls Tryz.prog 282 #[.pointer (some ⟨b, 0, none⟩)] w fun e w' => e = .returned (.string ⟨l.toArray⟩) ∧ Below B w w' :=
 (Any.Builder_String_any_k lays169 extra169 B b l w h hBw).mono fun _ _ h => ⟨h.1, h.2.2.1⟩
end Go.Proofs.YtkhlfggnjcbniaaGreatDoor.doc
