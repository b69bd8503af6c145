/- moment's reader: its two cells; the contracts of digits, sign, must. -/
import Derived.ChangeAlike
import Derived.Deep.DeepCutAuto
import Derived.Lib.Hide
import Derived.Lib.ItoaMem
import Derived.Lib.ItoaNum
import Derived.Lib.SlTrimSet
import Derived.Lib.Strings
import Derived.OneCell
import Derived.Outline
import Derived.ProofKit
import Derived.RegionTactic
import Derived.Shelf.Strconv.AtoiAll
import Derived.WalkKit
import Derived.WalkLawsBesides
import Derived.WalkSmall
import Derived.WalkSpells
import Derived.Test.YtkhlfggnjcbniaaGreatDoorRows
import Derived.Test.YtkhlfggnjcbniaaGreatDoorShelf
import Derived.Test.YtkhlfggnjcbniaaGreatDoorP0
import Derived.Test.YtkhlfggnjcbniaaGreatDoorP1
import Derived.Test.YtkhlfggnjcbniaaGreatDoorP2
import Derived.Test.YtkhlfggnjcbniaaGreatDoorP4
import Derived.Test.YtkhlfggnjcbniaaGreatDoorP5
import Derived.Test.YtkhlfggnjcbniaaGreatDoorP7
namespace Go.Proofs.YtkhlfggnjcbniaaGreatDoor.mom
open Go.ChangeShapes Go.WideShapes Go.ChangeAt Go.RowKit Go.Lib Go.Proofs.YtkhlfggnjcbniaaGreatDoor.num Go.Proofs.YtkhlfggnjcbniaaGreatDoor.days Go.Proofs.YtkhlfggnjcbniaaGreatDoor.cal

/-- the reader's block -/
def RD (w : World) (B : Nat) (rest : List UInt8) (bad : Bool) : Prop := ∃ T, w.heap[B]? = some (.cells #[.string ⟨rest.toArray⟩, .bool bad] T (0, 0))
theorem RD.c0 {w : World} {B : Nat} {rest : List UInt8} {bad : Bool} (h : RD w B rest bad) : w.cell? ⟨B, 0, none⟩ = some (.string ⟨rest.toArray⟩) := by obtain ⟨T, h⟩ := h; simp [World.cell?, h]
theorem RD.c1 {w : World} {B : Nat} {rest : List UInt8} {bad : Bool} (h : RD w B rest bad) : w.cell? ⟨B, 1, none⟩ = some (.bool bad) := by obtain ⟨T, h⟩ := h; simp [World.cell?, h]
theorem RD.f0 {w : World} {B : Nat} {rest : List UInt8} {bad : Bool} (h : RD w B rest bad) : w.frozen? ⟨B, 0, none⟩ = false := by obtain ⟨T, h⟩ := h; simp [World.frozen?, h]
theorem RD.f1 {w : World} {B : Nat} {rest : List UInt8} {bad : Bool} (h : RD w B rest bad) : w.frozen? ⟨B, 1, none⟩ = false := by obtain ⟨T, h⟩ := h; simp [World.frozen?, h]
theorem RD.lt {w : World} {B : Nat} {rest : List UInt8} {bad : Bool} (h : RD w B rest bad) : B < w.heap.size := by obtain ⟨T, h⟩ := h; exact lt_of_block h
theorem RD.s0 {w : World} {B : Nat} {rest : List UInt8} {bad : Bool} (h : RD w B rest bad) (r2 : List UInt8) : RD (w.setCell ⟨B, 0, none⟩ (.string ⟨r2.toArray⟩)) B r2 bad := by
  obtain ⟨T, h⟩ := h
  have hlt := lt_of_block h
  have h' : w.heap[B] = .cells #[.string ⟨rest.toArray⟩, .bool bad] T (0, 0) := by simpa [Array.getElem?_eq_getElem hlt] using h
  refine ⟨T, ?_⟩
  show (w.heap.modify B _)[B]? = _
  rw [Array.getElem?_eq_getElem (by simpa using hlt), Array.getElem_modify_self, h']
  rfl
theorem RD.s1 {w : World} {B : Nat} {rest : List UInt8} {bad : Bool} (h : RD w B rest bad) (b2 : Bool) : RD (w.setCell ⟨B, 1, none⟩ (.bool b2)) B rest b2 := by
  obtain ⟨T, h⟩ := h
  have hlt := lt_of_block h
  have h' : w.heap[B] = .cells #[.string ⟨rest.toArray⟩, .bool bad] T (0, 0) := by simpa [Array.getElem?_eq_getElem hlt] using h
  refine ⟨T, ?_⟩
  show (w.heap.modify B _)[B]? = _
  rw [Array.getElem?_eq_getElem (by simpa using hlt), Array.getElem_modify_self, h']
  rfl
theorem RD.below {w w' : World} {B : Nat} {rest : List UInt8} {bad : Bool} (h : RD w B rest bad) (hb : Below w.heap.size w w') : RD w' B rest bad := by
  have hl := h.lt
  obtain ⟨T, h⟩ := h
  exact ⟨T, by rw [hb.block _ hl]; exact h⟩

/-- the reader, above what was there at first -/
structure Ro (w0 w : World) (B : Nat) (rest : List UInt8) (bad : Bool) : Prop where
  low : Below w0.heap.size w0 w
  above : w0.heap.size ≤ B
  rd : RD w B rest bad
  small : rest.length ≤ 1000000
theorem Ro.below {w0 w w' : World} {B : Nat} {rest : List UInt8} {bad : Bool} (h : Ro w0 w B rest bad) (hb : Below w.heap.size w w') : Ro w0 w' B rest bad :=
  ⟨below_trans h.low hb, h.above, h.rd.below hb, h.small⟩
theorem Ro.s0 {w0 w : World} {B : Nat} {rest : List UInt8} {bad : Bool} (h : Ro w0 w B rest bad) (r2 : List UInt8) (hl : r2.length ≤ 1000000) : Ro w0 (w.setCell ⟨B, 0, none⟩ (.string ⟨r2.toArray⟩)) B r2 bad :=
  ⟨h.low.setCell (p := ⟨B, 0, none⟩) h.above _, h.above, h.rd.s0 r2, hl⟩
theorem Ro.s1 {w0 w : World} {B : Nat} {rest : List UInt8} {bad : Bool} (h : Ro w0 w B rest bad) (b2 : Bool) : Ro w0 (w.setCell ⟨B, 1, none⟩ (.bool b2)) B rest b2 :=
  ⟨h.low.setCell (p := ⟨B, 1, none⟩) h.above _, h.above, h.rd.s1 b2, h.small⟩

set_option maxHeartbeats 800000 in
theorem must_any (w0 w : World) (B : Nat) (rest : List UInt8) (bad ok : Bool) (h : Ro w0 w B rest bad) :
    Calls Tryz.prog 308 #[.pointer (some ⟨B, 0, none⟩), .bool ok] w fun e w' => (∃ v, e = .returned v) ∧ Ro w0 w' B rest (bad || !ok) := by
  have c1 := h.rd.c1
  have f1 := h.rd.f1
  cases ok
  · have hs := h.s1 true
    have hb : (bad || !false) = true := by cases bad <;> rfl
    rw [hb]
    clear hb
    go_enter Tryz.func308, Tryz.ntmps308
    go_wp2_with fail
    go_end0
    exact ⟨⟨_, rfl⟩, hs⟩
  · have hb : (bad || !true) = bad := by cases bad <;> rfl
    rw [hb]
    clear hb
    go_enter Tryz.func308, Tryz.ntmps308
    go_wp2_with fail
    go_end0
    exact ⟨⟨_, rfl⟩, h⟩

theorem cutpre_any (l p : List UInt8) (w : World) :
    Calls Tryz.prog 159 #[.string ⟨l.toArray⟩, .string ⟨p.toArray⟩] w fun e w' => e = .returned (.tuple #[.string ⟨(Lib.trimPrefix l p).toArray⟩, .bool (Lib.hasPrefix l p)]) ∧ w = w' := by
  refine (Tryz.strings_CutPrefix ⟨l.toArray⟩ ⟨p.toArray⟩ w).mono ?_
  rintro e w' ⟨rfl, rfl⟩
  exact ⟨rfl, rfl⟩

set_option maxHeartbeats 800000 in
theorem sign_any (w0 w : World) (B : Nat) (rest : List UInt8) (bad : Bool) (p : List UInt8) (h : Ro w0 w B rest bad) :
    Calls Tryz.prog 305 #[.pointer (some ⟨B, 0, none⟩), .string ⟨p.toArray⟩] w fun e w' => (∃ v, e = .returned v) ∧ Ro w0 w' B (Lib.trimPrefix rest p) (bad || !(Lib.hasPrefix rest p)) := by
  have hc := cutpre_any rest p w
  have hl : (Lib.trimPrefix rest p).length ≤ 1000000 := by
    have := h.small
    unfold Lib.trimPrefix; split
    · simp; omega
    · exact this
  generalize Lib.trimPrefix rest p = r2 at *
  have c0 := h.rd.c0
  have c1 := h.rd.c1
  have f0 := h.rd.f0
  have f1 := h.rd.f1
  cases hp : Lib.hasPrefix rest p
  · rw [hp] at hc
    have hs1 := h.s1 true
    have hs := hs1.s0 r2 hl
    have g0 := hs1.rd.c0
    have k0 := hs1.rd.f0
    have hb : (bad || !false) = true := by cases bad <;> rfl
    rw [hb]
    clear hb hp
    go_enter Tryz.func305, Tryz.ntmps305
    go_wp2_with fail
    refine hc.mono ?_
    rintro e w' ⟨rfl, rfl⟩
    go_wp2_with fail
    go_end0
    exact ⟨⟨_, rfl⟩, hs⟩
  · rw [hp] at hc
    have hs := h.s0 r2 hl
    have hb : (bad || !true) = bad := by cases bad <;> rfl
    rw [hb]
    clear hb hp
    go_enter Tryz.func305, Tryz.ntmps305
    go_wp2_with fail
    refine hc.mono ?_
    rintro e w' ⟨rfl, rfl⟩
    go_wp2_with fail
    go_end0
    exact ⟨⟨_, rfl⟩, hs⟩
end Go.Proofs.YtkhlfggnjcbniaaGreatDoor.mom
