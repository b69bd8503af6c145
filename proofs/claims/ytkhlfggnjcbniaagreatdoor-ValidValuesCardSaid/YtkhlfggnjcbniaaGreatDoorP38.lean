/- The contract of Flags' own put; what Flags has in memory while it goes. valid.Flags, by what its parts answer. -/
import Derived.BigCall
import Derived.BigGuard
import Derived.BigQuiet
import Derived.ChangeAlike
import Derived.Deep.AppendLies
import Derived.Deep.CutBlock
import Derived.Deep.DeepCutAuto
import Derived.Deep.MidRow
import Derived.Deep.RegionHeld
import Derived.Deep.RegionHeld3
import Derived.Deep.RegionLaw
import Derived.Deep.RegionLawGrows
import Derived.Deep.SlicePairs
import Derived.Deep.Slices
import Derived.Ground.MpProg
import Derived.Laws.BitsLemmas
import Derived.Laws.BytesArg
import Derived.Laws.Closers25
import Derived.Laws.Closers25b
import Derived.Laws.IdiomStrings
import Derived.Laws.OwnMore
import Derived.Laws.ResultCell
import Derived.Laws.Strings3
import Derived.Lib.AppendIntMem
import Derived.Lib.AppendStr
import Derived.Lib.ConvBytes
import Derived.Lib.Hide
import Derived.Lib.IndexBytes
import Derived.Lib.IndexMore
import Derived.Lib.ItoaMem
import Derived.Lib.ItoaNum
import Derived.Lib.Join
import Derived.Lib.ParseIntBMem
import Derived.Lib.Repeat
import Derived.Lib.Replace
import Derived.Lib.SlTrimSet
import Derived.Lib.SliceRun
import Derived.Lib.Split
import Derived.Lib.SplitLaws
import Derived.Lib.Strings
import Derived.Lib.Walk
import Derived.LoopIn
import Derived.LoopNIn
import Derived.Maps.AppendAt
import Derived.OneCell
import Derived.OpenShut
import Derived.Outline
import Derived.OwnWalkIn
import Derived.ProofKit
import Derived.RangeFuncBound
import Derived.RangeFuncBox
import Derived.RangeFuncCalls
import Derived.RangeFuncLeaves
import Derived.RangeFuncNested
import Derived.RegionTactic
import Derived.Shelf.Abstract
import Derived.Shelf.Bits.Mul64
import Derived.Shelf.RegionOpen
import Derived.Shelf.SlicesQ.IndexFunc
import Derived.Shelf.Strconv.AtoiAll
import Derived.Shelf.Strings.BuilderK
import Derived.Shelf.Strings.OnBuilder
import Derived.Shelf.Strings.SlTrimAscii
import Derived.StillTailTactics
import Derived.TacticsInMore
import Derived.WalkKit
import Derived.WalkLawsBesides
import Derived.WalkSmall
import Derived.WalkSpells
import Derived.WideKeyArgs
import Derived.Test.YtkhlfggnjcbniaaGreatDoorProg
import Derived.Test.YtkhlfggnjcbniaaGreatDoorRows
import Derived.Test.YtkhlfggnjcbniaaGreatDoorShelf
import Derived.Test.YtkhlfggnjcbniaaGreatDoorP0
import Derived.Test.YtkhlfggnjcbniaaGreatDoorP1
import Derived.Test.YtkhlfggnjcbniaaGreatDoorP2
import Derived.Test.YtkhlfggnjcbniaaGreatDoorP3
import Derived.Test.YtkhlfggnjcbniaaGreatDoorP4
import Derived.Test.YtkhlfggnjcbniaaGreatDoorP5
import Derived.Test.YtkhlfggnjcbniaaGreatDoorP6
import Derived.Test.YtkhlfggnjcbniaaGreatDoorP7
import Derived.Test.YtkhlfggnjcbniaaGreatDoorP8
import Derived.Test.YtkhlfggnjcbniaaGreatDoorP9
import Derived.Test.YtkhlfggnjcbniaaGreatDoorP10
import Derived.Test.YtkhlfggnjcbniaaGreatDoorP11
import Derived.Test.YtkhlfggnjcbniaaGreatDoorP12
import Derived.Test.YtkhlfggnjcbniaaGreatDoorP13
import Derived.Test.YtkhlfggnjcbniaaGreatDoorP14
import Derived.Test.YtkhlfggnjcbniaaGreatDoorP15
import Derived.Test.YtkhlfggnjcbniaaGreatDoorP16
import Derived.Test.YtkhlfggnjcbniaaGreatDoorP17
import Derived.Test.YtkhlfggnjcbniaaGreatDoorP18
import Derived.Test.YtkhlfggnjcbniaaGreatDoorP19
import Derived.Test.YtkhlfggnjcbniaaGreatDoorP20
import Derived.Test.YtkhlfggnjcbniaaGreatDoorP21
import Derived.Test.YtkhlfggnjcbniaaGreatDoorP22
import Derived.Test.YtkhlfggnjcbniaaGreatDoorP23
import Derived.Test.YtkhlfggnjcbniaaGreatDoorP24
import Derived.Test.YtkhlfggnjcbniaaGreatDoorP25
import Derived.Test.YtkhlfggnjcbniaaGreatDoorP26
import Derived.Test.YtkhlfggnjcbniaaGreatDoorP27
import Derived.Test.YtkhlfggnjcbniaaGreatDoorP28
import Derived.Test.YtkhlfggnjcbniaaGreatDoorP29
import Derived.Test.YtkhlfggnjcbniaaGreatDoorP30
import Derived.Test.YtkhlfggnjcbniaaGreatDoorP31
import Derived.Test.YtkhlfggnjcbniaaGreatDoorP32
import Derived.Test.YtkhlfggnjcbniaaGreatDoorP33
import Derived.Test.YtkhlfggnjcbniaaGreatDoorP34
import Derived.Test.YtkhlfggnjcbniaaGreatDoorP35
import Derived.Test.YtkhlfggnjcbniaaGreatDoorP36
import Derived.Test.YtkhlfggnjcbniaaGreatDoorP37
namespace Go.Proofs.YtkhlfggnjcbniaaGreatDoor.doc
open Go.ChangeShapes Go.WideShapes Go.ChangeAt Go.RowKit Go.Lib Go.Proofs.YtkhlfggnjcbniaaGreatDoor.atr Go.Proofs.YtkhlfggnjcbniaaGreatDoor.link Go.Proofs.YtkhlfggnjcbniaaGreatDoor.ctl

theorem wraps_i64s (n : Int) (h₀ : 0 ≤ n) (h₁ : n < 2 ^ 16) : IntKind.i64.wrap n = n := by rw [IntKind.wrap_i64]; omega
theorem or_bit (n i : Nat) (hi : i ≤ 9) (hn : n < 2 ^ i) : bits .or .i64 (n : Int) ((2 ^ i : Nat) : Int) = ((n + 2 ^ i : Nat) : Int) := by
  have hp : 2 ^ i < 2 ^ 16 := Nat.pow_lt_pow_right (by decide) (by omega)
  rw [(bits_nat .i64 16 (by decide) wraps_i64s n (2 ^ i) (Nat.lt_trans hn hp) hp).2, Nat.or_comm]
  have := Nat.two_pow_add_eq_or_of_lt hn 1
  rw [Nat.mul_one] at this
  rw [← this, Nat.add_comm]
def bitN (q : Bool) (n : Nat) : Nat := if q then n else 0
theorem bitN_le (q : Bool) (n : Nat) : bitN q n ≤ n := by unfold bitN; split <;> omega
def PutP (OB : Nat) (n : Nat) (w : World) (e : Ending) (w' : World) : Prop := (∃ v, e = .returned v) ∧ Blk w' OB [.int .i64 (n : Int)] ∧ w.grownBy w' (some OB)
set_option maxHeartbeats 1600000 in
set_option maxRecDepth 100000 in
theorem put_any (q : Bool) (n i : Nat) (hi : i ≤ 9) (hn : n < 2 ^ i) (OB : Nat) (w : World) (hB : Blk w OB [.int .i64 (n : Int)]) :
    Calls Tryz.prog 38 #[.bool q, .int .i64 ((2 ^ i : Nat) : Int), .pointer (some ⟨OB, 0, none⟩)] w (PutP OB (n + bitN q (2 ^ i)) w) := by
  unfold bitN
  have hor := or_bit n i hi hn
  have c0 := hB.cell 0
  have z0 := hB.frozen 0
  dsimp only [List.getElem?_cons_zero] at c0
  cases q
  · have HX : Hid (PutP OB n w = PutP OB n w) := Lib.hid rfl
    rw [if_neg Bool.false_ne_true, Nat.add_zero]
    have HB := Lib.hid hB
    clear hB hor c0 z0
    go_enter Tryz.func38, Tryz.ntmps38
    go_wp2_with fail
    go_end0
    exact ⟨⟨_, rfl⟩, HB.out, grownBy_below (Below.refl _ _)⟩
  · rw [if_pos rfl]
    have HB := Lib.hid (hB.set 0 (.int .i64 ((n + 2 ^ i : Nat) : Int)))
    clear hB hn
    generalize hb : 2 ^ i = bt at *
    clear hb hi
    go_enter Tryz.func38, Tryz.ntmps38
    go_wp2_with fail
    go_end0
    exact ⟨⟨_, rfl⟩, by simpa using HB.out, grownBy_set _ _ _ _⟩
/-- Flags' memory: the document's box, the node's, the control's, the sum's -/
structure FS (w wx : World) (DB NB CB OB : Nat) (vn vc : Value) (nn : List Value) (cc : List Value) (acc : Nat) : Prop where
  low : Below w.heap.size w wx
  d0 : wx.cell? ⟨DB, 0, none⟩ = some vn
  d1 : wx.cell? ⟨DB, 1, none⟩ = some vc
  nd : ∀ j, wx.cell? ⟨NB, j, none⟩ = nn[j]?
  ct : ∀ j, wx.cell? ⟨CB, j, none⟩ = cc[j]?
  out : Blk wx OB [.int .i64 (acc : Int)]
  ne : DB ≠ OB ∧ NB ≠ OB ∧ CB ≠ OB
  ge : w.heap.size ≤ DB ∧ w.heap.size ≤ NB ∧ w.heap.size ≤ CB ∧ w.heap.size ≤ OB
  lt : DB < wx.heap.size ∧ NB < wx.heap.size ∧ CB < wx.heap.size
theorem FS.below {w wx wy : World} {DB NB CB OB : Nat} {vn vc : Value} {nn cc : List Value} {acc : Nat} (h : FS w wx DB NB CB OB vn vc nn cc acc) (hb : Below wx.heap.size wx wy) : FS w wy DB NB CB OB vn vc nn cc acc :=
  ⟨below_trans h.low hb, cell_below hb h.d0, cell_below hb h.d1, fun j => (hb.cell (p := ⟨NB, j, none⟩) h.lt.2.1).trans (h.nd j), fun j => (hb.cell (p := ⟨CB, j, none⟩) h.lt.2.2).trans (h.ct j), h.out.below hb h.out.lt, h.ne, h.ge,
    ⟨Nat.lt_of_lt_of_le h.lt.1 hb.size, Nat.lt_of_lt_of_le h.lt.2.1 hb.size, Nat.lt_of_lt_of_le h.lt.2.2 hb.size⟩⟩
theorem grownBy_cell {wx wy : World} {OB b j : Nat} (hg : wx.grownBy wy (some OB)) (hb : b < wx.heap.size) (hne : b ≠ OB) : wy.cell? ⟨b, j, none⟩ = wx.cell? ⟨b, j, none⟩ :=
  World.cell?_of_block (a := ⟨b, j, none⟩) (hg.block b hb (fun e => hne (Option.some.inj e)))
theorem fs_grown {w wx wy : World} {OB : Nat} (h : Below w.heap.size w wx) (hg : wx.grownBy wy (some OB)) (hO : w.heap.size ≤ OB) : Below w.heap.size w wy :=
  h.grown hg h.size (fun k hk => by cases hk; exact hO)
theorem FS.put {w wx wy : World} {DB NB CB OB : Nat} {vn vc : Value} {nn cc : List Value} {acc n : Nat} {e : Ending} (h : FS w wx DB NB CB OB vn vc nn cc acc) (hp : PutP OB n wx e wy) : FS w wy DB NB CB OB vn vc nn cc n := by
  obtain ⟨_, ho, hg⟩ := hp
  exact ⟨fs_grown h.low hg h.ge.2.2.2, (grownBy_cell hg h.lt.1 h.ne.1).trans h.d0, (grownBy_cell hg h.lt.1 h.ne.1).trans h.d1, fun j => (grownBy_cell hg h.lt.2.1 h.ne.2.1).trans (h.nd j), fun j => (grownBy_cell hg h.lt.2.2 h.ne.2.2).trans (h.ct j), ho, h.ne, h.ge,
    ⟨Nat.lt_of_lt_of_le h.lt.1 hg.size, Nat.lt_of_lt_of_le h.lt.2.1 hg.size, Nat.lt_of_lt_of_le h.lt.2.2 hg.size⟩⟩
/-- with the node's cells laid open -/
theorem fs_low {w wx wy : World} {DB NB CB OB : Nat} {vn vc a b c d e : Value} {cc : List Value} {acc : Nat} (hb : Below wx.heap.size wx wy) (h : wx.cell? ⟨NB, 0, none⟩ = some a ∧ wx.cell? ⟨NB, 1, none⟩ = some b ∧ wx.cell? ⟨NB, 2, none⟩ = some c ∧ wx.cell? ⟨NB, 3, none⟩ = some d ∧ wx.cell? ⟨NB, 4, none⟩ = some e ∧ FS w wx DB NB CB OB vn vc [a, b, c, d, e] cc acc) :
    wy.cell? ⟨NB, 0, none⟩ = some a ∧ wy.cell? ⟨NB, 1, none⟩ = some b ∧ wy.cell? ⟨NB, 2, none⟩ = some c ∧ wy.cell? ⟨NB, 3, none⟩ = some d ∧ wy.cell? ⟨NB, 4, none⟩ = some e ∧ FS w wy DB NB CB OB vn vc [a, b, c, d, e] cc acc := by
  have g := h.2.2.2.2.2.below hb
  exact ⟨g.nd 0, g.nd 1, g.nd 2, g.nd 3, g.nd 4, g⟩
theorem fs_drew {w wx : World} {DB NB CB OB : Nat} {vn vc a b c d e : Value} {cc : List Value} {acc : Nat} (h : wx.cell? ⟨NB, 0, none⟩ = some a ∧ wx.cell? ⟨NB, 1, none⟩ = some b ∧ wx.cell? ⟨NB, 2, none⟩ = some c ∧ wx.cell? ⟨NB, 3, none⟩ = some d ∧ wx.cell? ⟨NB, 4, none⟩ = some e ∧ FS w wx DB NB CB OB vn vc [a, b, c, d, e] cc acc) :
    wx.drew.cell? ⟨NB, 0, none⟩ = some a ∧ wx.drew.cell? ⟨NB, 1, none⟩ = some b ∧ wx.drew.cell? ⟨NB, 2, none⟩ = some c ∧ wx.drew.cell? ⟨NB, 3, none⟩ = some d ∧ wx.drew.cell? ⟨NB, 4, none⟩ = some e ∧ FS w wx.drew DB NB CB OB vn vc [a, b, c, d, e] cc acc := fs_low (Below.refl _ _).drew h
/-- .. ahead of the sum's box -/
structure FS0 (w wx : World) (DB NB CB : Nat) (vn vc : Value) (nn : List Value) (cc : List Value) : Prop where
  low : Below w.heap.size w wx
  d0 : wx.cell? ⟨DB, 0, none⟩ = some vn
  d1 : wx.cell? ⟨DB, 1, none⟩ = some vc
  nd : ∀ j, wx.cell? ⟨NB, j, none⟩ = nn[j]?
  ct : ∀ j, wx.cell? ⟨CB, j, none⟩ = cc[j]?
  ge : w.heap.size ≤ DB ∧ w.heap.size ≤ NB ∧ w.heap.size ≤ CB
  lt : DB < wx.heap.size ∧ NB < wx.heap.size ∧ CB < wx.heap.size
theorem FS0.below {w wx wy : World} {DB NB CB : Nat} {vn vc : Value} {nn cc : List Value} (h : FS0 w wx DB NB CB vn vc nn cc) (hb : Below wx.heap.size wx wy) : FS0 w wy DB NB CB vn vc nn cc :=
  ⟨below_trans h.low hb, cell_below hb h.d0, cell_below hb h.d1, fun j => (hb.cell (p := ⟨NB, j, none⟩) h.lt.2.1).trans (h.nd j), fun j => (hb.cell (p := ⟨CB, j, none⟩) h.lt.2.2).trans (h.ct j), h.ge,
    ⟨Nat.lt_of_lt_of_le h.lt.1 hb.size, Nat.lt_of_lt_of_le h.lt.2.1 hb.size, Nat.lt_of_lt_of_le h.lt.2.2 hb.size⟩⟩
theorem FS0.out {w wx : World} {DB NB CB : Nat} {vn vc : Value} {nn cc : List Value} (h : FS0 w wx DB NB CB vn vc nn cc) (T : TypeId) : FS w (wx.alloc (.cells #[.int .i64 0] T)) DB NB CB wx.heap.size vn vc nn cc 0 := by
  have g := h.below ((Below.refl _ wx).alloc (Nat.le_refl _) (.cells #[.int .i64 0] T))
  exact ⟨g.low, g.d0, g.d1, g.nd, g.ct, Blk.fresh wx [.int .i64 0] T, ⟨by have := h.lt.1; omega, by have := h.lt.2.1; omega, by have := h.lt.2.2; omega⟩, ⟨g.ge.1, g.ge.2.1, g.ge.2.2, h.low.size⟩, g.lt⟩
theorem cell_a1 {W : World} {b j : Nat} {v : Value} (h : W.cell? ⟨b, j, none⟩ = some v) : ∀ o : Obj, (W.alloc o).cell? ⟨b, j, none⟩ = some v := fun o => cell_below ((Below.refl W.heap.size W).alloc (Nat.le_refl _) o) h
theorem cell_a2 {W : World} {b j : Nat} {v : Value} (h : W.cell? ⟨b, j, none⟩ = some v) : ∀ o1 o2 : Obj, ((W.alloc o1).alloc o2).cell? ⟨b, j, none⟩ = some v := fun o1 o2 => cell_a1 (cell_a1 h o1) o2
/-- both copies laid, in either order -/
theorem FS0.two {w wx : World} {DB : Nat} {vn vc : Value} {nn cc : List Value} (T1 T2 : TypeId) (hl : Below w.heap.size w wx) (h0 : wx.cell? ⟨DB, 0, none⟩ = some vn) (h1 : wx.cell? ⟨DB, 1, none⟩ = some vc) (hg : w.heap.size ≤ DB) :
    FS0 w ((wx.alloc (.cells nn.toArray T1)).alloc (.cells cc.toArray T2)) DB wx.heap.size (wx.heap.size + 1) vn vc nn cc ∧ FS0 w ((wx.alloc (.cells cc.toArray T2)).alloc (.cells nn.toArray T1)) DB (wx.heap.size + 1) wx.heap.size vn vc nn cc := by
  have key : ∀ (a b : List Value) (A B : TypeId), Below wx.heap.size wx ((wx.alloc (.cells a.toArray A)).alloc (.cells b.toArray B)) ∧ (∀ j, ((wx.alloc (.cells a.toArray A)).alloc (.cells b.toArray B)).cell? ⟨wx.heap.size, j, none⟩ = a[j]?) ∧ (∀ j, ((wx.alloc (.cells a.toArray A)).alloc (.cells b.toArray B)).cell? ⟨wx.heap.size + 1, j, none⟩ = b[j]?) ∧ ((wx.alloc (.cells a.toArray A)).alloc (.cells b.toArray B)).heap.size = wx.heap.size + 2 := by
    intro a b A B
    refine ⟨((Below.refl _ wx).alloc (Nat.le_refl _) _).alloc (by simp) _, fun j => ?_, fun j => ?_, by simp⟩
    · rw [World.cell?_alloc_lt _ _ _ (by simp), World.cell?_alloc_new]; simp
    · have := World.cell?_alloc_new (wx.alloc (.cells a.toArray A)) b.toArray B j
      rw [World.size_alloc] at this
      rw [this]; simp
  have hd := lt_of_cell h0
  constructor
  · obtain ⟨kb, k1, k2, kz⟩ := key nn cc T1 T2
    exact ⟨below_trans hl kb, cell_below kb h0, cell_below kb h1, k1, k2, ⟨hg, hl.size, Nat.le_trans hl.size (Nat.le_succ _)⟩, ⟨by rw [kz]; omega, by rw [kz]; omega, by rw [kz]; omega⟩⟩
  · obtain ⟨kb, k1, k2, kz⟩ := key cc nn T2 T1
    exact ⟨below_trans hl kb, cell_below kb h0, cell_below kb h1, k2, k1, ⟨hg, Nat.le_trans hl.size (Nat.le_succ _), hl.size⟩, ⟨by rw [kz]; omega, by rw [kz]; omega, by rw [kz]; omega⟩⟩
end Go.Proofs.YtkhlfggnjcbniaaGreatDoor.doc
namespace Go.Proofs.YtkhlfggnjcbniaaGreatDoor.doc
open Go.ChangeShapes Go.WideShapes Go.ChangeAt Go.RowKit Go.Lib Go.Proofs.YtkhlfggnjcbniaaGreatDoor.atr Go.Proofs.YtkhlfggnjcbniaaGreatDoor.link Go.Proofs.YtkhlfggnjcbniaaGreatDoor.ctl

/-- the flags' number -/
def sumF (lk mt od lg sh ua ov st cu : Bool) : Nat := bitN lk 1 + bitN mt 2 + bitN od 4 + bitN lg 8 + bitN sh 16 + bitN ua 32 + bitN ov 64 + bitN st 128 + bitN cu 256

def RetI (v : Int) (w : World) (e : Ending) (w' : World) : Prop := e = .returned (.int .i64 v) ∧ Below w.heap.size w w'
def RetB (v : Bool) (w : World) (e : Ending) (w' : World) : Prop := e = .returned (.bool v) ∧ Below w.heap.size w w'
set_option maxHeartbeats 12800000 in
set_option maxRecDepth 100000 in
theorem flags_gen (vn vc : Value) (l : List Nd) (cs : List Ctl) (hC : CtlsOk cs) (k : Nat) (hk : k < l.length) (hq : docR l cs = true) (hs : subP (kN l (k : Int)) = true) (w : World) (hD : DocAt w vn vc l cs)
    (lk mt od : Bool) (most least un : Int) (ua ov st : Bool)
    (HL : ∀ w', Below w.heap.size w w' → Calls Tryz.prog 39 #[.agg #[vn, vc], .int .i64 k, .int .i64 (kN l (k : Int))] w' (RetB lk w'))
    (HM : valV l cs (k : Int) ≠ [] → ∀ w' va vk, AttrsAt w' va (nd l (k : Int)).attrs → IntsAt w' vk (nd l (k : Int)).kids → Calls Tryz.prog 40 #[nodeV (nd l (k : Int)) va vk, .int .i64 (kN l (k : Int)), .string ⟨(valV l cs (k : Int)).toArray⟩] w' (RetB mt w'))
    (HO : valV l cs (k : Int) ≠ [] → ∀ w' va vk, AttrsAt w' va (nd l (k : Int)).attrs → IntsAt w' vk (nd l (k : Int)).kids → Calls Tryz.prog 41 #[nodeV (nd l (k : Int)) va vk, .int .i64 (kN l (k : Int)), .string ⟨(valV l cs (k : Int)).toArray⟩] w' (RetB od w'))
    (HX : ((ct cs (k : Int)).dirty && (ct cs (k : Int)).typed) = true → ∀ w' va vk, AttrsAt w' va (nd l (k : Int)).attrs → IntsAt w' vk (nd l (k : Int)).kids → Calls Tryz.prog 42 #[nodeV (nd l (k : Int)) va vk, .int .i64 (kN l (k : Int)), .string ⟨nMaxlength.toArray⟩] w' (RetI most w'))
    (HI : ((ct cs (k : Int)).dirty && (ct cs (k : Int)).typed) = true → ∀ w' va vk, AttrsAt w' va (nd l (k : Int)).attrs → IntsAt w' vk (nd l (k : Int)).kids → Calls Tryz.prog 42 #[nodeV (nd l (k : Int)) va vk, .int .i64 (kN l (k : Int)), .string ⟨nMinlength.toArray⟩] w' (RetI least w'))
    (HU : ((ct cs (k : Int)).dirty && (ct cs (k : Int)).typed) = true → ∀ w', Below w.heap.size w w' → Calls Tryz.prog 43 #[.string ⟨(valV l cs (k : Int)).toArray⟩] w' (RetI un w'))
    (HS : ∀ w' va, AttrsAt w' va (nd l (k : Int)).attrs → Below w.heap.size w w' → Calls Tryz.prog 44 #[.int .i64 (kN l (k : Int)), va, .string ⟨(valV l cs (k : Int)).toArray⟩] w' fun e w'' => e = .returned (.tuple #[.bool ua, .bool ov, .bool st]) ∧ Below w'.heap.size w' w'') :
    Calls Tryz.prog 14 #[.agg #[vn, vc], .int .i64 k] w (RetI (sumF lk (decide (valV l cs (k : Int) ≠ []) && mt) (decide (valV l cs (k : Int) ≠ []) && od)
      ((ct cs (k : Int)).dirty && (ct cs (k : Int)).typed && decide (0 ≤ most) && decide (most < un)) ((ct cs (k : Int)).dirty && (ct cs (k : Int)).typed && decide (valV l cs (k : Int) ≠ []) && decide (un < least)) ua ov st (decide ((ct cs (k : Int)).custom ≠ []))) w) := by
  obtain ⟨hlc, hR⟩ := (docR_iff l cs).1 hq
  have hlen := hD.fine.len
  have hkc : k < cs.length := by omega
  have HVal := Lib.hid (fun w' (h : Below w.heap.size w w') => vvalue_any vn vc l cs hC k hk hq w' (hD.below h))
  have hth := there_any vn vc l cs (k : Int)
  rw [(there_iff l cs (k : Int)).2 ⟨⟨by omega, by omega⟩, hlc, hR⟩] at hth
  have HTh := Lib.hid (fun w' (h : Below w.heap.size w w') => hth w' (hD.below h))
  have hsub := fun w => submits_any (kN l (k : Int)) w
  rw [hs] at hsub
  have HOf := Lib.hid (fun w' va vk h1 h2 => of_any (nd l (k : Int)) va vk (hD.fine.nd _ (by omega) (by omega)) w' h1 h2)
  have HK : Hid (kindP (nd l (k : Int)).name (nd l (k : Int)).attrs = kN l (k : Int)) := Lib.hid rfl
  rw [HK.out] at HOf
  obtain ⟨b, off, cap, rfl, hb⟩ := nodes_addr hD.nodes (by omega)
  obtain ⟨cb, coff, ccap, f, rfl, hcb, hct0⟩ := ctls_get hD.ctls k hkc
  have HCt : Hid (ct cs (k : Int) = cs[k]) := Lib.hid (ct_get cs k hkc)
  rw [HCt.out] at HX HI HU ⊢
  have HC0 := Lib.hid hct0
  obtain ⟨va, vk, hn0⟩ := nodes_get hD.nodes k hk
  have HN0 := Lib.hid hn0
  obtain ⟨aa, ac, rfl⟩ := AttrsAt.lenN hn0.attrs
  obtain ⟨ka, kc, rfl⟩ := RowAt.lenN hn0.kids
  obtain ⟨fa, fn, fc, rfl⟩ := hct0.files.isSl
  have h0 : (0 : Int) ≤ (k : Int) := by omega
  have hk' : (k : Int) < (l.length : Int) := by omega
  have hkc' : (k : Int) < (cs.length : Int) := by omega
  replace HL := Lib.hid HL
  replace HM := Lib.hid HM
  replace HO := Lib.hid HO
  replace HX := Lib.hid HX
  replace HI := Lib.hid HI
  replace HU := Lib.hid HU
  replace HS := Lib.hid HS
  generalize kN l (k : Int) = kd at *
  generalize nd l (k : Int) = n at *
  generalize valV l cs (k : Int) = s at *
  generalize cs[k] = c at *
  obtain ⟨cv, cdi, cty, cch, cdc, cmi, cse, cds, ccu, cfi⟩ := c
  dsimp only at HX HI HU HN0 HC0 hct0 hn0 ⊢
  have HPost : Hid (RetI (sumF lk (decide (s ≠ []) && mt) (decide (s ≠ []) && od) (cdi && cty && decide (0 ≤ most) && decide (most < un)) (cdi && cty && decide (s ≠ []) && decide (un < least)) ua ov st (decide (ccu ≠ []))) w = RetI (sumF lk (decide (s ≠ []) && mt) (decide (s ≠ []) && od) (cdi && cty && decide (0 ≤ most) && decide (most < un)) (cdi && cty && decide (s ≠ []) && decide (un < least)) ua ov st (decide (ccu ≠ []))) w) := Lib.hid rfl
  obtain ⟨res, hres⟩ : ∃ r, r = sumF lk (decide (s ≠ []) && mt) (decide (s ≠ []) && od) (cdi && cty && decide (0 ≤ most) && decide (most < un)) (cdi && cty && decide (s ≠ []) && decide (un < least)) ua ov st (decide (ccu ≠ [])) := ⟨_, rfl⟩
  rw [← hres]
  have HRes := Lib.hid hres
  clear hres HPost hq hR hD hlc hth HK HCt hs hC hlen hn0 hct0
  obtain ⟨wA, hwA⟩ : ∃ wA, wA = w.alloc (.cells #[.slice (some ⟨b, off, none⟩) l.length cap, .slice (some ⟨cb, coff, none⟩) cs.length ccap] 28) := ⟨_, rfl⟩
  have hB1 : Below w.heap.size w wA := by rw [hwA]; exact (Below.refl _ w).alloc (Nat.le_refl _) _
  have f0 : wA.cell? ⟨w.heap.size, 0, none⟩ = some (.slice (some ⟨b, off, none⟩) l.length cap) := by rw [hwA]; exact (doc_cells w _ _ _ _ _ _ _).1
  have f1 : wA.cell? ⟨w.heap.size, 1, none⟩ = some (.slice (some ⟨cb, coff, none⟩) cs.length ccap) := by rw [hwA]; exact (doc_cells w _ _ _ _ _ _ _).2
  have hth := HTh.out wA hB1
  clear HTh
  subst hwA
  go_enter Tryz.func14, Tryz.ntmps14
  go_wp2_with fail
  refine hth.mono ?_
  rintro e w1 ⟨rfl, hb1⟩
  have hB01 := below_trans hB1 hb1
  have f0 := cell_below hb1 f0
  have f1 := cell_below hb1 f1
  have hn := HN0.out.below hB01
  have hof := HOf.out w1 _ _ hn.attrs hn.kids
  unfold nodeV at hof
  obtain ⟨c0, c1, c2, c3, c4, _, _, _⟩ := hn
  clear hth
  go_wp2_with fail
  refine hof.mono ?_
  rintro e w2 ⟨rfl, hb2⟩
  have hB02 := below_trans hB01 hb2
  have f0 := cell_below hb2 f0
  have f1 := cell_below hb2 f1
  clear hof c0 c1 c2 c3 c4 hb1 hb2 hB01 hB1
  go_wp2_with fail
  refine (hsub w2).mono ?_
  rintro e w3 ⟨rfl, rfl⟩
  clear hsub
  have hn := HN0.out.below hB02
  have hct := HC0.out.below hB02
  obtain ⟨c0, c1, c2, c3, c4, _, _, _⟩ := hn
  have a0 := hct.cells 0 _ rfl
  have a1 := hct.cells 1 _ rfl
  have a2 := hct.cells 2 _ rfl
  have a3 := hct.cells 3 _ rfl
  have a4 := hct.cells 4 _ rfl
  have a5 := hct.cells 5 _ rfl
  have a6 := hct.cells 6 _ rfl
  have a7 := hct.cells 7 _ rfl
  have a8 := hct.cells 8 _ rfl
  have a9 := hct.cells 9 _ rfl
  dsimp only [Nat.add_zero] at a0 a1 a2 a3 a4 a5 a6 a7 a8 a9
  have HFS := Lib.hid (FS0.two (nn := [.string ⟨n.name.toArray⟩, .string ⟨n.text.toArray⟩, .slice aa n.attrs.length ac, .int .i64 n.parent, .slice ka n.kids.length kc]) (cc := [.string ⟨cv.toArray⟩, .bool cdi, .bool cty, .bool cch, .bool cdc, .bool cmi, .bool cse, .bool cds, .string ⟨ccu.toArray⟩, .slice fa fn fc]) 41 35 hB02 f0 f1 (Nat.le_refl _))
  clear hct
  have f0x := cell_a1 f0
  have f0y := cell_a2 f0
  have f1x := cell_a1 f1
  have f1y := cell_a2 f1
  have c0x := cell_a1 c0
  have c0y := cell_a2 c0
  have c1x := cell_a1 c1
  have c1y := cell_a2 c1
  have c2x := cell_a1 c2
  have c2y := cell_a2 c2
  have c3x := cell_a1 c3
  have c3y := cell_a2 c3
  have c4x := cell_a1 c4
  have c4y := cell_a2 c4
  have a0x := cell_a1 a0
  have a0y := cell_a2 a0
  have a1x := cell_a1 a1
  have a1y := cell_a2 a1
  have a2x := cell_a1 a2
  have a2y := cell_a2 a2
  have a3x := cell_a1 a3
  have a3y := cell_a2 a3
  have a4x := cell_a1 a4
  have a4y := cell_a2 a4
  have a5x := cell_a1 a5
  have a5y := cell_a2 a5
  have a6x := cell_a1 a6
  have a6y := cell_a2 a6
  have a7x := cell_a1 a7
  have a7y := cell_a2 a7
  have a8x := cell_a1 a8
  have a8y := cell_a2 a8
  have a9x := cell_a1 a9
  have a9y := cell_a2 a9
  go_upto_region 3 with fail
  go_cut [5, 6] (fun s5 s6 wx => ∃ NB CB, s5 = .pointer (some ⟨NB, 0, none⟩) ∧ s6 = .pointer (some ⟨CB, 0, none⟩) ∧ FS0 w wx w.heap.size NB CB (.slice (some ⟨b, off, none⟩) l.length cap) (.slice (some ⟨cb, coff, none⟩) cs.length ccap) [.string ⟨n.name.toArray⟩, .string ⟨n.text.toArray⟩, .slice aa n.attrs.length ac, .int .i64 n.parent, .slice ka n.kids.length kc] [.string ⟨cv.toArray⟩, .bool cdi, .bool cty, .bool cch, .bool cdc, .bool cmi, .bool cse, .bool cds, .string ⟨ccu.toArray⟩, .slice fa fn fc])
  case first =>
    go_region
    all_goals
      go_wp2_with fail
      go_meet
      exact ⟨_, _, rfl, rfl, by first | exact HFS.out.1.below (Below.refl _ _).drew | exact HFS.out.2.below (Below.refl _ _).drew⟩
  case rest =>
  obtain ⟨NB, CB, rfl, rfl, hF⟩ := hcut
  clear HFS f0 f1 hB02 c0 c0x c0y c1 c1x c1y c2 c2x c2y c3 c3x c3y c4 c4x c4y a0 a0x a0y a1 a1x a1y a2 a2x a2y a3 a3x a3y a4 a4x a4y a5 a5x a5y a6 a6x a6y a7 a7x a7y a8 a8x a8y a9 a9x a9y f0x f0y f1x f1y
  have e0 := hF.nd 0
  have e1 := hF.nd 1
  have e2 := hF.nd 2
  have e3 := hF.nd 3
  have e4 := hF.nd 4
  dsimp only [List.getElem?_cons_zero, List.getElem?_cons_succ] at e0 e1 e2 e3 e4
  have hof := HOf.out wc _ _ (HN0.out.attrs.below hF.low) (HN0.out.kids.below hF.low)
  unfold nodeV at hof
  go_wp2_with fail
  refine hof.mono ?_
  rintro e w4 ⟨rfl, hb4⟩
  replace hF := hF.below hb4
  have d0 := hF.d0
  have d1 := hF.d1
  have hv := HVal.out w4 hF.low
  clear hof e0 e1 e2 e3 e4 hb4 HOf HVal
  go_wp2_with fail
  refine hv.mono ?_
  rintro e w5 ⟨rfl, hb5⟩
  replace hF := hF.below hb5
  have HF := Lib.hid (hF.out 3)
  clear hv d0 d1 hb5 hF
  go_upto_region 6 with fail
  go_cut [9] (fun s9 wx => ∃ OB, s9 = .pointer (some ⟨OB, 0, none⟩) ∧ FS w wx w.heap.size NB CB OB (.slice (some ⟨b, off, none⟩) l.length cap) (.slice (some ⟨cb, coff, none⟩) cs.length ccap) [.string ⟨n.name.toArray⟩, .string ⟨n.text.toArray⟩, .slice aa n.attrs.length ac, .int .i64 n.parent, .slice ka n.kids.length kc] [.string ⟨cv.toArray⟩, .bool cdi, .bool cty, .bool cch, .bool cdc, .bool cmi, .bool cse, .bool cds, .string ⟨ccu.toArray⟩, .slice fa fn fc] (0))
  case first =>
    go_wp2_with fail
    go_meet
    exact ⟨_, rfl, HF.out⟩
  case rest =>
  obtain ⟨OB, rfl, hF⟩ := hcut
  clear HF
  have d0 := hF.d0
  have d1 := hF.d1
  have hl := HL.out wc hF.low
  go_upto_region 8 with fail
  go_cut [] (fun wx => FS w wx w.heap.size NB CB OB (.slice (some ⟨b, off, none⟩) l.length cap) (.slice (some ⟨cb, coff, none⟩) cs.length ccap) [.string ⟨n.name.toArray⟩, .string ⟨n.text.toArray⟩, .slice aa n.attrs.length ac, .int .i64 n.parent, .slice ka n.kids.length kc] [.string ⟨cv.toArray⟩, .bool cdi, .bool cty, .bool cch, .bool cdc, .bool cmi, .bool cse, .bool cds, .string ⟨ccu.toArray⟩, .slice fa fn fc] (0 + bitN lk (2 ^ 0)))
  case first =>
    go_wp2_with fail
    refine hl.mono ?_
    rintro e w6 ⟨rfl, hb6⟩
    replace hF := hF.below hb6
    have hp := put_any lk 0 0 (by decide) (by decide) OB w6 hF.out
    have HF := Lib.hid hF
    clear hl d0 d1 hb6 hF
    go_wp2_with fail
    refine hp.mono ?_
    rintro e w7 hp7
    obtain ⟨v, rfl⟩ := hp7.1
    have HF2 := Lib.hid (HF.out.put hp7)
    clear HF hp hp7
    go_wp2_with fail
    go_meet
    exact HF2.out
  case rest =>
  replace hF := hcut
  clear hcut hl d0 d1
  obtain ⟨a1, ha1⟩ : ∃ a, a = 0 + bitN lk (2 ^ 0) := ⟨_, rfl⟩
  rw [← ha1] at hF
  have HA1 := Lib.hid ha1
  have hl1 : a1 < 2 ^ 1 := by rw [ha1]; have := bitN_le lk (2 ^ 0); omega
  clear ha1
  obtain ⟨se, hemp⟩ : ∃ q, s.isEmpty = q := ⟨_, rfl⟩
  have HSe : Hid (s = [] ↔ se = true) := Lib.hid (by rw [← hemp, List.isEmpty_iff])
  go_upto_if 53 with fail
  go_cut [] (fun wx => FS w wx w.heap.size NB CB OB (.slice (some ⟨b, off, none⟩) l.length cap) (.slice (some ⟨cb, coff, none⟩) cs.length ccap) [.string ⟨n.name.toArray⟩, .string ⟨n.text.toArray⟩, .slice aa n.attrs.length ac, .int .i64 n.parent, .slice ka n.kids.length kc] [.string ⟨cv.toArray⟩, .bool cdi, .bool cty, .bool cch, .bool cdc, .bool cmi, .bool cse, .bool cds, .string ⟨ccu.toArray⟩, .slice fa fn fc] (a1 + bitN (decide (s ≠ []) && mt) (2 ^ 1) + bitN (decide (s ≠ []) && od) (2 ^ 2)))
  case first =>
    cases se
    case true =>
      have hs0 := HSe.out.2 rfl
      have HF : Hid (FS w wc w.heap.size NB CB OB (.slice (some ⟨b, off, none⟩) l.length cap) (.slice (some ⟨cb, coff, none⟩) cs.length ccap) [.string ⟨n.name.toArray⟩, .string ⟨n.text.toArray⟩, .slice aa n.attrs.length ac, .int .i64 n.parent, .slice ka n.kids.length kc] [.string ⟨cv.toArray⟩, .bool cdi, .bool cty, .bool cch, .bool cdc, .bool cmi, .bool cse, .bool cds, .string ⟨ccu.toArray⟩, .slice fa fn fc] (a1 + bitN (decide (s ≠ []) && mt) (2 ^ 1) + bitN (decide (s ≠ []) && od) (2 ^ 2))) := Lib.hid (by
        rw [decide_eq_false (fun h => h hs0)]; exact hF)
      clear hs0 hF HSe
      go_wp2_with fail
      go_meet
      exact HF.out
    case false =>
      have hs0 : s ≠ [] := fun h => Bool.noConfusion (HSe.out.1 h)
      have HD : Hid (decide (s ≠ []) = true) := Lib.hid (decide_eq_true hs0)
      have HMs := Lib.hid (HM.out hs0)
      have HOs := Lib.hid (HO.out hs0)
      clear hs0 HSe
      have e0 := hF.nd 0
      have e1 := hF.nd 1
      have e2 := hF.nd 2
      have e3 := hF.nd 3
      have e4 := hF.nd 4
      dsimp only [List.getElem?_cons_zero, List.getElem?_cons_succ] at e0 e1 e2 e3 e4
      have hm := HMs.out wc _ _ (HN0.out.attrs.below hF.low) (HN0.out.kids.below hF.low)
      unfold nodeV at hm
      go_wp2_with fail
      refine hm.mono ?_
      rintro e w6 ⟨rfl, hb6⟩
      replace hF := hF.below hb6
      have hp := put_any mt a1 1 (by decide) hl1 OB w6 hF.out
      have HF := Lib.hid hF
      clear hm hb6 hF e0 e1 e2 e3 e4
      go_wp2_with fail
      refine hp.mono ?_
      rintro e w7 hp7
      obtain ⟨v, rfl⟩ := hp7.1
      have hF := HF.out.put hp7
      clear HF hp hp7
      have e0 := hF.nd 0
      have e1 := hF.nd 1
      have e2 := hF.nd 2
      have e3 := hF.nd 3
      have e4 := hF.nd 4
      dsimp only [List.getElem?_cons_zero, List.getElem?_cons_succ] at e0 e1 e2 e3 e4
      have ho := HOs.out w7 _ _ (HN0.out.attrs.below hF.low) (HN0.out.kids.below hF.low)
      unfold nodeV at ho
      go_wp2_with fail
      refine ho.mono ?_
      rintro e w8 ⟨rfl, hb8⟩
      replace hF := hF.below hb8
      have hp := put_any od _ 2 (by decide) (by have := bitN_le mt (2 ^ 1); omega) OB w8 hF.out
      have HF := Lib.hid hF
      clear ho hb8 hF e0 e1 e2 e3 e4
      go_wp2_with fail
      refine hp.mono ?_
      rintro e w9 hp9
      obtain ⟨v, rfl⟩ := hp9.1
      have HF2 := Lib.hid (HF.out.put hp9)
      clear HF hp hp9
      go_wp2_with fail
      go_meet
      rw [HD.out, Bool.true_and, Bool.true_and]
      exact HF2.out
  case rest =>
  replace hF := hcut
  clear hcut HM HO
  obtain ⟨a3, ha3⟩ : ∃ a, a = a1 + bitN (decide (s ≠ []) && mt) (2 ^ 1) + bitN (decide (s ≠ []) && od) (2 ^ 2) := ⟨_, rfl⟩
  rw [← ha3] at hF
  have HA3 := Lib.hid ha3
  have hl3 : a3 < 2 ^ 3 := by rw [ha3]; have := bitN_le (decide (s ≠ []) && mt) (2 ^ 1); have := bitN_le (decide (s ≠ []) && od) (2 ^ 2); omega
  clear ha3 hl1
  have t1 := hF.ct 1
  have t2 := hF.ct 2
  dsimp only [List.getElem?_cons_zero, List.getElem?_cons_succ] at t1 t2
  go_upto_region 12 with fail
  go_cut [71] (fun s71 wx => s71 = .bool (cdi && cty) ∧ wx = wc)
  case first =>
    cases cdi
    · go_wp2_with fail
      go_meet
      exact ⟨rfl, rfl⟩
    · go_wp2_with fail
      go_meet
      exact ⟨by rw [Bool.true_and], rfl⟩
  case rest =>
  obtain ⟨rfl, hwc⟩ := hcut
  subst hwc
  clear t1 t2
  obtain ⟨dt, hdt⟩ : ∃ q, (cdi && cty) = q := ⟨_, rfl⟩
  have HDt := Lib.hid hdt
  rw [hdt] at HX HI HU ⊢
  clear hdt
  go_upto_if 71 with fail
  go_cut [] (fun wx => FS w wx w.heap.size NB CB OB (.slice (some ⟨b, off, none⟩) l.length cap) (.slice (some ⟨cb, coff, none⟩) cs.length ccap) [.string ⟨n.name.toArray⟩, .string ⟨n.text.toArray⟩, .slice aa n.attrs.length ac, .int .i64 n.parent, .slice ka n.kids.length kc] [.string ⟨cv.toArray⟩, .bool cdi, .bool cty, .bool cch, .bool cdc, .bool cmi, .bool cse, .bool cds, .string ⟨ccu.toArray⟩, .slice fa fn fc] (a3 + bitN (dt && decide (0 ≤ most) && decide (most < un)) (2 ^ 3) + bitN (dt && decide (s ≠ []) && decide (un < least)) (2 ^ 4)))
  case first =>
    have HF := Lib.hid hF
    clear hF
    cases dt
    case false =>
      go_wp2_with fail
      go_meet
      exact HF.out
    case true =>
      have HXt := Lib.hid (HX.out rfl)
      have HIt := Lib.hid (HI.out rfl)
      have HUt := Lib.hid (HU.out rfl)
      clear HX HI HU
      have hF := HF.out
      have HNb := Lib.hid HN0.out
      go_upto_region 13 with fail
      go_cut [11, 12] (fun s11 s12 wx => s11 = .int .i64 most ∧ s12 = .int .i64 least ∧ FS w wx w.heap.size NB CB OB (.slice (some ⟨b, off, none⟩) l.length cap) (.slice (some ⟨cb, coff, none⟩) cs.length ccap) [.string ⟨n.name.toArray⟩, .string ⟨n.text.toArray⟩, .slice aa n.attrs.length ac, .int .i64 n.parent, .slice ka n.kids.length kc] [.string ⟨cv.toArray⟩, .bool cdi, .bool cty, .bool cch, .bool cdc, .bool cmi, .bool cse, .bool cds, .string ⟨ccu.toArray⟩, .slice fa fn fc] (a3))
      case first =>
        have hS : wc.cell? ⟨NB, 0, none⟩ = some (.string ⟨n.name.toArray⟩) ∧ wc.cell? ⟨NB, 1, none⟩ = some (.string ⟨n.text.toArray⟩) ∧ wc.cell? ⟨NB, 2, none⟩ = some (.slice aa n.attrs.length ac) ∧ wc.cell? ⟨NB, 3, none⟩ = some (.int .i64 n.parent) ∧ wc.cell? ⟨NB, 4, none⟩ = some (.slice ka n.kids.length kc) ∧ FS w wc w.heap.size NB CB OB (.slice (some ⟨b, off, none⟩) l.length cap) (.slice (some ⟨cb, coff, none⟩) cs.length ccap) [.string ⟨n.name.toArray⟩, .string ⟨n.text.toArray⟩, .slice aa n.attrs.length ac, .int .i64 n.parent, .slice ka n.kids.length kc] [.string ⟨cv.toArray⟩, .bool cdi, .bool cty, .bool cch, .bool cdc, .bool cmi, .bool cse, .bool cds, .string ⟨ccu.toArray⟩, .slice fa fn fc] (a3) := ⟨hF.nd 0, hF.nd 1, hF.nd 2, hF.nd 3, hF.nd 4, hF⟩
        have hmx := fun w' (h : FS w w' w.heap.size NB CB OB (.slice (some ⟨b, off, none⟩) l.length cap) (.slice (some ⟨cb, coff, none⟩) cs.length ccap) [.string ⟨n.name.toArray⟩, .string ⟨n.text.toArray⟩, .slice aa n.attrs.length ac, .int .i64 n.parent, .slice ka n.kids.length kc] [.string ⟨cv.toArray⟩, .bool cdi, .bool cty, .bool cch, .bool cdc, .bool cmi, .bool cse, .bool cds, .string ⟨ccu.toArray⟩, .slice fa fn fc] (a3)) => HXt.out w' _ _ (HNb.out.attrs.below h.low) (HNb.out.kids.below h.low)
        have hmn := fun w' (h : FS w w' w.heap.size NB CB OB (.slice (some ⟨b, off, none⟩) l.length cap) (.slice (some ⟨cb, coff, none⟩) cs.length ccap) [.string ⟨n.name.toArray⟩, .string ⟨n.text.toArray⟩, .slice aa n.attrs.length ac, .int .i64 n.parent, .slice ka n.kids.length kc] [.string ⟨cv.toArray⟩, .bool cdi, .bool cty, .bool cch, .bool cdc, .bool cmi, .bool cse, .bool cds, .string ⟨ccu.toArray⟩, .slice fa fn fc] (a3)) => HIt.out w' _ _ (HNb.out.attrs.below h.low) (HNb.out.kids.below h.low)
        unfold nodeV at hmx hmn
        clear hF HF
        go_region_held3 (fun w' => w'.cell? ⟨NB, 0, none⟩ = some (.string ⟨n.name.toArray⟩) ∧ w'.cell? ⟨NB, 1, none⟩ = some (.string ⟨n.text.toArray⟩) ∧ w'.cell? ⟨NB, 2, none⟩ = some (.slice aa n.attrs.length ac) ∧ w'.cell? ⟨NB, 3, none⟩ = some (.int .i64 n.parent) ∧ w'.cell? ⟨NB, 4, none⟩ = some (.slice ka n.kids.length kc) ∧ FS w w' w.heap.size NB CB OB (.slice (some ⟨b, off, none⟩) l.length cap) (.slice (some ⟨cb, coff, none⟩) cs.length ccap) [.string ⟨n.name.toArray⟩, .string ⟨n.text.toArray⟩, .slice aa n.attrs.length ac, .int .i64 n.parent, .slice ka n.kids.length kc] [.string ⟨cv.toArray⟩, .bool cdi, .bool cty, .bool cch, .bool cdc, .bool cmi, .bool cse, .bool cds, .string ⟨ccu.toArray⟩, .slice fa fn fc] (a3))
          (first | assumption | exact fs_drew hS | exact fs_low (by assumption) (fs_drew hS) | exact fs_low (by assumption) (by assumption) | exact fs_low (by assumption) hS)
          (first | (go_at_call_of 42 (Value.string ⟨#[109, 97, 120, 108, 101, 110, 103, 116, 104]⟩); refine (hmx _ (And.right (And.right (And.right (And.right (And.right (by assumption))))))).mono ?_; rintro e wl ⟨rfl, hbl⟩) | (go_at_call_of 42 (Value.string ⟨#[109, 105, 110, 108, 101, 110, 103, 116, 104]⟩); refine (hmn _ (And.right (And.right (And.right (And.right (And.right (by assumption))))))).mono ?_; rintro e wl ⟨rfl, hbl⟩))
        all_goals
          go_wp2_with fail
          go_meet
          exact ⟨rfl, rfl, And.right (And.right (And.right (And.right (And.right (by assumption)))))⟩
      case rest =>
      obtain ⟨rfl, rfl, hF⟩ := hcut
      clear HF HXt HIt HNb
      go_upto_region 14 with fail
      go_cut [] (fun wx => FS w wx w.heap.size NB CB OB (.slice (some ⟨b, off, none⟩) l.length cap) (.slice (some ⟨cb, coff, none⟩) cs.length ccap) [.string ⟨n.name.toArray⟩, .string ⟨n.text.toArray⟩, .slice aa n.attrs.length ac, .int .i64 n.parent, .slice ka n.kids.length kc] [.string ⟨cv.toArray⟩, .bool cdi, .bool cty, .bool cch, .bool cdc, .bool cmi, .bool cse, .bool cds, .string ⟨ccu.toArray⟩, .slice fa fn fc] (a3 + bitN (decide (0 ≤ most) && decide (most < un)) (2 ^ 3)))
      case first =>
        by_cases g : 0 ≤ most
        · have hu := HUt.out wc hF.low
          have HD : Hid ((decide (0 ≤ most) && decide (most < un)) = decide (most < un)) := Lib.hid (by rw [decide_eq_true g, Bool.true_and])
          go_wp2_with fail
          refine hu.mono ?_
          rintro e w6 ⟨rfl, hb6⟩
          replace hF := hF.below hb6
          clear hu hb6 g
          have hp := put_any (decide (most < un)) a3 3 (by decide) hl3 OB w6 hF.out
          have HF := Lib.hid hF
          clear hF
          go_wp2_with fail
          refine hp.mono ?_
          rintro e wp3 hp3
          obtain ⟨v, rfl⟩ := hp3.1
          have hF := HF.out.put hp3
          clear HF hp hp3
          have HF := Lib.hid hF
          clear hF
          go_wp2_with fail
          go_meet
          rw [HD.out]
          exact HF.out
        · have HD : Hid ((decide (0 ≤ most) && decide (most < un)) = false) := Lib.hid (by rw [decide_eq_false g]; rfl)
          have hp := put_any false a3 3 (by decide) hl3 OB wc hF.out
          have HF := Lib.hid hF
          clear hF
          go_wp2_with fail
          refine hp.mono ?_
          rintro e wp3 hp3
          obtain ⟨v, rfl⟩ := hp3.1
          have hF := HF.out.put hp3
          clear HF hp hp3
          have HF := Lib.hid hF
          clear hF
          go_wp2_with fail
          go_meet
          rw [HD.out]
          exact HF.out
      case rest =>
      replace hF := hcut
      clear hcut
      obtain ⟨a4, ha4⟩ : ∃ a, a = a3 + bitN (decide (0 ≤ most) && decide (most < un)) (2 ^ 3) := ⟨_, rfl⟩
      rw [← ha4] at hF
      have HA4 := Lib.hid ha4
      have hl4 : a4 < 2 ^ 4 := by rw [ha4]; have := bitN_le (decide (0 ≤ most) && decide (most < un)) (2 ^ 3); omega
      clear ha4
      cases se
      case true =>
        have HD : Hid ((decide (s ≠ []) && decide (un < least)) = false) := Lib.hid (by rw [decide_eq_false (fun h => h (HSe.out.2 rfl))]; rfl)
        have hp := put_any false a4 4 (by decide) hl4 OB wc hF.out
        have HF := Lib.hid hF
        clear hF
        go_wp2_with fail
        refine hp.mono ?_
        rintro e wp4 hp4
        obtain ⟨v, rfl⟩ := hp4.1
        have hF := HF.out.put hp4
        clear HF hp hp4
        have HF := Lib.hid hF
        clear hF
        go_wp2_with fail
        go_meet
        rw [Bool.true_and, Bool.true_and, HD.out, ← HA4.out]
        exact HF.out
      case false =>
        have hu := HUt.out wc hF.low
        have HD : Hid ((decide (s ≠ []) && decide (un < least)) = decide (un < least)) := Lib.hid (by rw [decide_eq_true (show s ≠ [] from fun h => Bool.noConfusion (HSe.out.1 h)), Bool.true_and])
        go_wp2_with fail
        refine hu.mono ?_
        rintro e w6 ⟨rfl, hb6⟩
        replace hF := hF.below hb6
        clear hu hb6
        have hp := put_any (decide (un < least)) a4 4 (by decide) hl4 OB w6 hF.out
        have HF := Lib.hid hF
        clear hF
        go_wp2_with fail
        refine hp.mono ?_
        rintro e wp4 hp4
        obtain ⟨v, rfl⟩ := hp4.1
        have hF := HF.out.put hp4
        clear HF hp hp4
        have HF := Lib.hid hF
        clear hF
        go_wp2_with fail
        go_meet
        rw [Bool.true_and, Bool.true_and, HD.out, ← HA4.out]
        exact HF.out
  case rest =>
  replace hF := hcut
  clear hcut HX HI HU HSe hemp
  obtain ⟨a5, ha5⟩ : ∃ a, a = a3 + bitN (dt && decide (0 ≤ most) && decide (most < un)) (2 ^ 3) + bitN (dt && decide (s ≠ []) && decide (un < least)) (2 ^ 4) := ⟨_, rfl⟩
  rw [← ha5] at hF
  have HA5 := Lib.hid ha5
  have hl5 : a5 < 2 ^ 5 := by rw [ha5]; have := bitN_le (dt && decide (0 ≤ most) && decide (most < un)) (2 ^ 3); have := bitN_le (dt && decide (s ≠ []) && decide (un < least)) (2 ^ 4); omega
  clear ha5 hl3
  obtain ⟨qe, hemp⟩ : ∃ q, ccu.isEmpty = q := ⟨_, rfl⟩
  have HQe : Hid (decide (ccu ≠ []) = !qe) := Lib.hid (by
    rw [← hemp]
    cases ccu with
    | nil => rfl
    | cons c r => rfl)
  have e2 := hF.nd 2
  dsimp only [List.getElem?_cons_zero, List.getElem?_cons_succ] at e2
  have hst := HS.out wc _ (HN0.out.attrs.below hF.low) hF.low
  clear HS
  go_wp2_with fail
  refine hst.mono ?_
  rintro e w6 ⟨rfl, hb6⟩
  replace hF := hF.below hb6
  clear hst hb6 e2
  have hp := put_any ua a5 5 (by decide) hl5 OB w6 hF.out
  have HF := Lib.hid hF
  clear hF
  go_wp2_with fail
  refine hp.mono ?_
  rintro e wp5 hp5
  obtain ⟨v, rfl⟩ := hp5.1
  have hF := HF.out.put hp5
  clear HF hp hp5
  have hp := put_any ov _ 6 (by decide) (by have := bitN_le ua (2 ^ 5); omega) OB wp5 hF.out
  have HF := Lib.hid hF
  clear hF
  go_wp2_with fail
  refine hp.mono ?_
  rintro e wp6 hp6
  obtain ⟨v, rfl⟩ := hp6.1
  have hF := HF.out.put hp6
  clear HF hp hp6
  have hp := put_any st _ 7 (by decide) (by have := bitN_le ua (2 ^ 5); have := bitN_le ov (2 ^ 6); omega) OB wp6 hF.out
  have HF := Lib.hid hF
  clear hF
  go_wp2_with fail
  refine hp.mono ?_
  rintro e wp7 hp7
  obtain ⟨v, rfl⟩ := hp7.1
  have hF := HF.out.put hp7
  clear HF hp hp7
  have t8 := hF.ct 8
  dsimp only [List.getElem?_cons_zero, List.getElem?_cons_succ] at t8
  have hp := put_any (!qe) _ 8 (by decide) (by have := bitN_le ua (2 ^ 5); have := bitN_le ov (2 ^ 6); have := bitN_le st (2 ^ 7); omega) OB wp7 hF.out
  have HF := Lib.hid hF
  clear hF
  go_wp2_with fail
  refine hp.mono ?_
  rintro e wp8 hp8
  obtain ⟨v, rfl⟩ := hp8.1
  have hF := HF.out.put hp8
  clear HF hp hp8
  have o0 := hF.out.cell 0
  dsimp only [List.getElem?_cons_zero] at o0
  have hlow := Lib.hid hF.low
  have HFin : Hid (a5 + bitN ua (2 ^ 5) + bitN ov (2 ^ 6) + bitN st (2 ^ 7) + bitN (!qe) (2 ^ 8) = res) := Lib.hid (by
    rw [HRes.out, HDt.out, HQe.out, HA5.out, HA3.out, HA1.out, Nat.zero_add]; rfl)
  rw [HFin.out] at o0
  clear hF t8 hemp HRes HDt HQe HA5 HA3 HA1 HN0 HC0
  go_wp2_with fail
  go_ret
  exact ⟨rfl, hlow.out⟩
end Go.Proofs.YtkhlfggnjcbniaaGreatDoor.doc
