/- A list of attributes in memory: what it is, how it comes in, that it stays. Nodes and numbers in memory. A block of cells that is known whole, and may be written. A function whose result, a struct, lies in a cell; beside it one slot, or two. strconv.Atoi at every text; of digits it is their number. What is shown is read to the number that it was; what is read is shown by a text that is no longer. No program in sight. What is shown is read back; what is read is shown; a day and a time: plain. No program in sight. -/
import Derived.Deep.SlicePairs
import Derived.Deep.Slices
import Derived.Laws.OwnMore
import Derived.Lib.Hide
import Derived.Lib.IndexBytes
import Derived.Lib.IndexMore
import Derived.Lib.ItoaMem
import Derived.Lib.ItoaNum
import Derived.Lib.Repeat
import Derived.Lib.SlTrimSet
import Derived.Lib.Strings
import Derived.OpenShut
import Derived.ProofKit
import Derived.Shelf.Strconv.AtoiAll
import Derived.WalkKit
import Derived.WalkSmall
import Derived.WideKeyArgs
import Derived.Test.YtkhlfggnjcbniaaGreatDoorRows
import Derived.Test.YtkhlfggnjcbniaaGreatDoorShelf
import Derived.Test.YtkhlfggnjcbniaaGreatDoorP0
import Derived.Test.YtkhlfggnjcbniaaGreatDoorP1
import Derived.Test.YtkhlfggnjcbniaaGreatDoorP2
import Derived.Test.YtkhlfggnjcbniaaGreatDoorP5
import Derived.Test.YtkhlfggnjcbniaaGreatDoorP6
namespace Go.Proofs.YtkhlfggnjcbniaaGreatDoor.atr
open Go.ChangeShapes Go.WideShapes Go.RowKit Go.Lib Go.Deep

def encA (x : Attr) : List Value := [.string ⟨x.1.toArray⟩, .string ⟨x.2.toArray⟩]
/-- its cells -/
def RowA (w : World) (b off : Nat) (l : List Attr) : Prop :=
  ∀ j (h : j < l.length), w.cell? ⟨b, off + j * 2, none⟩ = some (.string ⟨l[j].1.toArray⟩) ∧ w.cell? ⟨b, off + j * 2 + 1, none⟩ = some (.string ⟨l[j].2.toArray⟩)
/-- the slice -/
def AttrsAt (w : World) (v : Value) (l : List Attr) : Prop :=
  (l = [] ∧ ∃ oa cap, v = .slice oa 0 cap) ∨ ∃ b off cap, v = .slice (some ⟨b, off, none⟩) l.length cap ∧ 0 < l.length ∧ b < w.heap.size ∧ RowA w b off l

theorem RowA.below {w w' : World} {b off : Nat} {l : List Attr} (h : RowA w b off l) (hb : Below w.heap.size w w') (hlt : b < w.heap.size) : RowA w' b off l := by
  intro j hj
  obtain ⟨h1, h2⟩ := h j hj
  exact ⟨(hb.cell (p := ⟨b, off + j * 2, none⟩) hlt).trans h1, (hb.cell (p := ⟨b, off + j * 2 + 1, none⟩) hlt).trans h2⟩
theorem AttrsAt.below {w w' : World} {v : Value} {l : List Attr} (h : AttrsAt w v l) (hb : Below w.heap.size w w') : AttrsAt w' v l := by
  rcases h with h | ⟨b, off, cap, h1, h0, h2, h3⟩
  · exact .inl h
  · exact .inr ⟨b, off, cap, h1, h0, Nat.lt_of_lt_of_le h2 hb.size, h3.below hb h2⟩
theorem AttrsAt.nil (w : World) : AttrsAt w (.slice none 0 0) [] := .inl ⟨rfl, _, _, rfl⟩

/-- the bytes of a text -/
def strOf : Value → List UInt8
  | .string s => s.data.toList
  | _ => []

section
variable {H : Type} {enc : TypeId × Value → H} {W : World} {base : Nat} {sp : Nat → Bool} {held : Bool}
end
end Go.Proofs.YtkhlfggnjcbniaaGreatDoor.atr
namespace Go.Proofs.YtkhlfggnjcbniaaGreatDoor.doc
open Go.ChangeShapes Go.WideShapes Go.ChangeAt Go.RowKit Go.Lib Go.Proofs.YtkhlfggnjcbniaaGreatDoor.atr

def encI (k : Int) : List Value := [.int .i64 k]
def IntsAt (w : World) (v : Value) (ks : List Int) : Prop := RowAt w v ks.length (ks.flatMap encI)
theorem encI_len (x : Int) : (encI x).length = 1 := rfl
theorem IntsAt.below {w w' : World} {v : Value} {ks : List Int} (h : IntsAt w v ks) (hb : Below w.heap.size w w') : IntsAt w' v ks := RowAt.below h hb (Nat.le_refl _)
theorem IntsAt.nil (w : World) : IntsAt w (.slice none 0 0) [] := .inl ⟨rfl, rfl, _, _, rfl⟩
theorem ints_get (ks : List Int) (j : Nat) (h : j < ks.length) : (ks.flatMap encI)[j]? = some (.int .i64 ks[j]) := by
  have := flat_at encI 1 encI_len ks j h 0 (by decide)
  simpa [encI] using this
/-- a node's value -/
def nodeV (n : Nd) (va vk : Value) : Value := .agg #[.string ⟨n.name.toArray⟩, .string ⟨n.text.toArray⟩, va, .int .i64 n.parent, vk]
/-- a slice's length is within its room -/
def CapOk (v : Value) : Prop := ∀ a n c, v = .slice a n c → n ≤ c
theorem CapOk.nil : CapOk (.slice none 0 0) := fun a n c e => by cases e; exact Nat.le_refl _
/-- its cells -/
structure NodeAt (w : World) (b o : Nat) (n : Nd) (va vk : Value) : Prop where
  c0 : w.cell? ⟨b, o, none⟩ = some (.string ⟨n.name.toArray⟩)
  c1 : w.cell? ⟨b, o + 1, none⟩ = some (.string ⟨n.text.toArray⟩)
  c2 : w.cell? ⟨b, o + 2, none⟩ = some va
  c3 : w.cell? ⟨b, o + 3, none⟩ = some (.int .i64 n.parent)
  c4 : w.cell? ⟨b, o + 4, none⟩ = some vk
  attrs : AttrsAt w va n.attrs
  kids : IntsAt w vk n.kids
  cap : CapOk va
theorem NodeAt.below {w w' : World} {b o : Nat} {n : Nd} {va vk : Value} (h : NodeAt w b o n va vk) (hb : Below w.heap.size w w') : NodeAt w' b o n va vk :=
  ⟨cell_below hb h.c0, cell_below hb h.c1, cell_below hb h.c2, cell_below hb h.c3, cell_below hb h.c4, h.attrs.below hb, h.kids.below hb, h.cap⟩
/-- the slice -/
def NodesAt (w : World) (v : Value) (l : List Nd) : Prop :=
  (l = [] ∧ ∃ oa cap, v = .slice oa 0 cap) ∨ ∃ b off cap, v = .slice (some ⟨b, off, none⟩) l.length cap ∧ 0 < l.length ∧ b < w.heap.size ∧ ∀ j (h : j < l.length), ∃ va vk, NodeAt w b (off + j * 5) l[j] va vk
theorem NodesAt.below {w w' : World} {v : Value} {l : List Nd} (h : NodesAt w v l) (hb : Below w.heap.size w w') : NodesAt w' v l := by
  rcases h with h | ⟨b, off, cap, h1, h0, h2, h3⟩
  · exact .inl h
  · exact .inr ⟨b, off, cap, h1, h0, Nat.lt_of_lt_of_le h2 hb.size, fun j hj => by
      obtain ⟨va, vk, h⟩ := h3 j hj
      exact ⟨va, vk, h.below hb⟩⟩
theorem NodesAt.lenN {w : World} {v : Value} {l : List Nd} (h : NodesAt w v l) : ∃ oa cap, v = .slice oa l.length cap := by
  rcases h with ⟨rfl, oa, cap, rfl⟩ | ⟨b, off, cap, rfl, _⟩
  · exact ⟨_, _, rfl⟩
  · exact ⟨_, _, rfl⟩
/-- a slice with a node in it has an address -/
theorem NodesAt.at {w : World} {v : Value} {l : List Nd} (h : NodesAt w v l) (h0 : 0 < l.length) : ∃ b off cap, v = .slice (some ⟨b, off, none⟩) l.length cap ∧ b < w.heap.size ∧ ∀ k, 0 ≤ k → k < (l.length : Int) → ∃ va vk, NodeAt w b (off + k.toNat * 5) (nd l k) va vk := by
  rcases h with ⟨rfl, _⟩ | ⟨b, off, cap, rfl, _, hb, hc⟩
  · exact absurd h0 (Nat.lt_irrefl _)
  · refine ⟨b, off, cap, rfl, hb, fun k k0 k1 => ?_⟩
    have hk : k.toNat < l.length := by omega
    obtain ⟨va, vk, h⟩ := hc k.toNat hk
    refine ⟨va, vk, ?_⟩
    have := nd_cast l k.toNat hk
    rw [show ((k.toNat : Nat) : Int) = k from by omega] at this
    rw [this]; exact h
structure NFine (n : Nd) : Prop where
  name : n.name.length ≤ 140737488355328
  text : n.text.length ≤ 140737488355328
  attrs : n.attrs.length ≤ 140737488355328
  kids : n.kids.length ≤ 17592186044416
  an : ∀ a ∈ n.attrs, a.1.length ≤ 140737488355328 ∧ a.2.length ≤ 140737488355328
  par : (Lit.int .i64 n.parent).wf = true
  kid : ∀ k ∈ n.kids, (Lit.int .i64 k).wf = true
structure LFine (l : List Nd) : Prop where
  len : l.length ≤ 17592186044416
  each : ∀ n ∈ l, NFine n
theorem LFine.nd {l : List Nd} (h : LFine l) (k : Int) (h0 : 0 ≤ k) (h1 : k < (l.length : Int)) : NFine (nd l k) := by
  have hk : k.toNat < l.length := by omega
  have := nd_cast l k.toNat hk
  rw [show ((k.toNat : Nat) : Int) = k from by omega] at this
  rw [this]
  exact h.each _ (List.getElem_mem hk)
theorem wf_range {x : Int} (h : (Lit.int .i64 x).wf = true) : -9223372036854775808 ≤ x ∧ x ≤ 9223372036854775807 := by
  have h : (decide (IntKind.i64.min ≤ x) && decide (x ≤ IntKind.i64.max)) = true := h
  rw [Bool.and_eq_true, decide_eq_true_eq, decide_eq_true_eq] at h
  exact h
end Go.Proofs.YtkhlfggnjcbniaaGreatDoor.doc
namespace Go.Proofs.YtkhlfggnjcbniaaGreatDoor
open Go.RowKit

def Blk (w : World) (B : Nat) (cs : List Value) : Prop := ∃ T, w.heap[B]? = some (.cells cs.toArray T (0, 0))
theorem Blk.lt {w : World} {B : Nat} {cs : List Value} (h : Blk w B cs) : B < w.heap.size := by
  obtain ⟨T, h⟩ := h
  apply Nat.lt_of_not_le; intro g
  rw [Array.getElem?_eq_none g] at h; cases h
theorem Blk.cell {w : World} {B : Nat} {cs : List Value} (h : Blk w B cs) (k : Nat) : w.cell? ⟨B, k, none⟩ = cs[k]? := by
  obtain ⟨T, h⟩ := h
  simp [World.cell?, h]
theorem Blk.frozen {w : World} {B : Nat} {cs : List Value} (h : Blk w B cs) (k : Nat) : w.frozen? ⟨B, k, none⟩ = false := by
  obtain ⟨T, h⟩ := h
  simp [World.frozen?, h]
theorem Blk.set {w : World} {B : Nat} {cs : List Value} (h : Blk w B cs) (k : Nat) (v : Value) : Blk (w.setCell ⟨B, k, none⟩ v) B (cs.set k v) := by
  have hlt := h.lt
  obtain ⟨T, h⟩ := h
  have h' : w.heap[B] = .cells cs.toArray T (0, 0) := by simpa [Array.getElem?_eq_getElem hlt] using h
  refine ⟨T, ?_⟩
  show (w.heap.modify B _)[B]? = _
  rw [Array.getElem?_eq_getElem (by simpa using hlt), Array.getElem_modify_self, h']
  simp
theorem Blk.alloc {w : World} {B : Nat} {cs : List Value} (h : Blk w B cs) (o : Obj) : Blk (w.alloc o) B cs := by
  have hlt := h.lt
  obtain ⟨T, h⟩ := h
  exact ⟨T, by rw [Below.heap_alloc w o B hlt]; exact h⟩
theorem Blk.drew {w : World} {B : Nat} {cs : List Value} (h : Blk w B cs) : Blk w.drew B cs := h
theorem Blk.fresh (w : World) (cs : List Value) (T : TypeId) : Blk (w.alloc (.cells cs.toArray T)) w.heap.size cs := by
  refine ⟨T, ?_⟩
  show (w.heap.push _)[w.heap.size]? = _
  simp
theorem Blk.below {w w' : World} {B : Nat} {cs : List Value} (h : Blk w B cs) {n : Nat} (hb : Below n w w') (hn : B < n) : Blk w' B cs := by
  obtain ⟨T, h⟩ := h
  exact ⟨T, by rw [hb.block _ hn]; exact h⟩
theorem Blk.kept {w w' : World} {B : Nat} {cs : List Value} (h : Blk w B cs) (hb : Below w.heap.size w w') : Blk w' B cs := h.below hb h.lt
/-- ten cells -/
theorem Blk.ten {w : World} {B : Nat} {a0 a1 a2 a3 a4 a5 a6 a7 a8 a9 : Value} (h : Blk w B [a0, a1, a2, a3, a4, a5, a6, a7, a8, a9]) :
    w.cell? ⟨B, 0, none⟩ = some a0 ∧ w.cell? ⟨B, 1, none⟩ = some a1 ∧ w.cell? ⟨B, 2, none⟩ = some a2 ∧ w.cell? ⟨B, 3, none⟩ = some a3 ∧ w.cell? ⟨B, 4, none⟩ = some a4 ∧ w.cell? ⟨B, 5, none⟩ = some a5 ∧ w.cell? ⟨B, 6, none⟩ = some a6 ∧ w.cell? ⟨B, 7, none⟩ = some a7 ∧ w.cell? ⟨B, 8, none⟩ = some a8 ∧ w.cell? ⟨B, 9, none⟩ = some a9 ∧
    w.frozen? ⟨B, 0, none⟩ = false ∧ w.frozen? ⟨B, 1, none⟩ = false ∧ w.frozen? ⟨B, 2, none⟩ = false ∧ w.frozen? ⟨B, 3, none⟩ = false ∧ w.frozen? ⟨B, 4, none⟩ = false ∧ w.frozen? ⟨B, 5, none⟩ = false ∧ w.frozen? ⟨B, 6, none⟩ = false ∧ w.frozen? ⟨B, 7, none⟩ = false ∧ w.frozen? ⟨B, 8, none⟩ = false ∧ w.frozen? ⟨B, 9, none⟩ = false :=
  ⟨h.cell 0, h.cell 1, h.cell 2, h.cell 3, h.cell 4, h.cell 5, h.cell 6, h.cell 7, h.cell 8, h.cell 9, h.frozen 0, h.frozen 1, h.frozen 2, h.frozen 3, h.frozen 4, h.frozen 5, h.frozen 6, h.frozen 7, h.frozen 8, h.frozen 9⟩
end Go.Proofs.YtkhlfggnjcbniaaGreatDoor
namespace Go.Proofs.YtkhlfggnjcbniaaGreatDoor
open Go.RowKit
theorem rcell1 {fn : Func} {p : Tmp} {ty : TypeId} (h : fn.results = #[.cell p ty]) (tmps : Array Value) (P : Program) (w : World) :
    (results fn tmps).run P w = ((asAddr (tmps.getD p undef)).run P w).andThen fun a w₁ => (loadVar ty a).run P w₁ := by
  simp only [results, h]
  simp [Sem.run_bind, Result.andThen]
end Go.Proofs.YtkhlfggnjcbniaaGreatDoor
namespace Go.Proofs.YtkhlfggnjcbniaaGreatDoor.num
open Go.ChangeShapes Go.WideShapes Go.ChangeAt Go.RowKit Go.Lib

theorem isDig_nat (c : UInt8) (h : isDig c = true) : 48 ≤ c.toNat ∧ c.toNat ≤ 57 := by
  have := (isDig_iff c).1 h
  omega

theorem parse_val (l : List UInt8) : ∀ n, allDig l = true → (valFrom n l < 18446744073709551616 → parseUint10 n l = .ok (valFrom n l)) ∧ (18446744073709551616 ≤ valFrom n l → n < 18446744073709551616 → parseUint10 n l = .range) := by
  induction l with
  | nil => intro n _; exact ⟨fun _ => rfl, fun h g => absurd h (by show ¬ _ ≤ n; omega)⟩
  | cons c r ih =>
    intro n hd
    rw [allDig_cons, Bool.and_eq_true] at hd
    obtain ⟨h1, h2⟩ := hd
    have hc := isDig_nat c h1
    have hg := valFrom_ge (n * 10 + dv c) r
    rw [parseUint10, if_pos hc, valFrom_cons]
    obtain ⟨i1, i2⟩ := ih (n * 10 + dv c) h2
    rw [dv_eq] at *
    constructor
    · intro h
      rw [if_neg (by omega), if_neg (by omega)]
      exact i1 h
    · intro h hn
      by_cases g1 : 1844674407370955162 ≤ n
      · rw [if_pos g1]
      · rw [if_neg g1]
        by_cases g2 : 18446744073709551616 ≤ n * 10 + (c.toNat - 48)
        · rw [if_pos g2]
        · rw [if_neg g2]
          exact i2 h (by omega)

/-- of digits: the number, if it fits an int; else none -/
theorem atoi_val (l : List UInt8) (hp : 0 < l.length) (h2 : allDig l = true) : (val l < 9223372036854775808 ∧ atoiAll l = .ok (val l : Int)) ∨ (9223372036854775808 ≤ val l ∧ ∀ v, atoiAll l ≠ .ok v) := by
  cases l with
  | nil => simp at hp
  | cons c r =>
    have hp := parse_val (c :: r) 0 h2
    have hc : 48 ≤ c.toNat ∧ c.toNat ≤ 57 := by
      rw [allDig_cons, Bool.and_eq_true] at h2
      exact isDig_nat c h2.1
    unfold val
    generalize valFrom 0 (c :: r) = n at *
    have e : atoiAll (c :: r) = match parseMag (c :: r) with
      | .ok u => if 9223372036854775808 ≤ u then .range else .ok (u : Int)
      | .range => .range
      | _ => atoiAll [] := by
      unfold atoiAll
      simp only []
      rw [if_neg (by omega)]
      have h45 : ¬ c.toNat = 45 := by omega
      simp only [h45, not_false_eq_true, true_and, false_and, if_false]
      cases parseMag (c :: r) <;> rfl
    have em : parseMag (c :: r) = parseUint10 0 (c :: r) := by unfold parseMag; rw [if_neg (by simp)]
    rw [em] at e
    by_cases g : n < 18446744073709551616
    · rw [hp.1 g] at e
      simp only [] at e
      by_cases g2 : n < 9223372036854775808
      · left; rw [if_neg (by omega)] at e; exact ⟨g2, e⟩
      · right; rw [if_pos (by omega)] at e; exact ⟨by omega, fun v h => by rw [e] at h; cases h⟩
    · right
      rw [hp.2 (by omega) (by omega)] at e
      exact ⟨by omega, fun v h => by rw [e] at h; cases h⟩

set_option maxRecDepth 100000 in
/-- strconv.Atoi: the number and no error, or some number and an error -/
theorem atoi_any (l : List UInt8) (hl : l.length ≤ 1000000000) (w : World) (hE : GE w) :
    Calls Tryz.prog 96 #[.string ⟨l.toArray⟩] w fun e w' => Below w.heap.size w w' ∧
      ((∃ v, atoiAll l = .ok v ∧ e = .returned (.tuple #[.int .i64 v, .nilIface])) ∨ ((∀ v, atoiAll l ≠ .ok v) ∧ ∃ (n : Int) (N : Nat), (-9223372036854775808 ≤ n ∧ n ≤ 9223372036854775807) ∧ e = .returned (.tuple #[.int .i64 n, .iface 194 (.pointer (some ⟨N, 0, none⟩))]))) := by
  obtain ⟨ev, hev, hev2⟩ := hE.er
  obtain ⟨es, hes, hes2⟩ := hE.es
  have hb : (⟨l.toArray⟩ : ByteArray).size ≤ 1000000000 := by rw [bsize]; omega
  cases h : atoiAll l
  · rename_i v
    refine (Tryz.strconv_Atoi_ok ⟨l.toArray⟩ (by omega) v h w).mono ?_
    rintro e w' ⟨rfl, hw⟩
    refine ⟨?_, .inl ⟨v, rfl, rfl⟩⟩
    rcases hw with rfl | ⟨t, rfl⟩
    · exact Below.refl _ _
    · exact Lib.bytesWorld_below _ _ _
  · refine (Any.strconv_Atoi_syntax Tryz.laysC172 ⟨l.toArray⟩ (by omega) h es w hes hes2).mono ?_
    rintro e w' ⟨N, rfl, _, _, hB⟩
    exact ⟨hB, .inr ⟨(fun v g => by cases g), _, N, ⟨by decide, by decide⟩, rfl⟩⟩
  · refine (Any.strconv_Atoi_range Tryz.laysC172 ⟨l.toArray⟩ (by omega) h ev w hev hev2).mono ?_
    rintro e w' ⟨N, rfl, _, _, hB⟩
    exact ⟨hB, .inr ⟨(fun v g => by cases g), _, N, Lib.atoiSat_bounds l, rfl⟩⟩
end Go.Proofs.YtkhlfggnjcbniaaGreatDoor.num
namespace Go.Proofs.YtkhlfggnjcbniaaGreatDoor.num
open Go.Lib

theorem dig_ofNat (k : Nat) (hk : k < 10) : isDig (UInt8.ofNat (48 + k)) = true ∧ dv (UInt8.ofNat (48 + k)) = k := by
  constructor
  · rw [isDig_iff, UInt8.toNat_ofNat']; omega
  · rw [dv_eq, UInt8.toNat_ofNat']; omega

theorem dec_dig (u : Nat) : allDig (decDigits u) = true ∧ val (decDigits u) = u := by
  induction u using Nat.strongRecOn with
  | _ u ih =>
    by_cases h : u < 10
    · have := dig_ofNat u h
      rw [decDigits_one h, allDig_cons, this.1, val_cons, this.2]
      exact ⟨rfl, by simp [val_nil]⟩
    · have h1 := ih (u / 10) (by omega)
      have h2 := dig_ofNat (u % 10) (by omega)
      rw [decDigits, dif_neg h]
      constructor
      · unfold allDig at *
        rw [List.all_append, h1.1, List.all_cons, h2.1]; rfl
      · rw [val_append, h1.2, val_cons, h2.2, val_nil]; simp; omega

/-- how many digits a number has -/
theorem nDigits_bd (k : Nat) : ∀ u, u < 10 ^ k → nDigits u ≤ max 1 k := by
  induction k with
  | zero =>
    intro u h
    have : u = 0 := by omega
    subst this
    rw [nDigits_small (by omega)]; omega
  | succ k ih =>
    intro u h
    by_cases h10 : u < 10
    · rw [nDigits_small h10]; omega
    · rw [nDigits_big h10]
      have h2 := ih (u / 10) (by rw [Nat.pow_succ] at h; omega)
      have hk : 1 ≤ k := by
        apply Nat.lt_of_not_le; intro g
        have : k = 0 := by omega
        subst this
        omega
      omega

end Go.Proofs.YtkhlfggnjcbniaaGreatDoor.num
namespace Go.Proofs.YtkhlfggnjcbniaaGreatDoor.mom
open Go.Lib Go.Proofs.YtkhlfggnjcbniaaGreatDoor.num Go.Proofs.YtkhlfggnjcbniaaGreatDoor.cal

theorem all_rep (k : Nat) : allDig (List.replicate k 48) = true := by
  induction k with
  | zero => rfl
  | succ k ih => rw [List.replicate_succ, allDig_cons, ih]; rfl
theorem all_app (a b : List UInt8) (ha : allDig a = true) (hb : allDig b = true) : allDig (a ++ b) = true := by
  unfold allDig at *
  rw [List.all_append, ha, hb]; rfl
theorem pad_dig (n k : Nat) : allDig (padS n k) = true ∧ val (padS n k) = n ∧ k ≤ (padS n k).length := by
  obtain ⟨h1, h2⟩ := dec_dig n
  unfold padS
  refine ⟨all_app _ _ (all_rep _) h1, ?_, ?_⟩
  · rw [val_append, val_zeros, h2]; omega
  · rw [List.length_append, List.length_replicate]; omega
theorem pad_len (n k : Nat) (hk : 1 ≤ k) (h : n < 10 ^ k) : (padS n k).length = k := by
  have := nDigits_bd k n h
  rw [← decDigits_length] at this
  unfold padS
  rw [List.length_append, List.length_replicate]; omega
theorem two_pad (m : Nat) (hm : m < 100) (r : List UInt8) : two (padS m 2 ++ r) = some (m, r) := by
  obtain ⟨h1, h2, _⟩ := pad_dig m 2
  have h3 := pad_len m 2 (by decide) hm
  match hp : padS m 2, h3 with
  | [a, b], _ =>
    rw [hp] at h1 h2
    rw [allDig_cons, allDig_cons, Bool.and_eq_true, Bool.and_eq_true] at h1
    have hv : val [a, b] = dv a * 10 + dv b := by
      unfold val
      rw [valFrom_cons, valFrom_cons]
      show (0 * 10 + dv a) * 10 + dv b = _
      omega
    show two (a :: b :: r) = _
    rw [two_of a b r h1.1 h1.2.1, ← hv, h2]
theorem year_pad (y : Nat) (h1 : 1 ≤ y) (h2 : y ≤ 275760) (r : List UInt8) (hr : cnt r = 0) : yearP (padS y 4 ++ r) = some (y, r) := by
  obtain ⟨a, b, c⟩ := pad_dig y 4
  have := yearP_of (padS y 4) r a hr (by rw [b]; unfold yOk; simp; omega)
  rw [b] at this
  exact this
theorem cnt45 (r : List UInt8) : cnt (45 :: r) = 0 := cnt_cons_no 45 r (by decide)

theorem date_back (d : Int) (h1 : -719162 ≤ d) (_h2 : d ≤ 100000109) (hb : 1 ≤ (dateOf d).1 ∧ (dateOf d).1 ≤ 275760) : dateP (ymdS (dateOf d)) = some (d * 86400000, []) := by
  obtain ⟨a, b, c⟩ := date_ok d h1
  obtain ⟨a1, a2, a3, a4⟩ := a
  have hm := mlen_pos (dateOf d).1 (dateOf d).2.1
  unfold ymdS
  have e1 := year_pad (dateOf d).1.toNat (by omega) (by omega) (45 :: (padS (dateOf d).2.1.toNat 2 ++ 45 :: padS (dateOf d).2.2.toNat 2)) (cnt45 _)
  have e2 := two_pad (dateOf d).2.1.toNat (by omega) (45 :: padS (dateOf d).2.2.toNat 2)
  have e3 := two_pad (dateOf d).2.2.toNat (by omega) []
  rw [List.append_nil] at e3
  have ok : dOk (dateOf d).1.toNat (dateOf d).2.1.toNat (dateOf d).2.2.toNat = true := by
    unfold dOk
    rw [Int.toNat_of_nonneg (by omega : 0 ≤ (dateOf d).1), Int.toNat_of_nonneg (by omega : 0 ≤ (dateOf d).2.1), Int.toNat_of_nonneg (by omega : 0 ≤ (dateOf d).2.2)]
    simp only [Bool.and_eq_true, decide_eq_true_eq]
    omega
  rw [dateP_of _ _ _ _ _ _ _ _ _ e1 rfl e2 rfl e3 ok]
  rw [Int.toNat_of_nonneg (by omega : 0 ≤ (dateOf d).1), Int.toNat_of_nonneg (by omega : 0 ≤ (dateOf d).2.1), Int.toNat_of_nonneg (by omega : 0 ≤ (dateOf d).2.2), b]

theorem thou_back (x : Nat) (h0 : 0 < x) (hx : x < 1000) : thou (strip (padS x 3)) = some (x, []) := by
  obtain ⟨h1, h2, _⟩ := pad_dig x 3
  have h3 := pad_len x 3 (by decide) hx
  obtain ⟨k, hk⟩ := strip_pre (padS x 3)
  have hd := strip_dig _ h1
  have hl := strip_le (padS x 3)
  generalize strip (padS x 3) = q at *
  have hlen : q.length + k = 3 := by
    have := congrArg List.length hk
    rw [List.length_append, List.length_replicate, h3] at this; omega
  have hv : val q * 10 ^ k = x := by
    rw [hk, val_append, val_zeros, List.length_replicate] at h2; omega
  have hq : 1 ≤ q.length := by
    apply Nat.pos_of_ne_zero
    intro g
    have : q = [] := List.length_eq_zero_iff.1 g
    rw [this, val_nil] at hv
    omega
  have hc : cnt q = q.length := (cnt_all q).2 hd
  unfold thou
  simp only []
  rw [hc, Nat.min_eq_left (by omega), if_neg (by omega), List.take_length, List.drop_length, show 3 - q.length = k from by omega, hv]

theorem time_back (n : Nat) (hn : n < 86400000) (r : List UInt8) (hr : r = []) : timeP (clockS n ++ r) = some ((n : Int), r) := by
  subst hr
  rw [List.append_nil]
  have h1 : n / 3600000 < 24 := by omega
  have h2 : n / 60000 % 60 < 60 := by omega
  obtain ⟨q, hq⟩ : ∃ q, q = n % 60000 := ⟨_, rfl⟩
  have hqb : q < 60000 := by omega
  have hbase : (n / 3600000 * 60 + n / 60000 % 60) * 60000 + q = n := by omega
  unfold clockS timeP
  rw [two_pad _ (by omega)]
  dsimp only
  rw [sgn_of]
  dsimp only
  rw [two_pad _ (by omega)]
  dsimp only
  rw [if_pos (by simp; omega), ← hq]
  unfold minT partS
  by_cases g0 : q = 0
  · rw [if_pos g0, if_neg (by simp)]
    congr 1
    rw [Prod.mk.injEq]
    exact ⟨by omega, rfl⟩
  · rw [if_neg g0]
    rw [if_pos (show (58 :: (padS (q / 1000) 2 ++ if q % 1000 = 0 then [] else 46 :: strip (padS (q % 1000) 3))).head? = some 58 from rfl)]
    show secP _ (padS (q / 1000) 2 ++ if q % 1000 = 0 then [] else 46 :: strip (padS (q % 1000) 3)) = _
    unfold secP
    rw [two_pad _ (by omega)]
    dsimp only
    rw [if_pos (by omega)]
    unfold secT
    by_cases g1 : q % 1000 = 0
    · rw [if_pos g1, if_neg (by simp)]
      congr 1
      rw [Prod.mk.injEq]
      exact ⟨by omega, rfl⟩
    · rw [if_neg g1, if_pos (show (46 :: strip (padS (q % 1000) 3)).head? = some 46 from rfl)]
      show (match thou (strip (padS (q % 1000) 3)) with | none => none | some (p, r2) => some _) = _
      rw [thou_back (q % 1000) (by omega) (by omega)]
      dsimp only
      congr 1
      rw [Prod.mk.injEq]
      exact ⟨by omega, rfl⟩
end Go.Proofs.YtkhlfggnjcbniaaGreatDoor.mom
