/- What every contract asks of the world: the library's variables that are read hold what they were laid with (or some number); and that this is kept by whatever leaves the old blocks as they are. Attributes: the first of a name: plain. No program in sight. Plain laws on strings as lists of bytes: strings.Cut at one byte. No program in sight. Small facts on bytes. The contract of the reference's Lower. The contract of text.Lower. Plain laws on numbers as texts: what number.Parse, number.Show and the reference's Parse, Show compute, and that they agree. No program in sight. What number.Parse computes is what 'parseS' says. No program in sight. Plain laws on numbers told as texts. No program in sight. What is shown is read to the number that it was; what is read is shown by a text that is no longer. No program in sight. The calendar: plain laws over whole numbers. No program in sight. Moments as texts: what is read, what is shown: plain. No program in sight. What a moment's text is: plain. No program in sight. The contract of the reference's Left: what a division leaves, from 0 on, for every step above 0. The contracts of number.left, number.Fits, number.Down and of the reference's Left, Fits, Down: each computes what the plain functions below say, for every step above 0 (and the early ways for any other). Bounds and steps of values that are numbers: plain. No program in sight. -/
import Derived.Test.YtbhdoocajfkfiaaGreatDoorRows
import Derived.WalkKit
import Derived.ProofKit
import Derived.WalkSmall
import Derived.Lib.ItoaMem
import Derived.Lib.Hide
import Derived.Lib.IndexMore
import Derived.Lib.IndexBytes
import Derived.Lib.Strings
import Derived.WalkSpells
import Derived.Deep.MidRow
import Derived.Laws.IdiomStrings
import Derived.Laws.BytesArg
import Derived.Lib.ItoaNum
import Derived.Lib.SlTrimSet
import Derived.Lib.Repeat
namespace Go.Proofs.YtbhdoocajfkfiaaGreatDoor
open Go.RowKit

/-- The library's variables, as far as they are read: a number, and the powers of ten. -/
structure G (w : World) : Prop where
  ml : ∃ m, w.cell? ⟨4, 0, none⟩ = some (.int .i64 m)
  p10 : Lib.TabIs Tryz.prog w "internal/strconv.uint64pow10" .u64 Lib.pow10Tab
/-- .. and the two errors. -/
structure GE (w : World) : Prop where
  er : ∃ ev, w.cell? ⟨1, 0, none⟩ = some ev ∧ (ev = .nilIface ∨ ∃ te pe, ev = .iface te pe)
  es : ∃ ev, w.cell? ⟨0, 0, none⟩ = some ev ∧ (ev = .nilIface ∨ ∃ te pe, ev = .iface te pe)

theorem gPow : Tryz.prog.globalNamed "internal/strconv.uint64pow10" = some 7 := by kernel_rfl

theorem lt_of_cell {w : World} {b o : Nat} {v : Value} (h : w.cell? ⟨b, o, none⟩ = some v) : b < w.heap.size := by
  apply Nat.lt_of_not_le; intro g
  simp [World.cell?, Array.getElem?_eq_none g] at h

theorem lt_of_var {P : Program} {w : World} {n : String} {g : Nat} {cs : Array Value} (hg : P.globalNamed n = some g) (hv : w.var? P n = some cs) : g < w.heap.size := by
  apply Nat.lt_of_not_le; intro h
  unfold World.var? at hv
  simp [hg, Array.getElem?_eq_none h] at hv

theorem cell_below {w w' : World} (h : Below w.heap.size w w') {b o : Nat} {v : Value} (hc : w.cell? ⟨b, o, none⟩ = some v) : w'.cell? ⟨b, o, none⟩ = some v := by
  rw [h.cell (lt_of_cell hc)]; exact hc

theorem G.below {w w' : World} (h : G w) (hb : Below w.heap.size w w') : G w' where
  ml := h.ml.elim fun m hm => ⟨m, cell_below hb hm⟩
  p10 := var?_below hb gPow (lt_of_var gPow h.p10) h.p10
theorem GE.below {w w' : World} (h : GE w) (hb : Below w.heap.size w w') : GE w' where
  er := h.er.elim fun ev he => ⟨ev, cell_below hb he.1, he.2⟩
  es := h.es.elim fun ev he => ⟨ev, cell_below hb he.1, he.2⟩
theorem below_trans {a b c : World} (h : Below a.heap.size a b) (k : Below b.heap.size b c) : Below a.heap.size a c := h.trans (k.mono h.size)

/-- strings joined -/
theorem bapp0 (a b : Array UInt8) : (⟨a⟩ : ByteArray) ++ ⟨b⟩ = ⟨a ++ b⟩ := by
  apply ByteArray.ext
  rw [ByteArray.data_append]
@[go_sem] theorem bapp (a b : List UInt8) : (⟨a.toArray⟩ : ByteArray) ++ ⟨b.toArray⟩ = ⟨(a ++ b).toArray⟩ := by rw [bapp0]; simp
@[go_sem] theorem bapp1 (c : UInt8) (b : List UInt8) : (⟨#[c]⟩ : ByteArray) ++ ⟨b.toArray⟩ = ⟨(c :: b).toArray⟩ := by rw [bapp0]; simp
@[go_sem] theorem bapp2 (a : List UInt8) (c : UInt8) : (⟨a.toArray⟩ : ByteArray) ++ ⟨#[c]⟩ = ⟨(a ++ [c]).toArray⟩ := by rw [bapp0]; simp

/-- a piece of a string -/
@[go_sem] theorem bext (x : List UInt8) (a b : Nat) : (⟨x.toArray⟩ : ByteArray).extract a b = ⟨((x.drop a).take (b - a)).toArray⟩ := by rw [ByteArray.extract_mk]
@[go_sem] theorem take_drop_all (x : List UInt8) (a : Nat) : (x.drop a).take (x.length - a) = x.drop a := List.take_of_length_le (by simp)

@[go_sem] theorem take_tail_all (x : List UInt8) : x.tail.take (x.length - 1) = x.tail := List.take_of_length_le (by simp)

theorem bsize (x : List UInt8) : (⟨x.toArray⟩ : ByteArray).size = x.length := rfl

/-- 'string([]byte{c})' -/
theorem conv1 (w : World) (n : Int) (c : UInt8) (hn : n = (c.toNat : Int)) :
    (convert 129 9 (.slice (some ⟨w.heap.size, 0, none⟩) 1 1)).run Tryz.prog (w.alloc (.cells #[.int .u8 n] 5)) = .ok (.string ⟨#[c]⟩) (w.alloc (.cells #[.int .u8 n] 5)) := by
  have h := run_convert_bytes_back (P := Tryz.prog) (w.alloc (.cells #[.int .u8 n] 5)) 129 9 5 ⟨w.heap.size, 0, none⟩ 1 [c] Tryz.underlying129 Tryz.underlying5 Tryz.underlying9 (fun j hj => by
    have : j = 0 := by simpa using hj
    subst this
    rw [Lib.add_plain, World.cell?_alloc_new]
    simp [hn])
  exact h

/-- a byte by its number -/
theorem byte_of (k : Nat) (hk : k < 256) : ∃ c : UInt8, c = UInt8.ofNat k ∧ (c.toNat : Int) = k := by
  refine ⟨_, rfl, ?_⟩
  simp; omega

end Go.Proofs.YtbhdoocajfkfiaaGreatDoor

namespace Go.Proofs.YtbhdoocajfkfiaaGreatDoor.atr

abbrev Attr := List UInt8 × List UInt8
/-- the first of a name: its place (or how many there are), its value -/
def fidx (nm : List UInt8) : List Attr → Nat
  | [] => 0
  | a :: r => if a.1 = nm then 0 else fidx nm r + 1
def fval (nm : List UInt8) : List Attr → Option (List UInt8)
  | [] => none
  | a :: r => if a.1 = nm then some a.2 else fval nm r
def fint (nm : List UInt8) (l : List Attr) : Int := if fidx nm l < l.length then (fidx nm l : Int) else -1

theorem find_ways (nm : List UInt8) (l : List Attr) : (∃ (k : Nat) (h : k < l.length), fidx nm l = k ∧ l[k].1 = nm ∧ (∀ j (hj : j < k), l[j].1 ≠ nm) ∧ fval nm l = some l[k].2) ∨ (fidx nm l = l.length ∧ (∀ j (hj : j < l.length), l[j].1 ≠ nm) ∧ fval nm l = none) := by
  induction l with
  | nil => right; exact ⟨rfl, fun j hj => absurd hj (Nat.not_lt_zero _), rfl⟩
  | cons a r ih =>
    by_cases h : a.1 = nm
    · left
      exact ⟨0, Nat.succ_pos _, by rw [fidx, if_pos h], h, fun j hj => absurd hj (Nat.not_lt_zero _), by rw [fval, if_pos h]; rfl⟩
    · rcases ih with ⟨k, hk, h1, h2, h3, h4⟩ | ⟨h1, h2, h3⟩
      · left
        refine ⟨k + 1, Nat.succ_lt_succ hk, by rw [fidx, if_neg h, h1], h2, ?_, by rw [fval, if_neg h, h4]; rfl⟩
        intro j hj
        cases j with
        | zero => exact h
        | succ j => exact h3 j (by omega)
      · right
        refine ⟨by rw [fidx, if_neg h, h1]; rfl, ?_, by rw [fval, if_neg h, h3]⟩
        intro j hj
        cases j with
        | zero => exact h
        | succ j => exact h2 j (by simpa using hj)

def nMin : List UInt8 := [109, 105, 110]
def nMax : List UInt8 := [109, 97, 120]
def nStep : List UInt8 := [115, 116, 101, 112]
def nValue : List UInt8 := [118, 97, 108, 117, 101]
def nAny : List UInt8 := [97, 110, 121]
def nChecked : List UInt8 := [99, 104, 101, 99, 107, 101, 100]
def nSelected : List UInt8 := [115, 101, 108, 101, 99, 116, 101, 100]
def nMultiple : List UInt8 := [109, 117, 108, 116, 105, 112, 108, 101]
def nDisabled : List UInt8 := [100, 105, 115, 97, 98, 108, 101, 100]
def nSize : List UInt8 := [115, 105, 122, 101]
def nType : List UInt8 := [116, 121, 112, 101]
end Go.Proofs.YtbhdoocajfkfiaaGreatDoor.atr

namespace Go.Proofs.YtbhdoocajfkfiaaGreatDoor.str
open Go.Lib

/-- a text cut at the first byte c -/
def cut1 (c : UInt8) : List UInt8 → List UInt8 × List UInt8 × Bool
  | [] => ([], [], false)
  | b :: l => if b = c then ([], l, true) else (b :: (cut1 c l).1, (cut1 c l).2.1, (cut1 c l).2.2)

theorem cut_one (c : UInt8) (t : List UInt8) : Lib.cut t [c] = cut1 c t := by
  unfold Lib.cut
  rw [index_one]
  induction t with
  | nil => simp [indexByte, cut1]
  | cons b l ih =>
    by_cases h : b = c
    · subst h; simp [indexByte, cut1]
    · have hb : (b == c) = false := by simpa using h
      have hge := indexByte_ge l c
      rw [cut1, if_neg h, ← ih]
      by_cases hn : indexByte l c = -1
      · have e : indexByte (b :: l) c = -1 := by rw [indexByte, hb, hn]; rfl
        rw [e, hn]; rfl
      · obtain ⟨k, hk⟩ : ∃ k : Nat, indexByte l c = k := ⟨(indexByte l c).toNat, by omega⟩
        have e : indexByte (b :: l) c = ((k + 1 : Nat) : Int) := by
          have h2 : (indexByte l c == -1) = false := by simpa using hn
          rw [indexByte, hb, h2, hk]; simp
        rw [e, hk, if_pos (by omega), if_pos (by omega)]
        simp

theorem cut1_spec (c : UInt8) (t : List UInt8) : ((cut1 c t).2.2 = true ∧ t = (cut1 c t).1 ++ c :: (cut1 c t).2.1 ∧ c ∉ (cut1 c t).1) ∨ ((cut1 c t).2.2 = false ∧ (cut1 c t).1 = t ∧ (cut1 c t).2.1 = [] ∧ c ∉ t) := by
  induction t with
  | nil => right; simp [cut1]
  | cons b l ih =>
    unfold cut1
    by_cases h : b = c
    · subst h; left; simp
    · rw [if_neg h]
      rcases ih with ⟨h1, h2, h3⟩ | ⟨h1, h2, h3, h4⟩
      · left
        refine ⟨h1, ?_, ?_⟩
        · show b :: l = (b :: (cut1 c l).1) ++ c :: (cut1 c l).2.1
          rw [List.cons_append, ← h2]
        · simp only [List.mem_cons, not_or]
          exact ⟨fun e => h e.symm, h3⟩
      · right
        refine ⟨h1, ?_, h3, ?_⟩
        · show b :: (cut1 c l).1 = b :: l
          rw [h2]
        · simp only [List.mem_cons, not_or]
          exact ⟨fun e => h e.symm, h4⟩

theorem cut1_le (c : UInt8) (t : List UInt8) : (cut1 c t).1.length ≤ t.length ∧ (cut1 c t).2.1.length ≤ t.length := by
  rcases cut1_spec c t with ⟨_, h, _⟩ | ⟨_, h1, h2, _⟩
  · have := congrArg List.length h
    simp at this; omega
  · rw [h1, h2]; simp

end Go.Proofs.YtbhdoocajfkfiaaGreatDoor.str

namespace Go.Proofs.YtbhdoocajfkfiaaGreatDoor.link
open Go.ChangeShapes Go.WideShapes Go.ChangeAt Go.RowKit Go.Lib

theorem ret_bool {a b : Bool} (h : a = b) : Ending.returned (.bool a) = .returned (.bool b) := by rw [h]
theorem ret_int {k : IntKind} {a b : Int} (h : a = b) : Ending.returned (.int k a) = .returned (.int k b) := by rw [h]

theorem byte_at (l : List UInt8) (i : Nat) (h : i < l.length) : ∃ c rest, l.drop i = c :: rest ∧ l.drop (i + 1) = rest ∧ ∀ h', (⟨l.toArray⟩ : ByteArray)[i]'h' = c :=
  ⟨l[i], l.drop (i + 1), List.drop_eq_getElem_cons h, rfl, fun _ => rfl⟩

theorem byteq (c d : UInt8) (n : Int) (h : (d.toNat : Int) = n) : ((c.toNat : Int) == n) = (c == d) := by
  subst h
  rw [Bool.eq_iff_iff]
  simp only [beq_iff_eq]
  constructor
  · intro h; exact UInt8.toNat_inj.1 (by omega)
  · rintro rfl; rfl

end Go.Proofs.YtbhdoocajfkfiaaGreatDoor.link

namespace Go.Proofs.YtbhdoocajfkfiaaGreatDoor.link
open Go.ChangeShapes Go.WideShapes Go.ChangeAt Go.RowKit Go.Lib

def lowC (c : UInt8) : UInt8 := if 65 ≤ c.toNat ∧ c.toNat ≤ 90 then c + 32 else c
def lowS (l : List UInt8) : List UInt8 := l.map lowC
def cellsOf (l : List UInt8) : List Value := l.map fun c => Value.int .u8 c.toNat
theorem lowC_in (c : UInt8) (h : 65 ≤ c.toNat ∧ c.toNat ≤ 90) : ((lowC c).toNat : Int) = (c.toNat : Int) + 32 := by
  unfold lowC
  rw [if_pos h, UInt8.toNat_add]
  have : (32 : UInt8).toNat = 32 := rfl
  rw [this]
  have := c.toNat_lt
  omega
theorem lowC_out (c : UInt8) (h : ¬ (65 ≤ c.toNat ∧ c.toNat ≤ 90)) : lowC c = c := if_neg h
theorem low_step (l : List UInt8) (k : Nat) (c : UInt8) (r : List UInt8) (h : l.drop k = c :: r) : cellsOf (lowS (l.take (k + 1))) = cellsOf (lowS (l.take k)) ++ [.int .u8 (lowC c).toNat] := by
  have hk : k < l.length := by
    have := congrArg List.length h
    simp at this; omega
  have e : l[k] = c := by
    have := List.drop_eq_getElem_cons hk
    rw [h] at this
    exact (List.cons.inj this).1.symm
  rw [List.take_succ_eq_append_getElem hk, e]
  simp [cellsOf, lowS]

theorem own_string (w : World) (base : Nat) (v : Value) (l : List UInt8) (n : Nat) (hn : n = l.length) (h : w.ownsRow base 5 1 v n (cellsOf l)) :
    (convert 129 9 v).run Tryz.prog w = .ok (.string ⟨l.toArray⟩) w := by
  subst hn
  obtain ⟨h1, h | ⟨g, cap, cur, rfl, hg, hh, hc, hm, hs, ht⟩⟩ := h
  · obtain ⟨rfl, h0⟩ := h
    obtain rfl : l = [] := List.length_eq_zero_iff.1 h0
    exact run_convert_bytes_nil w 129 5 Tryz.underlying129 Tryz.underlying5 0 0 9 Tryz.underlying9
  · refine run_convert_bytes_back w _ _ 5 ⟨g, 0, none⟩ cap l Tryz.underlying129 Tryz.underlying5 Tryz.underlying9 ?_
    intro j hj
    have e : cur[j]? = some (.int .u8 (l[j].toNat : Int)) := by
      rw [← Array.getElem?_toList]
      have e2 : (cur.toList.take (l.length * 1))[j]? = (cellsOf l)[j]? := by rw [ht]
      rw [List.getElem?_take, if_pos (by omega)] at e2
      rw [e2]
      simp [cellsOf, hj]
    rw [Addr.add_mid, Nat.zero_add]
    simp [World.cell?, hh, e]

theorem low_rel (w wr w1 : World) (B : Nat) (e : TypeId) (v : Value) (k : Nat) (xs : List Value) (o : Obj) (hown : wr.ownsRow B e 1 v k xs) (hb : Below B w wr) (hbs : B ≤ wr.heap.size) (hg : (wr.alloc o).grownBy w1 v.ownBlock) :
    Below B w w1 ∧ B ≤ w1.heap.size := by
  have hs : (wr.alloc o).heap.size = wr.heap.size + 1 := by simp
  constructor
  · refine Below.grown (hb.alloc hbs o) hg (by omega) ?_
    intro j hj
    obtain ⟨_, ⟨rfl, _⟩ | ⟨g, cap, cur, rfl, hge, _⟩⟩ := hown
    · cases hj
    · cases hj; exact hge
  · have := hg.size; omega

theorem infoU8 : (Tryz.prog.info? 5).map (fun i => (i.zero, i.size, i.bytes)) = some (some (.int .u8 0), 1, 1) := by kernel_rfl

set_option maxHeartbeats 1600000 in
set_option maxRecDepth 100000 in
theorem rlower_any (l : List UInt8) (hl : l.length ≤ 1000000000) (w : World) :
    Calls Tryz.prog 129 #[.string ⟨l.toArray⟩] w fun e w' => e = .returned (.string ⟨(lowS l).toArray⟩) ∧ Below w.heap.size w w' := by
  obtain ⟨i0, hi, hz0, hz1, hz2⟩ := info_parts infoU8
  obtain ⟨B, hB⟩ : ∃ B, B = w.heap.size := ⟨_, rfl⟩
  rw [← hB]
  have HB := Lib.hid hB
  clear hB
  go_enter Tryz.func129, Tryz.ntmps129
  go_wp2_with fail
  go_loopw [3, 4] (fun v i wr => ∃ k : Nat, k ≤ l.length ∧ i = .int .i64 k ∧ wr.ownsRow B 5 1 v k (cellsOf (lowS (l.take k))) ∧ Below B w wr ∧ B ≤ wr.heap.size) (fun _ i _ => l.length - (RowKit.intOf i).toNat)
  case atStart => exact ⟨0, by omega, rfl, World.ownsRow_nil _ _ _ _, by rw [HB.out]; exact Below.refl _ _, by rw [HB.out]; omega⟩
  case round =>
    obtain ⟨k, hk, rfl, hown, hb, hbs⟩ := hrel
    by_cases hlt : k < l.length
    · obtain ⟨c, rest, hd1, hd2, hidx⟩ := byte_at l k hlt
      have HS := Lib.hid (low_step l k c rest hd1)
      have hlt8 := c.toNat_lt
      clear hd1 hd2
      by_cases g : 65 ≤ c.toNat ∧ c.toNat ≤ 90
      · have HL := Lib.hid (lowC_in c g)
        obtain ⟨g1, g2⟩ := g
        go_wp2_with (first
          | (at_builtin; refine wpList_append_own _ rfl _ _ 129 rfl B 5 i0 (.int .u8 0) 1 1 Tryz.underlying129 hi hz0 hz1 hz2 rfl (by decide) _ _ _ rfl (hown.alloc _) ⟨wr.heap.size, 0, none⟩ 1 1 [.int .u8 ((c.toNat : Int) + 32)] rfl rfl ?c1 ?c2 ?c3 ?c4 ?c5 ?_)
          | go_in)
        case c1 => exact cell_one_new _ _ _
        case c2 => intro u hu; simp at hu; subst hu; rfl
        case c3 => unfold maxLen; omega
        case c4 => omega
        case c5 => simp; omega
        · intro v' w1 hown' hgrow _
          have hr := low_rel w wr w1 B _ _ k _ _ hown hb hbs hgrow
          have ho2 : w1.ownsRow B 5 1 v' (k + 1) (cellsOf (lowS (l.take (k + 1)))) := by rw [HS.out, HL.out]; exact hown'
          clear hown' hgrow hown
          go_wp2_with fail
          go_roundw
          case rel => exact ⟨k + 1, by omega, by go_num, ho2, hr.1, hr.2⟩
          case measure => simp [RowKit.intOf]; omega
      · have HL := Lib.hid (lowC_out c g)
        rcases (show c.toNat < 65 ∨ (65 ≤ c.toNat ∧ 90 < c.toNat) by omega) with g1 | ⟨g1, g2⟩
        all_goals
          clear g
          go_wp2_with (first
            | (at_builtin; refine wpList_append_own _ rfl _ _ 129 rfl B 5 i0 (.int .u8 0) 1 1 Tryz.underlying129 hi hz0 hz1 hz2 rfl (by decide) _ _ _ rfl (hown.alloc _) ⟨wr.heap.size, 0, none⟩ 1 1 [.int .u8 (c.toNat : Int)] rfl rfl ?_ ?_ ?_ ?_ ?_ ?_)
            | go_in)
          all_goals first | exact cell_one_new _ _ _ | (show Value.oneCell' _ = true; rfl) | (intro u hu; simp at hu; subst hu; rfl) | (unfold maxLen; omega) | omega | (simp; omega) | skip
          intro v' w1 hown' hgrow _
          have hr := low_rel w wr w1 B _ _ k _ _ hown hb hbs hgrow
          have ho2 : w1.ownsRow B 5 1 v' (k + 1) (cellsOf (lowS (l.take (k + 1)))) := by rw [HS.out, HL.out]; exact hown'
          clear hown' hgrow hown
          go_wp2_with fail
          go_roundw
          case rel => exact ⟨k + 1, by omega, by go_num, ho2, hr.1, hr.2⟩
          case measure => simp [RowKit.intOf]; omega
    · obtain rfl : k = l.length := by omega
      rw [List.take_length] at hown
      have hcv := own_string wr B _ (lowS l) l.length (by simp [lowS]) hown
      clear hown
      go_wp2_with fail
      go_ret
      exact ⟨rfl, hb⟩
end Go.Proofs.YtbhdoocajfkfiaaGreatDoor.link

namespace Go.Proofs.YtbhdoocajfkfiaaGreatDoor.link
open Go.ChangeShapes Go.WideShapes Go.ChangeAt Go.RowKit Go.Lib

/-- a block that holds the bytes of a text (a new []byte of a text; its mark lies behind its cells) -/
def Buf (w : World) (G : Nat) (cs : List Value) : Prop :=
  ∃ cur T, w.heap[G]? = some (.cells cur 5 (T, T + 1)) ∧ cur.size = T ∧ cur.toList.take cs.length = cs ∧ cs.length ≤ T

theorem buf_at {cur : Array Value} {cs : List Value} (h : cur.toList.take cs.length = cs) (k : Nat) (hk : k < cs.length) : cur[k]? = cs[k]? := by
  have e : (cur.toList.take cs.length)[k]? = cs[k]? := by rw [h]
  rw [List.getElem?_take, if_pos hk, Array.getElem?_toList] at e
  exact e

theorem buf_cell {w : World} {G : Nat} {cs : List Value} (h : Buf w G cs) (k : Nat) (v : Value) (hv : cs[k]? = some v) : w.cell? ⟨G, k, none⟩ = some v := by
  obtain ⟨cur, T, hh, hs, ht, hl⟩ := h
  have hk : k < cs.length := (List.getElem?_eq_some_iff.1 hv).1
  have := buf_at ht k hk
  simp [World.cell?, hh, this, hv]

theorem buf_frozen {w : World} {G : Nat} {cs : List Value} (h : Buf w G cs) (k : Nat) (hk : k < cs.length) : w.frozen? ⟨G, k, none⟩ = false := by
  obtain ⟨cur, T, hh, hs, ht, hl⟩ := h
  simp [World.frozen?, hh]
  omega

theorem buf_set {w : World} {G : Nat} {cs : List Value} (h : Buf w G cs) (k : Nat) (hk : k < cs.length) (v : Value) : Buf (w.setCell ⟨G, k, none⟩ v) G (cs.set k v) := by
  obtain ⟨cur, T, hh, hs, ht, hl⟩ := h
  have hG : G < w.heap.size := by
    rcases Array.getElem?_eq_some_iff.1 hh with ⟨h, _⟩
    exact h
  refine ⟨cur.setIfInBounds k v, T, ?_, by simp [hs], ?_, by simpa using hl⟩
  · simp [World.setCell, Array.getElem?_modify, hh]
  · rw [List.length_set]
    apply List.ext_getElem?
    intro j
    rw [List.getElem?_take, Array.getElem?_toList, Array.getElem?_setIfInBounds, List.getElem?_set]
    by_cases hj : j < cs.length
    · rw [if_pos hj]
      by_cases e : k = j
      · subst e; rw [if_pos rfl, if_pos rfl, if_pos (by omega), if_pos hk]
      · rw [if_neg e, if_neg e]; exact buf_at ht j hj
    · rw [if_neg hj, if_neg (by omega), List.getElem?_eq_none (by omega)]

theorem buf_new (w : World) (l : List UInt8) (cap : Nat) :
    Buf (w.drew.alloc (.cells (bytesRow ⟨l.toArray⟩ cap) 5 ((bytesRow ⟨l.toArray⟩ cap).size, (bytesRow ⟨l.toArray⟩ cap).size + 1))) w.heap.size (cellsOf l) := by
  refine ⟨bytesRow ⟨l.toArray⟩ cap, (bytesRow ⟨l.toArray⟩ cap).size, ?_, rfl, ?_, by simp [bytesRow, cellsOf]⟩
  · show (w.drew.heap.push _)[w.drew.heap.size]? = _
    simp only [Array.getElem?_push_size]
  · simp [bytesRow, cellsOf]

theorem buf_string {w : World} {G : Nat} {l : List UInt8} (h : Buf w G (cellsOf l)) (cap n : Nat) (hn : n = l.length) :
    (convert 129 9 (.slice (some ⟨G, 0, none⟩) n cap)).run Tryz.prog w = .ok (.string ⟨l.toArray⟩) w := by
  subst hn
  refine run_convert_bytes_back w _ _ 5 ⟨G, 0, none⟩ cap l Tryz.underlying129 Tryz.underlying5 Tryz.underlying9 ?_
  intro j hj
  rw [Addr.add_mid, Nat.zero_add]
  exact buf_cell h j _ (by simp [cellsOf, hj])

def mixS (l : List UInt8) (k : Nat) : List Value := cellsOf (lowS (l.take k) ++ l.drop k)
theorem mix_len (l : List UInt8) (k : Nat) (hk : k ≤ l.length) : (mixS l k).length = l.length := by simp [mixS, cellsOf, lowS]; omega
theorem mix_at (l : List UInt8) (k : Nat) (c : UInt8) (r : List UInt8) (hk : k < l.length) (h : l.drop k = c :: r) : (mixS l k)[k]? = some (.int .u8 c.toNat) := by
  unfold mixS cellsOf lowS
  rw [h, List.getElem?_map, List.getElem?_append_right (by simp; omega)]
  simp [Nat.min_eq_left (Nat.le_of_lt hk)]
theorem mix_step (l : List UInt8) (k : Nat) (c : UInt8) (r : List UInt8) (hk : k < l.length) (h : l.drop k = c :: r) : mixS l (k + 1) = (mixS l k).set k (.int .u8 (lowC c).toNat) := by
  have h1 : l.drop (k + 1) = r := by
    have := congrArg List.tail h
    rwa [List.tail_drop] at this
  have e : l[k] = c := by
    have := List.drop_eq_getElem_cons hk
    rw [h] at this
    exact (List.cons.inj this).1.symm
  unfold mixS
  rw [h, h1, List.take_succ_eq_append_getElem hk, e]
  simp only [cellsOf, lowS, List.map_append, List.map_cons, List.map_nil, List.append_assoc, List.cons_append, List.nil_append]
  rw [List.set_append_right _ _ (by simp; omega)]
  simp [Nat.min_eq_left (Nat.le_of_lt hk)]
theorem mix_same (l : List UInt8) (k : Nat) (c : UInt8) (r : List UInt8) (hk : k < l.length) (h : l.drop k = c :: r) (g : lowC c = c) : mixS l (k + 1) = mixS l k := by
  rw [mix_step l k c r hk h, g]
  exact List.ext_getElem? fun j => by
    rw [List.getElem?_set]
    by_cases e : k = j
    · subst e; rw [if_pos rfl, if_pos (by rw [mix_len l k (by omega)]; omega), mix_at l k c r hk h]
    · rw [if_neg e]

set_option maxHeartbeats 1600000 in
set_option maxRecDepth 100000 in
theorem tlower_any (l : List UInt8) (hl : l.length ≤ 1000000000) (w : World) :
    Calls Tryz.prog 158 #[.string ⟨l.toArray⟩] w fun e w' => e = .returned (.string ⟨(lowS l).toArray⟩) ∧ Below w.heap.size w w' := by
  have hcv := run_bytes_of_string (P := Tryz.prog) w 9 129 5 ⟨l.toArray⟩ Tryz.underlying9 Tryz.underlying129 Tryz.underlying5
  generalize grownCap w (⟨l.toArray⟩ : ByteArray).size 0 5 = cap at hcv
  have hnew := buf_new w l cap
  have hbel : Below w.heap.size w (w.drew.alloc (.cells (bytesRow ⟨l.toArray⟩ cap) 5 ((bytesRow ⟨l.toArray⟩ cap).size, (bytesRow ⟨l.toArray⟩ cap).size + 1))) := (Below.refl _ w).drew.alloc (Nat.le_refl _) _
  generalize (w.drew.alloc (.cells (bytesRow ⟨l.toArray⟩ cap) 5 ((bytesRow ⟨l.toArray⟩ cap).size, (bytesRow ⟨l.toArray⟩ cap).size + 1))) = w1 at *
  obtain ⟨B, hB⟩ : ∃ B, B = w.heap.size := ⟨_, rfl⟩
  rw [← hB] at hcv hnew hbel ⊢
  clear hB
  rw [bsize] at hcv
  go_enter Tryz.func158, Tryz.ntmps158
  go_wp2_with fail
  clear hcv
  go_loopw [10] (fun s wr => ∃ k : Nat, s = .int .i64 k ∧ k ≤ l.length ∧ Buf wr B (mixS l k) ∧ Below B w wr) (fun s _ => l.length - (RowKit.intOf s).toNat)
  case atStart => exact ⟨0, rfl, by omega, by simpa [mixS, lowS] using hnew, hbel⟩
  case round =>
    obtain ⟨k, rfl, hk, hbuf, hb⟩ := hrel
    clear hnew hbel
    by_cases hlt : k < l.length
    · obtain ⟨c, rest, hd1, hd2, hidx⟩ := byte_at l k hlt
      have hml := mix_len l k hk
      have hcell := buf_cell hbuf k _ (mix_at l k c rest hlt hd1)
      have hfr := buf_frozen hbuf k (by omega)
      have hlt8 := c.toNat_lt
      by_cases g : 65 ≤ c.toNat ∧ c.toNat ≤ 90
      · have hset := buf_set hbuf k (by omega) (.int .u8 (lowC c).toNat)
        rw [← mix_step l k c rest hlt hd1, lowC_in c g, show (c.toNat : Int) + 32 = (c.toNat : Int) + 97 - 65 from by omega] at hset
        have hbs := hb.setCell (p := ⟨B, k, none⟩) (Nat.le_refl _) (.int .u8 ((c.toNat : Int) + 97 - 65))
        obtain ⟨g1, g2⟩ := g
        clear hd1 hd2 hidx hbuf hb
        go_wp2_with fail
        go_roundw
        case rel => exact ⟨k + 1, by go_num, by omega, hset, hbs⟩
        case measure => simp [RowKit.intOf]; omega
      · have hsame := hbuf
        rw [← mix_same l k c rest hlt hd1 (lowC_out c g)] at hsame
        have g' := (show c.toNat < 65 ∨ (65 ≤ c.toNat ∧ 90 < c.toNat) by omega)
        clear hd1 hd2 hidx hbuf g
        rcases g' with g1 | ⟨g1, g2⟩
        · go_wp2_with fail
          go_roundw
          case rel => exact ⟨k + 1, by go_num, by omega, hsame, hb⟩
          case measure => simp [RowKit.intOf]; omega
        · go_wp2_with fail
          go_roundw
          case rel => exact ⟨k + 1, by go_num, by omega, hsame, hb⟩
          case measure => simp [RowKit.intOf]; omega
    · obtain rfl : k = l.length := by omega
      have hm : mixS l l.length = cellsOf (lowS l) := by simp [mixS]
      rw [hm] at hbuf
      have hcs := buf_string hbuf cap l.length (by simp [lowS])
      clear hbuf
      go_wp2_with fail
      go_ret
      exact ⟨rfl, hb⟩
end Go.Proofs.YtbhdoocajfkfiaaGreatDoor.link

namespace Go.Proofs.YtbhdoocajfkfiaaGreatDoor.num
open Go.Lib

def isDig (c : UInt8) : Bool := 48 ≤ c && c ≤ 57
def allDig (l : List UInt8) : Bool := l.all isDig
/-- how many digits stand ahead -/
def cnt : List UInt8 → Nat
  | [] => 0
  | c :: l => if isDig c then cnt l + 1 else 0

theorem isDig_iff (c : UInt8) : isDig c = true ↔ 48 ≤ (c.toNat : Int) ∧ (c.toNat : Int) ≤ 57 := by
  unfold isDig
  simp [UInt8.le_iff_toNat_le]; omega
theorem isDig_no (c : UInt8) (h : isDig c = false) : (c.toNat : Int) < 48 ∨ 57 < (c.toNat : Int) := by
  have := isDig_iff c
  rw [h] at this
  simp at this; omega

theorem cnt_le (l : List UInt8) : cnt l ≤ l.length := by
  induction l with
  | nil => exact Nat.le_refl _
  | cons c l ih => unfold cnt; split <;> simp <;> omega

theorem allDig_cons (c : UInt8) (l : List UInt8) : allDig (c :: l) = (isDig c && allDig l) := rfl

theorem cnt_all (l : List UInt8) : cnt l = l.length ↔ allDig l = true := by
  induction l with
  | nil => simp [cnt, allDig]
  | cons c l ih =>
    have := cnt_le l
    rw [allDig_cons]
    unfold cnt
    cases h : isDig c
    · simp
    · simp [ih]

theorem cnt_take (l : List UInt8) : allDig (l.take (cnt l)) = true := by
  induction l with
  | nil => rfl
  | cons c l ih =>
    unfold cnt
    cases h : isDig c
    · simp [allDig]
    · simp [allDig_cons, h, ih]

theorem cnt_next (l : List UInt8) (c : UInt8) (r : List UInt8) (h : l.drop (cnt l) = c :: r) : isDig c = false := by
  induction l with
  | nil => simp [cnt] at h
  | cons d l ih =>
    unfold cnt at h
    cases hd : isDig d
    · simp [hd] at h; rw [← h.1]; exact hd
    · simp [hd] at h; exact ih h

/-- a number of digits, and no digit behind them -/
theorem cnt_append (a b : List UInt8) (ha : allDig a = true) : cnt (a ++ b) = a.length + cnt b := by
  induction a with
  | nil => simp
  | cons c a ih =>
    rw [allDig_cons] at ha
    simp at ha
    simp [cnt, ha.1, ih ha.2]; omega

/-- what digits tell -/
@[irreducible] def dv (c : UInt8) : Nat := c.toNat - 48
theorem dv_eq (c : UInt8) : dv c = c.toNat - 48 := by unfold dv; rfl
def valFrom (a : Nat) : List UInt8 → Nat
  | [] => a
  | c :: l => valFrom (a * 10 + dv c) l
def val (l : List UInt8) : Nat := valFrom 0 l

theorem valFrom_cons (a : Nat) (c : UInt8) (l : List UInt8) : valFrom a (c :: l) = valFrom (a * 10 + dv c) l := rfl
theorem valFrom_append (a : Nat) (l m : List UInt8) : valFrom a (l ++ m) = valFrom (valFrom a l) m := by
  induction l generalizing a with
  | nil => rfl
  | cons c l ih => rw [List.cons_append, valFrom_cons, valFrom_cons, ih]
theorem valFrom_mul (l : List UInt8) : ∀ a : Nat, valFrom a l = a * 10 ^ l.length + val l := by
  induction l with
  | nil => intro a; simp [valFrom, val]
  | cons c l ih =>
    intro a
    unfold val
    rw [valFrom_cons, valFrom_cons, ih, ih, List.length_cons, Nat.pow_succ]
    generalize 10 ^ l.length = p
    generalize dv c = d
    rw [Nat.add_mul, Nat.add_mul, Nat.zero_mul, Nat.zero_add, Nat.mul_assoc, Nat.mul_comm 10 p, Nat.add_assoc]
theorem valFrom_ge (a : Nat) (l : List UInt8) : a ≤ valFrom a l := by
  rw [valFrom_mul]
  have : 1 ≤ 10 ^ l.length := Nat.one_le_pow _ _ (by decide)
  have := Nat.mul_le_mul_left a this
  omega
theorem val_lt (l : List UInt8) (h : allDig l = true) : val l < 10 ^ l.length := by
  induction l with
  | nil => simp [val, valFrom]
  | cons c l ih =>
    rw [allDig_cons] at h
    simp at h
    have h1 := ih h.2
    have h2 := (isDig_iff c).1 h.1
    have e : val (c :: l) = dv c * 10 ^ l.length + val l := by
      unfold val
      rw [valFrom_cons, valFrom_mul, Nat.zero_mul, Nat.zero_add]; rfl
    rw [e, List.length_cons, Nat.pow_succ]
    have h3 : dv c ≤ 9 := by rw [dv_eq]; omega
    have := Nat.mul_le_mul_right (10 ^ l.length) h3
    omega

/-- without the noughts at the end -/
def strip : List UInt8 → List UInt8
  | [] => []
  | c :: l => if strip l = [] ∧ c = 48 then [] else c :: strip l

theorem strip_snoc (l : List UInt8) (c : UInt8) : strip (l ++ [c]) = if c = 48 then strip l else l ++ [c] := by
  induction l with
  | nil => by_cases h : c = 48 <;> simp [strip, h]
  | cons d l ih =>
    by_cases h : c = 48
    · rw [if_pos h] at ih
      rw [if_pos h, List.cons_append, strip, strip, ih]
    · rw [if_neg h] at ih
      rw [if_neg h, List.cons_append, strip, ih]; simp

theorem strip_trim (l : List UInt8) : trimRightS l [48] = strip l := by
  have h : ∀ m : List UInt8, (m.dropWhile ([48].contains ·)).reverse = strip m.reverse := by
    intro m
    induction m with
    | nil => rfl
    | cons c m ih =>
      rw [List.reverse_cons, strip_snoc, List.dropWhile_cons]
      by_cases hc : c = 48
      · subst hc
        simpa using ih
      · simp [hc]
  unfold trimRightS
  rw [h, List.reverse_reverse]

theorem strip_le (l : List UInt8) : (strip l).length ≤ l.length := by
  induction l with
  | nil => simp [strip]
  | cons c l ih => unfold strip; split <;> simp; omega

theorem strip_pre (l : List UInt8) : ∃ k, l = strip l ++ List.replicate k 48 := by
  induction l with
  | nil => exact ⟨0, rfl⟩
  | cons c l ih =>
    obtain ⟨k, hk⟩ := ih
    unfold strip
    by_cases h : strip l = [] ∧ c = 48
    · rw [if_pos h]; refine ⟨k + 1, ?_⟩
      rw [h.1] at hk; rw [h.2, List.nil_append, List.replicate_succ, ← List.nil_append (List.replicate k 48), ← hk]
    · rw [if_neg h]; exact ⟨k, by rw [List.cons_append, ← hk]⟩

theorem strip_dig (l : List UInt8) (h : allDig l = true) : allDig (strip l) = true := by
  induction l with
  | nil => rfl
  | cons c l ih =>
    rw [allDig_cons] at h
    simp at h
    unfold strip
    split
    · rfl
    · rw [allDig_cons, h.1, ih h.2]; rfl

/-- 'strings.Trim(s, digits) == ""' -/
def digs : List UInt8 := [48, 49, 50, 51, 52, 53, 54, 55, 56, 57]
theorem digs_has (c : UInt8) : digs.contains c = isDig c := by
  have : ∀ n : Fin 256, digs.contains (UInt8.ofNat n.1) = isDig (UInt8.ofNat n.1) := by decide +kernel
  have h := this ⟨c.toNat, c.toNat_lt⟩
  simpa using h

theorem dropWhile_nil (p : UInt8 → Bool) (l : List UInt8) : l.dropWhile p = [] ↔ l.all p = true := by
  induction l with
  | nil => simp
  | cons c l ih => rw [List.dropWhile_cons]; cases h : p c <;> simp [h, ih]

theorem trim_digs (l : List UInt8) : trimS l digs = [] ↔ allDig l = true := by
  have e : (fun c => digs.contains c) = isDig := funext digs_has
  unfold trimS trimLeftS trimRightS allDig
  rw [e]
  constructor
  · intro h
    have h1 := (dropWhile_nil _ _).1 h
    rw [List.all_reverse] at h1
    have : ∀ m : List UInt8, (m.dropWhile isDig).all isDig = true → m.all isDig = true := by
      intro m
      induction m with
      | nil => simp
      | cons c m ih => rw [List.dropWhile_cons]; cases hc : isDig c <;> simp [hc]; simpa using ih
    have h2 := this _ h1
    rwa [List.all_reverse] at h2
  · intro h
    have h1 : l.reverse.dropWhile isDig = [] := (dropWhile_nil _ _).2 (by rw [List.all_reverse]; exact h)
    rw [h1]; rfl


theorem val_cons (c : UInt8) (l : List UInt8) : val (c :: l) = dv c * 10 ^ l.length + val l := by
  unfold val
  rw [valFrom_cons, valFrom_mul, Nat.zero_mul, Nat.zero_add]; rfl
theorem val_nil : val [] = 0 := rfl
theorem val_append (l m : List UInt8) : val (l ++ m) = val l * 10 ^ m.length + val m := by
  unfold val; rw [valFrom_append, valFrom_mul]; rfl
theorem dv_zero : dv 48 = 0 := by rw [dv_eq]; rfl
theorem dv_le (c : UInt8) (h : isDig c = true) : dv c ≤ 9 := by
  have := (isDig_iff c).1 h
  rw [dv_eq]; omega
theorem dv_inj (c : UInt8) (h : isDig c = true) : dv c = 0 ↔ c = 48 := by
  have := (isDig_iff c).1 h
  rw [dv_eq]
  constructor
  · intro e
    have : c.toNat = 48 := by omega
    exact UInt8.toNat_inj.1 this
  · rintro rfl; rfl
theorem val_zeros (k : Nat) : val (List.replicate k 48) = 0 := by
  induction k with
  | zero => rfl
  | succ k ih => rw [List.replicate_succ, val_cons, ih, dv_zero]; simp

/-- the digits behind the point, as the reference goes through them -/
def fr (mx : Bool) (i : Nat) (out unit : Nat) : List UInt8 → Option Nat
  | [] => some out
  | c :: p => if dv c ≠ 0 ∧ (mx = true ∨ 6 ≤ i) then none else fr mx (i + 1) (out + dv c * unit) (unit / 10) p

theorem strip_zero (p : List UInt8) (h : strip p = []) : strip (48 :: p) = [] := by rw [strip, if_pos ⟨h, rfl⟩]
theorem strip_keep (c : UInt8) (p : List UInt8) (h : strip p ≠ [] ∨ c ≠ 48) : strip (c :: p) = c :: strip p := by
  rw [strip, if_neg]; rintro ⟨h1, h2⟩; rcases h with h | h
  · exact h h1
  · exact h h2

theorem pow_less (i : Nat) (hi : i < 6) : 10 ^ (6 - i) / 10 = 10 ^ (6 - (i + 1)) := by
  rw [show 6 - i = (6 - (i + 1)) + 1 by omega, Nat.pow_succ, Nat.mul_div_cancel _ (by decide)]

theorem fr_eq (mx : Bool) (p : List UInt8) : ∀ (i out : Nat), allDig p = true →
    fr mx i out (10 ^ (6 - i) / 10) p = if (mx = true ∧ strip p ≠ []) ∨ 6 - i < (strip p).length then none else some (out + val (strip p) * 10 ^ (6 - i - (strip p).length)) := by
  induction p with
  | nil => intro i out _; simp [fr, strip, val_nil]
  | cons c p ih =>
    intro i out hd
    rw [allDig_cons] at hd
    simp at hd
    obtain ⟨hc, hp⟩ := hd
    have hz := dv_inj c hc
    rw [fr]
    by_cases h0 : dv c = 0
    · have hc0 := hz.1 h0
      subst hc0
      rw [if_neg (fun h => h.1 h0), h0, Nat.zero_mul, Nat.add_zero out]
      have hu : 10 ^ (6 - i) / 10 / 10 = 10 ^ (6 - (i + 1)) / 10 := by
        by_cases hi : i < 6
        · rw [pow_less i hi]
        · rw [show 6 - i = 0 by omega, show 6 - (i + 1) = 0 by omega]
      rw [hu, ih (i + 1) out hp]
      by_cases hs : strip p = []
      · rw [strip_zero p hs, hs]; simp [val_nil]
      · rw [strip_keep 48 p (Or.inl hs)]
        have hl : 1 ≤ (strip p).length := by
          cases h : strip p with
          | nil => exact absurd h hs
          | cons a b => simp
        by_cases hm : mx = true
        · simp [hm, hs]
        · by_cases hq : 6 - (i + 1) < (strip p).length
          · rw [if_pos (Or.inr hq), if_pos (Or.inr (by rw [List.length_cons]; omega))]
          · rw [if_neg (fun h => h.elim (fun g => hm g.1) hq), if_neg (fun h => h.elim (fun g => hm g.1) (fun g => by rw [List.length_cons] at g; omega)), val_cons, h0, List.length_cons, Nat.zero_mul, Nat.zero_add]
            rw [show 6 - i - ((strip p).length + 1) = 6 - (i + 1) - (strip p).length by omega]
    · have hc0 : ¬ c = 48 := fun h => h0 (hz.2 h)
      rw [strip_keep c p (Or.inr hc0)]
      by_cases hm : mx = true
      · rw [if_pos ⟨h0, Or.inl hm⟩, if_pos (Or.inl ⟨hm, by simp⟩)]
      · by_cases hi : 6 ≤ i
        · rw [if_pos ⟨h0, Or.inr hi⟩, if_pos (Or.inr (by rw [List.length_cons]; omega))]
        · rw [if_neg (fun h => h.2.elim hm hi)]
          rw [pow_less i (by omega), ih (i + 1) _ hp]
          by_cases hq : 6 - (i + 1) < (strip p).length
          · rw [if_pos (Or.inr hq), if_pos (Or.inr (by rw [List.length_cons]; omega))]
          · rw [if_neg (fun h => h.elim (fun g => hm g.1) hq), if_neg (fun h => h.elim (fun g => hm g.1) (fun g => by rw [List.length_cons] at g; omega)), val_cons, List.length_cons]
            rw [show 6 - i - ((strip p).length + 1) = 6 - (i + 1) - (strip p).length by omega]
            rw [Nat.add_mul, Nat.mul_assoc, ← Nat.pow_add, show (strip p).length + (6 - (i + 1) - (strip p).length) = 6 - (i + 1) by omega, Nat.add_assoc]

/-- the digits ahead of the point, as the reference goes through them -/
def satFrom (n : Nat) : List UInt8 → Nat
  | [] => n
  | c :: l => satFrom (if n ≤ 1000000000000 then n * 10 + dv c else n) l

theorem satFrom_snoc (l : List UInt8) (c : UInt8) : ∀ n, satFrom n (l ++ [c]) = if satFrom n l ≤ 1000000000000 then satFrom n l * 10 + dv c else satFrom n l := by
  induction l with
  | nil => intro n; rfl
  | cons d l ih => intro n; rw [List.cons_append, satFrom, satFrom, ih]

theorem satFrom_big (l : List UInt8) : ∀ n, ¬ n ≤ 1000000000000 → satFrom n l = n := by
  induction l with
  | nil => intro n _; rfl
  | cons c l ih => intro n h; rw [satFrom, if_neg h, ih n h]

theorem satFrom_le (l : List UInt8) : ∀ n, allDig l = true → n ≤ 10000000000009 → satFrom n l ≤ 10000000000009 := by
  induction l with
  | nil => intro n _ h; exact h
  | cons c l ih =>
    intro n hd h
    rw [allDig_cons] at hd
    simp at hd
    have := dv_le c hd.1
    rw [satFrom]
    split
    · exact ih _ hd.2 (by omega)
    · exact ih _ hd.2 h

theorem satFrom_eq (l : List UInt8) : ∀ n, (valFrom n l ≤ 1000000000000 → satFrom n l = valFrom n l) ∧ (¬ valFrom n l ≤ 1000000000000 → ¬ satFrom n l ≤ 1000000000000) := by
  induction l with
  | nil => intro n; exact ⟨fun _ => rfl, fun h => h⟩
  | cons c l ih =>
    intro n
    rw [satFrom, valFrom_cons]
    by_cases h : n ≤ 1000000000000
    · rw [if_pos h]; exact ih _
    · rw [if_neg h, satFrom_big l n h]
      refine ⟨fun g => ?_, fun _ => h⟩
      have := valFrom_ge (n * 10 + dv c) l
      omega

/-! ### What a text tells -/

/-- the number of a text whose form is right: h ahead of the point, p behind it -/
def fin (neg : Bool) (h p : List UInt8) : Int × Int :=
  if val h ≤ 1000000000000 ∧ ¬ (val h = 1000000000000 ∧ strip p ≠ []) ∧ (strip p).length ≤ 6 then
    let v : Int := ((val h * 1000000 + val (strip p) * 10 ^ (6 - (strip p).length) : Nat) : Int)
    (if neg then -v else v, 0)
  else (0, 2)

/-- what stands behind a '-' -/
def unsigned (l : List UInt8) : List UInt8 := if l.head? = some 45 then l.tail else l
def negB (l : List UInt8) : Bool := l.head? == some 45

def parseT (neg : Bool) (t : List UInt8) : Int × Int :=
  match t.drop (cnt t) with
  | [] => if cnt t = 0 then (0, 1) else fin neg t []
  | c :: p => if c = 46 ∧ p ≠ [] ∧ allDig p = true then fin neg (t.take (cnt t)) p else (0, 1)

/-- P3.1 -/
def parseS (l : List UInt8) : Int × Int := parseT (negB l) (unsigned l)


theorem unsigned_le (l : List UInt8) : (unsigned l).length ≤ l.length := by unfold unsigned; split <;> simp

theorem fin_big (neg : Bool) (h p : List UInt8) (hb : ¬ satFrom 0 h ≤ 1000000000000) : fin neg h p = (0, 2) := by
  unfold fin
  have h1 := (satFrom_eq h 0).1
  rw [if_neg]
  rintro ⟨h2, _⟩
  exact hb (by rw [h1 h2]; exact h2)

theorem sat_val (h : List UInt8) (hb : satFrom 0 h ≤ 1000000000000) : val h = satFrom 0 h := by
  have h1 := satFrom_eq h 0
  by_cases g : valFrom 0 h ≤ 1000000000000
  · exact (h1.1 g).symm
  · exact absurd hb (h1.2 g)

theorem fin_none (neg : Bool) (h p : List UInt8) (hp : allDig p = true) (hb : satFrom 0 h ≤ 1000000000000) (hf : fr (decide (satFrom 0 h = 1000000000000)) 0 (satFrom 0 h * 1000000) 100000 p = none) : fin neg h p = (0, 2) := by
  have e := fr_eq (decide (satFrom 0 h = 1000000000000)) p 0 (satFrom 0 h * 1000000) hp
  have hv := sat_val h hb
  rw [show 10 ^ (6 - 0) / 10 = 100000 from rfl, hf] at e
  unfold fin
  rw [if_neg]
  rintro ⟨_, h2, h3⟩
  rw [if_neg] at e
  · cases e
  · rintro (⟨g1, g2⟩ | g)
    · exact h2 ⟨by rw [hv]; simpa using g1, g2⟩
    · omega

theorem fin_some (neg : Bool) (h p : List UInt8) (out : Nat) (hp : allDig p = true) (hb : satFrom 0 h ≤ 1000000000000) (hf : fr (decide (satFrom 0 h = 1000000000000)) 0 (satFrom 0 h * 1000000) 100000 p = some out) : fin neg h p = (if neg then -(out : Int) else out, 0) := by
  have e := fr_eq (decide (satFrom 0 h = 1000000000000)) p 0 (satFrom 0 h * 1000000) hp
  have hv := sat_val h hb
  rw [show 10 ^ (6 - 0) / 10 = 100000 from rfl, hf] at e
  unfold fin
  by_cases hc : ((decide (satFrom 0 h = 1000000000000)) = true ∧ strip p ≠ []) ∨ 6 - 0 < (strip p).length
  · rw [if_pos hc] at e; cases e
  · rw [if_neg hc] at e
    rw [if_pos]
    · have : out = val h * 1000000 + val (strip p) * 10 ^ (6 - (strip p).length) := by rw [hv]; exact Option.some.inj e
      rw [← this]
    · refine ⟨by omega, fun g => hc (Or.inl ⟨by rw [← hv]; exact decide_eq_true g.1, g.2⟩), ?_⟩
      by_cases g : (strip p).length ≤ 6
      · exact g
      · exact absurd (Or.inr (by omega)) hc

theorem take_snoc' (t : List UInt8) (i : Nat) (c : UInt8) (r : List UInt8) (h : t.drop i = c :: r) : t.take (i + 1) = t.take i ++ [c] := by
  have hi : i < t.length := by
    apply Nat.lt_of_not_le; intro g
    rw [List.drop_eq_nil_of_le g] at h; cases h
  rw [List.drop_eq_getElem_cons hi] at h
  rw [List.take_succ_eq_append_getElem hi, (List.cons.inj h).1]

theorem dig_at (t : List UInt8) (i : Nat) (c : UInt8) (r : List UInt8) (h : t.drop i = c :: r) (hi : i < cnt t) : isDig c = true := by
  induction t generalizing i with
  | nil => simp at h
  | cons d t ih =>
    unfold cnt at hi
    cases hd : isDig d
    · simp [hd] at hi
    · simp [hd] at hi
      cases i with
      | zero => simp at h; rw [← h.1]; exact hd
      | succ i => exact ih i (by simpa using h) (by omega)

theorem dig_all (t : List UInt8) (i : Nat) (c : UInt8) (r : List UInt8) (h : t.drop i = c :: r) (hd : allDig t = true) : isDig c = true := by
  refine dig_at t i c r h ?_
  rw [(cnt_all t).2 hd]
  apply Nat.lt_of_not_le; intro g
  rw [List.drop_eq_nil_of_le g] at h; cases h

/-- a byte's test, as the walk writes it -/
theorem byteq (c d : UInt8) (n : Int) (h : (d.toNat : Int) = n) : ((c.toNat : Int) == n) = (c == d) := by
  subst h
  rw [Bool.eq_iff_iff]
  simp only [beq_iff_eq]
  constructor
  · intro h; exact UInt8.toNat_inj.1 (by omega)
  · rintro rfl; rfl

theorem negB_cons (c : UInt8) (r : List UInt8) : negB (c :: r) = ((c.toNat : Int) == 45) := by
  rw [byteq c 45 45 rfl]
  rfl

theorem unsigned_at (l : List UInt8) : (negB l = true → 1 ≤ l.length ∧ l.drop 1 = unsigned l) ∧ (negB l = false → l.drop 0 = unsigned l) := by
  cases l with
  | nil => exact ⟨fun h => (by cases h), fun _ => rfl⟩
  | cons c r =>
    unfold negB unsigned
    constructor
    · intro h
      have : c = 45 := by simpa using h
      subst this; simp
    · intro h
      have : c ≠ 45 := by simpa using h
      simp [this]

/-- does a point stand behind the digits? -/
def pointB (t : List UInt8) : Bool := match t.drop (cnt t) with | [] => false | c :: _ => c == 46

theorem parseT_nil (neg : Bool) (t : List UInt8) (h : t.drop (cnt t) = []) : parseT neg t = if cnt t = 0 then (0, 1) else fin neg (t.take (cnt t)) [] := by
  have h1 : t.take (cnt t) = t := List.take_of_length_le (by have := congrArg List.length h; simp at this; omega)
  unfold parseT; rw [h, h1]
theorem parseT_cons (neg : Bool) (t : List UInt8) (c : UInt8) (p : List UInt8) (h : t.drop (cnt t) = c :: p) : parseT neg t = if c = 46 ∧ p ≠ [] ∧ allDig p = true then fin neg (t.take (cnt t)) p else (0, 1) := by
  unfold parseT; rw [h]

theorem drop_len {t : List UInt8} {d : Nat} {c : UInt8} {p : List UInt8} (h : t.drop d = c :: p) : t.length ≤ d + 1 + p.length ∧ d + 1 + p.length ≤ t.length := by
  have := congrArg List.length h
  simp at this
  omega
theorem drop_nil_len {t : List UInt8} {d : Nat} (h : t.drop d = []) : t.length ≤ d := by
  have := congrArg List.length h
  simp at this
  omega

theorem byte_at (l : List UInt8) (i : Nat) (h : i < l.length) : ∃ c rest, l.drop i = c :: rest ∧ l.drop (i + 1) = rest ∧ ∀ h', (⟨l.toArray⟩ : ByteArray)[i]'h' = c :=
  ⟨l[i], l.drop (i + 1), List.drop_eq_getElem_cons h, rfl, fun _ => rfl⟩

end Go.Proofs.YtbhdoocajfkfiaaGreatDoor.num

namespace Go.Proofs.YtbhdoocajfkfiaaGreatDoor.num
open Go.Lib Go.Proofs.YtbhdoocajfkfiaaGreatDoor.str

/-- digits, one at least -/
def digB (l : List UInt8) : Bool := !(l == []) && allDig l

/-- is the form of a number's text wrong? -/
def badB (t : List UInt8) : Bool :=
  ((cut1 46 t).2.2 && !digB (cut1 46 t).2.1) || (!((cut1 46 t).1 == []) && !digB (cut1 46 t).1) || (((cut1 46 t).1 == []) && !(cut1 46 t).2.2)

theorem notDig_46 (l : List UInt8) (h : allDig l = true) : 46 ∉ l := by
  intro hm
  have := List.all_eq_true.1 h 46 hm
  exact absurd this (by decide)

theorem dig_split (l : List UInt8) (h : allDig l = false) : ∃ c r, l.drop (cnt l) = c :: r ∧ c ∈ l := by
  cases hd : l.drop (cnt l) with
  | nil =>
    have h1 := congrArg List.length hd
    simp at h1
    have h2 := cnt_le l
    have h3 := (cnt_all l).1 (by omega)
    rw [h] at h3; cases h3
  | cons c r => exact ⟨c, r, rfl, List.drop_subset (cnt l) l (by rw [hd]; simp)⟩

theorem cnt_app_bad (a b : List UInt8) (h : allDig a = false) : cnt (a ++ b) = cnt a := by
  induction a with
  | nil => cases h
  | cons c a ih =>
    rw [allDig_cons] at h
    rw [List.cons_append]
    unfold cnt
    cases hc : isDig c
    · simp
    · simp [hc] at h
      simp [ih h]

theorem parse_form (neg : Bool) (t : List UInt8) : parseT neg t = if badB t = true then (0, 1) else fin neg (cut1 46 t).1 (cut1 46 t).2.1 := by
  unfold badB digB
  rcases cut1_spec 46 t with ⟨h1, h2, h3⟩ | ⟨h1, h2, h3, h4⟩
  · generalize (cut1 46 t).1 = h at *
    generalize (cut1 46 t).2.1 = p at *
    rw [h1]
    cases hh : allDig h
    · obtain ⟨c, r, e1, e2⟩ := dig_split h hh
      have hc : cnt t = cnt h := by rw [h2]; exact cnt_app_bad h _ hh
      have hd : t.drop (cnt t) = c :: (r ++ 46 :: p) := by
        rw [hc, h2, List.drop_append_of_le_length (cnt_le h), e1]; rfl
      have hne : h ≠ [] := by rintro rfl; cases hh
      rw [parseT_cons neg t c _ hd, if_neg (fun (g : c = 46 ∧ _) => h3 (g.1 ▸ e2)), if_pos]
      simp [hne]
    · have hc : cnt t = h.length := by
        rw [h2, cnt_append h _ hh]
        have : cnt (46 :: p) = 0 := by unfold cnt; rw [if_neg (by decide)]
        omega
      have hd : t.drop (cnt t) = 46 :: p := by rw [hc, h2, List.drop_left]
      rw [parseT_cons neg t 46 p hd]
      have ht : t.take (cnt t) = h := by rw [hc, h2, List.take_left]
      rw [ht]
      by_cases hp : p = []
      · subst hp; simp
      · cases hpd : allDig p
        · simp [hp]
        · simp [hp]
  · rw [h1, h2, h3]
    cases hh : allDig t
    · obtain ⟨c, r, e1, e2⟩ := dig_split t hh
      have hne : t ≠ [] := by rintro rfl; cases hh
      rw [parseT_cons neg t c r e1, if_neg (fun (g : c = 46 ∧ _) => h4 (g.1 ▸ e2)), if_pos]
      simp
    · have hc := (cnt_all t).2 hh
      have hd : t.drop (cnt t) = [] := List.drop_eq_nil_of_le (by omega)
      have ht : t.take (cnt t) = t := List.take_of_length_le (by omega)
      rw [parseT_nil neg t hd, ht, hc]
      cases t with
      | nil => simp
      | cons a b => simp


theorem bad_dig (t : List UInt8) (h : badB t = false) : allDig (cut1 46 t).1 = true ∧ allDig (cut1 46 t).2.1 = true := by
  unfold badB digB at h
  rcases cut1_spec 46 t with ⟨h1, _, _⟩ | ⟨h1, _, h3, _⟩
  · rw [h1] at h
    cases hh : (cut1 46 t).1 with
    | nil => rw [hh] at h; simp at h; exact ⟨rfl, h.2⟩
    | cons a b => rw [hh] at h; simp at h; exact ⟨h.2, h.1.2⟩
  · rw [h1] at h
    rw [h3]
    cases hh : (cut1 46 t).1 with
    | nil => exact ⟨rfl, rfl⟩
    | cons a b => rw [hh] at h; simp at h; exact ⟨h, rfl⟩

/-- the six digits that are read -/
theorem six (q : List UInt8) (hq : allDig q = true) (hl : q.length ≤ 6) :
    allDig (q ++ List.replicate (6 - q.length) 48) = true ∧ val (q ++ List.replicate (6 - q.length) 48) = val q * 10 ^ (6 - q.length) ∧ val (q ++ List.replicate (6 - q.length) 48) ≤ 999999 := by
  have h1 : allDig (q ++ List.replicate (6 - q.length) 48) = true := by
    unfold allDig at *
    rw [List.all_append, hq, Bool.true_and]
    rw [List.all_eq_true]
    intro x hx
    rw [(List.mem_replicate.1 hx).2]; decide
  refine ⟨h1, ?_, ?_⟩
  · rw [val_append, val_zeros, List.length_replicate]; omega
  · have := val_lt _ h1
    rw [List.length_append, List.length_replicate, show q.length + (6 - q.length) = 6 by omega] at this
    omega

end Go.Proofs.YtbhdoocajfkfiaaGreatDoor.num

namespace Go.Proofs.YtbhdoocajfkfiaaGreatDoor.num
open Go.Lib

/-- the six digits behind the point, without the noughts at the end -/
def frac (r : Nat) : List UInt8 := strip ((decDigits (1000000 + r)).drop 1)

def showS (n : Int) : List UInt8 :=
  let s := (if n < 0 then [45] else []) ++ decDigits (n.natAbs / 1000000)
  if n.natAbs % 1000000 = 0 then s else s ++ 46 :: frac (n.natAbs % 1000000)

/-- k digits of a number of millionths -/
def P : Nat → Nat → List UInt8
  | 0, _ => []
  | k + 1, r => UInt8.ofNat (48 + r / 100000) :: P k (r % 100000 * 10)

/-- as the reference goes through them -/
def frL : Nat → Nat → List UInt8
  | 0, _ => []
  | k + 1, r => if r = 0 then [] else UInt8.ofNat (48 + r / 100000) :: frL k (r % 100000 * 10)

theorem ofNat48 (k : Nat) (hk : k < 10) : UInt8.ofNat (48 + k) = 48 ↔ k = 0 := by
  constructor
  · intro h
    have := congrArg UInt8.toNat h
    rw [UInt8.toNat_ofNat'] at this
    have e : (48 : UInt8).toNat = 48 := rfl
    omega
  · rintro rfl; rfl

theorem strip_P0 (k : Nat) : strip (P k 0) = [] := by
  induction k with
  | zero => rfl
  | succ k ih =>
    have e : P (k + 1) 0 = 48 :: P k 0 := rfl
    rw [e, strip_zero _ ih]

theorem frL_nil (k r : Nat) (h : frL k r = []) : k = 0 ∨ r = 0 := by
  cases k with
  | zero => exact Or.inl rfl
  | succ k =>
    unfold frL at h
    by_cases h0 : r = 0
    · exact Or.inr h0
    · rw [if_neg h0] at h; cases h

theorem dvd_step (k r : Nat) (hk : k + 1 ≤ 6) (hq : ∃ q, r = q * 10 ^ (6 - (k + 1))) : ∃ q', r % 100000 * 10 = q' * 10 ^ (6 - k) := by
  obtain ⟨q, hq⟩ := hq
  have e : 6 - k = (6 - (k + 1)) + 1 := by omega
  have hd : 10 ^ (6 - (k + 1)) ∣ 100000 := by
    rw [show (100000 : Nat) = 10 ^ 5 from rfl]; exact Nat.pow_dvd_pow 10 (by omega)
  obtain ⟨d, hd⟩ := hd
  have hm : r % 100000 = (q % d) * 10 ^ (6 - (k + 1)) := by
    rw [hq, hd, Nat.mul_comm q, Nat.mul_mod_mul_left, Nat.mul_comm]
  exact ⟨q % d, by rw [hm, e, Nat.pow_succ, Nat.mul_assoc]⟩

theorem dvd_end (r : Nat) (hr : r < 1000000) (hq : ∃ q, r = q * 10 ^ (6 - 0)) : r = 0 := by
  obtain ⟨q, hq⟩ := hq
  rw [show 10 ^ (6 - 0) = 1000000 from rfl] at hq
  omega

/-- a string's length, as a loop's measure -/
def strLen : Go.Value → Nat
  | .string b => b.size
  | _ => 0

theorem strLen_mk (l : List UInt8) : strLen (.string ⟨l.toArray⟩) = l.length := rfl

theorem strip_P (k : Nat) : ∀ r, r < 1000000 → k ≤ 6 → (∃ q, r = q * 10 ^ (6 - k)) → strip (P k r) = frL k r := by
  induction k with
  | zero => intro r _ _ _; rfl
  | succ k ih =>
    intro r hr hk hq
    by_cases h0 : r = 0
    · subst h0
      rw [strip_P0]; unfold frL; rw [if_pos rfl]
    · unfold P frL
      rw [if_neg h0]
      obtain ⟨q, hq⟩ := hq
      have hq' : ∃ q', r % 100000 * 10 = q' * 10 ^ (6 - k) := by
        have e : 6 - k = (6 - (k + 1)) + 1 := by omega
        have hd : 10 ^ (6 - (k + 1)) ∣ 100000 := by
          rw [show (100000 : Nat) = 10 ^ 5 from rfl]; exact Nat.pow_dvd_pow 10 (by omega)
        obtain ⟨d, hd⟩ := hd
        have hm : r % 100000 = (q % d) * 10 ^ (6 - (k + 1)) := by
          rw [hq, hd, Nat.mul_comm q, Nat.mul_mod_mul_left, Nat.mul_comm]
        exact ⟨q % d, by rw [hm, e, Nat.pow_succ, Nat.mul_assoc]⟩
      have hi := ih (r % 100000 * 10) (by omega) (by omega) hq'
      rw [← hi]
      refine strip_keep _ _ ?_
      by_cases hs : strip (P k (r % 100000 * 10)) = []
      · right
        intro hc
        have hz := (ofNat48 (r / 100000) (by omega)).1 hc
        rw [hi] at hs
        rcases frL_nil _ _ hs with h | h
        · subst h
          rw [show 6 - (0 + 1) = 5 from rfl, show 10 ^ 5 = 100000 from rfl] at hq
          omega
        · omega
      · left; exact hs

theorem nDigits7 (r : Nat) (h : r < 1000000) : nDigits (1000000 + r) = 7 := nDigits_unique 6 _ (by omega) (by omega)

theorem pad6 (r : Nat) (h : r < 1000000) : (decDigits (1000000 + r)).drop 1 = P 6 r := by
  rw [decDigits_eq, nDigits7 r h]
  simp only [List.range, List.range.loop, List.map, List.drop, P, dg]
  rw [show 10 ^ (7 - 1 - 1) = 100000 from rfl, show 10 ^ (7 - 1 - 2) = 10000 from rfl, show 10 ^ (7 - 1 - 3) = 1000 from rfl, show 10 ^ (7 - 1 - 4) = 100 from rfl, show 10 ^ (7 - 1 - 5) = 10 from rfl, show 10 ^ (7 - 1 - 6) = 1 from rfl]
  rw [show (1000000 + r) / 100000 % 10 = r / 100000 by omega, show (1000000 + r) / 10000 % 10 = r % 100000 * 10 / 100000 by omega,
    show (1000000 + r) / 1000 % 10 = r % 100000 * 10 % 100000 * 10 / 100000 by omega,
    show (1000000 + r) / 100 % 10 = r % 100000 * 10 % 100000 * 10 % 100000 * 10 / 100000 by omega,
    show (1000000 + r) / 10 % 10 = r % 100000 * 10 % 100000 * 10 % 100000 * 10 % 100000 * 10 / 100000 by omega,
    show (1000000 + r) / 1 % 10 = r % 100000 * 10 % 100000 * 10 % 100000 * 10 % 100000 * 10 % 100000 * 10 / 100000 by omega]

theorem frac_eq (r : Nat) (h : r < 1000000) : frac r = frL 6 r := by
  unfold frac
  rw [pad6 r h]
  exact strip_P 6 r h (by omega) ⟨r, by simp⟩

theorem P_dig (k : Nat) : ∀ r, r < 1000000 → allDig (P k r) = true ∧ (P k r).length = k := by
  induction k with
  | zero => intro r _; exact ⟨rfl, rfl⟩
  | succ k ih =>
    intro r h
    have h1 := ih (r % 100000 * 10) (by omega)
    unfold P
    rw [allDig_cons, h1.1]
    refine ⟨?_, by simp [h1.2]⟩
    have : isDig (UInt8.ofNat (48 + r / 100000)) = true := by
      rw [isDig_iff, UInt8.toNat_ofNat']
      omega
    rw [this]; rfl

theorem frL_len (k : Nat) : ∀ r, (frL k r).length ≤ k := by
  induction k with
  | zero => intro r; exact Nat.le_refl _
  | succ k ih => intro r; unfold frL; split; simp; simp; exact ih _

end Go.Proofs.YtbhdoocajfkfiaaGreatDoor.num

namespace Go.Proofs.YtbhdoocajfkfiaaGreatDoor.num
open Go.Lib

theorem dig_ofNat (k : Nat) (hk : k < 10) : isDig (UInt8.ofNat (48 + k)) = true ∧ dv (UInt8.ofNat (48 + k)) = k := by
  constructor
  · rw [isDig_iff, UInt8.toNat_ofNat']; omega
  · rw [dv_eq, UInt8.toNat_ofNat']; omega

theorem dec_dig (u : Nat) : allDig (decDigits u) = true ∧ val (decDigits u) = u := by
  induction u using Nat.strongRecOn with
  | _ u ih =>
    by_cases h : u < 10
    · have := dig_ofNat u h
      rw [decDigits_one h, allDig_cons, this.1, val_cons, this.2]
      exact ⟨rfl, by simp [val_nil]⟩
    · have h1 := ih (u / 10) (by omega)
      have h2 := dig_ofNat (u % 10) (by omega)
      rw [decDigits, dif_neg h]
      constructor
      · unfold allDig at *
        rw [List.all_append, h1.1, List.all_cons, h2.1]; rfl
      · rw [val_append, h1.2, val_cons, h2.2, val_nil]; simp; omega

theorem dec_ne (u : Nat) : decDigits u ≠ [] := by
  intro h
  have := congrArg List.length h
  rw [decDigits_length] at this
  have := nDigits_pos u
  simp at *; omega

theorem dig_head (l : List UInt8) (h : allDig l = true) (m : List UInt8) (hne : l ≠ []) : negB (l ++ m) = false ∧ unsigned (l ++ m) = l ++ m := by
  cases l with
  | nil => exact absurd rfl hne
  | cons c r =>
    rw [allDig_cons] at h
    simp at h
    have hc : c ≠ 45 := by rintro rfl; exact absurd h.1 (by decide)
    unfold negB unsigned
    simp [hc]

theorem val_P6 (r : Nat) (h : r < 1000000) : val (P 6 r) = r := by
  have h1 := dec_dig (1000000 + r)
  have h2 := pad6 r h
  have h3 : (decDigits (1000000 + r)).length = 7 := by rw [decDigits_length, nDigits7 r h]
  have h4 := P_dig 6 r h
  have h5 := val_lt _ h4.1
  rw [h4.2] at h5
  cases hd : decDigits (1000000 + r) with
  | nil => rw [hd] at h3; cases h3
  | cons c l =>
    rw [hd] at h1 h2
    rw [List.drop_one, List.tail_cons] at h2
    rw [val_cons, h2, h4.2] at h1
    have := h1.2
    omega

theorem frL_val (r : Nat) (h : r < 1000000) : allDig (frL 6 r) = true ∧ strip (frL 6 r) = frL 6 r ∧ (frL 6 r).length ≤ 6 ∧ val (frL 6 r) * 10 ^ (6 - (frL 6 r).length) = r := by
  have e := strip_P 6 r h (by omega) ⟨r, by simp⟩
  have h4 := P_dig 6 r h
  obtain ⟨k, hk⟩ := strip_pre (P 6 r)
  have hl := frL_len 6 r
  rw [e] at hk
  have hkl : k = 6 - (frL 6 r).length := by
    have := congrArg List.length hk
    rw [h4.2, List.length_append, List.length_replicate] at this
    omega
  refine ⟨by rw [← e]; exact strip_dig _ h4.1, ?_, hl, ?_⟩
  · have hs : ∀ (l : List UInt8) (k : Nat), strip (l ++ List.replicate k 48) = strip l := by
      intro l k
      induction k with
      | zero => simp
      | succ k ih => rw [List.replicate_succ', ← List.append_assoc, strip_snoc, if_pos rfl, ih]
    have := hs (frL 6 r) k
    rw [← hk, e] at this
    exact this.symm
  · have := val_P6 r h
    rw [hk, val_append, val_zeros, List.length_replicate, hkl] at this
    omega

theorem sgn_val (n : Int) (u : Nat) (hu : u = n.natAbs) : (if decide (n < 0) = true then -(u : Int) else (u : Int)) = n := by
  by_cases hn : n < 0
  · rw [if_pos (decide_eq_true hn)]; omega
  · rw [if_neg (by simpa using hn)]; omega

theorem parse_show (n : Int) : parseS (showS n) = if n.natAbs ≤ 1000000000000000000 then (n, 0) else (0, 2) := by
  obtain ⟨u, hu⟩ : ∃ u, u = n.natAbs := ⟨_, rfl⟩
  obtain ⟨neg, hneg⟩ : ∃ b, b = decide (n < 0) := ⟨_, rfl⟩
  have hr : u % 1000000 < 1000000 := Nat.mod_lt _ (by decide)
  have hD := dec_dig (u / 1000000)
  have hDn := dec_ne (u / 1000000)
  have hf := frL_val (u % 1000000) hr
  -- the text without its sign
  obtain ⟨t, ht⟩ : ∃ t, t = if u % 1000000 = 0 then decDigits (u / 1000000) else decDigits (u / 1000000) ++ 46 :: frL 6 (u % 1000000) := ⟨_, rfl⟩
  have hs : showS n = (if n < 0 then [45] else []) ++ t := by
    unfold showS
    rw [← hu, ht]
    by_cases h0 : u % 1000000 = 0
    · simp [h0]
    · simp [h0, frac_eq _ hr]
  have hp : parseS (showS n) = parseT neg t := by
    rw [hs]
    unfold parseS
    by_cases hn : n < 0
    · rw [if_pos hn, hneg, decide_eq_true hn]; rfl
    · rw [if_neg hn, hneg, decide_eq_false hn, List.nil_append]
      have := dig_head (decDigits (u / 1000000)) hD.1 (if u % 1000000 = 0 then [] else 46 :: frL 6 (u % 1000000)) hDn
      have e : t = decDigits (u / 1000000) ++ (if u % 1000000 = 0 then [] else 46 :: frL 6 (u % 1000000)) := by
        rw [ht]; split <;> simp
      rw [← e] at this
      rw [this.1, this.2]
  have hfin : parseT neg t = fin neg (decDigits (u / 1000000)) (if u % 1000000 = 0 then [] else frL 6 (u % 1000000)) := by
    rw [ht]
    by_cases h0 : u % 1000000 = 0
    · rw [if_pos h0, if_pos h0]
      have hc := (cnt_all _).2 hD.1
      have hd : (decDigits (u / 1000000)).drop (cnt (decDigits (u / 1000000))) = [] := List.drop_eq_nil_of_le (by omega)
      rw [parseT_nil neg _ hd, hc, List.take_length, if_neg]
      intro g
      exact hDn (List.eq_nil_of_length_eq_zero g)
    · rw [if_neg h0, if_neg h0]
      have hc : cnt (decDigits (u / 1000000) ++ 46 :: frL 6 (u % 1000000)) = (decDigits (u / 1000000)).length := by
        rw [cnt_append _ _ hD.1]
        have : cnt (46 :: frL 6 (u % 1000000)) = 0 := by unfold cnt; rw [if_neg (by decide)]
        omega
      have hd : (decDigits (u / 1000000) ++ 46 :: frL 6 (u % 1000000)).drop (cnt (decDigits (u / 1000000) ++ 46 :: frL 6 (u % 1000000))) = 46 :: frL 6 (u % 1000000) := by
        rw [hc, List.drop_left]
      rw [parseT_cons neg _ 46 _ hd, hc, List.take_left, if_pos]
      refine ⟨rfl, ?_, hf.1⟩
      intro g
      rcases frL_nil _ _ g with h | h
      · cases h
      · exact h0 h
  rw [hp, hfin]
  unfold fin
  rw [hD.2]
  by_cases h0 : u % 1000000 = 0
  · rw [if_pos h0]
    by_cases hb : u ≤ 1000000000000000000
    · rw [if_pos ⟨by omega, fun g => g.2 rfl, by simp [strip]⟩, if_pos (by omega)]
      have e : u / 1000000 * 1000000 + val (strip []) * 10 ^ (6 - (strip []).length) = u := by
        rw [strip, val_nil, Nat.zero_mul]; omega
      simp only [e]
      rw [hneg, sgn_val n u hu]
    · rw [if_neg (fun g => by have := g.1; omega), if_neg (by omega)]
  · rw [if_neg h0, hf.2.1]
    have hne : frL 6 (u % 1000000) ≠ [] := by
      intro g
      rcases frL_nil _ _ g with h | h
      · cases h
      · exact h0 h
    by_cases hb : u ≤ 1000000000000000000
    · rw [if_pos ⟨by omega, fun g => by have := g.1; omega, hf.2.2.1⟩, if_pos (by omega), hf.2.2.2]
      have e : u / 1000000 * 1000000 + u % 1000000 = u := by omega
      simp only [e]
      rw [hneg, sgn_val n u hu]
    · rw [if_neg, if_neg (by omega)]
      rintro ⟨g1, g2, _⟩
      exact g2 ⟨by omega, hne⟩


/-- how many digits a number has -/
theorem nDigits_bd (k : Nat) : ∀ u, u < 10 ^ k → nDigits u ≤ max 1 k := by
  induction k with
  | zero =>
    intro u h
    have : u = 0 := by omega
    subst this
    rw [nDigits_small (by omega)]; omega
  | succ k ih =>
    intro u h
    by_cases h10 : u < 10
    · rw [nDigits_small h10]; omega
    · rw [nDigits_big h10]
      have h2 := ih (u / 10) (by rw [Nat.pow_succ] at h; omega)
      have hk : 1 ≤ k := by
        apply Nat.lt_of_not_le; intro g
        have : k = 0 := by omega
        subst this
        omega
      omega

theorem frL_short (k : Nat) : ∀ m r, r < 1000000 → k ≤ 6 → (∃ q, r = q * 10 ^ (6 - k)) → (frL m r).length ≤ k := by
  induction k with
  | zero =>
    intro m r hr _ hq
    have := dvd_end r hr hq
    subst this
    cases m with
    | zero => simp [frL]
    | succ m => simp [frL]
  | succ k ih =>
    intro m r hr hk hq
    cases m with
    | zero => simp [frL]
    | succ m =>
      rw [frL]
      split
      · simp
      · have := ih m (r % 100000 * 10) (by omega) (by omega) (dvd_step k r hk hq)
        simp; omega

/-- the number's parts, out of a text that is read -/
theorem fin_ok (neg : Bool) (h p : List UInt8) (v : Int) (hv : fin neg h p = (v, 0)) : val h ≤ 1000000000000 ∧ ¬ (val h = 1000000000000 ∧ strip p ≠ []) ∧ (strip p).length ≤ 6 ∧ v = (if neg then -((val h * 1000000 + val (strip p) * 10 ^ (6 - (strip p).length) : Nat) : Int) else ((val h * 1000000 + val (strip p) * 10 ^ (6 - (strip p).length) : Nat) : Int)) := by
  unfold fin at hv
  by_cases hc : val h ≤ 1000000000000 ∧ ¬ (val h = 1000000000000 ∧ strip p ≠ []) ∧ (strip p).length ≤ 6
  · rw [if_pos hc] at hv
    exact ⟨hc.1, hc.2.1, hc.2.2, ((Prod.mk.inj hv).1).symm⟩
  · rw [if_neg hc] at hv
    have := (Prod.mk.inj hv).2
    cases this

theorem fin_err (neg : Bool) (h p : List UInt8) : (fin neg h p).2 = 0 ∨ fin neg h p = (0, 2) := by
  unfold fin
  split
  · left; rfl
  · right; rfl

theorem parseT_err (neg : Bool) (t : List UInt8) : (parseT neg t).2 = 0 ∨ (parseT neg t).1 = 0 := by
  rw [parse_form]
  split
  · right; rfl
  · rcases fin_err neg (str.cut1 46 t).1 (str.cut1 46 t).2.1 with h | h
    · left; exact h
    · right; rw [h]

theorem show_len (n : Int) (h q : List UInt8) (neg : Bool) (hq : allDig q = true) (hd : allDig h = true) (hl : q.length ≤ 6)
    (hn : n = (if neg then -((val h * 1000000 + val q * 10 ^ (6 - q.length) : Nat) : Int) else ((val h * 1000000 + val q * 10 ^ (6 - q.length) : Nat) : Int))) :
    (showS n).length ≤ (if neg then 1 else 0) + max 1 h.length + (if q = [] then 0 else 1 + q.length) := by
  have hvq := val_lt q hq
  have hr : val q * 10 ^ (6 - q.length) < 1000000 := by
    have h1 : val q * 10 ^ (6 - q.length) < 10 ^ q.length * 10 ^ (6 - q.length) := Nat.mul_lt_mul_of_pos_right hvq (Nat.pow_pos (by decide))
    rw [← Nat.pow_add, show q.length + (6 - q.length) = 6 by omega] at h1
    exact h1
  have hs := frL_short q.length 6 (val q * 10 ^ (6 - q.length)) hr hl ⟨val q, rfl⟩
  generalize hrr : val q * 10 ^ (6 - q.length) = r at *
  have hu : n.natAbs = val h * 1000000 + r := by rw [hn]; split <;> omega
  have h1 : n.natAbs / 1000000 = val h := by omega
  have h2 : n.natAbs % 1000000 = r := by omega
  have hD : (decDigits (val h)).length ≤ max 1 h.length := by
    rw [decDigits_length]; exact nDigits_bd _ _ (val_lt h hd)
  have hneg : (if n < 0 then [45] else ([] : List UInt8)).length ≤ (if neg then 1 else 0) := by
    cases neg with
    | true => rw [if_pos (rfl : true = true)]; split <;> simp
    | false =>
      have h0 : ¬ n < 0 := by rw [hn, if_neg (by decide)]; omega
      rw [if_neg h0]; simp
  unfold showS
  rw [h1, h2]
  by_cases h0 : r = 0
  · rw [if_pos h0, List.length_append]; omega
  · rw [if_neg h0, List.length_append, List.length_append, List.length_cons, frac_eq r hr]
    have : q ≠ [] := by
      rintro rfl
      rw [val_nil, Nat.zero_mul] at hrr
      exact h0 hrr.symm
    rw [if_neg this]; omega

/-- P3.4, the other way: what is read is shown by a text that is read alike, and no longer but for one nought -/
theorem normal (l : List UInt8) (h : (parseS l).2 = 0) : (parseS l).1.natAbs ≤ 1000000000000000000 ∧ (showS (parseS l).1).length ≤ l.length + 1 := by
  obtain ⟨neg, hneg⟩ : ∃ b, b = negB l := ⟨_, rfl⟩
  have hp : parseS l = parseT neg (unsigned l) := by unfold parseS; rw [hneg]
  have hul : (unsigned l).length + (if neg then 1 else 0) ≤ l.length := by
    rw [hneg]
    cases l with
    | nil => simp [unsigned, negB]
    | cons c r =>
      by_cases hc : c = 45
      · subst hc; simp [unsigned, negB]
      · simp [unsigned, negB, hc]
  generalize unsigned l = t at *
  rw [hp] at h ⊢
  rw [parse_form] at h ⊢
  by_cases hb : badB t = true
  · rw [if_pos hb] at h; cases h
  · rw [if_neg hb] at h ⊢
    have hbd := bad_dig t (by simpa using hb)
    have hbf : badB t = false := by simpa using hb
    rcases hf : fin neg (str.cut1 46 t).1 (str.cut1 46 t).2.1 with ⟨v, e⟩
    rw [hf] at h
    simp only at h ⊢
    subst h
    obtain ⟨h1, h2, h3, h4⟩ := fin_ok _ _ _ _ hf
    have hsl := strip_le (str.cut1 46 t).2.1
    have hq := strip_dig _ hbd.2
    have hlen := show_len v _ _ neg hq hbd.1 h3 h4
    have hvq := val_lt _ hq
    have hr : val (strip (str.cut1 46 t).2.1) * 10 ^ (6 - (strip (str.cut1 46 t).2.1).length) < 1000000 := by
      have g1 : val (strip (str.cut1 46 t).2.1) * 10 ^ (6 - (strip (str.cut1 46 t).2.1).length) < 10 ^ (strip (str.cut1 46 t).2.1).length * 10 ^ (6 - (strip (str.cut1 46 t).2.1).length) := Nat.mul_lt_mul_of_pos_right hvq (Nat.pow_pos (by decide))
      rw [← Nat.pow_add, show (strip (str.cut1 46 t).2.1).length + (6 - (strip (str.cut1 46 t).2.1).length) = 6 by omega] at g1
      exact g1
    have hv0 : strip (str.cut1 46 t).2.1 = [] → val (strip (str.cut1 46 t).2.1) * 10 ^ (6 - (strip (str.cut1 46 t).2.1).length) = 0 := by
      intro g; rw [g, val_nil, Nat.zero_mul]
    clear hvq hq hbd hb hbf hf
    generalize val (strip (str.cut1 46 t).2.1) * 10 ^ (6 - (strip (str.cut1 46 t).2.1).length) = r at *
    generalize val (str.cut1 46 t).1 = a at *
    constructor
    · have hva : v.natAbs = a * 1000000 + r := by
        rw [h4]
        cases neg with
        | true => rw [if_pos (rfl : true = true), Int.natAbs_neg]; rfl
        | false => rw [if_neg (by decide)]; rfl
      rw [hva]
      clear h4 hva hlen hul
      by_cases hm : a = 1000000000000
      · have hq0 : strip (str.cut1 46 t).2.1 = [] := by
          apply Classical.byContradiction; intro g; exact h2 ⟨hm, g⟩
        have h0 := hv0 hq0
        rw [hm, h0]
        decide
      · have h5 : a + 1 ≤ 1000000000000 := by clear hr hv0 h3 hsl; omega
        clear h1 h2 hm h3 hsl hv0
        have h6 : (a + 1) * 1000000 ≤ 1000000000000 * 1000000 := Nat.mul_le_mul_right _ h5
        rw [Nat.add_mul] at h6
        exact Nat.le_trans (Nat.add_le_add_left (Nat.le_of_lt hr) _) (by simpa using h6)
    · have hcut : (str.cut1 46 t).1.length + (if (str.cut1 46 t).2.2 = true then 1 + (str.cut1 46 t).2.1.length else 0) ≤ t.length := by
        rcases str.cut1_spec 46 t with ⟨g1, g2, _⟩ | ⟨g1, g2, g3, _⟩
        · rw [g1, if_pos rfl]
          have := congrArg List.length g2
          simp at this; omega
        · rw [g1, g2]; simp
      have hp2 : (str.cut1 46 t).2.2 = false → (str.cut1 46 t).2.1 = [] := by
        intro g
        rcases str.cut1_spec 46 t with ⟨g1, _, _⟩ | ⟨_, _, g3, _⟩
        · rw [g] at g1; cases g1
        · exact g3
      cases hpt : (str.cut1 46 t).2.2 with
      | true =>
        rw [hpt, if_pos rfl] at hcut
        split at hlen <;> split at hlen <;> rename_i g1 g2 <;> simp [g1] at hul <;> omega
      | false =>
        have := hp2 hpt
        rw [hpt] at hcut
        rw [this] at hlen
        simp [strip] at hlen hcut
        split at hlen <;> rename_i g1 <;> simp [g1] at hul <;> omega

end Go.Proofs.YtbhdoocajfkfiaaGreatDoor.num

namespace Go.Proofs.YtbhdoocajfkfiaaGreatDoor.cal

/-- a leap year, of any year above 0 -/
def leapP (y : Int) : Prop := y % 400 = 0 ∨ (y % 4 = 0 ∧ y % 100 ≠ 0)
instance (y : Int) : Decidable (leapP y) := by unfold leapP; infer_instance
/-- the number of January 1 -/
def newY (y : Int) : Int := (y - 1) * 365 + (y - 1) / 4 - (y - 1) / 100 + (y - 1) / 400 - 719162
/-- how many days a month has -/
def mlen (y m : Int) : Int := if m = 2 then (if leapP y then 29 else 28) else if m = 4 ∨ m = 6 ∨ m = 9 ∨ m = 11 then 30 else 31
/-- days ahead of a month -/
def cum (y m : Int) : Int :=
  if m ≤ 1 then 0 else if m = 2 then 31 else
    (if m = 3 then 59 else if m = 4 then 90 else if m = 5 then 120 else if m = 6 then 151 else if m = 7 then 181 else if m = 8 then 212 else if m = 9 then 243 else if m = 10 then 273 else if m = 11 then 304 else 334) + (if leapP y then 1 else 0)
def numD (y m d : Int) : Int := newY y + cum y m + (d - 1)

/-- by years that begin in March -/
def civ (y m d : Int) : Int :=
  let y' := if m < 3 then y - 1 else y
  let m' := if m < 3 then m + 12 else m
  (y' / 400) * 146097 + ((y' % 400) * 365 + (y' % 400) / 4 - (y' % 400) / 100 + ((153 * (m' - 3) + 2) / 5 + d - 1)) - 719468

theorem civ_num (y m d : Int) (h1 : 1 ≤ m) (h2 : m ≤ 12) : civ y m d = numD y m d := by
  have hm : m = 1 ∨ m = 2 ∨ m = 3 ∨ m = 4 ∨ m = 5 ∨ m = 6 ∨ m = 7 ∨ m = 8 ∨ m = 9 ∨ m = 10 ∨ m = 11 ∨ m = 12 := by omega
  have hl : leapP y ∨ ¬ leapP y := Decidable.em _
  rcases hl with hl | hl
  · rcases hm with rfl | rfl | rfl | rfl | rfl | rfl | rfl | rfl | rfl | rfl | rfl | rfl <;>
      simp only [civ, numD, newY, cum, hl] <;> unfold leapP at hl <;> simp <;> omega
  · rcases hm with rfl | rfl | rfl | rfl | rfl | rfl | rfl | rfl | rfl | rfl | rfl | rfl <;>
      simp only [civ, numD, newY, cum, hl] <;> unfold leapP at hl <;> simp <;> omega

theorem newY_next (y : Int) : newY (y + 1) = newY y + (if leapP y then 366 else 365) := by
  by_cases h : leapP y
  · rw [if_pos h]; unfold leapP at h; unfold newY; omega
  · rw [if_neg h]; unfold leapP at h; unfold newY; omega
theorem newY_lt (y : Int) : newY y < newY (y + 1) := by
  rw [newY_next]; split <;> omega
theorem newY_mono (a b : Int) (h : a < b) : newY a < newY b := by
  unfold newY; omega

theorem cum_next (y m : Int) (h1 : 1 ≤ m) (h2 : m ≤ 11) : cum y (m + 1) = cum y m + mlen y m := by
  have hm : m = 1 ∨ m = 2 ∨ m = 3 ∨ m = 4 ∨ m = 5 ∨ m = 6 ∨ m = 7 ∨ m = 8 ∨ m = 9 ∨ m = 10 ∨ m = 11 := by omega
  rcases hm with rfl | rfl | rfl | rfl | rfl | rfl | rfl | rfl | rfl | rfl | rfl <;> simp [cum, mlen] <;> split <;> omega
theorem cum_last (y : Int) : cum y 12 + mlen y 12 = if leapP y then 366 else 365 := by
  simp [cum, mlen]; split <;> omega
theorem mlen_pos (y m : Int) : 28 ≤ mlen y m ∧ mlen y m ≤ 31 := by unfold mlen; split <;> (try split) <;> omega

/-- a day of a year: valid -/
def okD (y m d : Int) : Prop := 1 ≤ m ∧ m ≤ 12 ∧ 1 ≤ d ∧ d ≤ mlen y m
theorem cum_bound (y m d : Int) (h : okD y m d) : 0 ≤ cum y m + (d - 1) ∧ cum y m + (d - 1) < (if leapP y then 366 else 365) := by
  obtain ⟨h1, h2, h3, h4⟩ := h
  have hm : m = 1 ∨ m = 2 ∨ m = 3 ∨ m = 4 ∨ m = 5 ∨ m = 6 ∨ m = 7 ∨ m = 8 ∨ m = 9 ∨ m = 10 ∨ m = 11 ∨ m = 12 := by omega
  rcases hm with rfl | rfl | rfl | rfl | rfl | rfl | rfl | rfl | rfl | rfl | rfl | rfl <;> simp [cum, mlen] at * <;> split <;> (try split at h4) <;> omega

theorem num_year (y m d : Int) (h : okD y m d) : newY y ≤ numD y m d ∧ numD y m d < newY (y + 1) := by
  have hb := cum_bound y m d h
  rw [newY_next]
  unfold numD
  omega
theorem num_inj (y m d y' m' d' : Int) (h : okD y m d) (h' : okD y' m' d') (e : numD y m d = numD y' m' d') : y = y' ∧ m = m' ∧ d = d' := by
  have a := num_year y m d h
  have b := num_year y' m' d' h'
  have hy : y = y' := by
    rcases Int.lt_trichotomy y y' with g | g | g
    · have : newY (y + 1) ≤ newY y' := by
        rcases Int.lt_or_eq_of_le (show y + 1 ≤ y' by omega) with k | k
        · exact Int.le_of_lt (newY_mono _ _ k)
        · rw [k]; exact Int.le_refl _
      omega
    · exact g
    · have : newY (y' + 1) ≤ newY y := by
        rcases Int.lt_or_eq_of_le (show y' + 1 ≤ y by omega) with k | k
        · exact Int.le_of_lt (newY_mono _ _ k)
        · rw [k]; exact Int.le_refl _
      omega
  subst hy
  unfold numD at e
  obtain ⟨h1, h2, h3, h4⟩ := h
  obtain ⟨k1, k2, k3, k4⟩ := h'
  have hm : m = 1 ∨ m = 2 ∨ m = 3 ∨ m = 4 ∨ m = 5 ∨ m = 6 ∨ m = 7 ∨ m = 8 ∨ m = 9 ∨ m = 10 ∨ m = 11 ∨ m = 12 := by omega
  have hmm : m = m' := by
    have e1 : cum y m + (d - 1) = cum y m' + (d' - 1) := by omega
    have hm' : m' = 1 ∨ m' = 2 ∨ m' = 3 ∨ m' = 4 ∨ m' = 5 ∨ m' = 6 ∨ m' = 7 ∨ m' = 8 ∨ m' = 9 ∨ m' = 10 ∨ m' = 11 ∨ m' = 12 := by omega
    rcases hm with rfl | rfl | rfl | rfl | rfl | rfl | rfl | rfl | rfl | rfl | rfl | rfl <;>
    rcases hm' with rfl | rfl | rfl | rfl | rfl | rfl | rfl | rfl | rfl | rfl | rfl | rfl <;>
    first
    | rfl
    | (exfalso; simp [cum, mlen] at e1 h4 k4; omega)
    | (exfalso; by_cases hl : leapP y <;> simp [cum, mlen, hl] at e1 h4 k4 <;> omega)
  subst hmm
  exact ⟨rfl, rfl, by omega⟩

/-- the day of a number, by years that begin in March -/
def dateOf (n : Int) : Int × Int × Int :=
  let z := n + 719468
  let era := z / 146097
  let of := z % 146097
  let year := (of - of / 1460 + of / 36524 - of / 146096) / 365
  let day := of - (365 * year + year / 4 - year / 100)
  let k := (5 * day + 2) / 153
  if k + 3 > 12 then (year + era * 400 + 1, k + 3 - 12, day - (153 * k + 2) / 5 + 1) else (year + era * 400, k + 3, day - (153 * k + 2) / 5 + 1)

theorem year_of (o y : Int) (h0 : 0 ≤ o) (h1 : o < 146097) (hy : y = (o - o / 1460 + o / 36524 - o / 146096) / 365) :
    0 ≤ y ∧ y ≤ 399 ∧ 0 ≤ o - (365 * y + y / 4 - y / 100) ∧ o - (365 * y + y / 4 - y / 100) ≤ 365 ∧
      (o - (365 * y + y / 4 - y / 100) = 365 → ((y + 1) % 4 = 0 ∧ ((y + 1) % 100 ≠ 0 ∨ y = 399))) := by
  by_cases h : o = 146096
  · subst h
    have : y = 399 := by rw [hy]; decide
    subst this
    decide
  · obtain ⟨f, hf⟩ : ∃ f, f = o / 36524 := ⟨_, rfl⟩
    obtain ⟨q, hq⟩ : ∃ q, q = (o - 36524 * f) / 1461 := ⟨_, rfl⟩
    obtain ⟨r, hr⟩ : ∃ r, r = o - 36524 * f - 1461 * q := ⟨_, rfl⟩
    have f1 : 0 ≤ f ∧ f ≤ 3 := by omega
    have q1 : 0 ≤ q ∧ q ≤ 24 := by omega
    have r1 : 0 ≤ r ∧ r ≤ 1460 ∧ (q = 24 → r ≤ 1459) := by omega
    obtain ⟨s, hs⟩ : ∃ s, s = if r = 1460 then 3 else r / 365 := ⟨_, rfl⟩
    have s1 : 0 ≤ s ∧ s ≤ 3 ∧ 0 ≤ r - 365 * s ∧ r - 365 * s ≤ 365 ∧ (r - 365 * s = 365 → s = 3) := by
      by_cases g : r = 1460
      · rw [if_pos g] at hs; omega
      · rw [if_neg g] at hs; omega
    have ho : o = 36524 * f + 1461 * q + r := by omega
    have e1 : o / 146096 = 0 := by omega
    obtain ⟨t, ht⟩ : ∃ t, t = if 1460 ≤ 24 * f + q + r then (1 : Int) else 0 := ⟨_, rfl⟩
    have e2 : o / 1460 = 25 * f + q + t := by
      by_cases g : 1460 ≤ 24 * f + q + r
      · rw [if_pos g] at ht; omega
      · rw [if_neg g] at ht; omega
    have e3 : y = 100 * f + 4 * q + s := by
      rw [hy, e1, e2, ← hf]
      by_cases g : 1460 ≤ 24 * f + q + r
      · rw [if_pos g] at ht
        by_cases k : r = 1460
        · rw [if_pos k] at hs; omega
        · rw [if_neg k] at hs; omega
      · rw [if_neg g] at ht
        by_cases k : r = 1460
        · rw [if_pos k] at hs; omega
        · rw [if_neg k] at hs; omega
    have e4 : y / 4 = 25 * f + q := by omega
    have e5 : y / 100 = f := by omega
    rw [e4, e5, e3]
    clear hs ht e2 hy hf hq hr e1 h0 h1 h
    refine ⟨by omega, by omega, by omega, by omega, ?_⟩
    intro hd
    obtain ⟨_, _, _, _, hs3⟩ := s1
    have : s = 3 := hs3 (by omega)
    subst this
    have hr : r = 1460 := by omega
    refine ⟨by omega, ?_⟩
    by_cases hq : q = 24
    · omega
    · left; omega

/-- a day of a year that begins in March -/
theorem march_of (day k : Int) (h0 : 0 ≤ day) (h1 : day ≤ 365) (hk : k = (5 * day + 2) / 153) :
    0 ≤ k ∧ k ≤ 11 ∧ 0 ≤ day - (153 * k + 2) / 5 := by omega

theorem date_ok (n : Int) (h : -719162 ≤ n) : okD (dateOf n).1 (dateOf n).2.1 (dateOf n).2.2 ∧ numD (dateOf n).1 (dateOf n).2.1 (dateOf n).2.2 = n ∧ 1 ≤ (dateOf n).1 := by
  obtain ⟨o, ho⟩ : ∃ o, o = (n + 719468) % 146097 := ⟨_, rfl⟩
  obtain ⟨e, he⟩ : ∃ e, e = (n + 719468) / 146097 := ⟨_, rfl⟩
  have hn : n = e * 146097 + o - 719468 := by omega
  have he0 : 0 ≤ e := by omega
  obtain ⟨y, hy⟩ : ∃ y, y = (o - o / 1460 + o / 36524 - o / 146096) / 365 := ⟨_, rfl⟩
  obtain ⟨y1, y2, d1, d2, d3⟩ := year_of o y (by omega) (by omega) hy
  obtain ⟨dy, hdy⟩ : ∃ dy, dy = o - (365 * y + y / 4 - y / 100) := ⟨_, rfl⟩
  rw [← hdy] at d1 d2 d3
  obtain ⟨k, hk⟩ : ∃ k, k = (5 * dy + 2) / 153 := ⟨_, rfl⟩
  have hd : dateOf n = if k + 3 > 12 then (y + e * 400 + 1, k + 3 - 12, dy - (153 * k + 2) / 5 + 1) else (y + e * 400, k + 3, dy - (153 * k + 2) / 5 + 1) := by
    unfold dateOf
    simp only [← ho, ← he, ← hy, ← hdy, ← hk]
  rw [hd]
  have hyy : (y + e * 400) / 400 = e ∧ (y + e * 400) % 400 = y := by omega
  have hkk : k = 0 ∨ k = 1 ∨ k = 2 ∨ k = 3 ∨ k = 4 ∨ k = 5 ∨ k = 6 ∨ k = 7 ∨ k = 8 ∨ k = 9 ∨ k = 10 ∨ k = 11 := by omega
  clear hd hy
  have hl : leapP (y + e * 400 + 1) ↔ ((y + 1) % 400 = 0 ∨ ((y + 1) % 4 = 0 ∧ (y + 1) % 100 ≠ 0)) := by
    unfold leapP; omega
  -- the number, by civ
  have key : ∀ (Y M D : Int), 1 ≤ M → M ≤ 12 → civ Y M D = n → numD Y M D = n := fun Y M D a b c => by rw [← civ_num Y M D a b]; exact c
  have hnn : n = e * 146097 + (365 * y + y / 4 - y / 100 + dy) - 719468 := by omega
  clear ho he hn
  by_cases hk9 : k + 3 > 12
  · rw [if_pos hk9]
    refine ⟨?_, ?_, ?_⟩
    · show okD (y + e * 400 + 1) (k + 3 - 12) (dy - (153 * k + 2) / 5 + 1)
      unfold okD
      refine ⟨by omega, by omega, by omega, ?_⟩
      have hm : k + 3 - 12 = 1 ∨ k + 3 - 12 = 2 := by omega
      rcases hm with hm | hm
      · rw [hm]; simp [mlen]; omega
      · rw [hm]
        simp only [mlen, if_true]
        by_cases hlp : leapP (y + e * 400 + 1)
        · rw [if_pos hlp]; omega
        · rw [if_neg hlp]
          rw [hl] at hlp
          have : dy ≠ 365 := fun g => hlp (by
            obtain ⟨g1, g2⟩ := d3 g
            rcases g2 with g2 | g2
            · right; exact ⟨g1, g2⟩
            · left; omega)
          omega
    · refine key _ _ _ (by show 1 ≤ k + 3 - 12; omega) (by show k + 3 - 12 ≤ 12; omega) ?_
      show civ (y + e * 400 + 1) (k + 3 - 12) (dy - (153 * k + 2) / 5 + 1) = n
      unfold civ
      rw [if_pos (by omega), if_pos (by omega)]
      dsimp only
      rw [show y + e * 400 + 1 - 1 = y + e * 400 from by omega, hyy.1, hyy.2, show k + 3 - 12 + 12 - 3 = k from by omega]
      omega
    · show 1 ≤ y + e * 400 + 1; omega
  · rw [if_neg hk9]
    refine ⟨?_, ?_, ?_⟩
    · show okD (y + e * 400) (k + 3) (dy - (153 * k + 2) / 5 + 1)
      unfold okD
      refine ⟨by omega, by omega, by omega, ?_⟩
      rcases hkk with h | h | h | h | h | h | h | h | h | h | h | h <;> first | omega | (rw [h]; simp [mlen]; omega)
    · refine key _ _ _ (by show 1 ≤ k + 3; omega) (by show k + 3 ≤ 12; omega) ?_
      show civ (y + e * 400) (k + 3) (dy - (153 * k + 2) / 5 + 1) = n
      unfold civ
      rw [if_neg (by omega), if_neg (by omega)]
      dsimp only
      rw [hyy.1, hyy.2, show k + 3 - 3 = k from by omega]
      omega
    · show 1 ≤ y + e * 400
      have : 306 ≤ e * 146097 + (365 * y + y / 4 - y / 100 + dy) := by omega
      by_cases hz : e = 0
      · subst hz
        rcases Int.lt_or_le y 1 with g | g
        · exfalso
          have hy0 : y = 0 := by omega
          subst hy0
          omega
        · omega
      · omega

/-! weeks -/
def wd (n : Int) : Int := (n + 3) % 7 + 1
def firstW (y : Int) : Int := newY y + 3 - wd (newY y + 3) + 1
theorem firstW_near (y : Int) : newY y - 3 ≤ firstW y ∧ firstW y ≤ newY y + 3 := by unfold firstW wd; omega
theorem firstW_mon (y : Int) : firstW y % 7 = 4 := by unfold firstW wd; omega
theorem firstW_lt (y : Int) : firstW y < firstW (y + 1) := by
  have a := firstW_near y
  have b := firstW_near (y + 1)
  have c := newY_next y
  split at c <;> omega
theorem firstW_mono (a b : Int) (h : a < b) : firstW a < firstW b := by
  have h1 := firstW_near a
  have h2 := firstW_near b
  have : newY a + 365 ≤ newY b := by unfold newY; omega
  omega
def weeksW (y : Int) : Int := (firstW (y + 1) - firstW y) / 7
theorem weeksW_mul (y : Int) : firstW (y + 1) = firstW y + 7 * weeksW y := by
  have a := firstW_mon y
  have b := firstW_mon (y + 1)
  unfold weeksW; omega
theorem weeksW_pos (y : Int) : 0 < weeksW y ∧ weeksW y ≤ 54 := by
  have a := firstW_near y
  have b := firstW_near (y + 1)
  have c := newY_next y
  have d := weeksW_mul y
  split at c <;> omega

/-- the year whose weeks have a day, where y is the day's own -/
def yearW (y n : Int) : Int := if firstW (y + 1) ≤ n then y + 1 else if n < firstW y then y - 1 else y
theorem yearW_ok (y n : Int) (h1 : newY y ≤ n) (h2 : n < newY (y + 1)) : firstW (yearW y n) ≤ n ∧ n < firstW (yearW y n + 1) := by
  have a := firstW_near y
  have b := firstW_near (y + 1)
  have c := firstW_near (y - 1)
  have d := firstW_near (y + 2)
  have e := newY_next y
  have f := newY_next (y + 1)
  have g := newY_next (y - 1)
  rw [show y - 1 + 1 = y from by omega] at g
  rw [show y + 1 + 1 = y + 2 from by omega] at f
  have e' : newY y + 365 ≤ newY (y + 1) := by rw [e]; split <;> omega
  have f' : newY (y + 1) + 365 ≤ newY (y + 2) := by rw [f]; split <;> omega
  have g' : newY (y - 1) + 365 ≤ newY y := by rw [g]; split <;> omega
  unfold yearW
  split
  · rw [show y + 1 + 1 = y + 2 from by omega]; omega
  · split
    · rw [show y - 1 + 1 = y from by omega]; omega
    · omega
theorem yearW_uniq (a b n : Int) (h1 : firstW a ≤ n) (h2 : n < firstW (a + 1)) (k1 : firstW b ≤ n) (k2 : n < firstW (b + 1)) : a = b := by
  rcases Int.lt_trichotomy a b with g | g | g
  · exfalso
    rcases Int.lt_or_eq_of_le (show a + 1 ≤ b by omega) with k | k
    · have := firstW_mono _ _ k; omega
    · rw [k] at h2; omega
  · exact g
  · exfalso
    rcases Int.lt_or_eq_of_le (show b + 1 ≤ a by omega) with k | k
    · have := firstW_mono _ _ k; omega
    · rw [k] at k2; omega
end Go.Proofs.YtbhdoocajfkfiaaGreatDoor.cal

namespace Go.Proofs.YtbhdoocajfkfiaaGreatDoor.mom
open Go.Lib Go.Proofs.YtbhdoocajfkfiaaGreatDoor.num Go.Proofs.YtbhdoocajfkfiaaGreatDoor.cal

/-- two digits ahead: their number, and the rest -/
def two : List UInt8 → Option (Nat × List UInt8)
  | a :: b :: r => if isDig a && isDig b then some (dv a * 10 + dv b, r) else none
  | _ => none
def sgn (c : UInt8) : List UInt8 → Option (List UInt8)
  | d :: r => if d = c then some r else none
  | [] => none
def yOk (n y : Nat) : Bool := decide (4 ≤ n) && (decide (1 ≤ y) && decide (y ≤ 275760))
def yearP (l : List UInt8) : Option (Nat × List UInt8) :=
  if yOk (cnt l) (val (l.take (cnt l))) then some (val (l.take (cnt l)), l.drop (cnt l)) else none
/-- is there such a day? -/
def dOk (y m d : Nat) : Bool := decide (1 ≤ m) && decide (m ≤ 12) && decide (1 ≤ d) && decide ((d : Int) ≤ mlen y m)
def wOk (y w : Nat) : Bool := decide (1 ≤ w) && decide ((w : Int) ≤ weeksW y)

def dateP (l : List UInt8) : Option (Int × List UInt8) :=
  match yearP l with
  | none => none
  | some (y, r) => match sgn 45 r with
    | none => none
    | some r => match two r with
      | none => none
      | some (m, r) => match sgn 45 r with
        | none => none
        | some r => match two r with
          | none => none
          | some (d, r) => if dOk y m d then some (numD y m d * 86400000, r) else none
def monthP (l : List UInt8) : Option (Int × List UInt8) :=
  match yearP l with
  | none => none
  | some (y, r) => match sgn 45 r with
    | none => none
    | some r => match two r with
      | none => none
      | some (m, r) => if decide (1 ≤ m) && decide (m ≤ 12) then some (12 * ((y : Int) - 1970) + m - 1, r) else none
def weekP (l : List UInt8) : Option (Int × List UInt8) :=
  match yearP l with
  | none => none
  | some (y, r) => match sgn 45 r with
    | none => none
    | some r => match sgn 87 r with
      | none => none
      | some r => match two r with
        | none => none
        | some (w, r) => if wOk y w then some ((firstW y + 7 * ((w : Int) - 1)) * 86400000, r) else none
/-- one digit to three, as thousandths -/
def thou (l : List UInt8) : Option (Nat × List UInt8) :=
  let n := min (cnt l) 3
  if n = 0 then none else some (val (l.take n) * 10 ^ (3 - n), l.drop n)
/-- behind the seconds -/
def secT (n : Nat) (r : List UInt8) : Option (Int × List UInt8) :=
  if r.head? = some 46 then (match thou r.tail with
    | none => none
    | some (p, r2) => some (((n + p : Nat) : Int), r2)) else some ((n : Int), r)
def secP (n : Nat) (l : List UInt8) : Option (Int × List UInt8) :=
  match two l with
  | none => none
  | some (s, r) => if s < 60 then secT (n + 1000 * s) r else none
/-- behind the minutes -/
def minT (n : Nat) (r : List UInt8) : Option (Int × List UInt8) :=
  if r.head? = some 58 then secP n r.tail else some ((n : Int), r)
def timeP (l : List UInt8) : Option (Int × List UInt8) :=
  match two l with
  | none => none
  | some (h, r) => match sgn 58 r with
    | none => none
    | some r => match two r with
      | none => none
      | some (m, r) => if decide (h < 24) && decide (m < 60) then minT ((h * 60 + m) * 60000) r else none
def midP (l : List UInt8) : Option (List UInt8) := match l with
  | c :: r => if c = 32 ∨ c = 84 then some r else none
  | [] => none
def localP (l : List UInt8) : Option (Int × List UInt8) :=
  match dateP l with
  | none => none
  | some (d, r) => match midP r with
    | none => none
    | some r => match timeP r with
      | none => none
      | some (t, r) => some (d + t, r)
def partP (kind : Int) (l : List UInt8) : Option (Int × List UInt8) :=
  if kind = 1 then dateP l else if kind = 2 then monthP l else if kind = 3 then weekP l else if kind = 4 then timeP l else if kind = 5 then localP l else none
/-- all of a text -/
def whole (o : Option (Int × List UInt8)) : Option Int := match o with
  | some (v, []) => some v
  | _ => none
def parseM (kind : Int) (l : List UInt8) : Int × Int :=
  if kind < 1 ∨ 5 < kind then (0, 3) else match whole (partP kind l) with
  | some v => (v, 0)
  | none => (0, 1)

/-! canonical forms -/
theorem cnt_stop (ds r : List UInt8) (hd : allDig ds = true) (hr : cnt r = 0) : cnt (ds ++ r) = ds.length := by rw [cnt_append ds r hd, hr]; omega
theorem cnt_cons_no (c : UInt8) (r : List UInt8) (h : isDig c = false) : cnt (c :: r) = 0 := by rw [cnt, h]; rfl
theorem yearP_of (ds r : List UInt8) (hd : allDig ds = true) (hr : cnt r = 0) (h : yOk ds.length (val ds) = true) : yearP (ds ++ r) = some (val ds, r) := by
  unfold yearP
  rw [cnt_stop ds r hd hr, List.take_left, List.drop_left, if_pos h]
theorem yearP_form (l : List UInt8) (y : Nat) (r : List UInt8) (h : yearP l = some (y, r)) : ∃ ds, l = ds ++ r ∧ allDig ds = true ∧ yOk ds.length y = true ∧ y = val ds ∧ ds.length = cnt l := by
  unfold yearP at h
  split at h
  · rename_i g
    cases h
    have hl := cnt_le l
    refine ⟨l.take (cnt l), by rw [List.take_append_drop], cnt_take l, ?_, rfl, by rw [List.length_take]; omega⟩
    rw [List.length_take, Nat.min_eq_left hl]
    exact g
  · cases h
theorem sgn_form (c : UInt8) (l r : List UInt8) (h : sgn c l = some r) : l = c :: r := by
  cases l with
  | nil => cases h
  | cons d t =>
    have e : sgn c (d :: t) = if d = c then some t else none := rfl
    rw [e] at h
    by_cases g : d = c
    · rw [if_pos g] at h; cases h; rw [g]
    · rw [if_neg g] at h; cases h
theorem sgn_of (c : UInt8) (r : List UInt8) : sgn c (c :: r) = some r := by rw [sgn, if_pos rfl]
theorem two_form (l : List UInt8) (n : Nat) (r : List UInt8) (h : two l = some (n, r)) : ∃ a b, l = a :: b :: r ∧ isDig a = true ∧ isDig b = true ∧ n = dv a * 10 + dv b := by
  match l, h with
  | [], h => cases h
  | [a], h => cases h
  | a :: b :: t, h =>
    have e : two (a :: b :: t) = if (isDig a && isDig b) = true then some (dv a * 10 + dv b, t) else none := rfl
    rw [e] at h
    by_cases g : (isDig a && isDig b) = true
    · rw [if_pos g] at h
      rw [Bool.and_eq_true] at g
      cases h
      exact ⟨a, b, rfl, g.1, g.2, rfl⟩
    · rw [if_neg g] at h; cases h
theorem two_of (a b : UInt8) (r : List UInt8) (ha : isDig a = true) (hb : isDig b = true) : two (a :: b :: r) = some (dv a * 10 + dv b, r) := by rw [two, ha, hb]; rfl
theorem two_lt (l : List UInt8) (n : Nat) (r : List UInt8) (h : two l = some (n, r)) : n < 100 := by
  obtain ⟨a, b, _, ha, hb, rfl⟩ := two_form l n r h
  have := dv_le a ha
  have := dv_le b hb
  omega

theorem yearP_app (l : List UInt8) (y : Nat) (c : UInt8) (r q : List UInt8) (h : yearP l = some (y, c :: r)) : yearP (l ++ q) = some (y, c :: (r ++ q)) := by
  obtain ⟨ds, h1, h2, h3, h4, h5⟩ := yearP_form l y (c :: r) h
  have hc : isDig c = false := cnt_next l c r (by rw [← h5, h1, List.drop_left])
  rw [h1, List.append_assoc, h4]
  rw [h4] at h3
  rw [yearP_of ds (c :: r ++ q) h2 (cnt_cons_no c _ hc) h3]
  rfl
theorem two_app (l : List UInt8) (n : Nat) (r q : List UInt8) (h : two l = some (n, r)) : two (l ++ q) = some (n, r ++ q) := by
  obtain ⟨a, b, rfl, ha, hb, rfl⟩ := two_form l n r h
  show two (a :: b :: (r ++ q)) = _
  rw [two_of a b _ ha hb]
theorem dateP_form (l : List UInt8) (v : Int) (r : List UInt8) (h : dateP l = some (v, r)) :
    ∃ y m d r1 r2 r3 r4, yearP l = some (y, r1) ∧ r1 = 45 :: r2 ∧ two r2 = some (m, r3) ∧ r3 = 45 :: r4 ∧ two r4 = some (d, r) ∧ dOk y m d = true ∧ v = numD y m d * 86400000 := by
  unfold dateP at h
  split at h
  · cases h
  · rename_i y r1 e1
    split at h
    · cases h
    · rename_i r2 e2
      split at h
      · cases h
      · rename_i m r3 e3
        split at h
        · cases h
        · rename_i r4 e4
          split at h
          · cases h
          · rename_i d r5 e5
            split at h
            · rename_i g
              cases h
              exact ⟨y, m, d, r1, r2, r3, r4, e1, sgn_form _ _ _ e2, e3, sgn_form _ _ _ e4, e5, g, rfl⟩
            · cases h
theorem dateP_of (l : List UInt8) (y m d : Nat) (r1 r2 r3 r4 r : List UInt8) (h1 : yearP l = some (y, r1)) (h2 : r1 = 45 :: r2) (h3 : two r2 = some (m, r3)) (h4 : r3 = 45 :: r4) (h5 : two r4 = some (d, r)) (h6 : dOk y m d = true) :
    dateP l = some (numD y m d * 86400000, r) := by
  unfold dateP
  rw [h1]
  simp only [h2, sgn_of, h3, h4, h5, h6, if_true]
theorem dateP_app (l : List UInt8) (v : Int) (r q : List UInt8) (h : dateP l = some (v, r)) : dateP (l ++ q) = some (v, r ++ q) := by
  obtain ⟨y, m, d, r1, r2, r3, r4, h1, h2, h3, h4, h5, h6, rfl⟩ := dateP_form l v r h
  subst h2
  subst h4
  exact dateP_of (l ++ q) y m d (45 :: (r2 ++ q)) (r2 ++ q) (45 :: (r4 ++ q)) (r4 ++ q) (r ++ q) (yearP_app l y 45 r2 q h1) rfl (two_app r2 m (45 :: r4) q h3) rfl (two_app r4 d r q h5) h6

/-- neither T nor a blank stands in what a day's text has -/
def isMid (c : UInt8) : Bool := (c == 84) || (c == 32)
theorem dig_mid (c : UInt8) (h : isDig c = true) : isMid c = false := by
  have : ∀ n : Fin 256, isDig (UInt8.ofNat n.1) = true → isMid (UInt8.ofNat n.1) = false := by decide +kernel
  have g := this ⟨c.toNat, c.toNat_lt⟩
  simp only [UInt8.ofNat_toNat] at g
  exact g h
theorem date_mid (l : List UInt8) (v : Int) (r : List UInt8) (h : dateP l = some (v, r)) : ∃ p, l = p ++ r ∧ p.all (fun c => !isMid c) = true ∧ dateP p = some (v, []) := by
  obtain ⟨y, m, d, r1, r2, r3, r4, h1, h2, h3, h4, h5, h6, rfl⟩ := dateP_form l v r h
  obtain ⟨ds, k1, k2, k3, k4, _⟩ := yearP_form l y r1 h1
  obtain ⟨a, b, rfl, ha, hb, rfl⟩ := two_form r2 m r3 h3
  obtain ⟨a', b', rfl, ha', hb', rfl⟩ := two_form r4 d r h5
  subst h4
  subst h2
  refine ⟨ds ++ [45, a, b, 45, a', b'], by rw [k1]; simp, ?_, ?_⟩
  · rw [List.all_append, Bool.and_eq_true]
    constructor
    · rw [List.all_eq_true]
      intro c hc
      unfold allDig at k2
      rw [List.all_eq_true] at k2
      rw [dig_mid c (k2 c hc)]; rfl
    · simp only [List.all_cons, List.all_nil, dig_mid a ha, dig_mid b hb, dig_mid a' ha', dig_mid b' hb']
      decide
  · subst k4
    exact dateP_of _ (val ds) _ _ (45 :: [a, b, 45, a', b']) [a, b, 45, a', b'] (45 :: [a', b']) [a', b'] [] (yearP_of ds _ k2 (cnt_cons_no 45 _ (by decide)) k3) rfl (two_of a b _ ha hb) rfl (two_of a' b' _ ha' hb') h6
end Go.Proofs.YtbhdoocajfkfiaaGreatDoor.mom

namespace Go.Proofs.YtbhdoocajfkfiaaGreatDoor.mom
open Go.Lib Go.Proofs.YtbhdoocajfkfiaaGreatDoor.num Go.Proofs.YtbhdoocajfkfiaaGreatDoor.cal

def padS (n w : Nat) : List UInt8 := List.replicate (w - (decDigits n).length) 48 ++ decDigits n
/-- a time -/
def partS (p : Nat) : List UInt8 := if p = 0 then [] else 58 :: (padS (p / 1000) 2 ++ (if p % 1000 = 0 then [] else 46 :: strip (padS (p % 1000) 3)))
def clockS (n : Nat) : List UInt8 := padS (n / 3600000) 2 ++ 58 :: (padS (n / 60000 % 60) 2 ++ partS (n % 60000))
def ymdS (x : Int × Int × Int) : List UInt8 := padS x.1.toNat 4 ++ 45 :: (padS x.2.1.toNat 2 ++ 45 :: padS x.2.2.toNat 2)
def showM (kind n : Int) : List UInt8 × Int :=
  if kind = 1 then (if -719162 ≤ n / 86400000 ∧ n / 86400000 ≤ 100000109 ∧ n % 86400000 = 0 then (ymdS (dateOf (n / 86400000)), 0) else ([], 2))
  else if kind = 2 then (if 1 ≤ n / 12 + 1970 ∧ n / 12 + 1970 ≤ 275760 then (padS (n / 12 + 1970).toNat 4 ++ 45 :: padS (n % 12 + 1).toNat 2, 0) else ([], 2))
  else if kind = 3 then (if -719162 ≤ n / 86400000 ∧ n / 86400000 < 100000107 ∧ n % 86400000 = 0 ∧ wd (n / 86400000) = 1 then
    (padS (yearW (dateOf (n / 86400000)).1 (n / 86400000)).toNat 4 ++ 45 :: 87 :: padS ((n / 86400000 - firstW (yearW (dateOf (n / 86400000)).1 (n / 86400000))) / 7 + 1).toNat 2, 0) else ([], 2))
  else if kind = 4 then (if 0 ≤ n ∧ n < 86400000 then (clockS n.toNat, 0) else ([], 2))
  else if kind = 5 then (if -719162 ≤ n / 86400000 ∧ n / 86400000 ≤ 100000109 then (ymdS (dateOf (n / 86400000)) ++ 84 :: clockS (n % 86400000).toNat, 0) else ([], 2))
  else ([], 3)
end Go.Proofs.YtbhdoocajfkfiaaGreatDoor.mom

namespace Go.Proofs.YtbhdoocajfkfiaaGreatDoor.fits
open Go.ChangeShapes Go.WideShapes Go.ChangeAt Go.RowKit

/-- what a division leaves, from 0 on -/
def lft (n s : Int) : Int := n % s

theorem lft_of (n s : Int) (hs : 0 < s) : (0 ≤ n.tmod s ∧ lft n s = n.tmod s ∧ (0 ≤ n ∨ n.tmod s = 0)) ∨ (n.tmod s < 0 ∧ n < 0 ∧ lft n s = n.tmod s + s) := by
  unfold lft
  have h0 := Int.tmod_eq_emod (a := n) (b := s)
  have h1 := Int.emod_nonneg n (show s ≠ 0 by omega)
  have h2 := Int.emod_lt_of_pos n hs
  have h3 : ((s.natAbs : Nat) : Int) = s := by omega
  split at h0
  · left
    rename_i hh
    refine ⟨by omega, by omega, ?_⟩
    rcases hh with hh | hh
    · left; exact hh
    · right; rw [Int.emod_eq_zero_of_dvd hh] at h0; omega
  · right; rename_i hh; refine ⟨by omega, ?_, by omega⟩; omega

theorem lft_bd (n s : Int) (hs : 0 < s) : 0 ≤ lft n s ∧ lft n s < s :=
  ⟨Int.emod_nonneg _ (by omega), Int.emod_lt_of_pos _ hs⟩

theorem ret_int {k : IntKind} {a b : Int} (h : a = b) : Ending.returned (.int k a) = .returned (.int k b) := by rw [h]

theorem refleft_any (n s : Int) (w : World) (hs : 0 < s) (h2 : s ≤ 9223372036854775807) (h3 : -9223372036854775808 ≤ n) (h4 : n ≤ 9223372036854775807) :
    Calls Tryz.prog 163 #[.int .i64 n, .int .i64 s] w fun e w' => e = .returned (.int .i64 (lft n s)) ∧ w = w' := by
  by_cases h0 : 0 ≤ n
  · go_enter Tryz.func163, Tryz.ntmps163
    go_wp2
    go_ret
    exact ⟨rfl, rfl⟩
  · have hl := lft_of n s hs
    have hb := lft_bd n s hs
    by_cases hz : n.tmod s = 0
    · have he : lft n s = 0 := by omega
      have H := Lib.hid he; clear he hl
      have hq : (n.tmod s == 0) = true := by simpa using hz
      clear hz
      go_enter Tryz.func163, Tryz.ntmps163
      go_wp2
      go_ret
      exact ⟨ret_int H.out.symm, rfl⟩
    · have htn : n.tmod s < 0 := by omega
      have he : lft n s = s + n.tmod s := by omega
      have hx : -9223372036854775808 ≤ s + n.tmod s := by omega
      have hy : s + n.tmod s ≤ 9223372036854775807 := by omega
      have H := Lib.hid he; clear he hl
      have hq : (n.tmod s == 0) = false := by simpa using hz
      clear hz
      go_enter Tryz.func163, Tryz.ntmps163
      go_wp2
      go_ret
      exact ⟨ret_int H.out.symm, rfl⟩

end Go.Proofs.YtbhdoocajfkfiaaGreatDoor.fits

namespace Go.Proofs.YtbhdoocajfkfiaaGreatDoor.fits
open Go.ChangeShapes Go.WideShapes Go.ChangeAt Go.RowKit

theorem left_any (n s : Int) (w : World) (hs : 0 < s) (h2 : s ≤ 9223372036854775807) (_h3 : -9223372036854775808 ≤ n) (_h4 : n ≤ 9223372036854775807) :
    Calls Tryz.prog 267 #[.int .i64 n, .int .i64 s] w fun e w' => e = .returned (.int .i64 (lft n s)) ∧ w = w' := by
  have hl := lft_of n s hs
  have hb := lft_bd n s hs
  rcases hl with ⟨hl, he, _⟩ | ⟨hl, hn, he⟩
  · have H := Lib.hid he; clear he
    go_enter Tryz.func267, Tryz.ntmps267
    go_wp2
    go_ret
    exact ⟨ret_int H.out.symm, rfl⟩
  · have hx : -9223372036854775808 ≤ n.tmod s + s := by omega
    have hy : n.tmod s + s ≤ 9223372036854775807 := by omega
    have H := Lib.hid he; clear he
    go_enter Tryz.func267, Tryz.ntmps267
    go_wp2
    go_ret
    exact ⟨ret_int H.out.symm, rfl⟩

/-- 'so many steps from a base' -/
def fitsB (n b s : Int) : Bool := decide (0 < s) && (lft n s == lft b s)

theorem fitsB_no (n b s : Int) (h : ¬ 0 < s) : fitsB n b s = false := by
  unfold fitsB; rw [decide_eq_false h]; rfl

theorem ret_bool {a b : Bool} (h : a = b) : Ending.returned (.bool a) = .returned (.bool b) := by rw [h]

theorem fits_any (n b s : Int) (w : World) (h1 : -9223372036854775808 ≤ s) (h2 : s ≤ 9223372036854775807) (h3 : -9223372036854775808 ≤ n) (h4 : n ≤ 9223372036854775807) (h5 : -9223372036854775808 ≤ b) (h6 : b ≤ 9223372036854775807) :
    Calls Tryz.prog 218 #[.int .i64 n, .int .i64 b, .int .i64 s] w fun e w' => e = .returned (.bool (fitsB n b s)) ∧ w = w' := by
  by_cases hs : 0 < s
  · go_enter Tryz.func218, Tryz.ntmps218
    go_wp2_with (go_at_call 267; refine (left_any _ _ _ (by omega) (by omega) (by omega) (by omega)).mono ?_; rintro e w' ⟨rfl, rfl⟩)
    go_ret
    exact ⟨ret_bool (by simp [fitsB, hs]), rfl⟩
  · go_enter Tryz.func218, Tryz.ntmps218
    go_wp2
    go_ret
    exact ⟨ret_bool (fitsB_no n b s (by omega)).symm, rfl⟩

theorem reffits_any (n b s : Int) (w : World) (h1 : -9223372036854775808 ≤ s) (h2 : s ≤ 9223372036854775807) (h3 : -9223372036854775808 ≤ n) (h4 : n ≤ 9223372036854775807) (h5 : -9223372036854775808 ≤ b) (h6 : b ≤ 9223372036854775807) :
    Calls Tryz.prog 126 #[.int .i64 n, .int .i64 b, .int .i64 s] w fun e w' => e = .returned (.bool (fitsB n b s)) ∧ w = w' := by
  by_cases hs : 0 < s
  · go_enter Tryz.func126, Tryz.ntmps126
    go_wp2_with (go_at_call 163; refine (refleft_any _ _ _ (by omega) (by omega) (by omega) (by omega)).mono ?_; rintro e w' ⟨rfl, rfl⟩)
    go_ret
    exact ⟨ret_bool (by simp [fitsB, hs]), rfl⟩
  · go_enter Tryz.func126, Tryz.ntmps126
    go_wp2
    go_ret
    exact ⟨ret_bool (fitsB_no n b s (by omega)).symm, rfl⟩

/-- what is to be taken off a number, so that the rest fits -/
def over (n b s : Int) : Int := (n - b) % s

theorem over_of (n b s : Int) (hs : 0 < s) : (lft b s ≤ lft n s ∧ over n b s = lft n s - lft b s) ∨ (lft n s < lft b s ∧ over n b s = lft n s - lft b s + s) := by
  have e : over n b s = (lft n s - lft b s) % s := by unfold over lft; rw [Int.sub_emod]
  have h1 := lft_bd n s hs
  have h2 := lft_bd b s hs
  by_cases h : lft b s ≤ lft n s
  · left; refine ⟨h, ?_⟩; rw [e, Int.emod_eq_of_lt (by omega) (by omega)]
  · right; refine ⟨by omega, ?_⟩; rw [e, ← Int.add_emod_right, Int.emod_eq_of_lt (by omega) (by omega)]

theorem over_bd (n b s : Int) (hs : 0 < s) : 0 ≤ over n b s ∧ over n b s < s :=
  ⟨Int.emod_nonneg _ (by omega), Int.emod_lt_of_pos _ hs⟩

theorem over_fits (n b s : Int) (hs : 0 < s) : fitsB (n - over n b s) b s = true := by
  unfold fitsB lft over
  have e : (n - (n - b) % s) % s = b % s := by
    rw [Int.emod_eq_emod_iff_emod_sub_eq_zero]
    have := Int.mul_ediv_add_emod (n - b) s
    rw [show n - (n - b) % s - b = s * ((n - b) / s) by omega]
    exact Int.mul_emod_right _ _
  simp [hs, e]

/-- what Down answers -/
def downV (n b s : Int) : Int := if 0 < s ∧ -9223372036854775808 ≤ n - over n b s then n - over n b s else 0
def downB (n b s : Int) : Bool := decide (0 < s ∧ -9223372036854775808 ≤ n - over n b s)

theorem ret_down {a b : Int} {c d : Bool} (h : a = b) (g : c = d) : Ending.returned (.tuple #[.int .i64 a, .bool c]) = .returned (.tuple #[.int .i64 b, .bool d]) := by rw [h, g]

theorem wrap_low (x : Int) (h1 : -18446744073709551616 ≤ x) (h2 : x < -9223372036854775808) : wrap64 x = x + 18446744073709551616 := by
  unfold wrap64; omega

theorem wrap_gt (n x : Int) (h2 : x < -9223372036854775808) (h1 : -18446744073709551616 ≤ x) (h3 : n - x < 18446744073709551616) : n < wrap64 x := by
  rw [wrap_low x h1 h2]; omega

theorem downV_no (n b s : Int) (hs : ¬ 0 < s) : downV n b s = 0 := by unfold downV; rw [if_neg (fun g => hs g.1)]
theorem downB_no (n b s : Int) (hs : ¬ 0 < s) : downB n b s = false := by unfold downB; rw [decide_eq_false (fun g => hs g.1)]
theorem downV_low (n b s : Int) (h : ¬ -9223372036854775808 ≤ n - over n b s) : downV n b s = 0 := by unfold downV; rw [if_neg (fun g => h g.2)]
theorem downB_low (n b s : Int) (h : ¬ -9223372036854775808 ≤ n - over n b s) : downB n b s = false := by unfold downB; rw [decide_eq_false (fun g => h g.2)]
theorem downV_yes (n b s : Int) (hs : 0 < s) (h : -9223372036854775808 ≤ n - over n b s) : downV n b s = n - over n b s := by unfold downV; rw [if_pos ⟨hs, h⟩]
theorem downB_yes (n b s : Int) (hs : 0 < s) (h : -9223372036854775808 ≤ n - over n b s) : downB n b s = true := by unfold downB; rw [decide_eq_true ⟨hs, h⟩]

set_option maxHeartbeats 400000 in
theorem down_any (n b s : Int) (w : World) (h1 : -9223372036854775808 ≤ s) (h2 : s ≤ 9223372036854775807) (h3 : -9223372036854775808 ≤ n) (h4 : n ≤ 9223372036854775807) (h5 : -9223372036854775808 ≤ b) (h6 : b ≤ 9223372036854775807) :
    Calls Tryz.prog 219 #[.int .i64 n, .int .i64 b, .int .i64 s] w fun e w' => e = .returned (.tuple #[.int .i64 (downV n b s), .bool (downB n b s)]) ∧ w = w' := by
  by_cases hs : 0 < s
  · have hn := lft_bd n s hs
    have hb := lft_bd b s hs
    have ho := over_of n b s hs
    by_cases hx : -9223372036854775808 ≤ n - over n b s
    · have HV := Lib.hid (downV_yes n b s hs hx)
      have HB := Lib.hid (downB_yes n b s hs hx)
      rcases ho with ⟨hc, ho⟩ | ⟨hc, ho⟩
      all_goals
        rw [ho] at hx HV
        clear ho
        go_enter Tryz.func219, Tryz.ntmps219
        go_wp2_with (go_at_call 267; refine (left_any _ _ _ (by omega) (by omega) (by omega) (by omega)).mono ?_; rintro e w' ⟨rfl, rfl⟩)
        go_ret2
        exact ⟨ret_down HV.out.symm HB.out.symm, rfl⟩
    · have HV := Lib.hid (downV_low n b s hx)
      have HB := Lib.hid (downB_low n b s hx)
      rcases ho with ⟨hc, ho⟩ | ⟨hc, ho⟩
      all_goals
        rw [ho] at hx
        have hx' := Int.not_le.1 hx
        have hg := wrap_gt n _ hx' (by omega) (by omega)
        clear ho hx
        go_enter Tryz.func219, Tryz.ntmps219
        go_wp2_with (go_at_call 267; refine (left_any _ _ _ (by omega) (by omega) (by omega) (by omega)).mono ?_; rintro e w' ⟨rfl, rfl⟩)
        go_ret2
        exact ⟨ret_down HV.out.symm HB.out.symm, rfl⟩
  · have HV := Lib.hid (downV_no n b s hs)
    have HB := Lib.hid (downB_no n b s hs)
    go_enter Tryz.func219, Tryz.ntmps219
    go_wp2
    go_ret2
    exact ⟨ret_down HV.out.symm HB.out.symm, rfl⟩

theorem u64_mod (x : Int) : IntKind.u64.wrap x = x % 18446744073709551616 := by
  simp [IntKind.wrap, IntKind.signed, IntKind.bits]

theorem room_of (n : Int) (h3 : -9223372036854775808 ≤ n) (h4 : n ≤ 9223372036854775807) : IntKind.u64.wrap (IntKind.u64.wrap n - 9223372036854775808) = n + 9223372036854775808 := by
  rw [u64_mod, u64_mod]; omega

theorem downB_parts {n b s : Int} (h : downB n b s = true) : 0 < s ∧ -9223372036854775808 ≤ n - over n b s := by
  unfold downB at h; exact of_decide_eq_true h

set_option maxHeartbeats 400000 in
theorem refdown_any (n b s : Int) (w : World) (h1 : -9223372036854775808 ≤ s) (h2 : s ≤ 9223372036854775807) (h3 : -9223372036854775808 ≤ n) (h4 : n ≤ 9223372036854775807) (h5 : -9223372036854775808 ≤ b) (h6 : b ≤ 9223372036854775807) :
    Calls Tryz.prog 127 #[.int .i64 n, .int .i64 b, .int .i64 s] w fun e w' => e = .returned (.tuple #[.int .i64 (downV n b s), .bool (downB n b s)]) ∧ w = w' := by
  by_cases hs : 0 < s
  · have hn := lft_bd n s hs
    have hb := lft_bd b s hs
    have ho := over_of n b s hs
    have hr := room_of n h3 h4
    by_cases hx : -9223372036854775808 ≤ n - over n b s
    · have HV := Lib.hid (downV_yes n b s hs hx)
      have HB := Lib.hid (downB_yes n b s hs hx)
      rcases ho with ⟨hc, ho⟩ | ⟨hc, ho⟩
      · rw [ho] at hx HV
        have hk : lft n s - lft b s ≤ IntKind.u64.wrap (IntKind.u64.wrap n - 9223372036854775808) := by rw [hr]; omega
        clear ho hr
        go_enter Tryz.func127, Tryz.ntmps127
        go_wp2_with (go_at_call 163; refine (refleft_any _ _ _ (by omega) (by omega) (by omega) (by omega)).mono ?_; rintro e w' ⟨rfl, rfl⟩)
        go_ret2
        exact ⟨ret_down HV.out.symm HB.out.symm, rfl⟩
      · have ho' : over n b s = s - (lft b s - lft n s) := by omega
        rw [ho'] at hx HV
        have hk : s - (lft b s - lft n s) ≤ IntKind.u64.wrap (IntKind.u64.wrap n - 9223372036854775808) := by rw [hr]; omega
        clear ho hr ho'
        go_enter Tryz.func127, Tryz.ntmps127
        go_wp2_with (go_at_call 163; refine (refleft_any _ _ _ (by omega) (by omega) (by omega) (by omega)).mono ?_; rintro e w' ⟨rfl, rfl⟩)
        go_ret2
        exact ⟨ret_down HV.out.symm HB.out.symm, rfl⟩
    · have HV := Lib.hid (downV_low n b s hx)
      have HB := Lib.hid (downB_low n b s hx)
      rcases ho with ⟨hc, ho⟩ | ⟨hc, ho⟩
      · rw [ho] at hx
        have hk : IntKind.u64.wrap (IntKind.u64.wrap n - 9223372036854775808) < lft n s - lft b s := by rw [hr]; omega
        clear ho hr hx
        go_enter Tryz.func127, Tryz.ntmps127
        go_wp2_with (go_at_call 163; refine (refleft_any _ _ _ (by omega) (by omega) (by omega) (by omega)).mono ?_; rintro e w' ⟨rfl, rfl⟩)
        go_ret2
        exact ⟨ret_down HV.out.symm HB.out.symm, rfl⟩
      · have ho' : over n b s = s - (lft b s - lft n s) := by omega
        rw [ho'] at hx
        have hk : IntKind.u64.wrap (IntKind.u64.wrap n - 9223372036854775808) < s - (lft b s - lft n s) := by rw [hr]; omega
        clear ho hr ho' hx
        go_enter Tryz.func127, Tryz.ntmps127
        go_wp2_with (go_at_call 163; refine (refleft_any _ _ _ (by omega) (by omega) (by omega) (by omega)).mono ?_; rintro e w' ⟨rfl, rfl⟩)
        go_ret2
        exact ⟨ret_down HV.out.symm HB.out.symm, rfl⟩
  · have HV := Lib.hid (downV_no n b s hs)
    have HB := Lib.hid (downB_no n b s hs)
    go_enter Tryz.func127, Tryz.ntmps127
    go_wp2
    go_ret2
    exact ⟨ret_down HV.out.symm HB.out.symm, rfl⟩
end Go.Proofs.YtbhdoocajfkfiaaGreatDoor.fits

namespace Go.Proofs.YtbhdoocajfkfiaaGreatDoor.stp
open Go.Lib Go.Proofs.YtbhdoocajfkfiaaGreatDoor.num Go.Proofs.YtbhdoocajfkfiaaGreatDoor.mom Go.Proofs.YtbhdoocajfkfiaaGreatDoor.cal Go.Proofs.YtbhdoocajfkfiaaGreatDoor.link Go.Proofs.YtbhdoocajfkfiaaGreatDoor.fits Go.Proofs.YtbhdoocajfkfiaaGreatDoor.atr

/-- of a text of a kind the number; whether it is one -/
def valK (kind : Int) (s : List UInt8) : Int × Bool :=
  if kind = 13 ∨ kind = 14 then ((parseS s).1, (parseS s).2 == 0)
  else if 8 ≤ kind ∧ kind ≤ 12 then ((parseM (kind - 7) s).1, (parseM (kind - 7) s).2 == 0)
  else (0, false)
def showK (kind n : Int) : List UInt8 × Bool :=
  if kind = 13 ∨ kind = 14 then (if 1000000000000000000 < n ∨ n < -1000000000000000000 then ([], false) else (showS n, true))
  else if 8 ≤ kind ∧ kind ≤ 12 then ((showM (kind - 7) n).1, (showM (kind - 7) n).2 == 0)
  else ([], false)
def boundK (kind : Int) (l : List Attr) (nm : List UInt8) : Int × Bool :=
  match fval nm l with
  | none => (0, false)
  | some s => valK kind s
def leastK (kind : Int) (l : List Attr) : Int × Bool := ((boundK kind l nMin).1, (boundK kind l nMin).2 || (kind == 14))
def mostK (kind : Int) (l : List Attr) : Int × Bool :=
  if (boundK kind l nMax).2 = true ∨ kind ≠ 14 then boundK kind l nMax else (max (leastK kind l).1 100000000, true)
def scaleK (kind : Int) : Int := if kind = 8 then 86400000 else if kind = 9 then 1 else if kind = 10 then 604800000 else if kind = 11 ∨ kind = 12 then 1000 else 1000000
def byK (kind : Int) : Int := if kind = 11 ∨ kind = 12 then 60000 else scaleK kind
def isK (kind : Int) : Bool := decide (8 ≤ kind) && decide (kind ≤ 14)
/-- a step of so many millionths -/
def stepQ (by' scale n : Int) : Int := if n * scale / 1000000 = 0 ∨ 1000000000000000000 < n * scale / 1000000 then by' else n * scale / 1000000
def stepK (kind : Int) (l : List Attr) : Int × Bool :=
  if isK kind = false then (0, false)
  else match fval nStep l with
    | none => (byK kind, true)
    | some s => if lowS s = nAny then (0, false)
      else if (parseS s).2 ≠ 0 ∨ (parseS s).1 ≤ 0 then (byK kind, true)
      else (stepQ (byK kind) (scaleK kind) (parseS s).1, true)
def baseK (kind : Int) (l : List Attr) : Int :=
  if (boundK kind l nMin).2 = true then (boundK kind l nMin).1
  else if (boundK kind l nValue).2 = true then (boundK kind l nValue).1
  else if kind = 10 then -259200000 else 0
def underK (kind : Int) (l : List Attr) (n : Int) : Bool := (leastK kind l).2 && decide (n < (leastK kind l).1)
def overK (kind : Int) (l : List Attr) (n : Int) : Bool := (mostK kind l).2 && decide ((mostK kind l).1 < n)
def turnedK (kind : Int) (l : List Attr) : Bool := (kind == 11) && (leastK kind l).2 && (mostK kind l).2 && decide ((mostK kind l).1 < (leastK kind l).1)
def offK (kind : Int) (l : List Attr) (n : Int) : Bool := (stepK kind l).2 && !fitsB n (baseK kind l) (stepK kind l).1
def flagsK (kind : Int) (l : List Attr) (s : List UInt8) : Bool × Bool × Bool :=
  if (valK kind s).2 = false then (false, false, false)
  else if turnedK kind l = true then (underK kind l (valK kind s).1 && overK kind l (valK kind s).1, underK kind l (valK kind s).1 && overK kind l (valK kind s).1, offK kind l (valK kind s).1)
  else (underK kind l (valK kind s).1, overK kind l (valK kind s).1, offK kind l (valK kind s).1)

/-- so many millionths by the parts -/
theorem parts_q (n u : Int) (_hn : 0 < n) (_hu : 0 < u) : n / 1000000 * u + n % 1000000 * u / 1000000 = n * u / 1000000 := by
  have e : n * u = n % 1000000 * u + n / 1000000 * u * 1000000 := by
    have h := Int.emod_add_mul_ediv n 1000000
    calc n * u = (n % 1000000 + 1000000 * (n / 1000000)) * u := by rw [h]
      _ = n % 1000000 * u + n / 1000000 * u * 1000000 := by rw [Int.add_mul, Int.mul_comm 1000000 (n / 1000000), Int.mul_right_comm]
  rw [e, Int.add_mul_ediv_right _ _ (by decide), Int.add_comm]
theorem parts_big (n u : Int) (hn : 0 < n) (hu : 0 < u) (h : 1000000000000000000 / u < n / 1000000) : 1000000000000000000 < n * u / 1000000 := by
  rw [← parts_q n u hn hu]
  have h1 : 1000000000000000000 < (1000000000000000000 / u + 1) * u := by
    have := Int.lt_ediv_add_one_mul_self 1000000000000000000 hu
    exact this
  have h2 : (1000000000000000000 / u + 1) * u ≤ n / 1000000 * u := Int.mul_le_mul_of_nonneg_right (by omega) (by omega)
  have h3 : 0 ≤ n % 1000000 * u / 1000000 := Int.ediv_nonneg (Int.mul_nonneg (Int.emod_nonneg _ (by decide)) (by omega)) (by decide)
  omega
theorem parts_small (n u : Int) (_hn : 0 < n) (hu : 0 < u) (h : n / 1000000 ≤ 1000000000000000000 / u) : n / 1000000 * u ≤ 1000000000000000000 := by
  have h2 : n / 1000000 * u ≤ 1000000000000000000 / u * u := Int.mul_le_mul_of_nonneg_right h (by omega)
  have h3 : 1000000000000000000 / u * u ≤ 1000000000000000000 := Int.ediv_mul_le _ (by omega)
  omega
end Go.Proofs.YtbhdoocajfkfiaaGreatDoor.stp
