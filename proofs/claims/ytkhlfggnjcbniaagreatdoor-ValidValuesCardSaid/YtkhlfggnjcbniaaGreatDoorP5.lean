/- What a law's card asks behind its walk, whatever the law's parameters: it hands back true, and its arguments read as they did. A slice in memory, told by its cells. Plain laws on strings as lists of bytes: strings.Cut at one byte. No program in sight. Plain laws on numbers told as texts. No program in sight. What a moment's text is: plain. No program in sight. The contract of the reference's Left: what a division leaves, from 0 on, for every step above 0. The contracts of number.left, number.Fits, number.Down and of the reference's Left, Fits, Down: each computes what the plain functions below say, for every step above 0 (and the early ways for any other). The contract of days.Week. The contracts of moment.pad, clock, split. The contract of moment.Show. -/
import Derived.ChangeAlike
import Derived.Deep.DeepCutAuto
import Derived.Deep.SlicePairs
import Derived.Deep.Slices
import Derived.Laws.OwnMore
import Derived.Lib.AppendIntMem
import Derived.Lib.Hide
import Derived.Lib.IndexBytes
import Derived.Lib.IndexMore
import Derived.Lib.ItoaMem
import Derived.Lib.ItoaNum
import Derived.Lib.Repeat
import Derived.Lib.SlTrimSet
import Derived.Lib.Strings
import Derived.OpenShut
import Derived.Outline
import Derived.ProofKit
import Derived.RegionTactic
import Derived.WalkKit
import Derived.WalkLawsBesides
import Derived.WalkSmall
import Derived.WalkSpells
import Derived.WideKeyArgs
import Derived.Test.YtkhlfggnjcbniaaGreatDoorRows
import Derived.Test.YtkhlfggnjcbniaaGreatDoorShelf
import Derived.Test.YtkhlfggnjcbniaaGreatDoorP0
import Derived.Test.YtkhlfggnjcbniaaGreatDoorP1
import Derived.Test.YtkhlfggnjcbniaaGreatDoorP2
import Derived.Test.YtkhlfggnjcbniaaGreatDoorP4
namespace Go.Proofs.YtkhlfggnjcbniaaGreatDoor
open Go.ChangeShapes Go.WideShapes Go.WideElems
section
variable {H : Type} {enc : TypeId × Value → H} {P : Program}
theorem trodAll_stays (hl : laidOutB P = true) {W W' : World} {sp' : Nat → Bool} : ∀ {ts : List TypeId} {vs : List Value} {ds : List (DataW H)} {ps : List MemPlace}, (∀ t ∈ ts, P.readableRec t = true ∧ t < P.types.size) →
    DataW.TrodAll enc P W 0 (fun _ => true) true ts vs ds ps → (∀ p ∈ ps, W.sameAt W' p) → (∀ p ∈ ps, sp' p.block = true) → DataW.TrodAll enc P W' 0 sp' true ts vs ds ps
  | [], vs, ds, ps, _, h, _, _ => by
    obtain ⟨rfl, rfl, rfl⟩ := trodAll_nil h
    exact trodAll_mk0
  | t :: ts, vs, ds, ps, ht, h, hs, hp => by
    obtain ⟨v, vs1, d, ds1, a, b, rfl, rfl, rfl, h1, h2⟩ := trodAll_cons h
    have e := ht t List.mem_cons_self
    exact ⟨a, b, Trod_stays hl e.1 e.2 h1 (fun p q => hs p (List.mem_append_left _ q)) (fun p q => hp p (List.mem_append_left _ q)),
      trodAll_stays hl (fun t q => ht t (List.mem_cons_of_mem _ q)) h2 (fun p q => hs p (List.mem_append_right _ q)) (fun p q => hp p (List.mem_append_right _ q)), rfl⟩
end
end Go.Proofs.YtkhlfggnjcbniaaGreatDoor
namespace Go.Proofs.YtkhlfggnjcbniaaGreatDoor
open Go.RowKit

def RowAt (w : World) (v : Value) (n : Nat) (xs : List Value) : Prop :=
  (n = 0 ∧ xs = [] ∧ ∃ oa cap, v = .slice oa 0 cap) ∨ ∃ b off cap, v = .slice (some ⟨b, off, none⟩) n cap ∧ 0 < n ∧ b < w.heap.size ∧ ∀ j u, xs[j]? = some u → w.cell? ⟨b, off + j, none⟩ = some u
theorem RowAt.below {w w' : World} {v : Value} {n : Nat} {xs : List Value} (h : RowAt w v n xs) {m : Nat} (hb : Below m w w') (hm : w.heap.size ≤ m) : RowAt w' v n xs := by
  rcases h with h | ⟨b, off, cap, h1, h0, h2, h3⟩
  · exact .inl h
  · exact .inr ⟨b, off, cap, h1, h0, Nat.lt_of_lt_of_le h2 hb.size, fun j u hj => (hb.cell (p := ⟨b, off + j, none⟩) (Nat.lt_of_lt_of_le h2 hm)).trans (h3 j u hj)⟩
theorem RowAt.of_owns {w : World} {base : Nat} {e : TypeId} {size : Nat} {v : Value} {n : Nat} {xs : List Value} (h : w.ownsRow base e size v n xs) : RowAt w v n xs := by
  rcases Nat.eq_zero_or_pos n with h0 | h0
  · left
    have hl := h.1
    rw [h0, Nat.zero_mul] at hl
    refine ⟨h0, List.length_eq_zero_iff.1 hl, ?_⟩
    rcases h.2 with ⟨rfl, _⟩ | ⟨g, cap, cur, rfl, _⟩
    · exact ⟨_, _, rfl⟩
    · exact ⟨_, _, by rw [h0]⟩
  · right
    rcases h.2 with ⟨_, h1⟩ | ⟨g, cap, cur, hv, hg, hc, h1, h2, h3, h4⟩
    · omega
    · subst hv
      refine ⟨g, 0, cap, rfl, h0, ?_, ?_⟩
      · apply Nat.lt_of_not_le; intro k
        rw [Array.getElem?_eq_none k] at hc; cases hc
      · intro j u hj
        rw [Nat.zero_add, h.cellAt j (by rw [← h.1]; exact (List.getElem?_eq_some_iff.1 hj).1)]
        exact hj
theorem RowAt.lenN {w : World} {v : Value} {n : Nat} {xs : List Value} (h : RowAt w v n xs) : ∃ oa cap, v = .slice oa n cap := by
  rcases h with ⟨rfl, _, oa, cap, rfl⟩ | ⟨b, off, cap, rfl, _⟩
  · exact ⟨_, _, rfl⟩
  · exact ⟨_, _, rfl⟩
theorem flat_len {α : Type} (f : α → List Value) (size : Nat) (hf : ∀ x, (f x).length = size) (l : List α) : (l.flatMap f).length = l.length * size := by
  induction l with
  | nil => simp
  | cons x r ih => rw [List.flatMap_cons, List.length_append, hf, ih, List.length_cons, Nat.add_mul, Nat.one_mul, Nat.add_comm]
theorem flat_at {α : Type} (f : α → List Value) (size : Nat) (hf : ∀ x, (f x).length = size) (l : List α) (j : Nat) (h : j < l.length) (i : Nat) (hi : i < size) : (l.flatMap f)[j * size + i]? = (f l[j])[i]? := by
  induction l generalizing j with
  | nil => exact absurd h (Nat.not_lt_zero _)
  | cons x r ih =>
    rw [List.flatMap_cons]
    cases j with
    | zero => rw [Nat.zero_mul, Nat.zero_add, List.getElem?_append_left (by rw [hf]; exact hi)]; rfl
    | succ j =>
      rw [List.getElem?_append_right (by rw [hf, Nat.add_mul]; omega), hf, show (j + 1) * size + i - size = j * size + i from by rw [Nat.add_mul]; omega]
      exact ih j (by simpa using h)
theorem flat_set {α : Type} (f : α → List Value) (size : Nat) (hf : ∀ x, (f x).length = size) (l : List α) (j : Nat) (h : j < l.length) (i : Nat) (hi : i < size) (u : Value) (y : α) (hy : (f l[j]).set i u = f y) : (l.flatMap f).set (j * size + i) u = (l.set j y).flatMap f := by
  induction l generalizing j with
  | nil => exact absurd h (Nat.not_lt_zero _)
  | cons x r ih =>
    rw [List.flatMap_cons]
    cases j with
    | zero =>
      rw [Nat.zero_mul, Nat.zero_add, List.set_append_left _ _ (by rw [hf]; exact hi), List.set_cons_zero, List.flatMap_cons]
      have hy : (f x).set i u = f y := hy
      rw [hy]
    | succ j =>
      rw [List.set_append_right _ _ (by rw [hf, Nat.add_mul]; omega), hf, show (j + 1) * size + i - size = j * size + i from by rw [Nat.add_mul]; omega, List.set_cons_succ, List.flatMap_cons]
      congr 1
      exact ih j (by simpa using h) hy
end Go.Proofs.YtkhlfggnjcbniaaGreatDoor
namespace Go.Proofs.YtkhlfggnjcbniaaGreatDoor.str
open Go.Lib

/-- a text cut at the first byte c -/
def cut1 (c : UInt8) : List UInt8 → List UInt8 × List UInt8 × Bool
  | [] => ([], [], false)
  | b :: l => if b = c then ([], l, true) else (b :: (cut1 c l).1, (cut1 c l).2.1, (cut1 c l).2.2)

theorem cut_one (c : UInt8) (t : List UInt8) : Lib.cut t [c] = cut1 c t := by
  unfold Lib.cut
  rw [index_one]
  induction t with
  | nil => simp [indexByte, cut1]
  | cons b l ih =>
    by_cases h : b = c
    · subst h; simp [indexByte, cut1]
    · have hb : (b == c) = false := by simpa using h
      have hge := indexByte_ge l c
      rw [cut1, if_neg h, ← ih]
      by_cases hn : indexByte l c = -1
      · have e : indexByte (b :: l) c = -1 := by rw [indexByte, hb, hn]; rfl
        rw [e, hn]; rfl
      · obtain ⟨k, hk⟩ : ∃ k : Nat, indexByte l c = k := ⟨(indexByte l c).toNat, by omega⟩
        have e : indexByte (b :: l) c = ((k + 1 : Nat) : Int) := by
          have h2 : (indexByte l c == -1) = false := by simpa using hn
          rw [indexByte, hb, h2, hk]; simp
        rw [e, hk, if_pos (by omega), if_pos (by omega)]
        simp

theorem cut1_spec (c : UInt8) (t : List UInt8) : ((cut1 c t).2.2 = true ∧ t = (cut1 c t).1 ++ c :: (cut1 c t).2.1 ∧ c ∉ (cut1 c t).1) ∨ ((cut1 c t).2.2 = false ∧ (cut1 c t).1 = t ∧ (cut1 c t).2.1 = [] ∧ c ∉ t) := by
  induction t with
  | nil => right; simp [cut1]
  | cons b l ih =>
    unfold cut1
    by_cases h : b = c
    · subst h; left; simp
    · rw [if_neg h]
      rcases ih with ⟨h1, h2, h3⟩ | ⟨h1, h2, h3, h4⟩
      · left
        refine ⟨h1, ?_, ?_⟩
        · show b :: l = (b :: (cut1 c l).1) ++ c :: (cut1 c l).2.1
          rw [List.cons_append, ← h2]
        · simp only [List.mem_cons, not_or]
          exact ⟨fun e => h e.symm, h3⟩
      · right
        refine ⟨h1, ?_, h3, ?_⟩
        · show b :: (cut1 c l).1 = b :: l
          rw [h2]
        · simp only [List.mem_cons, not_or]
          exact ⟨fun e => h e.symm, h4⟩

theorem cut1_le (c : UInt8) (t : List UInt8) : (cut1 c t).1.length ≤ t.length ∧ (cut1 c t).2.1.length ≤ t.length := by
  rcases cut1_spec c t with ⟨_, h, _⟩ | ⟨_, h1, h2, _⟩
  · have := congrArg List.length h
    simp at this; omega
  · rw [h1, h2]; simp

end Go.Proofs.YtkhlfggnjcbniaaGreatDoor.str
namespace Go.Proofs.YtkhlfggnjcbniaaGreatDoor.num
open Go.Lib
/-- k digits of a number of millionths -/
def P : Nat → Nat → List UInt8
  | 0, _ => []
  | k + 1, r => UInt8.ofNat (48 + r / 100000) :: P k (r % 100000 * 10)

end Go.Proofs.YtkhlfggnjcbniaaGreatDoor.num
namespace Go.Proofs.YtkhlfggnjcbniaaGreatDoor.mom
open Go.Lib Go.Proofs.YtkhlfggnjcbniaaGreatDoor.num Go.Proofs.YtkhlfggnjcbniaaGreatDoor.cal

def padS (n w : Nat) : List UInt8 := List.replicate (w - (decDigits n).length) 48 ++ decDigits n
/-- a time -/
def partS (p : Nat) : List UInt8 := if p = 0 then [] else 58 :: (padS (p / 1000) 2 ++ (if p % 1000 = 0 then [] else 46 :: strip (padS (p % 1000) 3)))
def clockS (n : Nat) : List UInt8 := padS (n / 3600000) 2 ++ 58 :: (padS (n / 60000 % 60) 2 ++ partS (n % 60000))
def ymdS (x : Int × Int × Int) : List UInt8 := padS x.1.toNat 4 ++ 45 :: (padS x.2.1.toNat 2 ++ 45 :: padS x.2.2.toNat 2)
def showM (kind n : Int) : List UInt8 × Int :=
  if kind = 1 then (if -719162 ≤ n / 86400000 ∧ n / 86400000 ≤ 100000109 ∧ n % 86400000 = 0 then (ymdS (dateOf (n / 86400000)), 0) else ([], 2))
  else if kind = 2 then (if 1 ≤ n / 12 + 1970 ∧ n / 12 + 1970 ≤ 275760 then (padS (n / 12 + 1970).toNat 4 ++ 45 :: padS (n % 12 + 1).toNat 2, 0) else ([], 2))
  else if kind = 3 then (if -719162 ≤ n / 86400000 ∧ n / 86400000 < 100000107 ∧ n % 86400000 = 0 ∧ wd (n / 86400000) = 1 then
    (padS (yearW (dateOf (n / 86400000)).1 (n / 86400000)).toNat 4 ++ 45 :: 87 :: padS ((n / 86400000 - firstW (yearW (dateOf (n / 86400000)).1 (n / 86400000))) / 7 + 1).toNat 2, 0) else ([], 2))
  else if kind = 4 then (if 0 ≤ n ∧ n < 86400000 then (clockS n.toNat, 0) else ([], 2))
  else if kind = 5 then (if -719162 ≤ n / 86400000 ∧ n / 86400000 ≤ 100000109 then (ymdS (dateOf (n / 86400000)) ++ 84 :: clockS (n % 86400000).toNat, 0) else ([], 2))
  else ([], 3)
end Go.Proofs.YtkhlfggnjcbniaaGreatDoor.mom
namespace Go.Proofs.YtkhlfggnjcbniaaGreatDoor.fits
open Go.ChangeShapes Go.WideShapes Go.ChangeAt Go.RowKit
theorem ret_int {k : IntKind} {a b : Int} (h : a = b) : Ending.returned (.int k a) = .returned (.int k b) := by rw [h]

end Go.Proofs.YtkhlfggnjcbniaaGreatDoor.fits
namespace Go.Proofs.YtkhlfggnjcbniaaGreatDoor.fits
open Go.ChangeShapes Go.WideShapes Go.ChangeAt Go.RowKit
theorem ret_bool {a b : Bool} (h : a = b) : Ending.returned (.bool a) = .returned (.bool b) := by rw [h]

end Go.Proofs.YtkhlfggnjcbniaaGreatDoor.fits
namespace Go.Proofs.YtkhlfggnjcbniaaGreatDoor.days
open Go.ChangeShapes Go.WideShapes Go.ChangeAt Go.RowKit Go.Lib Go.Proofs.YtkhlfggnjcbniaaGreatDoor.cal

theorem firstW_1 : firstW 1 = -719162 := by decide
theorem firstW_end : firstW 275761 = 100000107 := by decide
theorem firstW_bound (y : Int) (h1 : 0 ≤ y) (h2 : y ≤ 275770) : -800000 ≤ firstW y ∧ firstW y ≤ 120000000 := by
  have := firstW_near y
  have : -719800 ≤ newY y ∧ newY y ≤ 110000000 := by unfold newY; omega
  omega

end Go.Proofs.YtkhlfggnjcbniaaGreatDoor.days
namespace Go.Proofs.YtkhlfggnjcbniaaGreatDoor.mom
open Go.ChangeShapes Go.WideShapes Go.ChangeAt Go.RowKit Go.Lib Go.Proofs.YtkhlfggnjcbniaaGreatDoor.num Go.Proofs.YtkhlfggnjcbniaaGreatDoor.days Go.Proofs.YtkhlfggnjcbniaaGreatDoor.cal

theorem ret_str {a b : List UInt8} (h : a = b) : Ending.returned (.string ⟨a.toArray⟩) = .returned (.string ⟨b.toArray⟩) := by rw [h]
end Go.Proofs.YtkhlfggnjcbniaaGreatDoor.mom
namespace Go.Proofs.YtkhlfggnjcbniaaGreatDoor.mom
open Go.ChangeShapes Go.WideShapes Go.ChangeAt Go.RowKit Go.Lib Go.Proofs.YtkhlfggnjcbniaaGreatDoor.num Go.Proofs.YtkhlfggnjcbniaaGreatDoor.days Go.Proofs.YtkhlfggnjcbniaaGreatDoor.cal
theorem show1 (n : Int) : showM 1 n = if -719162 ≤ n / 86400000 ∧ n / 86400000 ≤ 100000109 ∧ n % 86400000 = 0 then (ymdS (dateOf (n / 86400000)), 0) else ([], 2) := by
  unfold showM; rw [if_pos rfl]
theorem show2 (n : Int) : showM 2 n = if 1 ≤ n / 12 + 1970 ∧ n / 12 + 1970 ≤ 275760 then (padS (n / 12 + 1970).toNat 4 ++ 45 :: padS (n % 12 + 1).toNat 2, 0) else ([], 2) := by
  unfold showM; rw [if_neg (by decide), if_pos rfl]
theorem show3 (n : Int) : showM 3 n = if -719162 ≤ n / 86400000 ∧ n / 86400000 < 100000107 ∧ n % 86400000 = 0 ∧ wd (n / 86400000) = 1 then
    (padS (yearW (dateOf (n / 86400000)).1 (n / 86400000)).toNat 4 ++ 45 :: 87 :: padS ((n / 86400000 - firstW (yearW (dateOf (n / 86400000)).1 (n / 86400000))) / 7 + 1).toNat 2, 0) else ([], 2) := by
  unfold showM; rw [if_neg (by decide), if_neg (by decide), if_pos rfl]
theorem show4 (n : Int) : showM 4 n = if 0 ≤ n ∧ n < 86400000 then (clockS n.toNat, 0) else ([], 2) := by
  unfold showM; rw [if_neg (by decide), if_neg (by decide), if_neg (by decide), if_pos rfl]
theorem show5 (n : Int) : showM 5 n = if -719162 ≤ n / 86400000 ∧ n / 86400000 ≤ 100000109 then (ymdS (dateOf (n / 86400000)) ++ 84 :: clockS (n % 86400000).toNat, 0) else ([], 2) := by
  unfold showM; rw [if_neg (by decide), if_neg (by decide), if_neg (by decide), if_neg (by decide), if_pos rfl]
theorem show0 (kind n : Int) (h : ¬ (1 ≤ kind ∧ kind ≤ 5)) : showM kind n = ([], 3) := by
  unfold showM; rw [if_neg (by omega), if_neg (by omega), if_neg (by omega), if_neg (by omega), if_neg (by omega)]
theorem yearW_bounds (d : Int) (h1 : -719162 ≤ d) (h2 : d < 100000107) : 1 ≤ yearW (dateOf d).1 d ∧ yearW (dateOf d).1 d ≤ 275760 ∧ 1 ≤ (d - firstW (yearW (dateOf d).1 d)) / 7 + 1 ∧ (d - firstW (yearW (dateOf d).1 d)) / 7 + 1 ≤ 54 := by
  have a := num_year _ _ _ (date_ok d h1).1
  rw [(date_ok d h1).2.1] at a
  have b := yearW_ok (dateOf d).1 d a.1 a.2
  have c := weeksW_mul (yearW (dateOf d).1 d)
  have e := weeksW_pos (yearW (dateOf d).1 d)
  have f1 := firstW_1
  have f2 := firstW_end
  have lo : 1 ≤ yearW (dateOf d).1 d := by
    rcases Int.lt_or_le (yearW (dateOf d).1 d) 1 with g | g
    · exfalso
      rcases Int.lt_or_eq_of_le (show yearW (dateOf d).1 d + 1 ≤ 1 by omega) with k | k
      · have := firstW_mono _ _ k; omega
      · rw [k] at b; omega
    · exact g
  have hi : yearW (dateOf d).1 d ≤ 275760 := by
    rcases Int.lt_or_le 275760 (yearW (dateOf d).1 d) with g | g
    · exfalso
      rcases Int.lt_or_eq_of_le (show 275761 ≤ yearW (dateOf d).1 d by omega) with k | k
      · have := firstW_mono _ _ k; omega
      · rw [← k] at b; omega
    · exact g
  refine ⟨lo, hi, by omega, by omega⟩

end Go.Proofs.YtkhlfggnjcbniaaGreatDoor.mom
