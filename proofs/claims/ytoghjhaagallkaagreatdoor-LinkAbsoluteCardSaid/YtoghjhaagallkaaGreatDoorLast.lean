/- The last and the first place of a byte: strings.LastIndexByte, strings.Contains at one byte, strings.IndexByte, and the reference's last and first. -/
import Derived.Test.YtoghjhaagallkaaGreatDoorScheme
import Derived.Lib.LastIndexByte
namespace Go.Proofs.YtoghjhaagallkaaGreatDoor.link
open Go.ChangeShapes Go.WideShapes Go.ChangeAt Go.RowKit Go.Lib Go.Proofs.YtoghjhaagallkaaGreatDoor.str

def lastB (c : UInt8) : List UInt8 → Option Nat
  | [] => none
  | b :: r => match lastB c r with
    | some k => some (k + 1)
    | none => if b = c then some 0 else none
def optI : Option Nat → Int
  | none => -1
  | some k => k

theorem lastB_snoc (c b : UInt8) (a : List UInt8) : lastB c (a ++ [b]) = if b = c then some a.length else lastB c a := by
  induction a with
  | nil => rfl
  | cons x r ih =>
    rw [List.cons_append, lastB, ih]
    by_cases h : b = c
    · rw [if_pos h, if_pos h]; rfl
    · rw [if_neg h, if_neg h]; rfl

theorem lastB_spec (c : UInt8) (l : List UInt8) : (lastB c l = none ∧ c ∉ l) ∨ ∃ k, lastB c l = some k ∧ k < l.length ∧ l[k]? = some c ∧ c ∉ l.drop (k + 1) := by
  induction l with
  | nil => left; exact ⟨rfl, by simp⟩
  | cons b r ih =>
    rcases ih with ⟨h1, h2⟩ | ⟨k, h1, h2, h3, h4⟩
    · rw [lastB, h1]
      by_cases h : b = c
      · right; exact ⟨0, by simp [h], by simp, by simp [h], by simpa using h2⟩
      · left; refine ⟨by simp [h], ?_⟩
        simp only [List.mem_cons, not_or]; exact ⟨fun e => h e.symm, h2⟩
    · right
      rw [lastB, h1]
      exact ⟨k + 1, rfl, by simp; omega, by simpa using h3, by simpa using h4⟩

theorem optI_ge (o : Option Nat) : -1 ≤ optI o := by
  cases o with
  | none => decide
  | some k => show (-1 : Int) ≤ k; omega

theorem byte_data (l : List UInt8) (k : Nat) (h : k < l.length) : (⟨l.toArray⟩ : ByteArray).data[k]! = l[k] := by
  show l.toArray[k]! = _
  rw [getElem!_pos _ _ (by simpa using h)]
  simp

theorem lastIdx_lastB (c : UInt8) (l : List UInt8) : ∀ k, k ≤ l.length → Lib.lastIdx ⟨l.toArray⟩ c.toNat k = optI (lastB c (l.take k)) := by
  intro k
  induction k with
  | zero => intro _; simp [Lib.lastIdx, lastB, optI]
  | succ k ih =>
    intro hk
    have hlt : k < l.length := by omega
    rw [Lib.lastIdx, List.take_succ_eq_append_getElem hlt, lastB_snoc, ih (by omega), byte_data l k hlt]
    by_cases h : l[k] = c
    · rw [if_pos h]; simp [h, optI]; omega
    · rw [if_neg h, if_neg]
      intro g
      exact h (UInt8.toNat_inj.1 (by omega))

theorem lastidx_any (l : List UInt8) (c : UInt8) (hl : l.length ≤ 1000000000) (w : World) :
    Calls Tryz.prog 29 #[.string ⟨l.toArray⟩, .int .u8 c.toNat] w fun e w' => e = .returned (.int .i64 (optI (lastB c l))) ∧ w = w' := by
  refine (Tryz.strings_LastIndexByte ⟨l.toArray⟩ c.toNat (by rw [bsize]; omega) w).mono ?_
  rintro e w' ⟨rfl, rfl⟩
  refine ⟨ret_int ?_, rfl⟩
  show Lib.lastIdx ⟨l.toArray⟩ c.toNat l.length = _
  rw [lastIdx_lastB c l l.length (Nat.le_refl _), List.take_length]

theorem contains_any (l : List UInt8) (c : UInt8) (w : World) :
    Calls Tryz.prog 30 #[.string ⟨l.toArray⟩, .string ⟨#[c]⟩] w fun e w' => e = .returned (.bool (hasB l c)) ∧ w = w' := by
  refine (Tryz.strings_Contains_one ⟨l.toArray⟩ c w).mono ?_
  rintro e w' ⟨rfl, rfl⟩
  refine ⟨ret_bool ?_, rfl⟩
  show decide (0 ≤ indexByte l c) = _
  rcases index_has l c with ⟨h1, h2⟩ | ⟨h1, h2⟩
  · rw [h2, decide_eq_true h1]
  · rw [h2, h1]; rfl

/-- the first place of a byte; the length: there is none -/
def firstN (c : UInt8) (l : List UInt8) : Nat := (cut1 c l).1.length
theorem firstN_cons (c b : UInt8) (r : List UInt8) : firstN c (b :: r) = if b = c then 0 else firstN c r + 1 := by
  unfold firstN
  rw [cut1]
  by_cases h : b = c
  · rw [if_pos h, if_pos h]; rfl
  · rw [if_neg h, if_neg h]; rfl
theorem firstN_le (c : UInt8) (l : List UInt8) : firstN c l ≤ l.length := (cut1_le c l).1

end Go.Proofs.YtoghjhaagallkaaGreatDoor.link
