/- Plain laws on texts of signs alone. No program in sight. -/
import Derived.Test.YtoghjhaagallkaaGreatDoorAmong
namespace Go.Proofs.YtoghjhaagallkaaGreatDoor.link
open Go.Lib

def hexOk (c : UInt8) : Bool := decide (0 ≤ hexN c.toNat)
def hexS : List UInt8 := [48, 49, 50, 51, 52, 53, 54, 55, 56, 57, 97, 98, 99, 100, 101, 102, 65, 66, 67, 68, 69, 70]
theorem hexS_has (c : UInt8) : hexS.contains c = hexOk c := by
  have : ∀ n : Fin 256, hexS.contains (UInt8.ofNat n.1) = hexOk (UInt8.ofNat n.1) := by decide +kernel
  have h := this ⟨c.toNat, c.toNat_lt⟩
  simpa using h

theorem dropWhile_nil (p : UInt8 → Bool) (l : List UInt8) : l.dropWhile p = [] ↔ l.all p = true := by
  induction l with
  | nil => simp
  | cons c l ih => rw [List.dropWhile_cons]; cases h : p c <;> simp [h, ih]

theorem trim_all (l cs : List UInt8) : trimS l cs = [] ↔ l.all (fun c => cs.contains c) = true := by
  unfold trimS trimLeftS trimRightS
  constructor
  · intro h
    have h1 := (dropWhile_nil _ _).1 h
    rw [List.all_reverse] at h1
    have : ∀ m : List UInt8, (m.dropWhile (fun c => cs.contains c)).all (fun c => cs.contains c) = true → m.all (fun c => cs.contains c) = true := by
      intro m
      induction m with
      | nil => simp
      | cons c m ih =>
        rw [List.dropWhile_cons, List.all_cons]
        cases hc : cs.contains c
        · simp only [Bool.false_eq_true, if_false, List.all_cons, hc]; exact id
        · simp only [if_true, Bool.true_and]; exact ih
    have h2 := this _ h1
    rwa [List.all_reverse] at h2
  · intro h
    have h1 : l.reverse.dropWhile (fun c => cs.contains c) = [] := (dropWhile_nil _ _).2 (by rw [List.all_reverse]; exact h)
    rw [h1]; rfl

def hexesB (l : List UInt8) : Bool := !(l == []) && l.all hexOk
theorem hexes_trim (l : List UInt8) : hexesB l = (!(l == []) && (trimS l hexS == [])) := by
  unfold hexesB
  congr 1
  rw [Bool.eq_iff_iff, beq_iff_eq, trim_all]
  have : (fun c => hexS.contains c) = hexOk := funext hexS_has
  rw [this]

/-- the signs that may stand -/
def sets : List (List UInt8) := [[33, 36, 38, 39, 40, 41, 42, 43, 44, 59, 61], [45, 46, 47, 58, 63, 64, 95, 126]]
def okB (c : UInt8) : Bool := decide (128 ≤ c.toNat) || plainB c || amongB sets c
def refSet : List UInt8 := [33, 36, 38, 39, 40, 41, 42, 43, 44, 45, 46, 47, 58, 59, 61, 63, 64, 95, 126]
theorem refSet_has (c : UInt8) : hasB refSet c = amongB sets c := by
  have : ∀ n : Fin 256, hasB refSet (UInt8.ofNat n.1) = amongB sets (UInt8.ofNat n.1) := by decide +kernel
  have h := this ⟨c.toNat, c.toNat_lt⟩
  simpa using h

def hex2 : List UInt8 → Bool
  | a :: b :: _ => hexOk a && hexOk b
  | _ => false
def fineB : List UInt8 → Bool
  | [] => true
  | c :: r => if c = 37 then hex2 r && fineB r else okB c && fineB r

theorem hex_ok (c : UInt8) (h : hexOk c = true) : c ≠ 37 ∧ okB c = true := by
  have : ∀ n : Fin 256, hexOk (UInt8.ofNat n.1) = true → (UInt8.ofNat n.1) ≠ 37 ∧ okB (UInt8.ofNat n.1) = true := by decide +kernel
  have g := this ⟨c.toNat, c.toNat_lt⟩
  simp only [UInt8.ofNat_toNat] at g
  exact g h

/-- behind a '%' the reference goes on three bytes further -/
theorem fine_hex (a b : UInt8) (r : List UInt8) : (hexOk a && hexOk b && fineB (a :: b :: r)) = (hexOk a && hexOk b && fineB r) := by
  cases ha : hexOk a
  · simp
  · cases hb : hexOk b
    · simp
    · have h1 := hex_ok a ha
      have h2 := hex_ok b hb
      simp [fineB, h1.1, h1.2, h2.1, h2.2]
theorem fine_cons (c : UInt8) (r : List UInt8) (h : c ≠ 37) : fineB (c :: r) = (okB c && fineB r) := by rw [fineB, if_neg h]
theorem fine_pct (r : List UInt8) : fineB (37 :: r) = (hex2 r && fineB r) := by rw [fineB, if_pos rfl]
theorem fine_pct3 (a b : UInt8) (r : List UInt8) : fineB (37 :: a :: b :: r) = (hexOk a && hexOk b && fineB r) := by
  rw [fine_pct, hex2, fine_hex]

/-- what both Fines say -/
def fineS (l : List UInt8) : Bool := validD l && fineB l
end Go.Proofs.YtoghjhaagallkaaGreatDoor.link
