/- Plain laws on numbers as texts: what number.Parse, number.Show and the reference's Parse, Show compute, and that they agree. No program in sight. -/
import Derived.Lib.ItoaNum
import Derived.Lib.SlTrimSet
namespace Go.Proofs.YtkhgfngppcemlaaGreatDoor.num
open Go.Lib
/-- what digits tell -/
@[irreducible] def dv (c : UInt8) : Nat := c.toNat - 48
def valFrom (a : Nat) : List UInt8 → Nat
  | [] => a
  | c :: l => valFrom (a * 10 + dv c) l
def val (l : List UInt8) : Nat := valFrom 0 l

/-- without the noughts at the end -/
def strip : List UInt8 → List UInt8
  | [] => []
  | c :: l => if strip l = [] ∧ c = 48 then [] else c :: strip l

/-- the digits behind the point, as the reference goes through them -/
def fr (mx : Bool) (i : Nat) (out unit : Nat) : List UInt8 → Option Nat
  | [] => some out
  | c :: p => if dv c ≠ 0 ∧ (mx = true ∨ 6 ≤ i) then none else fr mx (i + 1) (out + dv c * unit) (unit / 10) p

/-- the number of a text whose form is right: h ahead of the point, p behind it -/
def fin (neg : Bool) (h p : List UInt8) : Int × Int :=
  if val h ≤ 1000000000000 ∧ ¬ (val h = 1000000000000 ∧ strip p ≠ []) ∧ (strip p).length ≤ 6 then
    let v : Int := ((val h * 1000000 + val (strip p) * 10 ^ (6 - (strip p).length) : Nat) : Int)
    (if neg then -v else v, 0)
  else (0, 2)

theorem byte_at (l : List UInt8) (i : Nat) (h : i < l.length) : ∃ c rest, l.drop i = c :: rest ∧ l.drop (i + 1) = rest ∧ ∀ h', (⟨l.toArray⟩ : ByteArray)[i]'h' = c :=
  ⟨l[i], l.drop (i + 1), List.drop_eq_getElem_cons h, rfl, fun _ => rfl⟩

end Go.Proofs.YtkhgfngppcemlaaGreatDoor.num
