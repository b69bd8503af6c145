/- What a moment's text is: plain. No program in sight. -/
import Derived.Test.YtbaloklcpfjmeaaGreatDoorMomPure
import Derived.Lib.Repeat
namespace Go.Proofs.YtbaloklcpfjmeaaGreatDoor.mom
open Go.Lib Go.Proofs.YtbaloklcpfjmeaaGreatDoor.num Go.Proofs.YtbaloklcpfjmeaaGreatDoor.cal

def padS (n w : Nat) : List UInt8 := List.replicate (w - (decDigits n).length) 48 ++ decDigits n
/-- a time -/
def partS (p : Nat) : List UInt8 := if p = 0 then [] else 58 :: (padS (p / 1000) 2 ++ (if p % 1000 = 0 then [] else 46 :: strip (padS (p % 1000) 3)))
def clockS (n : Nat) : List UInt8 := padS (n / 3600000) 2 ++ 58 :: (padS (n / 60000 % 60) 2 ++ partS (n % 60000))
def ymdS (x : Int × Int × Int) : List UInt8 := padS x.1.toNat 4 ++ 45 :: (padS x.2.1.toNat 2 ++ 45 :: padS x.2.2.toNat 2)
def showM (kind n : Int) : List UInt8 × Int :=
  if kind = 1 then (if -719162 ≤ n / 86400000 ∧ n / 86400000 ≤ 100000109 ∧ n % 86400000 = 0 then (ymdS (dateOf (n / 86400000)), 0) else ([], 2))
  else if kind = 2 then (if 1 ≤ n / 12 + 1970 ∧ n / 12 + 1970 ≤ 275760 then (padS (n / 12 + 1970).toNat 4 ++ 45 :: padS (n % 12 + 1).toNat 2, 0) else ([], 2))
  else if kind = 3 then (if -719162 ≤ n / 86400000 ∧ n / 86400000 < 100000107 ∧ n % 86400000 = 0 ∧ wd (n / 86400000) = 1 then
    (padS (yearW (dateOf (n / 86400000)).1 (n / 86400000)).toNat 4 ++ 45 :: 87 :: padS ((n / 86400000 - firstW (yearW (dateOf (n / 86400000)).1 (n / 86400000))) / 7 + 1).toNat 2, 0) else ([], 2))
  else if kind = 4 then (if 0 ≤ n ∧ n < 86400000 then (clockS n.toNat, 0) else ([], 2))
  else if kind = 5 then (if -719162 ≤ n / 86400000 ∧ n / 86400000 ≤ 100000109 then (ymdS (dateOf (n / 86400000)) ++ 84 :: clockS (n % 86400000).toNat, 0) else ([], 2))
  else ([], 3)
end Go.Proofs.YtbaloklcpfjmeaaGreatDoor.mom
