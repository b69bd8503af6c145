/- What an absolute address is: plain. -/
import Derived.Test.YtoghjhaagallkaaGreatDoorServer
namespace Go.Proofs.YtoghjhaagallkaaGreatDoor.link
open Go.Lib Go.Proofs.YtoghjhaagallkaaGreatDoor.str

/-- 0: a special scheme; 1: file; 2: another one -/
def kindS (sc : List UInt8) : Nat :=
  if sc = [102, 116, 112] ∨ sc = [104, 116, 116, 112] ∨ sc = [104, 116, 116, 112, 115] ∨ sc = [119, 115] ∨ sc = [119, 115, 115] then 0 else if sc = [102, 105, 108, 101] then 1 else 2
def absW (k : Nat) (x : List UInt8) : Bool :=
  fineS (x.drop (firstN 47 x)) && (if k = 0 then serverS (x.take (firstN 47 x)) else ((x.take (firstN 47 x) == []) || (if k = 1 then hostS (x.take (firstN 47 x)) else serverS (x.take (firstN 47 x)))))
def absF (k : Nat) (r : List UInt8) : Bool := fineS r && (if k = 0 then false else if k = 1 then (r.head? == some 47) else true)
def absQ (k : Nat) (r : List UInt8) : Bool := if Lib.hasPrefix r [47, 47] then absW k (r.drop 2) else absF k r
def absR (k : Nat) (r : List UInt8) : Bool := fineS (cut1 35 r).2.1 && fineS (cut1 63 (cut1 35 r).1).2.1 && absQ k (cut1 63 (cut1 35 r).1).1
def absS (s : List UInt8) : Bool := match sch true s with
  | none => false
  | some n => absR (kindS (lowS (s.take n))) (s.drop (n + 1))

theorem kind_ways (sc : List UInt8) :
    (sc = [102, 116, 112] ∨ sc = [104, 116, 116, 112] ∨ sc = [104, 116, 116, 112, 115] ∨ sc = [119, 115] ∨ sc = [119, 115, 115]) ∨ sc = [102, 105, 108, 101] ∨
    (¬ sc = [102, 116, 112] ∧ ¬ sc = [104, 116, 116, 112] ∧ ¬ sc = [104, 116, 116, 112, 115] ∧ ¬ sc = [119, 115] ∧ ¬ sc = [119, 115, 115] ∧ ¬ sc = [102, 105, 108, 101] ∧ kindS sc = 2) := by
  by_cases h : sc = [102, 116, 112] ∨ sc = [104, 116, 116, 112] ∨ sc = [104, 116, 116, 112, 115] ∨ sc = [119, 115] ∨ sc = [119, 115, 115]
  · left; exact h
  · right
    by_cases g : sc = [102, 105, 108, 101]
    · left; exact g
    · right
      have hk : kindS sc = 2 := by unfold kindS; rw [if_neg h, if_neg g]
      simp only [not_or] at h
      exact ⟨h.1, h.2.1, h.2.2.1, h.2.2.2.1, h.2.2.2.2, g, hk⟩

theorem firstN_index (l : List UInt8) (c : UInt8) : (indexByte l c = -1 ∧ firstN c l = l.length) ∨ ∃ i : Nat, indexByte l c = i ∧ firstN c l = i ∧ i < l.length := by
  unfold firstN
  rcases cut1_index c l with ⟨h1, h2⟩ | ⟨i, h1, h2⟩
  · left; rw [h2]; exact ⟨h1, rfl⟩
  · right
    have hg := (indexByte_some h1).1
    have hlt : i < l.length := (List.getElem?_eq_some_iff.1 hg).1
    refine ⟨i, h1, ?_, hlt⟩
    rw [h2]; simp; omega

theorem sch_lt (l : List UInt8) : ∀ first n, sch first l = some n → n < l.length := by
  induction l with
  | nil => intro f n h; cases h
  | cons c r ih =>
    intro f n h
    by_cases hc : c = 58
    · subst hc
      rw [sch_colon] at h
      cases f
      · cases h; simp
      · cases h
    · rw [sch_cons f c r hc] at h
      split at h
      · cases hr : sch false r with
        | none => rw [hr] at h; cases h
        | some m =>
          rw [hr] at h
          cases h
          have := ih false m hr
          simp; omega
      · cases h

theorem fineS_nil : fineS [] = true := by decide +kernel
theorem hasPre2_len (r : List UInt8) (h : Lib.hasPrefix r [47, 47] = true) : 2 ≤ r.length := by
  match r, h with
  | [], h => cases h
  | [a], h => simp [Lib.hasPrefix, List.isPrefixOf] at h
  | a :: b :: t, _ => simp
end Go.Proofs.YtoghjhaagallkaaGreatDoor.link
