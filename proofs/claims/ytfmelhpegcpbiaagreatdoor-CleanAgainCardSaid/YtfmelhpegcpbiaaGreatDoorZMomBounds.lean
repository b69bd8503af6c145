/- What is shown is short; what is read fits 64 bits: plain. -/
import Derived.Test.YtfmelhpegcpbiaaGreatDoorZMomLaw2
namespace Go.Proofs.YtfmelhpegcpbiaaGreatDoor.mom
open Go.ChangeShapes Go.WideShapes Go.ChangeAt Go.RowKit Go.Lib Go.Proofs.YtfmelhpegcpbiaaGreatDoor.num Go.Proofs.YtfmelhpegcpbiaaGreatDoor.days Go.Proofs.YtfmelhpegcpbiaaGreatDoor.cal

theorem showM_len (kind n : Int) : (showM kind n).1.length ≤ 1000 := by
  have hp : ∀ a k : Nat, a ≤ 1000000000000 → (padS a k).length ≤ k + 20 := padS_len
  by_cases hk : 1 ≤ kind ∧ kind ≤ 5
  · have hkk : kind = 1 ∨ kind = 2 ∨ kind = 3 ∨ kind = 4 ∨ kind = 5 := by omega
    have hymd : ∀ d, -719162 ≤ d → d ≤ 100000109 → (ymdS (dateOf d)).length ≤ 100 := by
      intro d h1 h2
      have hb := dateOf_bounds d h1 h2
      have a1 := hp (dateOf d).1.toNat 4 (by omega)
      have a2 := hp (dateOf d).2.1.toNat 2 (by omega)
      have a3 := hp (dateOf d).2.2.toNat 2 (by omega)
      unfold ymdS
      simp only [List.length_append, List.length_cons]; omega
    rcases hkk with rfl | rfl | rfl | rfl | rfl
    · rw [show1]; split
      · rename_i g; have := hymd _ g.1 g.2.1; show (ymdS _).length ≤ _; omega
      · simp
    · rw [show2]; split
      · rename_i g
        have a1 := hp (n / 12 + 1970).toNat 4 (by omega)
        have a2 := hp (n % 12 + 1).toNat 2 (by omega)
        simp only [List.length_append, List.length_cons]; omega
      · simp
    · rw [show3]; split
      · rename_i g
        have hb := yearW_bounds _ g.1 g.2.1
        have a1 := hp (yearW (dateOf (n / 86400000)).1 (n / 86400000)).toNat 4 (by omega)
        have a2 := hp ((n / 86400000 - firstW (yearW (dateOf (n / 86400000)).1 (n / 86400000))) / 7 + 1).toNat 2 (by omega)
        simp only [List.length_append, List.length_cons]; omega
      · simp
    · rw [show4]; split
      · rename_i g; have := clockS_len n.toNat (by omega); show (clockS _).length ≤ _; omega
      · simp
    · rw [show5]; split
      · rename_i g
        have h1 := hymd _ g.1 g.2
        have h2 := clockS_len (n % 86400000).toNat (by omega)
        simp only [List.length_append, List.length_cons]; omega
      · simp
  · rw [show0 kind n hk]; simp

theorem parse64 (kind : Int) (l : List UInt8) : int64 (parseM kind l).1 := by
  rcases parse_cases kind l with ⟨_, h⟩ | ⟨h1, h2, _, h4⟩
  · rw [h]; exact ⟨by decide, by decide⟩
  · generalize (parseM kind l).1 = n at *
    have hkk : kind = 1 ∨ kind = 2 ∨ kind = 3 ∨ kind = 4 ∨ kind = 5 := by omega
    rcases hkk with rfl | rfl | rfl | rfl | rfl
    · rw [part1] at h4
      obtain ⟨d, rfl, d1, d2⟩ := date_range l n [] h4
      exact ⟨by omega, by omega⟩
    · rw [part2] at h4
      obtain ⟨y, m, r1, r2, k1, k2, k3, k4, k5⟩ := monthP_form l n [] h4
      obtain ⟨ds, _, _, _, y1, y2⟩ := yearR_some l y r1 k1
      exact ⟨by omega, by omega⟩
    · rw [part3] at h4
      obtain ⟨y, w, r1, r2, k1, k2, k3, k4, k5⟩ := weekP_form l n [] h4
      obtain ⟨ds, _, _, _, y1, y2⟩ := yearR_some l y r1 k1
      have := firstW_bound (y : Int) (by omega) (by omega)
      have hw := two_lt _ _ _ k3
      exact ⟨by omega, by omega⟩
    · rw [part4] at h4
      have := time_range l n [] h4
      exact ⟨by omega, by omega⟩
    · rw [part5] at h4
      obtain ⟨d, r1, c, r2, t, k1, k2, k3, k4, k5⟩ := localP_form l n [] h4
      obtain ⟨d', rfl, d1, d2⟩ := date_range l d r1 k1
      have := time_range _ _ _ k4
      exact ⟨by omega, by omega⟩

end Go.Proofs.YtfmelhpegcpbiaaGreatDoor.mom
