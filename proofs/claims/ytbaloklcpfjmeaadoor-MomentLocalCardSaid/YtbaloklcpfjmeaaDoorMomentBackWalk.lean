/- MomentBack: the walk. -/
import Derived.Test.YtbaloklcpfjmeaaDoorWakes5
import Derived.OpenShut
namespace Go.Proofs.YtbaloklcpfjmeaaDoor.mom
open Go.ChangeShapes Go.WideShapes Go.ChangeAt Go.RowKit Go.Lib Go.Proofs.YtbaloklcpfjmeaaDoor.num Go.Proofs.YtbaloklcpfjmeaaDoor.days Go.Proofs.YtbaloklcpfjmeaaDoor.cal

theorem showM_len (kind n : Int) : (showM kind n).1.length ≤ 1000 := by
  have hp : ∀ a k : Nat, a ≤ 1000000000000 → (padS a k).length ≤ k + 20 := padS_len
  by_cases hk : 1 ≤ kind ∧ kind ≤ 5
  · have hkk : kind = 1 ∨ kind = 2 ∨ kind = 3 ∨ kind = 4 ∨ kind = 5 := by omega
    have hymd : ∀ d, -719162 ≤ d → d ≤ 100000109 → (ymdS (dateOf d)).length ≤ 100 := by
      intro d h1 h2
      have hb := dateOf_bounds d h1 h2
      have a1 := hp (dateOf d).1.toNat 4 (by omega)
      have a2 := hp (dateOf d).2.1.toNat 2 (by omega)
      have a3 := hp (dateOf d).2.2.toNat 2 (by omega)
      unfold ymdS
      simp only [List.length_append, List.length_cons]; omega
    rcases hkk with rfl | rfl | rfl | rfl | rfl
    · rw [show1]; split
      · rename_i g; have := hymd _ g.1 g.2.1; show (ymdS _).length ≤ _; omega
      · simp
    · rw [show2]; split
      · rename_i g
        have a1 := hp (n / 12 + 1970).toNat 4 (by omega)
        have a2 := hp (n % 12 + 1).toNat 2 (by omega)
        simp only [List.length_append, List.length_cons]; omega
      · simp
    · rw [show3]; split
      · rename_i g
        have hb := yearW_bounds _ g.1 g.2.1
        have a1 := hp (yearW (dateOf (n / 86400000)).1 (n / 86400000)).toNat 4 (by omega)
        have a2 := hp ((n / 86400000 - firstW (yearW (dateOf (n / 86400000)).1 (n / 86400000))) / 7 + 1).toNat 2 (by omega)
        simp only [List.length_append, List.length_cons]; omega
      · simp
    · rw [show4]; split
      · rename_i g; have := clockS_len n.toNat (by omega); show (clockS _).length ≤ _; omega
      · simp
    · rw [show5]; split
      · rename_i g
        have h1 := hymd _ g.1 g.2
        have h2 := clockS_len (n % 86400000).toNat (by omega)
        simp only [List.length_append, List.length_cons]; omega
      · simp
  · rw [show0 kind n hk]; simp

set_option maxHeartbeats 800000 in
set_option maxRecDepth 100000 in
theorem back_walk (a : Int) (ha : (Lit.int .i64 a).wf = true) (b : Int) (hb : (Lit.int .i64 b).wf = true) (w : World) (hG : G w) (hE : GE w) :
    Calls Tryd.prog 3 #[.int .i64 a, .int .i64 b] w fun e w' => e = .returned (.bool true) ∧ Below w.heap.size w w' := by
  have a0 := bounds_i64 ha
  have b0 := bounds_i64 hb
  have hs := mshow_any a b a0 b0 w hG
  have hl := showM_len a b
  have hp := fun w h => mparse_any a a0 (showM a b).1 (by omega) w h
  have hbk := back a b
  generalize (showM a b).2 = e at *
  generalize (showM a b).1 = s at *
  rcases hbk with ⟨rfl, g⟩ | ⟨g1, g2⟩
  · rw [g] at hp
    clear g
    go_enter Tryd.func3, Tryd.ntmps3
    go_wp2_with fail
    refine hs.mono ?_
    rintro ee w1 ⟨rfl, B1⟩
    go_wp2_with fail
    refine (wakes_any w1 (hG.below B1) (hE.below B1)).mono ?_
    rintro ee w2 ⟨rfl, B2⟩
    have B02 := below_trans B1 B2
    go_wp2_with fail
    refine (hp w2 (hE.below B02)).mono ?_
    rintro ee w3 ⟨rfl, B3⟩
    go_wp2_with fail
    go_ret
    exact ⟨rfl, below_trans B02 B3⟩
  · have t1 : (e != 0) = true := by simpa using g1
    subst g2
    clear hp g1
    go_enter Tryd.func3, Tryd.ntmps3
    go_wp2_with fail
    refine hs.mono ?_
    rintro ee w1 ⟨rfl, B1⟩
    go_wp2_with fail
    refine (wakes_any w1 (hG.below B1) (hE.below B1)).mono ?_
    rintro ee w2 ⟨rfl, B2⟩
    have B02 := below_trans B1 B2
    go_wp2_with fail
    go_ret
    exact ⟨rfl, B02⟩
end Go.Proofs.YtbaloklcpfjmeaaDoor.mom
