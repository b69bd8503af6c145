/- MomentNormal: the walk. -/
import Derived.Test.YtbaloklcpfjmeaaDoorMomentBackWalk
namespace Go.Proofs.YtbaloklcpfjmeaaDoor.mom
open Go.ChangeShapes Go.WideShapes Go.ChangeAt Go.RowKit Go.Lib Go.Proofs.YtbaloklcpfjmeaaDoor.num Go.Proofs.YtbaloklcpfjmeaaDoor.days Go.Proofs.YtbaloklcpfjmeaaDoor.cal

theorem parse64 (kind : Int) (l : List UInt8) : int64 (parseM kind l).1 := by
  rcases parse_cases kind l with ⟨_, h⟩ | ⟨h1, h2, _, h4⟩
  · rw [h]; exact ⟨by decide, by decide⟩
  · generalize (parseM kind l).1 = n at *
    have hkk : kind = 1 ∨ kind = 2 ∨ kind = 3 ∨ kind = 4 ∨ kind = 5 := by omega
    rcases hkk with rfl | rfl | rfl | rfl | rfl
    · rw [part1] at h4
      obtain ⟨d, rfl, d1, d2⟩ := date_range l n [] h4
      exact ⟨by omega, by omega⟩
    · rw [part2] at h4
      obtain ⟨y, m, r1, r2, k1, k2, k3, k4, k5⟩ := monthP_form l n [] h4
      obtain ⟨ds, _, _, _, y1, y2⟩ := yearR_some l y r1 k1
      exact ⟨by omega, by omega⟩
    · rw [part3] at h4
      obtain ⟨y, w, r1, r2, k1, k2, k3, k4, k5⟩ := weekP_form l n [] h4
      obtain ⟨ds, _, _, _, y1, y2⟩ := yearR_some l y r1 k1
      have := firstW_bound (y : Int) (by omega) (by omega)
      have hw := two_lt _ _ _ k3
      exact ⟨by omega, by omega⟩
    · rw [part4] at h4
      have := time_range l n [] h4
      exact ⟨by omega, by omega⟩
    · rw [part5] at h4
      obtain ⟨d, r1, c, r2, t, k1, k2, k3, k4, k5⟩ := localP_form l n [] h4
      obtain ⟨d', rfl, d1, d2⟩ := date_range l d r1 k1
      have := time_range _ _ _ k4
      exact ⟨by omega, by omega⟩

set_option maxHeartbeats 800000 in
set_option maxRecDepth 100000 in
theorem normal_walk (a : Int) (ha : (Lit.int .i64 a).wf = true) (s : List UInt8) (hs : (⟨s.toArray⟩ : ByteArray).size ≤ maxLen) (w : World) (hG : G w) (hE : GE w) :
    Calls Tryd.prog 4 #[.int .i64 a, .string ⟨s.toArray⟩] w fun e w' => e = .returned (.bool true) ∧ Below w.heap.size w w' := by
  rw [bsize] at hs
  unfold maxLen at hs
  have a0 := bounds_i64 ha
  by_cases l1 : (16384 : Int) < s.length
  · go_enter Tryd.func4, Tryd.ntmps4
    go_wp2_with fail
    refine (wakes_any w hG hE).mono ?_
    rintro ee w1 ⟨rfl, B1⟩
    go_wp2_with fail
    go_ret
    exact ⟨rfl, B1⟩
  · have hp := fun w h => mparse_any a a0 s (by omega) w h
    have h64 := parse64 a s
    have hsh := shows a s
    have hz := parse_cases a s
    generalize (parseM a s).1 = n at *
    generalize (parseM a s).2 = e at *
    by_cases he : e = 0
    · subst he
      have hms := fun w h => mshow_any a n a0 h64 w h
      have hl := showM_len a n
      have hp2 := fun w h => mparse_any a a0 (showM a n).1 (by omega) w h
      have hb := back a n
      rw [hsh rfl] at hms
      have hbb : parseM a (showM a n).1 = (n, 0) := by
        rcases hb with ⟨_, h⟩ | ⟨h, _⟩
        · exact h
        · exact absurd (hsh rfl) h
      rw [hbb] at hp2
      generalize (showM a n).1 = t at *
      obtain ⟨n1, n2⟩ := h64
      clear hsh hz hb hbb
      go_enter Tryd.func4, Tryd.ntmps4
      go_wp2_with fail
      refine (wakes_any w hG hE).mono ?_
      rintro ee w1 ⟨rfl, B1⟩
      go_wp2_with fail
      refine (hp w1 (hE.below B1)).mono ?_
      rintro ee w2 ⟨rfl, B2⟩
      have B02 := below_trans B1 B2
      go_wp2_with fail
      refine (hms w2 (hG.below B02)).mono ?_
      rintro ee w3 ⟨rfl, B3⟩
      have B03 := below_trans B02 B3
      go_wp2_with fail
      refine (hp2 w3 (hE.below B03)).mono ?_
      rintro ee w4 ⟨rfl, B4⟩
      go_wp2_with fail
      go_ret
      exact ⟨rfl, below_trans B03 B4⟩
    · have hn : n = 0 := by
        rcases hz with ⟨_, h⟩ | ⟨_, _, h, _⟩
        · exact h
        · exact absurd h he
      subst hn
      have t1 : (e != 0) = true := by simpa using he
      clear hsh hz he
      go_enter Tryd.func4, Tryd.ntmps4
      go_wp2_with fail
      refine (wakes_any w hG hE).mono ?_
      rintro ee w1 ⟨rfl, B1⟩
      go_wp2_with fail
      refine (hp w1 (hE.below B1)).mono ?_
      rintro ee w2 ⟨rfl, B2⟩
      go_wp2_with fail
      go_ret
      exact ⟨rfl, below_trans B1 B2⟩
end Go.Proofs.YtbaloklcpfjmeaaDoor.mom
