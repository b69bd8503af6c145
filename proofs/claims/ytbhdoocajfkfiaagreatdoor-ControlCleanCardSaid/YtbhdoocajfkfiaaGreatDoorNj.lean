/- What is shown is read back; what is read is shown; a day and a time: the laws on 'showM', 'parseM'. What is shown is short; what is read fits 64 bits: plain. What is read of a number: its bounds: plain. Bounds and steps: what they keep: plain. No program in sight. -/
import Derived.Test.YtbhdoocajfkfiaaGreatDoorMb
import Derived.Test.YtbhdoocajfkfiaaGreatDoorNh
import Derived.Test.YtbhdoocajfkfiaaGreatDoorNa
import Derived.Test.YtbhdoocajfkfiaaGreatDoorMa
namespace Go.Proofs.YtbhdoocajfkfiaaGreatDoor.mom
open Go.Lib Go.Proofs.YtbhdoocajfkfiaaGreatDoor.num Go.Proofs.YtbhdoocajfkfiaaGreatDoor.cal Go.Proofs.YtbhdoocajfkfiaaGreatDoor.days

theorem parse_some (kind : Int) (l : List UInt8) (v : Int) (h1 : 1 ≤ kind) (h2 : kind ≤ 5) (h : partP kind l = some (v, [])) : parseM kind l = (v, 0) := by
  unfold parseM
  rw [if_neg (by omega), h]; rfl
theorem part1 (l : List UInt8) : partP 1 l = dateP l := rfl
theorem part2 (l : List UInt8) : partP 2 l = monthP l := rfl
theorem part3 (l : List UInt8) : partP 3 l = weekP l := rfl
theorem part4 (l : List UInt8) : partP 4 l = timeP l := rfl
theorem part5 (l : List UInt8) : partP 5 l = localP l := rfl

/-- MomentBack -/
theorem back (kind n : Int) : (showM kind n).2 = 0 ∧ parseM kind (showM kind n).1 = (n, 0) ∨ (showM kind n).2 ≠ 0 ∧ (showM kind n).1 = [] := by
  by_cases hk : 1 ≤ kind ∧ kind ≤ 5
  · have hkk : kind = 1 ∨ kind = 2 ∨ kind = 3 ∨ kind = 4 ∨ kind = 5 := by omega
    rcases hkk with rfl | rfl | rfl | rfl | rfl
    · rw [show1]
      by_cases g : -719162 ≤ n / 86400000 ∧ n / 86400000 ≤ 100000109 ∧ n % 86400000 = 0
      · rw [if_pos g]
        left
        refine ⟨rfl, ?_⟩
        have hb := dateOf_bounds (n / 86400000) g.1 g.2.1
        have := date_back (n / 86400000) g.1 g.2.1 ⟨hb.1, hb.2.1⟩
        rw [parse_some 1 _ _ (by decide) (by decide) (by rw [part1]; exact this)]
        rw [show n / 86400000 * 86400000 = n from by omega]
      · rw [if_neg g]; right; exact ⟨by decide, rfl⟩
    · rw [show2]
      by_cases g : 1 ≤ n / 12 + 1970 ∧ n / 12 + 1970 ≤ 275760
      · rw [if_pos g]
        left
        refine ⟨rfl, ?_⟩
        have e1 := year_pad (n / 12 + 1970).toNat (by omega) (by omega) (45 :: padS (n % 12 + 1).toNat 2) (cnt45 _)
        have e2 := two_pad (n % 12 + 1).toNat (by omega) []
        rw [List.append_nil] at e2
        rw [parse_some 2 _ _ (by decide) (by decide) (by rw [part2]; exact monthP_of _ _ _ _ _ e1 e2 (by omega))]
        rw [show 12 * ((((n / 12 + 1970).toNat : Nat) : Int) - 1970) + (((n % 12 + 1).toNat : Nat) : Int) - 1 = n from by omega]
      · rw [if_neg g]; right; exact ⟨by decide, rfl⟩
    · rw [show3]
      by_cases g : -719162 ≤ n / 86400000 ∧ n / 86400000 < 100000107 ∧ n % 86400000 = 0 ∧ wd (n / 86400000) = 1
      · rw [if_pos g]
        left
        refine ⟨rfl, ?_⟩
        obtain ⟨g1, g2, g3, g4⟩ := g
        have hd : n / 86400000 * 86400000 = n := by omega
        generalize n / 86400000 = d at *
        have hb := yearW_bounds d g1 g2
        have ha := num_year _ _ _ (date_ok d g1).1
        rw [(date_ok d g1).2.1] at ha
        have hw := yearW_ok (dateOf d).1 d ha.1 ha.2
        generalize yearW (dateOf d).1 d = y at *
        have hmon := firstW_mon y
        have hmul := weeksW_mul y
        obtain ⟨k, hk⟩ : ∃ k, k = (d - firstW y) / 7 + 1 := ⟨_, rfl⟩
        rw [← hk] at hb ⊢
        have hdk : firstW y + 7 * (k - 1) = d := by unfold wd at g4; omega
        have e1 := year_pad y.toNat (by omega) (by omega) (45 :: 87 :: padS k.toNat 2) (cnt45 _)
        have e2 := two_pad k.toNat (by omega) []
        rw [List.append_nil] at e2
        have ok : wOk y.toNat k.toNat = true := by
          unfold wOk
          rw [Int.toNat_of_nonneg (by omega : 0 ≤ y), Int.toNat_of_nonneg (by omega : 0 ≤ k)]
          simp only [Bool.and_eq_true, decide_eq_true_eq]
          omega
        rw [parse_some 3 _ _ (by decide) (by decide) (by rw [part3]; exact weekP_of _ _ _ _ _ e1 e2 ok)]
        rw [Int.toNat_of_nonneg (by omega : 0 ≤ y), Int.toNat_of_nonneg (by omega : 0 ≤ k), hdk, hd]
      · rw [if_neg g]; right; exact ⟨by decide, rfl⟩
    · rw [show4]
      by_cases g : 0 ≤ n ∧ n < 86400000
      · rw [if_pos g]
        left
        refine ⟨rfl, ?_⟩
        have := time_back n.toNat (by omega) [] rfl
        rw [List.append_nil] at this
        rw [parse_some 4 _ _ (by decide) (by decide) (by rw [part4]; exact this), Int.toNat_of_nonneg g.1]
      · rw [if_neg g]; right; exact ⟨by decide, rfl⟩
    · rw [show5]
      by_cases g : -719162 ≤ n / 86400000 ∧ n / 86400000 ≤ 100000109
      · rw [if_pos g]
        left
        refine ⟨rfl, ?_⟩
        have hb := dateOf_bounds (n / 86400000) g.1 g.2
        have h1 := date_back (n / 86400000) g.1 g.2 ⟨hb.1, hb.2.1⟩
        have h2 := time_back (n % 86400000).toNat (by omega) [] rfl
        rw [List.append_nil] at h2
        have h3 := dateP_app _ _ _ (84 :: clockS (n % 86400000).toNat) h1
        rw [parse_some 5 _ _ (by decide) (by decide) (by rw [part5]; exact localP_of _ _ _ 84 _ _ h3 rfl h2)]
        rw [Int.toNat_of_nonneg (by omega), show n / 86400000 * 86400000 + n % 86400000 = n from by omega]
      · rw [if_neg g]; right; exact ⟨by decide, rfl⟩
  · rw [show0 kind n hk]; right; exact ⟨by decide, rfl⟩

theorem parse_cases (kind : Int) (l : List UInt8) : ((parseM kind l).2 ≠ 0 ∧ (parseM kind l).1 = 0) ∨ (1 ≤ kind ∧ kind ≤ 5 ∧ (parseM kind l).2 = 0 ∧ partP kind l = some ((parseM kind l).1, [])) := by
  unfold parseM
  by_cases h : kind < 1 ∨ 5 < kind
  · rw [if_pos h]; left; exact ⟨by decide, rfl⟩
  · rw [if_neg h]
    cases hw : whole (partP kind l) with
    | none => left; exact ⟨by decide, rfl⟩
    | some v => right; exact ⟨by omega, by omega, rfl, whole_some hw⟩

theorem date_range (l : List UInt8) (v : Int) (r : List UInt8) (h : dateP l = some (v, r)) : ∃ d, v = d * 86400000 ∧ -719162 ≤ d ∧ d ≤ 100000109 := by
  obtain ⟨y, m, d, r1, r2, r3, r4, h1, h2, h3, h4, h5, h6, rfl⟩ := dateP_form l v r h
  obtain ⟨ds, _, _, _, y1, y2⟩ := yearR_some l y r1 h1
  have ok := (dOk_iff y m d y1 y2).1 h6
  obtain ⟨o1, o2, o3, o4, o5, o6⟩ := ok
  have hy := num_year (y : Int) m d ⟨o3, o4, o5, o6⟩
  have b1 : newY 1 ≤ newY y := by
    rcases Int.lt_or_eq_of_le o1 with k | k
    · exact Int.le_of_lt (newY_mono _ _ k)
    · rw [← k]; exact Int.le_refl _
  have b2 : newY (y + 1) ≤ newY 275761 := by
    rcases Int.lt_or_eq_of_le (show (y : Int) + 1 ≤ 275761 by omega) with k | k
    · exact Int.le_of_lt (newY_mono _ _ k)
    · rw [k]; exact Int.le_refl _
  have e1 : newY 1 = -719162 := by decide
  have e2 : newY 275761 = 100000110 := by decide
  exact ⟨_, rfl, by omega, by omega⟩

theorem thou_range (l : List UInt8) (p : Nat) (r : List UInt8) (h : thou l = some (p, r)) : p < 1000 := by
  unfold thou at h
  simp only [] at h
  split at h
  · cases h
  · cases h
    have hv := val_lt _ (allDig_take l (min (cnt l) 3) (by omega))
    have hlen : (l.take (min (cnt l) 3)).length = min (cnt l) 3 := by rw [List.length_take]; have := cnt_le l; omega
    rw [hlen] at hv
    have : min (cnt l) 3 = 1 ∨ min (cnt l) 3 = 2 ∨ min (cnt l) 3 = 3 := by omega
    rcases this with e | e | e <;> rw [e] at hv ⊢ <;> simp at hv ⊢ <;> omega

theorem time_range (l : List UInt8) (v : Int) (r : List UInt8) (h : timeP l = some (v, r)) : 0 ≤ v ∧ v < 86400000 := by
  unfold timeP at h
  split at h
  · cases h
  · rename_i hh r1 e1
    split at h
    · cases h
    · split at h
      · cases h
      · rename_i m r3 e3
        split at h
        · rename_i g
          have g' : hh < 24 ∧ m < 60 := by simpa using g
          unfold minT at h
          split at h
          · unfold secP at h
            split at h
            · cases h
            · rename_i s r5 e5
              split at h
              · rename_i gs
                unfold secT at h
                split at h
                · split at h
                  · cases h
                  · rename_i p r7 e7
                    have := thou_range _ _ _ e7
                    cases h
                    omega
                · cases h; omega
              · cases h
          · cases h; omega
        · cases h

/-- MomentNormal: what is read has a text -/
theorem shows (kind : Int) (l : List UInt8) (h : (parseM kind l).2 = 0) : (showM kind (parseM kind l).1).2 = 0 := by
  rcases parse_cases kind l with ⟨h1, _⟩ | ⟨h1, h2, _, h4⟩
  · exact absurd h h1
  · generalize (parseM kind l).1 = n at *
    have hkk : kind = 1 ∨ kind = 2 ∨ kind = 3 ∨ kind = 4 ∨ kind = 5 := by omega
    rcases hkk with rfl | rfl | rfl | rfl | rfl
    · rw [part1] at h4
      obtain ⟨d, rfl, d1, d2⟩ := date_range l n [] h4
      rw [show1, if_pos (by omega)]
    · rw [part2] at h4
      obtain ⟨y, m, r1, r2, k1, k2, k3, k4, k5⟩ := monthP_form l n [] h4
      obtain ⟨ds, _, _, _, y1, y2⟩ := yearR_some l y r1 k1
      rw [show2, if_pos (by omega)]
    · rw [part3] at h4
      obtain ⟨y, w, r1, r2, k1, k2, k3, k4, k5⟩ := weekP_form l n [] h4
      obtain ⟨ds, _, _, _, y1, y2⟩ := yearR_some l y r1 k1
      have ok := (wOk_iff y w y1 y2).1 k4
      obtain ⟨o1, o2, o3, o4⟩ := ok
      have hmul := weeksW_mul y
      have hmon := firstW_mon y
      have b1 : firstW 1 ≤ firstW y := by
        rcases Int.lt_or_eq_of_le o1 with k | k
        · exact Int.le_of_lt (firstW_mono _ _ k)
        · rw [← k]; exact Int.le_refl _
      have b2 : firstW (y + 1) ≤ firstW 275761 := by
        rcases Int.lt_or_eq_of_le (show (y : Int) + 1 ≤ 275761 by omega) with k | k
        · exact Int.le_of_lt (firstW_mono _ _ k)
        · rw [k]; exact Int.le_refl _
      have e1 := firstW_1
      have e2 := firstW_end
      have hd : n / 86400000 = firstW y + 7 * ((w : Int) - 1) := by omega
      rw [show3, if_pos]
      rw [hd]
      unfold wd
      refine ⟨by omega, by omega, by omega, by omega⟩
    · rw [part4] at h4
      have := time_range l n [] h4
      rw [show4, if_pos (by omega)]
    · rw [part5] at h4
      obtain ⟨d, r1, c, r2, t, k1, k2, k3, k4, k5⟩ := localP_form l n [] h4
      obtain ⟨d', rfl, d1, d2⟩ := date_range l d r1 k1
      have := time_range _ _ _ k4
      rw [show5, if_pos (by omega)]

/-- MomentLocal -/
theorem locals (day time : List UInt8) (c : UInt8) (hc : isMid c = true) (hd : day.all (fun c => !isMid c) = true) :
    (((parseM 1 day).2 ≠ 0 ∨ (parseM 4 time).2 ≠ 0) ∧ parseM 5 (day ++ c :: time) = (0, 1)) ∨
    ((parseM 1 day).2 = 0 ∧ (parseM 4 time).2 = 0 ∧ parseM 5 (day ++ c :: time) = ((parseM 1 day).1 + (parseM 4 time).1, 0)) := by
  have e5 : parseM 5 (day ++ c :: time) = match localR (day ++ c :: time) with | some v => (v, 0) | none => (0, 1) := by
    rw [localR_eq]; rfl
  have e1 : parseM 1 day = match whole (dateP day) with | some v => (v, 0) | none => (0, 1) := rfl
  have e4 : parseM 4 time = match whole (timeP time) with | some v => (v, 0) | none => (0, 1) := rfl
  unfold localR at e5
  rw [midR_at day c time hd hc] at e5
  dsimp only at e5
  rw [dayR_eq, clockR_eq] at e5
  rw [e1, e4, e5]
  cases whole (dateP day) with
  | none => left; exact ⟨.inl (by decide), rfl⟩
  | some a =>
    cases whole (timeP time) with
    | none => left; exact ⟨.inr (by decide), rfl⟩
    | some b => right; exact ⟨rfl, rfl, rfl⟩
end Go.Proofs.YtbhdoocajfkfiaaGreatDoor.mom

namespace Go.Proofs.YtbhdoocajfkfiaaGreatDoor.mom
open Go.ChangeShapes Go.WideShapes Go.ChangeAt Go.RowKit Go.Lib Go.Proofs.YtbhdoocajfkfiaaGreatDoor.num Go.Proofs.YtbhdoocajfkfiaaGreatDoor.days Go.Proofs.YtbhdoocajfkfiaaGreatDoor.cal

theorem showM_len (kind n : Int) : (showM kind n).1.length ≤ 1000 := by
  have hp : ∀ a k : Nat, a ≤ 1000000000000 → (padS a k).length ≤ k + 20 := padS_len
  by_cases hk : 1 ≤ kind ∧ kind ≤ 5
  · have hkk : kind = 1 ∨ kind = 2 ∨ kind = 3 ∨ kind = 4 ∨ kind = 5 := by omega
    have hymd : ∀ d, -719162 ≤ d → d ≤ 100000109 → (ymdS (dateOf d)).length ≤ 100 := by
      intro d h1 h2
      have hb := dateOf_bounds d h1 h2
      have a1 := hp (dateOf d).1.toNat 4 (by omega)
      have a2 := hp (dateOf d).2.1.toNat 2 (by omega)
      have a3 := hp (dateOf d).2.2.toNat 2 (by omega)
      unfold ymdS
      simp only [List.length_append, List.length_cons]; omega
    rcases hkk with rfl | rfl | rfl | rfl | rfl
    · rw [show1]; split
      · rename_i g; have := hymd _ g.1 g.2.1; show (ymdS _).length ≤ _; omega
      · simp
    · rw [show2]; split
      · rename_i g
        have a1 := hp (n / 12 + 1970).toNat 4 (by omega)
        have a2 := hp (n % 12 + 1).toNat 2 (by omega)
        simp only [List.length_append, List.length_cons]; omega
      · simp
    · rw [show3]; split
      · rename_i g
        have hb := yearW_bounds _ g.1 g.2.1
        have a1 := hp (yearW (dateOf (n / 86400000)).1 (n / 86400000)).toNat 4 (by omega)
        have a2 := hp ((n / 86400000 - firstW (yearW (dateOf (n / 86400000)).1 (n / 86400000))) / 7 + 1).toNat 2 (by omega)
        simp only [List.length_append, List.length_cons]; omega
      · simp
    · rw [show4]; split
      · rename_i g; have := clockS_len n.toNat (by omega); show (clockS _).length ≤ _; omega
      · simp
    · rw [show5]; split
      · rename_i g
        have h1 := hymd _ g.1 g.2
        have h2 := clockS_len (n % 86400000).toNat (by omega)
        simp only [List.length_append, List.length_cons]; omega
      · simp
  · rw [show0 kind n hk]; simp

theorem parse64 (kind : Int) (l : List UInt8) : int64 (parseM kind l).1 := by
  rcases parse_cases kind l with ⟨_, h⟩ | ⟨h1, h2, _, h4⟩
  · rw [h]; exact ⟨by decide, by decide⟩
  · generalize (parseM kind l).1 = n at *
    have hkk : kind = 1 ∨ kind = 2 ∨ kind = 3 ∨ kind = 4 ∨ kind = 5 := by omega
    rcases hkk with rfl | rfl | rfl | rfl | rfl
    · rw [part1] at h4
      obtain ⟨d, rfl, d1, d2⟩ := date_range l n [] h4
      exact ⟨by omega, by omega⟩
    · rw [part2] at h4
      obtain ⟨y, m, r1, r2, k1, k2, k3, k4, k5⟩ := monthP_form l n [] h4
      obtain ⟨ds, _, _, _, y1, y2⟩ := yearR_some l y r1 k1
      exact ⟨by omega, by omega⟩
    · rw [part3] at h4
      obtain ⟨y, w, r1, r2, k1, k2, k3, k4, k5⟩ := weekP_form l n [] h4
      obtain ⟨ds, _, _, _, y1, y2⟩ := yearR_some l y r1 k1
      have := firstW_bound (y : Int) (by omega) (by omega)
      have hw := two_lt _ _ _ k3
      exact ⟨by omega, by omega⟩
    · rw [part4] at h4
      have := time_range l n [] h4
      exact ⟨by omega, by omega⟩
    · rw [part5] at h4
      obtain ⟨d, r1, c, r2, t, k1, k2, k3, k4, k5⟩ := localP_form l n [] h4
      obtain ⟨d', rfl, d1, d2⟩ := date_range l d r1 k1
      have := time_range _ _ _ k4
      exact ⟨by omega, by omega⟩

end Go.Proofs.YtbhdoocajfkfiaaGreatDoor.mom

namespace Go.Proofs.YtbhdoocajfkfiaaGreatDoor.num
open Go.Lib

theorem parse_bd (l : List UInt8) : -1000000000000000000 ≤ (parseS l).1 ∧ (parseS l).1 ≤ 1000000000000000000 ∧ 0 ≤ (parseS l).2 ∧ (parseS l).2 ≤ 2 := by
  by_cases h : (parseS l).2 = 0
  · have := (normal l h).1; omega
  · have h1 : (parseS l).1 = 0 := by
      rcases parseT_err (negB l) (unsigned l) with g | g
      · exact absurd g h
      · exact g
    rw [h1]
    refine ⟨by decide, by decide, ?_⟩
    unfold parseS
    rw [parse_form]
    split
    · simp
    · rcases fin_err (negB l) (str.cut1 46 (unsigned l)).1 (str.cut1 46 (unsigned l)).2.1 with g | g
      · rw [g]; simp
      · rw [g]; simp

end Go.Proofs.YtbhdoocajfkfiaaGreatDoor.num

namespace Go.Proofs.YtbhdoocajfkfiaaGreatDoor.stp
open Go.Lib Go.Proofs.YtbhdoocajfkfiaaGreatDoor.num Go.Proofs.YtbhdoocajfkfiaaGreatDoor.mom Go.Proofs.YtbhdoocajfkfiaaGreatDoor.cal Go.Proofs.YtbhdoocajfkfiaaGreatDoor.days Go.Proofs.YtbhdoocajfkfiaaGreatDoor.link Go.Proofs.YtbhdoocajfkfiaaGreatDoor.fits Go.Proofs.YtbhdoocajfkfiaaGreatDoor.atr

def i64 (n : Int) : Prop := -9223372036854775808 ≤ n ∧ n ≤ 9223372036854775807
theorem valK_64 (kind : Int) (s : List UInt8) : i64 (valK kind s).1 := by
  unfold valK i64
  split
  · have := parse_bd s; dsimp only; omega
  · split
    · have := parse64 (kind - 7) s
      unfold int64 at this
      exact this
    · dsimp only; omega
theorem valK_no (kind : Int) (s : List UInt8) (h : (valK kind s).2 = false) : (valK kind s).1 = 0 := by
  unfold valK at h ⊢
  split
  · rename_i g
    rw [if_pos g] at h
    dsimp only at h ⊢
    rcases parseT_err (negB s) (unsigned s) with k | k
    · have : (parseS s).2 = 0 := k
      rw [this] at h; cases h
    · exact k
  · rename_i g
    rw [if_neg g] at h
    split
    · rename_i k
      rw [if_pos k] at h
      dsimp only at h ⊢
      rcases parse_cases (kind - 7) s with ⟨_, q⟩ | ⟨_, _, q, _⟩
      · exact q
      · rw [q] at h; cases h
    · rfl
theorem showK_back (kind n : Int) (h : (showK kind n).2 = true) : valK kind (showK kind n).1 = (n, true) := by
  unfold showK at h ⊢
  unfold valK
  split
  · rename_i g
    rw [if_pos g] at h
    split at h
    · cases h
    · rename_i k
      rw [if_neg k]
      dsimp only
      rw [parse_show, if_pos (by omega)]
      rfl
  · rename_i g
    rw [if_neg g] at h
    split at h
    · rename_i k
      simp only [if_pos k]
      dsimp only at h ⊢
      rcases back (kind - 7) n with ⟨_, q⟩ | ⟨q, _⟩
      · rw [q]; rfl
      · exact absurd (by simpa using h) q
    · cases h
theorem showS_len (n : Int) (hn : i64 n) : (showS n).length ≤ 1000 := by
  obtain ⟨h1, h2⟩ := hn
  have hd : nDigits (n.natAbs / 1000000) ≤ 20 := by
    have := nDigits_bd 20 (n.natAbs / 1000000) (by omega)
    omega
  rw [← decDigits_length] at hd
  have hf := (frL_val (n.natAbs % 1000000) (by omega)).2.2.1
  rw [← frac_eq _ (by omega)] at hf
  unfold showS
  dsimp only
  split <;> split <;> simp only [List.length_append, List.length_cons, List.length_nil] <;> omega
theorem showK_len (kind n : Int) (hn : i64 n) : (showK kind n).1.length ≤ 1000 := by
  unfold showK
  split
  · split
    · simp
    · exact showS_len n hn
  · split
    · exact showM_len _ _
    · simp
theorem boundK_64 (kind : Int) (l : List Attr) (nm : List UInt8) : i64 (boundK kind l nm).1 := by
  unfold boundK
  split
  · exact ⟨by decide, by decide⟩
  · exact valK_64 _ _
theorem boundK_no (kind : Int) (l : List Attr) (nm : List UInt8) (h : (boundK kind l nm).2 = false) : (boundK kind l nm).1 = 0 := by
  unfold boundK at h ⊢
  split
  · rfl
  · rename_i s e
    rw [e] at h
    exact valK_no _ _ h
theorem leastK_64 (kind : Int) (l : List Attr) : i64 (leastK kind l).1 := boundK_64 kind l nMin
theorem mostK_64 (kind : Int) (l : List Attr) : i64 (mostK kind l).1 := by
  unfold mostK
  split
  · exact boundK_64 kind l nMax
  · have := leastK_64 kind l
    unfold i64 at *
    dsimp only
    omega
theorem baseK_64 (kind : Int) (l : List Attr) : i64 (baseK kind l) := by
  unfold baseK
  split
  · exact boundK_64 kind l nMin
  · split
    · exact boundK_64 kind l nValue
    · split <;> exact ⟨by decide, by decide⟩
theorem scaleK_pos (kind : Int) : 0 < scaleK kind ∧ scaleK kind ≤ 604800000 := by
  unfold scaleK
  split
  · omega
  · split
    · omega
    · split
      · omega
      · split <;> omega
theorem byK_pos (kind : Int) : 0 < byK kind ∧ byK kind ≤ 604800000 := by
  have := scaleK_pos kind
  unfold byK
  split <;> omega
theorem stepQ_pos (b s n : Int) (hb : 0 < b ∧ b ≤ 604800000) (hs : 0 < s) (hn : 0 < n) : 0 < stepQ b s n ∧ stepQ b s n ≤ 1000000000000000000 := by
  unfold stepQ
  have h : 0 ≤ n * s / 1000000 := Int.ediv_nonneg (Int.mul_nonneg (by omega) (by omega)) (by decide)
  generalize n * s / 1000000 = q at *
  split <;> omega
theorem stepK_pos (kind : Int) (l : List Attr) (h : (stepK kind l).2 = true) : 0 < (stepK kind l).1 ∧ (stepK kind l).1 ≤ 1000000000000000000 := by
  have hb := byK_pos kind
  have hs := scaleK_pos kind
  unfold stepK at h ⊢
  split
  · rename_i g; rw [if_pos g] at h; cases h
  · rename_i g
    rw [if_neg g] at h
    split
    · dsimp only; omega
    · rename_i s e
      rw [e] at h
      dsimp only at h
      split
      · rename_i k; rw [if_pos k] at h; cases h
      · split
        · dsimp only; omega
        · exact stepQ_pos _ _ _ hb hs.1 (by omega)
theorem stepK_64 (kind : Int) (l : List Attr) : i64 (stepK kind l).1 := by
  cases h : (stepK kind l).2
  · have : (stepK kind l).1 = 0 := by
      unfold stepK at h ⊢
      split
      · rfl
      · rename_i g
        rw [if_neg g] at h
        split
        · rename_i e; rw [e] at h; cases h
        · rename_i s e
          rw [e] at h
          dsimp only at h
          split
          · rfl
          · rename_i k
            rw [if_neg k] at h
            split at h <;> cases h
    rw [this]; exact ⟨by decide, by decide⟩
  · have := stepK_pos kind l h
    unfold i64; omega

/-- the lower bound of a range, as the reference says it -/
theorem leastK_ref (kind : Int) (l : List Attr) : leastK kind l = if (boundK kind l nMin).2 = false ∧ kind = 14 then (0, true) else boundK kind l nMin := by
  unfold leastK
  by_cases h : (boundK kind l nMin).2 = false
  · by_cases k : kind = 14
    · rw [if_pos ⟨h, k⟩, boundK_no _ _ _ h, h]
      simp [k]
    · rw [if_neg (fun g => k g.2), h]
      have : (kind == 14) = false := by simpa using k
      rw [this]
      exact Prod.ext rfl h.symm
  · rw [if_neg (fun g => h g.1)]
    have h : (boundK kind l nMin).2 = true := by simpa using h
    rw [h]
    exact Prod.ext rfl h.symm
theorem fits_self (n s : Int) (h : 0 < s) : fitsB n n s = true := by
  unfold fitsB
  rw [decide_eq_true h]
  simp
end Go.Proofs.YtbhdoocajfkfiaaGreatDoor.stp
