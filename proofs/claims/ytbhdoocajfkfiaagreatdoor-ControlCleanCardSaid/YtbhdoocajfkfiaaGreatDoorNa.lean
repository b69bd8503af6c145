/- One step of the reader behind another: plain. Months, weeks, times, days with times: one step of the reader behind another: plain. -/
import Derived.Test.YtbhdoocajfkfiaaGreatDoorNi
import Derived.Test.YtbhdoocajfkfiaaGreatDoorMb
namespace Go.Proofs.YtbhdoocajfkfiaaGreatDoor.mom
open Go.Lib Go.Proofs.YtbhdoocajfkfiaaGreatDoor.num Go.Proofs.YtbhdoocajfkfiaaGreatDoor.days Go.Proofs.YtbhdoocajfkfiaaGreatDoor.cal

def stepRel (F : List UInt8 → Option (Int × List UInt8)) (rest : List UInt8) (bad : Bool) (v : Int) (r2 : List UInt8) (bad2 : Bool) : Prop :=
  int64 v ∧ ((bad2 = false ∧ bad = false ∧ F rest = some (v, r2)) ∨ (bad2 = true ∧ (bad = true ∨ F rest = none)))
theorem step_some {F : List UInt8 → Option (Int × List UInt8)} {rest r2 r' : List UInt8} {v v' : Int} {bad2 : Bool} (h : stepRel F rest false v r2 bad2) (g : F rest = some (v', r')) : v = v' ∧ r2 = r' ∧ bad2 = false := by
  rcases h.2 with ⟨h1, _, h3⟩ | ⟨_, h2 | h2⟩
  · rw [g] at h3
    have := Prod.mk.inj (Option.some.inj h3)
    exact ⟨this.1.symm, this.2.symm, h1⟩
  · cases h2
  · rw [g] at h2; cases h2
theorem step_false {F : List UInt8 → Option (Int × List UInt8)} {rest r2 : List UInt8} {v : Int} {bad : Bool} (h : stepRel F rest bad v r2 false) : bad = false ∧ F rest = some (v, r2) := by
  rcases h.2 with ⟨_, h2, h3⟩ | ⟨h1, _⟩
  · exact ⟨h2, h3⟩
  · cases h1
/-- a step from what is so if nothing is bad, and what must be so if all goes well -/
theorem step_of {F : List UInt8 → Option (Int × List UInt8)} {rest r2 : List UInt8} {v : Int} {bad bad2 : Bool} (hv : int64 v) (h1 : bad2 = false → bad = false ∧ F rest = some (v, r2)) (h2 : bad = false → ∀ v' r', F rest = some (v', r') → bad2 = false) : stepRel F rest bad v r2 bad2 := by
  refine ⟨hv, ?_⟩
  cases hb : bad2
  · left; exact ⟨rfl, h1 hb⟩
  · right
    refine ⟨rfl, ?_⟩
    cases hb0 : bad
    · right
      cases hf : F rest with
      | none => rfl
      | some x =>
        obtain ⟨a, b⟩ := x
        have := h2 hb0 a b hf
        rw [hb] at this; cases this
    · left; rfl

theorem pre1 (c : UInt8) (r : List UInt8) : Lib.hasPrefix r [c] = (r.head? == some c) ∧ Lib.trimPrefix r [c] = if r.head? = some c then r.tail else r := by
  have h : Lib.hasPrefix r [c] = (r.head? == some c) := by
    unfold Lib.hasPrefix
    cases r with
    | nil => rfl
    | cons a t => simp [List.isPrefixOf, Bool.beq_comm]
  refine ⟨h, ?_⟩
  unfold Lib.trimPrefix
  rw [h]
  by_cases g : r.head? = some c
  · rw [if_pos g, if_pos (by simpa using g)]; simp
  · rw [if_neg g, if_neg (by simpa using g)]
theorem sg_false {c : UInt8} {r : List UInt8} {bad : Bool} (h : (bad || !(Lib.hasPrefix r [c])) = false) : bad = false ∧ r = c :: Lib.trimPrefix r [c] := by
  rw [Bool.or_eq_false_iff] at h
  obtain ⟨h1, h2⟩ := h
  obtain ⟨p1, p2⟩ := pre1 c r
  rw [p1] at h2
  have g : r.head? = some c := by simpa using h2
  refine ⟨h1, ?_⟩
  rw [p2, if_pos g]
  cases r with
  | nil => cases g
  | cons a t => cases g; rfl
theorem sg_cons (c : UInt8) (t : List UInt8) : Lib.hasPrefix (c :: t) [c] = true ∧ Lib.trimPrefix (c :: t) [c] = t := by
  obtain ⟨p1, p2⟩ := pre1 c (c :: t)
  rw [p1, p2]
  simp

def twoI (l : List UInt8) : Option (Int × List UInt8) := (two l).map fun x => ((x.1 : Int), x.2)
def yearI (l : List UInt8) : Option (Int × List UInt8) := (yearP l).map fun x => ((x.1 : Int), x.2)
theorem twoI_some {l r : List UInt8} {v : Int} (h : twoI l = some (v, r)) : ∃ n : Nat, two l = some (n, r) ∧ v = n := by
  unfold twoI at h
  cases ht : two l with
  | none => rw [ht] at h; cases h
  | some x => obtain ⟨a, b⟩ := x; rw [ht] at h; cases h; exact ⟨a, rfl, rfl⟩
theorem yearI_some {l r : List UInt8} {v : Int} (h : yearI l = some (v, r)) : ∃ n : Nat, yearP l = some (n, r) ∧ v = n := by
  unfold yearI at h
  cases ht : yearP l with
  | none => rw [ht] at h; cases h
  | some x => obtain ⟨a, b⟩ := x; rw [ht] at h; cases h; exact ⟨a, rfl, rfl⟩
theorem twoI_of {l r : List UInt8} {n : Nat} (h : two l = some (n, r)) : twoI l = some ((n : Int), r) := by unfold twoI; rw [h]; rfl
theorem yearI_of {l r : List UInt8} {n : Nat} (h : yearP l = some (n, r)) : yearI l = some ((n : Int), r) := by unfold yearI; rw [h]; rfl

theorem dig_two (rest r2 : List UInt8) (bad bad2 : Bool) (v : Int) (h : digRel 2 2 rest bad v r2 bad2) : stepRel twoI rest bad v r2 bad2 := by
  obtain ⟨hv, ⟨h1, _, _, h4⟩ | ⟨h1, h2, h3⟩⟩ := h
  · refine ⟨hv, .inr ⟨h4, .inr ?_⟩⟩
    unfold twoI
    cases ht : two rest with
    | none => rfl
    | some x =>
      exfalso
      obtain ⟨n, r⟩ := x
      obtain ⟨a, b, rfl, ha, hb, _⟩ := two_form rest n r ht
      unfold dN at h1
      rw [cnt, if_pos ha, cnt, if_pos hb] at h1
      omega
  · have hn : dN 2 rest = 2 := by unfold dN at *; omega
    rw [hn] at h2 h3
    have hc : 2 ≤ cnt rest := by unfold dN at h1; omega
    match rest, hc with
    | [], hc => simp [cnt] at hc
    | [a], hc => exfalso; have := cnt_le [a]; simp at this; omega
    | a :: b :: t, hc =>
      have ha : isDig a = true := by
        cases h : isDig a
        · rw [cnt, h] at hc; simp at hc
        · rfl
      have hb : isDig b = true := by
        cases h : isDig b
        · rw [cnt, if_pos ha, cnt, h] at hc; simp at hc
        · rfl
      have hval : val ((a :: b :: t).take 2) = dv a * 10 + dv b := by
        show val [a, b] = _
        unfold val
        rw [valFrom_cons, valFrom_cons]
        show (0 * 10 + dv a) * 10 + dv b = _
        omega
      rw [hval] at h3
      have l1 := dv_le a ha
      have l2 := dv_le b hb
      have hr : r2 = t := h2
      subst hr
      rcases h3 with ⟨_, k2, k3⟩ | ⟨k1, _⟩
      · refine step_of hv (fun g => ?_) (fun g v' r' _ => by rw [k3]; exact g)
        rw [k3] at g
        exact ⟨g, by rw [twoI_of (two_of a b r2 ha hb), k2]⟩
      · omega

theorem dig_year (rest r2 : List UInt8) (bad bad2 : Bool) (v : Int) (h : digRel 4 rest.length rest bad v r2 bad2) : stepRel yearI rest bad v r2 (bad2 || !(decide (1 ≤ v) && decide (v ≤ 275760))) := by
  have hcl := cnt_le rest
  have hn : dN rest.length rest = cnt rest := by unfold dN; omega
  obtain ⟨hv, ⟨h1, _, _, h4⟩ | ⟨h1, h2, h3⟩⟩ := h
  · rw [hn] at h1
    have : yearI rest = none := by
      unfold yearI yearP yOk
      rw [decide_eq_false (by omega : ¬ 4 ≤ cnt rest)]; rfl
    rw [h4]
    exact ⟨hv, .inr ⟨rfl, .inr this⟩⟩
  · rw [hn] at h1 h2 h3
    have key : yearI rest = if 1 ≤ val (rest.take (cnt rest)) ∧ val (rest.take (cnt rest)) ≤ 275760 then some (((val (rest.take (cnt rest)) : Nat) : Int), r2) else none := by
      unfold yearI yearP yOk
      rw [decide_eq_true h1, Bool.true_and, h2]
      by_cases g : 1 ≤ val (rest.take (cnt rest)) ∧ val (rest.take (cnt rest)) ≤ 275760
      · rw [if_pos g, if_pos (by simp; exact g)]; rfl
      · rw [if_neg g, if_neg (by simp; omega)]; rfl
    rcases h3 with ⟨_, k2, k3⟩ | ⟨k1, k3⟩
    · refine step_of hv (fun g => ?_) (fun g v' r' hf => ?_)
      · rw [Bool.or_eq_false_iff] at g
        obtain ⟨g1, g2⟩ := g
        rw [k3] at g1
        have g3 : 1 ≤ v ∧ v ≤ 275760 := by simpa using g2
        refine ⟨g1, ?_⟩
        rw [key, if_pos (by omega), k2]
      · rw [key] at hf
        split at hf
        · rename_i gg
          rw [k3, g, k2, decide_eq_true (by omega : (1 : Int) ≤ ((val (rest.take (cnt rest)) : Nat) : Int)), decide_eq_true (by omega : ((val (rest.take (cnt rest)) : Nat) : Int) ≤ 275760)]; rfl
        · cases hf
    · refine ⟨hv, .inr ⟨by rw [k3]; rfl, .inr ?_⟩⟩
      rw [key, if_neg (by omega)]

theorem date_comp (rest r1 r3 r5 : List UInt8) (bad b1 b3 b5 : Bool) (y m d : Int) (h1 : stepRel yearI rest bad y r1 b1) (h2 : stepRel twoI (Lib.trimPrefix r1 [45]) (b1 || !(Lib.hasPrefix r1 [45])) m r3 b3)
    (h3 : stepRel twoI (Lib.trimPrefix r3 [45]) (b3 || !(Lib.hasPrefix r3 [45])) d r5 b5) :
    stepRel dateP rest bad ((numE y m d).1 * 86400000) r5 (b5 || !(decide ((numE y m d).2 = 0))) := by
  have hok : ∀ Y M D : Nat, 1 ≤ Y → Y ≤ 275760 → (dOk Y M D = true ↔ (numE Y M D).2 = 0) := by
    intro Y M D a b
    unfold dOk numE
    simp only [Bool.and_eq_true, decide_eq_true_eq]
    split
    · rename_i g; simp; omega
    · rename_i g; simp; omega
  refine step_of ?_ (fun g => ?_) (fun g v' r' hf => ?_)
  · unfold numE
    split
    · rename_i g
      obtain ⟨g1, g2, g3, g4, g5, g6⟩ := g
      have hy := num_year y m d ⟨g3, g4, g5, g6⟩
      have := newY_bound y g1 (by omega)
      have := newY_bound (y + 1) (by omega) (by omega)
      unfold int64
      constructor <;> omega
    · exact ⟨by decide, by decide⟩
  · rw [Bool.or_eq_false_iff] at g
    obtain ⟨g1, g2⟩ := g
    subst g1
    obtain ⟨e3, f3⟩ := step_false h3
    obtain ⟨e3, s3⟩ := sg_false e3
    subst e3
    obtain ⟨e2, f2⟩ := step_false h2
    obtain ⟨e2, s2⟩ := sg_false e2
    subst e2
    obtain ⟨e1, f1⟩ := step_false h1
    obtain ⟨Y, a1, rfl⟩ := yearI_some f1
    obtain ⟨M, a2, rfl⟩ := twoI_some f2
    obtain ⟨D, a3, rfl⟩ := twoI_some f3
    obtain ⟨ds, _, _, _, y1, y2⟩ := yearR_some rest Y r1 a1
    have hk : (numE Y M D).2 = 0 := by simpa using g2
    have hd := (hok Y M D y1 y2).2 hk
    refine ⟨e1, ?_⟩
    rw [dateP_of rest Y M D r1 _ r3 _ r5 a1 s2 a2 s3 a3 hd]
    unfold numE at hk ⊢
    split
    · rfl
    · rename_i gg; rw [if_neg gg] at hk; exact absurd hk (by decide)
  · obtain ⟨Y, M, D, q1, q2, q3, q4, k1, k2, k3, k4, k5, k6, k7⟩ := dateP_form rest v' r' hf
    subst g
    obtain ⟨rfl, rfl, rfl⟩ := step_some h1 (yearI_of k1)
    subst k2
    obtain ⟨p1, p2⟩ := sg_cons 45 q2
    rw [p1, p2] at h2
    obtain ⟨rfl, rfl, rfl⟩ := step_some h2 (twoI_of k3)
    subst k4
    obtain ⟨p1, p2⟩ := sg_cons 45 q4
    rw [p1, p2] at h3
    obtain ⟨rfl, rfl, rfl⟩ := step_some h3 (twoI_of k5)
    obtain ⟨ds, _, _, _, y1, y2⟩ := yearR_some rest Y _ k1
    rw [decide_eq_true ((hok Y M D y1 y2).1 k6)]; rfl
end Go.Proofs.YtbhdoocajfkfiaaGreatDoor.mom

namespace Go.Proofs.YtbhdoocajfkfiaaGreatDoor.mom
open Go.Lib Go.Proofs.YtbhdoocajfkfiaaGreatDoor.num Go.Proofs.YtbhdoocajfkfiaaGreatDoor.days Go.Proofs.YtbhdoocajfkfiaaGreatDoor.cal

theorem monthP_form (l : List UInt8) (v : Int) (r : List UInt8) (h : monthP l = some (v, r)) : ∃ y m r1 r2, yearP l = some (y, r1) ∧ r1 = 45 :: r2 ∧ two r2 = some (m, r) ∧ (1 ≤ m ∧ m ≤ 12) ∧ v = 12 * ((y : Int) - 1970) + m - 1 := by
  unfold monthP at h
  split at h
  · cases h
  · rename_i y r1 e1
    split at h
    · cases h
    · rename_i r2 e2
      split at h
      · cases h
      · rename_i m r3 e3
        split at h
        · rename_i g
          cases h
          exact ⟨y, m, r1, r2, e1, sgn_form _ _ _ e2, e3, by simpa using g, rfl⟩
        · cases h
theorem monthP_of (l : List UInt8) (y m : Nat) (r2 r : List UInt8) (h1 : yearP l = some (y, 45 :: r2)) (h3 : two r2 = some (m, r)) (h6 : 1 ≤ m ∧ m ≤ 12) : monthP l = some (12 * ((y : Int) - 1970) + m - 1, r) := by
  unfold monthP
  rw [h1]
  simp only [sgn_of, h3]
  rw [if_pos (by simpa using h6)]

theorem month_comp (rest r1 r3 : List UInt8) (bad b1 b3 : Bool) (y m v : Int) (h1 : stepRel yearI rest bad y r1 b1) (h2 : stepRel twoI (Lib.trimPrefix r1 [45]) (b1 || !(Lib.hasPrefix r1 [45])) m r3 b3)
    (hv : int64 v) (hx : 1 ≤ y → y ≤ 275760 → 0 ≤ m → m < 100 → v = 12 * (y - 1970) + m - 1) :
    stepRel monthP rest bad v r3 (b3 || !(decide (1 ≤ m) && decide (m ≤ 12))) := by
  refine step_of hv (fun g => ?_) (fun g v' r' hf => ?_)
  · rw [Bool.or_eq_false_iff] at g
    obtain ⟨g1, g2⟩ := g
    subst g1
    obtain ⟨e2, f2⟩ := step_false h2
    obtain ⟨e2, s2⟩ := sg_false e2
    subst e2
    obtain ⟨e1, f1⟩ := step_false h1
    obtain ⟨Y, a1, rfl⟩ := yearI_some f1
    obtain ⟨M, a2, rfl⟩ := twoI_some f2
    obtain ⟨ds, _, _, _, y1, y2⟩ := yearR_some rest Y r1 a1
    have hm := two_lt _ _ _ a2
    have g3 : 1 ≤ M ∧ M ≤ 12 := by
      have : (1 : Int) ≤ M ∧ (M : Int) ≤ 12 := by simpa using g2
      omega
    rw [s2] at a1
    refine ⟨e1, ?_⟩
    rw [monthP_of rest Y M _ r3 a1 a2 g3, hx (by omega) (by omega) (by omega) (by omega)]
  · obtain ⟨Y, M, q1, q2, k1, k2, k3, k6, k7⟩ := monthP_form rest v' r' hf
    subst g
    obtain ⟨rfl, rfl, rfl⟩ := step_some h1 (yearI_of k1)
    subst k2
    obtain ⟨p1, p2⟩ := sg_cons 45 q2
    rw [p1, p2] at h2
    obtain ⟨rfl, rfl, rfl⟩ := step_some h2 (twoI_of k3)
    rw [decide_eq_true (by omega : (1 : Int) ≤ M), decide_eq_true (by omega : (M : Int) ≤ 12)]; rfl

theorem pre2_cons (a b : UInt8) (r : List UInt8) : Lib.hasPrefix r [a, b] = true ↔ ∃ t, r = a :: b :: t := by
  unfold Lib.hasPrefix
  match r with
  | [] => simp [List.isPrefixOf]
  | [x] => simp [List.isPrefixOf]
  | x :: y :: t =>
    simp [List.isPrefixOf]
    constructor
    · rintro ⟨h1, h2⟩; exact ⟨h1.symm, h2.symm⟩
    · rintro ⟨h1, h2⟩; exact ⟨h1.symm, h2.symm⟩
theorem sg2_false {a b : UInt8} {r : List UInt8} {bad : Bool} (h : (bad || !(Lib.hasPrefix r [a, b])) = false) : bad = false ∧ r = a :: b :: Lib.trimPrefix r [a, b] := by
  rw [Bool.or_eq_false_iff] at h
  obtain ⟨h1, h2⟩ := h
  have h3 : Lib.hasPrefix r [a, b] = true := by simpa using h2
  obtain ⟨t, rfl⟩ := (pre2_cons a b r).1 h3
  refine ⟨h1, ?_⟩
  unfold Lib.trimPrefix
  rw [if_pos h3]; rfl
theorem sg2_cons (a b : UInt8) (t : List UInt8) : Lib.hasPrefix (a :: b :: t) [a, b] = true ∧ Lib.trimPrefix (a :: b :: t) [a, b] = t := by
  have h3 : Lib.hasPrefix (a :: b :: t) [a, b] = true := (pre2_cons a b _).2 ⟨t, rfl⟩
  refine ⟨h3, ?_⟩
  unfold Lib.trimPrefix
  rw [if_pos h3]; rfl

theorem weekP_form (l : List UInt8) (v : Int) (r : List UInt8) (h : weekP l = some (v, r)) : ∃ y w r1 r2, yearP l = some (y, r1) ∧ r1 = 45 :: 87 :: r2 ∧ two r2 = some (w, r) ∧ wOk y w = true ∧ v = (firstW y + 7 * ((w : Int) - 1)) * 86400000 := by
  unfold weekP at h
  split at h
  · cases h
  · rename_i y r1 e1
    split at h
    · cases h
    · rename_i r2 e2
      split at h
      · cases h
      · rename_i r2' e2'
        split at h
        · cases h
        · rename_i m r3 e3
          split at h
          · rename_i g
            cases h
            have := sgn_form _ _ _ e2
            rw [sgn_form _ _ _ e2'] at this
            exact ⟨y, m, r1, r2', e1, this, e3, g, rfl⟩
          · cases h
theorem weekP_of (l : List UInt8) (y w : Nat) (r2 r : List UInt8) (h1 : yearP l = some (y, 45 :: 87 :: r2)) (h3 : two r2 = some (w, r)) (h6 : wOk y w = true) : weekP l = some ((firstW y + 7 * ((w : Int) - 1)) * 86400000, r) := by
  unfold weekP
  rw [h1]
  simp only [sgn_of, h3, h6, if_true]

theorem week_comp (rest r1 r3 : List UInt8) (bad b1 b3 : Bool) (y w : Int) (h1 : stepRel yearI rest bad y r1 b1) (h2 : stepRel twoI (Lib.trimPrefix r1 [45, 87]) (b1 || !(Lib.hasPrefix r1 [45, 87])) w r3 b3) :
    stepRel weekP rest bad ((monE y w).1 * 86400000) r3 (b3 || !(decide ((monE y w).2 = 0))) := by
  have hok : ∀ Y W : Nat, 1 ≤ Y → Y ≤ 275760 → (wOk Y W = true ↔ (monE Y W).2 = 0) := by
    intro Y W a b
    unfold wOk monE
    simp only [Bool.and_eq_true, decide_eq_true_eq]
    split
    · rename_i g; simp; omega
    · rename_i g; simp; omega
  refine step_of ?_ (fun g => ?_) (fun g v' r' hf => ?_)
  · unfold monE
    split
    · rename_i g
      have := firstW_bound y (by omega) (by omega)
      have := weeksW_pos y
      unfold int64
      constructor <;> omega
    · exact ⟨by decide, by decide⟩
  · rw [Bool.or_eq_false_iff] at g
    obtain ⟨g1, g2⟩ := g
    subst g1
    obtain ⟨e2, f2⟩ := step_false h2
    obtain ⟨e2, s2⟩ := sg2_false e2
    subst e2
    obtain ⟨e1, f1⟩ := step_false h1
    obtain ⟨Y, a1, rfl⟩ := yearI_some f1
    obtain ⟨M, a2, rfl⟩ := twoI_some f2
    obtain ⟨ds, _, _, _, y1, y2⟩ := yearR_some rest Y r1 a1
    have hk : (monE Y M).2 = 0 := by simpa using g2
    rw [s2] at a1
    refine ⟨e1, ?_⟩
    rw [weekP_of rest Y M _ r3 a1 a2 ((hok Y M y1 y2).2 hk)]
    unfold monE at hk ⊢
    split
    · rfl
    · rename_i gg; rw [if_neg gg] at hk; exact absurd hk (by decide)
  · obtain ⟨Y, M, q1, q2, k1, k2, k3, k6, k7⟩ := weekP_form rest v' r' hf
    subst g
    obtain ⟨rfl, rfl, rfl⟩ := step_some h1 (yearI_of k1)
    subst k2
    obtain ⟨p1, p2⟩ := sg2_cons 45 87 q2
    rw [p1, p2] at h2
    obtain ⟨rfl, rfl, rfl⟩ := step_some h2 (twoI_of k3)
    obtain ⟨ds, _, _, _, y1, y2⟩ := yearR_some rest Y _ k1
    rw [decide_eq_true ((hok Y M y1 y2).1 k6)]; rfl

/-- what digits of two at most have for a number -/
theorem dig2_small (rest r2 : List UInt8) (bad bad2 : Bool) (v : Int) (least most : Nat) (hm : most ≤ 3) (h : digRel least most rest bad v r2 bad2) : 0 ≤ v ∧ v ≤ 999 := by
  obtain ⟨hv, ⟨_, h2, _, _⟩ | ⟨h1, h2, h3⟩⟩ := h
  · omega
  · have hl : dN most rest ≤ 3 := by unfold dN; omega
    have hd := allDig_take rest (dN most rest) (by unfold dN; omega)
    have := val_lt _ hd
    have hlen : (rest.take (dN most rest)).length ≤ 3 := by rw [List.length_take]; omega
    have hp : 10 ^ (rest.take (dN most rest)).length ≤ 10 ^ 3 := Nat.pow_le_pow_right (by decide) hlen
    rcases h3 with ⟨_, k, _⟩ | ⟨k, _⟩ <;> omega

def thouI (l : List UInt8) : Option (Int × List UInt8) := (thou l).map fun x => ((x.1 : Int), x.2)
theorem dig_thou (u r7 : List UInt8) (bad b7 : Bool) (v : Int) (h : digRel 1 3 u bad v r7 b7) :
    r7.length ≤ u.length ∧ u.length - r7.length ≤ 3 ∧ stepRel thouI u bad (v * 10 ^ (3 - (u.length - r7.length))) r7 b7 := by
  have hs := dig2_small u r7 bad b7 v 1 3 (by omega) h
  obtain ⟨hv, ⟨h1, h2, h3, h4⟩ | ⟨h1, h2, h3⟩⟩ := h
  · subst h3
    refine ⟨Nat.le_refl _, by omega, ?_⟩
    rw [h2, Int.zero_mul]
    refine ⟨⟨by decide, by decide⟩, .inr ⟨h4, .inr ?_⟩⟩
    unfold thouI thou dN at *
    simp only []
    rw [if_pos (by omega)]; rfl
  · have hn3 : dN 3 u ≤ 3 := by unfold dN; omega
    have hcu := cnt_le u
    have hnu : dN 3 u ≤ u.length := by unfold dN; omega
    have hl : u.length - r7.length = dN 3 u ∧ r7.length ≤ u.length := by rw [h2, List.length_drop]; omega
    refine ⟨hl.2, by omega, ?_⟩
    rw [hl.1]
    have hp : (10 : Int) ^ (3 - dN 3 u) ≤ 100 := by
      have : dN 3 u = 1 ∨ dN 3 u = 2 ∨ dN 3 u = 3 := by omega
      rcases this with e | e | e <;> rw [e] <;> decide
    have hp0 : (0 : Int) ≤ (10 : Int) ^ (3 - dN 3 u) := by
      have : dN 3 u = 1 ∨ dN 3 u = 2 ∨ dN 3 u = 3 := by omega
      rcases this with e | e | e <;> rw [e] <;> decide
    have hb : 0 ≤ v * 10 ^ (3 - dN 3 u) ∧ v * 10 ^ (3 - dN 3 u) ≤ 999 * 100 := ⟨Int.mul_nonneg hs.1 hp0, Int.mul_le_mul hs.2 hp hp0 (by decide)⟩
    have ht : thouI u = some (((val (u.take (dN 3 u)) * 10 ^ (3 - dN 3 u) : Nat) : Int), r7) := by
      unfold thouI thou
      simp only []
      show Option.map _ (if dN 3 u = 0 then none else some (val (u.take (dN 3 u)) * 10 ^ (3 - dN 3 u), u.drop (dN 3 u))) = _
      rw [if_neg (by omega), h2]; rfl
    have hlt := val_lt _ (allDig_take u (dN 3 u) (by unfold dN; omega))
    have hlen : (u.take (dN 3 u)).length ≤ 3 := by rw [List.length_take]; omega
    have hpp : 10 ^ (u.take (dN 3 u)).length ≤ 10 ^ 3 := Nat.pow_le_pow_right (by decide) hlen
    rcases h3 with ⟨_, k2, k3⟩ | ⟨k1, _⟩
    · refine step_of ⟨by omega, by omega⟩ (fun g => ?_) (fun g v' r' _ => by rw [k3]; exact g)
      rw [k3] at g
      refine ⟨g, ?_⟩
      rw [ht, k2]
      simp
    · omega
end Go.Proofs.YtbhdoocajfkfiaaGreatDoor.mom
