/- Times, and days with times, as steps bound together: plain. -/
import Derived.Test.YtfmelhpegcpbiaaGreatDoorZSteps2
namespace Go.Proofs.YtfmelhpegcpbiaaGreatDoor.mom
open Go.Lib Go.Proofs.YtfmelhpegcpbiaaGreatDoor.num Go.Proofs.YtfmelhpegcpbiaaGreatDoor.days Go.Proofs.YtfmelhpegcpbiaaGreatDoor.cal

theorem step_bind {F : List UInt8 → Option (Int × List UInt8)} {K : Int → List UInt8 → Option (Int × List UInt8)} {rest r r2 : List UInt8} {bad b b2 : Bool} {v v2 : Int}
    (h1 : stepRel F rest bad v r b) (h2 : stepRel (K v) r b v2 r2 b2) : stepRel (fun l => (F l).bind fun x => K x.1 x.2) rest bad v2 r2 b2 := by
  refine step_of h2.1 (fun g => ?_) (fun g v' r' hf => ?_)
  · subst g
    obtain ⟨e1, f1⟩ := step_false h2
    subst e1
    obtain ⟨e2, f2⟩ := step_false h1
    exact ⟨e2, by rw [f2]; exact f1⟩
  · subst g
    cases hF : F rest with
    | none => rw [hF] at hf; cases hf
    | some x =>
      obtain ⟨a, q⟩ := x
      rw [hF] at hf
      obtain ⟨rfl, rfl, rfl⟩ := step_some h1 hF
      exact (step_some h2 hf).2.2
theorem step_eq {F F' : List UInt8 → Option (Int × List UInt8)} {rest r2 : List UInt8} {bad b2 : Bool} {v : Int} (h : stepRel F rest bad v r2 b2) (e : F rest = F' rest) : stepRel F' rest bad v r2 b2 := by
  unfold stepRel at *; rw [← e]; exact h
theorem step_stay {F : List UInt8 → Option (Int × List UInt8)} {rest : List UInt8} {bad : Bool} {v : Int} (hv : int64 v) (e : F rest = some (v, rest)) : stepRel F rest bad v rest bad := by
  refine ⟨hv, ?_⟩
  cases bad
  · left; exact ⟨rfl, rfl, e⟩
  · right; exact ⟨rfl, .inl rfl⟩

/-- hours and minutes -/
def timeH (l : List UInt8) : Option (Int × List UInt8) :=
  match two l with
  | none => none
  | some (h, r) => match sgn 58 r with
    | none => none
    | some r => match two r with
      | none => none
      | some (m, r) => if decide (h < 24) && decide (m < 60) then some ((((h * 60 + m) * 60000 : Nat) : Int), r) else none
def secH (l : List UInt8) : Option (Int × List UInt8) := (two l).bind fun x => if x.1 < 60 then some ((x.1 : Int), x.2) else none
def secU (n : Int) (r : List UInt8) : Option (Int × List UInt8) := if r.head? = some 46 then (thouI r.tail).map fun x => (n + x.1, x.2) else some (n, r)
def minU (n : Int) (r : List UInt8) : Option (Int × List UInt8) := if r.head? = some 58 then (secH r.tail).bind (fun x => secU (n + 1000 * x.1) x.2) else some (n, r)

theorem secU_eq (n : Nat) (r : List UInt8) : secU n r = secT n r := by
  unfold secU secT
  by_cases h : r.head? = some 46
  · rw [if_pos h, if_pos h]
    unfold thouI
    cases thou r.tail with
    | none => rfl
    | some x => obtain ⟨a, b⟩ := x; simp
  · rw [if_neg h, if_neg h]
theorem minU_eq (n : Nat) (r : List UInt8) : minU n r = minT n r := by
  unfold minU minT
  by_cases h : r.head? = some 58
  · rw [if_pos h, if_pos h]
    unfold secH secP
    cases two r.tail with
    | none => rfl
    | some x =>
      obtain ⟨s, q⟩ := x
      simp only [Option.bind_some]
      by_cases hs : s < 60
      · rw [if_pos hs, if_pos hs]
        simp only [Option.bind_some]
        rw [← secU_eq]
        congr 1
      · rw [if_neg hs, if_neg hs]; rfl
  · rw [if_neg h, if_neg h]
theorem time_bind (l : List UInt8) : (timeH l).bind (fun x => minU x.1 x.2) = timeP l := by
  unfold timeH timeP
  cases two l with
  | none => rfl
  | some x =>
    obtain ⟨h, r⟩ := x
    dsimp only
    cases sgn 58 r with
    | none => rfl
    | some r =>
      dsimp only
      cases two r with
      | none => rfl
      | some x =>
        obtain ⟨m, r⟩ := x
        dsimp only
        by_cases g : (decide (h < 24) && decide (m < 60)) = true
        · rw [if_pos g, if_pos g]
          exact minU_eq _ _
        · rw [if_neg g, if_neg g]; rfl

theorem timeH_form (l : List UInt8) (v : Int) (r : List UInt8) (e : timeH l = some (v, r)) : ∃ h m r1 r2, two l = some (h, r1) ∧ r1 = 58 :: r2 ∧ two r2 = some (m, r) ∧ h < 24 ∧ m < 60 ∧ v = (((h * 60 + m) * 60000 : Nat) : Int) := by
  unfold timeH at e
  split at e
  · cases e
  · rename_i h r1 e1
    split at e
    · cases e
    · rename_i r2 e2
      split at e
      · cases e
      · rename_i m r3 e3
        split at e
        · rename_i g
          cases e
          have : h < 24 ∧ m < 60 := by simpa using g
          exact ⟨h, m, r1, r2, e1, sgn_form _ _ _ e2, e3, this.1, this.2, rfl⟩
        · cases e
theorem timeH_of (l : List UInt8) (h m : Nat) (r2 r : List UInt8) (h1 : two l = some (h, 58 :: r2)) (h3 : two r2 = some (m, r)) (h5 : h < 24) (h6 : m < 60) : timeH l = some ((((h * 60 + m) * 60000 : Nat) : Int), r) := by
  unfold timeH
  rw [h1]
  simp only [sgn_of, h3]
  rw [if_pos (by simp; exact ⟨h5, h6⟩)]

theorem timeH_comp (rest r1 r3 : List UInt8) (bad b1 b3 : Bool) (h m : Int) (hh : 0 ≤ h ∧ h ≤ 999) (hm : 0 ≤ m ∧ m ≤ 999) (h1 : stepRel twoI rest bad h r1 b1) (h2 : stepRel twoI (Lib.trimPrefix r1 [58]) (b1 || !(Lib.hasPrefix r1 [58])) m r3 b3) :
    stepRel timeH rest bad ((h * 60 + m) * 60000) r3 (b3 || !(decide (h < 24) && decide (m < 60))) := by
  refine step_of ⟨by omega, by omega⟩ (fun g => ?_) (fun g v' r' hf => ?_)
  · rw [Bool.or_eq_false_iff] at g
    obtain ⟨g1, g2⟩ := g
    subst g1
    obtain ⟨e2, f2⟩ := step_false h2
    obtain ⟨e2, s2⟩ := sg_false e2
    subst e2
    obtain ⟨e1, f1⟩ := step_false h1
    obtain ⟨H, a1, rfl⟩ := twoI_some f1
    obtain ⟨M, a2, rfl⟩ := twoI_some f2
    rw [s2] at a1
    have g3 : (H : Int) < 24 ∧ (M : Int) < 60 := by simpa using g2
    refine ⟨e1, ?_⟩
    rw [timeH_of rest H M _ r3 a1 a2 (by omega) (by omega)]
    simp
  · obtain ⟨H, M, q1, q2, k1, k2, k3, k5, k6, k7⟩ := timeH_form rest v' r' hf
    subst g
    obtain ⟨rfl, rfl, rfl⟩ := step_some h1 (twoI_of k1)
    subst k2
    obtain ⟨p1, p2⟩ := sg_cons 58 q2
    rw [p1, p2] at h2
    obtain ⟨rfl, rfl, rfl⟩ := step_some h2 (twoI_of k3)
    rw [decide_eq_true (by omega : (H : Int) < 24), decide_eq_true (by omega : (M : Int) < 60)]; rfl

theorem secH_comp (rest r1 : List UInt8) (bad b1 : Bool) (s : Int) (h1 : stepRel twoI rest bad s r1 b1) : stepRel secH rest bad s r1 (b1 || !(decide (s < 60))) := by
  refine step_of h1.1 (fun g => ?_) (fun g v' r' hf => ?_)
  · rw [Bool.or_eq_false_iff] at g
    obtain ⟨g1, g2⟩ := g
    subst g1
    obtain ⟨e1, f1⟩ := step_false h1
    obtain ⟨S, a1, rfl⟩ := twoI_some f1
    have : (S : Int) < 60 := by simpa using g2
    refine ⟨e1, ?_⟩
    unfold secH
    rw [a1]
    show (if S < 60 then _ else _) = _
    rw [if_pos (by omega)]
  · subst g
    unfold secH at hf
    cases ht : two rest with
    | none => rw [ht] at hf; cases hf
    | some x =>
      obtain ⟨S, q⟩ := x
      rw [ht] at hf
      have hf2 : (if S < 60 then some ((S : Int), q) else none) = some (v', r') := hf
      obtain ⟨rfl, rfl, rfl⟩ := step_some h1 (twoI_of ht)
      by_cases hs : S < 60
      · rw [decide_eq_true (by omega : (S : Int) < 60)]; rfl
      · rw [if_neg hs] at hf2; cases hf2

/-- a time without seconds; with seconds; with thousandths -/
theorem time_A (rest r3 : List UInt8) (bad b4 : Bool) (n : Int) (h : stepRel timeH rest bad n r3 b4) (hh : r3.head? ≠ some 58) : stepRel timeP rest bad n r3 b4 :=
  step_eq (step_bind h (step_stay h.1 (by unfold minU; rw [if_neg hh]))) (time_bind rest)
theorem time_B (rest r3 t r5 : List UInt8) (bad b4 b6 : Bool) (n s : Int) (h : stepRel timeH rest bad n r3 b4) (hh : r3 = 58 :: t) (h2 : stepRel secH t b4 s r5 b6) (h3 : r5.head? ≠ some 46) (hv : int64 (n + 1000 * s)) :
    stepRel timeP rest bad (n + 1000 * s) r5 b6 := by
  refine step_eq (step_bind h ?_) (time_bind rest)
  have : stepRel (fun l => (secH l).bind fun x => secU (n + 1000 * x.1) x.2) t b4 (n + 1000 * s) r5 b6 :=
    step_bind (K := fun v l => secU (n + 1000 * v) l) h2 (step_stay hv (by show secU (n + 1000 * s) r5 = _; unfold secU; rw [if_neg h3]))
  unfold stepRel at *
  have e : minU n r3 = (secH t).bind (fun x => secU (n + 1000 * x.1) x.2) := by rw [hh]; unfold minU; rw [if_pos (show (58 :: t).head? = some 58 from rfl)]; rfl
  rw [e]; exact this
theorem time_C (rest r3 t r5 u r7 : List UInt8) (bad b4 b6 b7 : Bool) (n s p : Int) (h : stepRel timeH rest bad n r3 b4) (hh : r3 = 58 :: t) (h2 : stepRel secH t b4 s r5 b6) (h3 : r5 = 46 :: u) (h4 : stepRel thouI u b6 p r7 b7) (hv : int64 (n + 1000 * s + p)) :
    stepRel timeP rest bad (n + 1000 * s + p) r7 b7 := by
  refine step_eq (step_bind h ?_) (time_bind rest)
  have k1 : stepRel (secU (n + 1000 * s)) r5 b6 (n + 1000 * s + p) r7 b7 := by
    have e : secU (n + 1000 * s) r5 = (thouI u).map fun x => (n + 1000 * s + x.1, x.2) := by rw [h3]; unfold secU; rw [if_pos (show (46 :: u).head? = some 46 from rfl)]; rfl
    refine step_of hv (fun g => ?_) (fun g v' r' hf => ?_)
    · subst g
      obtain ⟨e1, f1⟩ := step_false h4
      exact ⟨e1, by rw [e, f1]; rfl⟩
    · subst g
      rw [e] at hf
      cases ht : thouI u with
      | none => rw [ht] at hf; cases hf
      | some x => obtain ⟨a, b⟩ := x; exact (step_some h4 ht).2.2
  have : stepRel (fun l => (secH l).bind fun x => secU (n + 1000 * x.1) x.2) t b4 (n + 1000 * s + p) r7 b7 := step_bind (K := fun v l => secU (n + 1000 * v) l) h2 k1
  unfold stepRel at *
  have e : minU n r3 = (secH t).bind (fun x => secU (n + 1000 * x.1) x.2) := by rw [hh]; unfold minU; rw [if_pos (show (58 :: t).head? = some 58 from rfl)]; rfl
  rw [e]; exact this

theorem local_comp (rest r1 r2 r3 : List UInt8) (bad b1 b2 b3 : Bool) (d t v : Int) (h1 : stepRel dateP rest bad d r1 b1)
    (hm : (∃ c, isMid c = true ∧ r1 = c :: r2 ∧ b2 = b1) ∨ ((∀ c q, r1 = c :: q → isMid c = false) ∧ b2 = true))
    (h2 : stepRel timeP r2 b2 t r3 b3) (hv : int64 v) (hx : b3 = false → v = d + t) : stepRel localP rest bad v r3 b3 := by
  refine step_of hv (fun g => ?_) (fun g v' r' hf => ?_)
  · have hvv := hx g
    subst g
    obtain ⟨e1, f1⟩ := step_false h2
    rcases hm with ⟨c, c1, c2, c3⟩ | ⟨_, c3⟩
    · rw [e1] at c3
      subst c3
      obtain ⟨e2, f2⟩ := step_false h1
      subst c2
      exact ⟨e2, by rw [localP_of rest d t c r2 r3 f2 c1 f1, hvv]⟩
    · rw [c3] at e1; cases e1
  · obtain ⟨d', q1, c, q2, t', k1, k2, k3, k4, k5⟩ := localP_form rest v' r' hf
    subst g
    obtain ⟨rfl, rfl, rfl⟩ := step_some h1 k1
    rcases hm with ⟨c', c1, c2, c3⟩ | ⟨c2, _⟩
    · rw [k2] at c2
      obtain ⟨rfl, rfl⟩ := List.cons.inj c2
      subst c3
      exact (step_some h2 k4).2.2
    · rw [c2 c q2 k2] at k3; cases k3
end Go.Proofs.YtfmelhpegcpbiaaGreatDoor.mom
