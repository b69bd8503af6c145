/- What number.Parse computes is what 'parseS' says. No program in sight. -/
import Derived.Test.YtbaloklcpfjmeaaGreatDoorNumPure
import Derived.Test.YtbaloklcpfjmeaaGreatDoorStrPure
namespace Go.Proofs.YtbaloklcpfjmeaaGreatDoor.num
open Go.Lib Go.Proofs.YtbaloklcpfjmeaaGreatDoor.str

/-- digits, one at least -/
def digB (l : List UInt8) : Bool := !(l == []) && allDig l

/-- is the form of a number's text wrong? -/
def badB (t : List UInt8) : Bool :=
  ((cut1 46 t).2.2 && !digB (cut1 46 t).2.1) || (!((cut1 46 t).1 == []) && !digB (cut1 46 t).1) || (((cut1 46 t).1 == []) && !(cut1 46 t).2.2)

theorem notDig_46 (l : List UInt8) (h : allDig l = true) : 46 ∉ l := by
  intro hm
  have := List.all_eq_true.1 h 46 hm
  exact absurd this (by decide)

theorem dig_split (l : List UInt8) (h : allDig l = false) : ∃ c r, l.drop (cnt l) = c :: r ∧ c ∈ l := by
  cases hd : l.drop (cnt l) with
  | nil =>
    have h1 := congrArg List.length hd
    simp at h1
    have h2 := cnt_le l
    have h3 := (cnt_all l).1 (by omega)
    rw [h] at h3; cases h3
  | cons c r => exact ⟨c, r, rfl, List.drop_subset (cnt l) l (by rw [hd]; simp)⟩

theorem cnt_app_bad (a b : List UInt8) (h : allDig a = false) : cnt (a ++ b) = cnt a := by
  induction a with
  | nil => cases h
  | cons c a ih =>
    rw [allDig_cons] at h
    rw [List.cons_append]
    unfold cnt
    cases hc : isDig c
    · simp
    · simp [hc] at h
      simp [ih h]

theorem parse_form (neg : Bool) (t : List UInt8) : parseT neg t = if badB t = true then (0, 1) else fin neg (cut1 46 t).1 (cut1 46 t).2.1 := by
  unfold badB digB
  rcases cut1_spec 46 t with ⟨h1, h2, h3⟩ | ⟨h1, h2, h3, h4⟩
  · generalize (cut1 46 t).1 = h at *
    generalize (cut1 46 t).2.1 = p at *
    rw [h1]
    cases hh : allDig h
    · obtain ⟨c, r, e1, e2⟩ := dig_split h hh
      have hc : cnt t = cnt h := by rw [h2]; exact cnt_app_bad h _ hh
      have hd : t.drop (cnt t) = c :: (r ++ 46 :: p) := by
        rw [hc, h2, List.drop_append_of_le_length (cnt_le h), e1]; rfl
      have hne : h ≠ [] := by rintro rfl; cases hh
      rw [parseT_cons neg t c _ hd, if_neg (fun (g : c = 46 ∧ _) => h3 (g.1 ▸ e2)), if_pos]
      simp [hne]
    · have hc : cnt t = h.length := by
        rw [h2, cnt_append h _ hh]
        have : cnt (46 :: p) = 0 := by unfold cnt; rw [if_neg (by decide)]
        omega
      have hd : t.drop (cnt t) = 46 :: p := by rw [hc, h2, List.drop_left]
      rw [parseT_cons neg t 46 p hd]
      have ht : t.take (cnt t) = h := by rw [hc, h2, List.take_left]
      rw [ht]
      by_cases hp : p = []
      · subst hp; simp
      · cases hpd : allDig p
        · simp [hp, hpd]
        · simp [hp, hpd]
  · rw [h1, h2, h3]
    cases hh : allDig t
    · obtain ⟨c, r, e1, e2⟩ := dig_split t hh
      have hne : t ≠ [] := by rintro rfl; cases hh
      rw [parseT_cons neg t c r e1, if_neg (fun (g : c = 46 ∧ _) => h4 (g.1 ▸ e2)), if_pos]
      simp [hne]
    · have hc := (cnt_all t).2 hh
      have hd : t.drop (cnt t) = [] := List.drop_eq_nil_of_le (by omega)
      have ht : t.take (cnt t) = t := List.take_of_length_le (by omega)
      rw [parseT_nil neg t hd, ht, hc]
      cases t with
      | nil => simp
      | cons a b => simp


theorem bad_dig (t : List UInt8) (h : badB t = false) : allDig (cut1 46 t).1 = true ∧ allDig (cut1 46 t).2.1 = true := by
  unfold badB digB at h
  rcases cut1_spec 46 t with ⟨h1, _, _⟩ | ⟨h1, _, h3, _⟩
  · rw [h1] at h
    cases hh : (cut1 46 t).1 with
    | nil => rw [hh] at h; simp at h; exact ⟨rfl, h.2⟩
    | cons a b => rw [hh] at h; simp at h; exact ⟨h.2, h.1.2⟩
  · rw [h1] at h
    rw [h3]
    cases hh : (cut1 46 t).1 with
    | nil => exact ⟨rfl, rfl⟩
    | cons a b => rw [hh] at h; simp at h; exact ⟨h, rfl⟩

/-- the six digits that are read -/
theorem six (q : List UInt8) (hq : allDig q = true) (hl : q.length ≤ 6) :
    allDig (q ++ List.replicate (6 - q.length) 48) = true ∧ val (q ++ List.replicate (6 - q.length) 48) = val q * 10 ^ (6 - q.length) ∧ val (q ++ List.replicate (6 - q.length) 48) ≤ 999999 := by
  have h1 : allDig (q ++ List.replicate (6 - q.length) 48) = true := by
    unfold allDig at *
    rw [List.all_append, hq, Bool.true_and]
    rw [List.all_eq_true]
    intro x hx
    rw [(List.mem_replicate.1 hx).2]; decide
  refine ⟨h1, ?_, ?_⟩
  · rw [val_append, val_zeros, List.length_replicate]; omega
  · have := val_lt _ h1
    rw [List.length_append, List.length_replicate, show q.length + (6 - q.length) = 6 by omega] at this
    omega

end Go.Proofs.YtbaloklcpfjmeaaGreatDoor.num
