/- A region that draws its order, by what holds of each operation's slot once it has been done. -/
import Derived.Lib.Hide
import Derived.Lib.ItoaMem
import Derived.Orders
import Derived.ProofKit
import Derived.WalkKit
import Derived.WalkSmall
import Derived.Test.YtkhgfngppcemlaaGreatDoorRows
import Derived.Test.YtkhgfngppcemlaaGreatDoorP1
namespace Go.Proofs.YtkhgfngppcemlaaGreatDoor.scr
open Go Go.RowKit

theorem wpAny_inv {P : Program} {md : Region.Mode} {ops : Array Oper} {Q : Exit → Act → World → Prop} (I : Nat → Array Bool → Act → World → Prop)
    (h0 : ∀ l a w, I 0 l a w → Region.ready md ops l = [] ∧ Q .normal a w)
    (hs : ∀ n l a w, I (n + 1) l a w → Region.ready md ops l ≠ [] ∧ ∀ i ∈ Region.ready md ops l, wpOp P ops Q i (I n (l.setIfInBounds i true)) a w) :
    ∀ n l a w, I n l a w → wpAny P md ops Q n l a w := by
  intro n
  induction n with
  | zero => intro l a w h; exact h0 l a w h
  | succ n ih =>
    intro l a w h
    obtain ⟨h1, h2⟩ := hs n l a w h
    exact ⟨fun e => absurd e h1, fun i hi => wpOp_mono (fun a w hh => ih _ a w hh) (h2 i hi)⟩
/-- what has been done: as many as are left are told by n -/
def Off (l : Array Bool) (n : Nat) : Prop := l.toList.countP (· == false) = n
theorem count_set : ∀ (l : List Bool) (i : Nat), l[i]? = some false → (l.set i true).countP (· == false) + 1 = l.countP (· == false) := by
  intro l
  induction l with
  | nil => intro i h; cases h
  | cons x r ih =>
    intro i h
    cases i with
    | zero =>
      obtain rfl : x = false := by simpa using h
      simp
    | succ i =>
      have := ih i (by simpa using h)
      simp only [List.set_cons_succ, List.countP_cons]
      omega
theorem Off.set {l : Array Bool} {n i : Nat} (h : Off l (n + 1)) (hi : l[i]? = some false) : Off (l.setIfInBounds i true) n := by
  unfold Off at *
  rw [Array.toList_setIfInBounds]
  have := count_set l.toList i (by rw [Array.getElem?_toList]; exact hi)
  omega
theorem Off.zero {l : Array Bool} (h : Off l 0) (i : Nat) (hi : i < l.size) : l[i]? = some true := by
  unfold Off at h
  rw [List.countP_eq_zero] at h
  rw [Array.getElem?_eq_getElem hi]
  have := h l[i] (Array.mem_toList_iff.2 (Array.getElem_mem hi))
  revert this
  cases l[i] <;> simp
theorem Off.some {l : Array Bool} {n : Nat} (h : Off l (n + 1)) : ∃ i : Nat, l[i]? = some false := by
  unfold Off at h
  have : 0 < l.toList.countP (· == false) := by omega
  obtain ⟨x, hx, he⟩ := List.countP_pos_iff.1 this
  obtain rfl : x = false := by simpa using he
  obtain ⟨i, hi, e⟩ := List.mem_iff_getElem.1 hx
  refine ⟨i, ?_⟩
  rw [← Array.getElem?_toList, List.getElem?_eq_getElem hi, e]
theorem Off.all (k : Nat) : Off (Array.replicate k false) k := by
  unfold Off
  rw [Array.toList_replicate, List.countP_replicate]
  simp
/-- the edges of one operation are met -/
def Met (ops : Array Oper) (l : Array Bool) (i : Nat) : Prop := ∀ o, ops[i]? = some o → ∀ e ∈ o.after.toList, l.getD e.on false = true
theorem on_some {l : Array Bool} {i : Nat} (h : l.getD i false = true) : l[i]? = some true := by
  rw [Array.getD_eq_getD_getElem?] at h
  cases g : l[i]? with
  | none => rw [g] at h; cases h
  | some x => rw [g] at h; exact congrArg some h
theorem ready_off {ops : Array Oper} {l : Array Bool} {i : Nat} (hb : ∀ o ∈ ops, ∀ e ∈ o.after, Region.binds .any e = true) (h : i ∈ Region.ready .any ops l) : i < ops.size ∧ l[i]? = some false ∧ Met ops l i := by
  unfold Region.ready at h
  rw [List.mem_filter, List.mem_range, Bool.and_eq_true] at h
  obtain ⟨h1, h2, h3⟩ := h
  refine ⟨h1, ?_, ?_⟩
  · rw [Array.getD_eq_getD_getElem?] at h2
    cases g : l[i]? with
    | none => rw [g] at h2; cases h2
    | some x =>
      rw [g] at h2
      cases x
      · rfl
      · cases h2
  · intro o ho e he
    rw [ho] at h3
    have h4 : (o.after.all fun e => !Region.binds .any e || l.getD e.on false) = true := h3
    rw [Array.all_eq_true'] at h4
    have := h4 e (Array.mem_toList_iff.1 he)
    rw [hb o (Array.mem_of_getElem? ho) e (Array.mem_toList_iff.1 he)] at this
    simpa using this
theorem ready_some {ops : Array Oper} {l : Array Bool} (hl : l.size = ops.size) (hlt : ∀ (i : Nat) (o : Oper), ops[i]? = some o → ∀ e ∈ o.after, e.on < i) (h : ∃ i : Nat, l[i]? = some false) : Region.ready .any ops l ≠ [] := by
  obtain ⟨i, hi⟩ := h
  have key : ∀ n i : Nat, i ≤ n → l[i]? = some false → ∃ j, j ∈ Region.ready .any ops l := by
    intro n
    induction n with
    | zero =>
      intro i hin hi
      obtain rfl : i = 0 := by omega
      have h0 : 0 < l.size := (Array.getElem?_eq_some_iff.1 hi).1
      refine ⟨0, ?_⟩
      unfold Region.ready
      rw [List.mem_filter, List.mem_range, Bool.and_eq_true]
      refine ⟨by omega, by rw [Array.getD_eq_getD_getElem?, hi]; rfl, ?_⟩
      have ho : ops[0]? = some ops[0] := Array.getElem?_eq_getElem (by omega)
      rw [ho]
      show (Array.all _ _) = true
      rw [Array.all_eq_true']
      intro e he
      exact absurd (hlt 0 _ ho e he) (Nat.not_lt_zero _)
    | succ n ih =>
      intro i hin hi
      by_cases hd : ∃ j, j < i ∧ l[j]? = some false
      · obtain ⟨j, hj, hj2⟩ := hd
        exact ih j (by omega) hj2
      · have h0 : i < l.size := (Array.getElem?_eq_some_iff.1 hi).1
        refine ⟨i, ?_⟩
        unfold Region.ready
        rw [List.mem_filter, List.mem_range, Bool.and_eq_true]
        refine ⟨by omega, by rw [Array.getD_eq_getD_getElem?, hi]; rfl, ?_⟩
        have ho : ops[i]? = some ops[i] := Array.getElem?_eq_getElem (by omega)
        rw [ho]
        show (Array.all _ _) = true
        rw [Array.all_eq_true']
        intro e he
        have hlt' := hlt i _ ho e he
        have : l[e.on]? = some true := by
          rw [Array.getElem?_eq_getElem (by omega)]
          cases g : l[e.on]'(by omega)
          · exact absurd ⟨e.on, hlt', by rw [Array.getElem?_eq_getElem (by omega), g]⟩ hd
          · rfl
        rw [Array.getD_eq_getD_getElem?, this]
        simp
  obtain ⟨j, hj⟩ := key i i (Nat.le_refl _) hi
  intro e
  rw [e] at hj
  cases hj
/-- one operation, as a list of one -/
def Ex (K : Act → World → Prop) (Q : Exit → Act → World → Prop) (e : Exit) (a : Act) (w : World) : Prop :=
  match e with
  | .normal => K a w
  | x => Q x a w
theorem wpOp_list {P : Program} {ops : Array Oper} {Q : Exit → Act → World → Prop} {i : Nat} {o : Oper} {K : Act → World → Prop} {a : Act} {w : World} (ho : ops[i]? = some o) (hg : o.guard = none) (h : wpList P ops (Ex K Q) [o] a w) : wpOp P ops Q i K a w := by
  unfold wpOp
  rw [ho]
  have hw : Region.wanted o (yielded ops a.tmps) = true := by simp [Region.wanted, hg]
  simp only []
  rw [if_pos hw]
  unfold wpList at h
  rw [if_pos hw] at h
  rcases h with h | ⟨h1, h2⟩
  · left
    unfold Oper.wp at *
    generalize (execOp a.eval o).run P w = r at *
    cases r with
    | ok x w' =>
      cases x <;> simp only [Oper.upon] at h ⊢ <;> first
        | exact h
        | exact Calls.mono h (fun e w'' he => by cases e <;> exact he)
        | exact Rows.mono h (fun _ _ he => he)
    | halt x w' => cases x <;> simp only [Oper.upon] at h ⊢ <;> exact h
  · exact .inr ⟨h1, h2⟩
def ltB (ops : Array Oper) : Bool := ops.toList.zipIdx.all fun p => p.1.after.toList.all fun e => decide (e.on < p.2)
theorem lt_of_B {ops : Array Oper} (h : ltB ops = true) : ∀ (i : Nat) (o : Oper), ops[i]? = some o → ∀ e ∈ o.after, e.on < i := by
  intro i o ho e he
  unfold ltB at h
  rw [List.all_eq_true] at h
  have hm : (o, i) ∈ ops.toList.zipIdx := by
    rw [List.mem_zipIdx_iff_getElem?]
    rw [Array.getElem?_toList]
    exact ho
  have := h _ hm
  rw [List.all_eq_true] at this
  exact of_decide_eq_true (this e (Array.mem_toList_iff.2 he))
end Go.Proofs.YtkhgfngppcemlaaGreatDoor.scr
