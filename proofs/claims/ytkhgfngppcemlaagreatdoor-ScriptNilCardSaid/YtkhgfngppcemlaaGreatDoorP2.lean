/- A map with keys that are texts, made by the call and filled one key behind the other: what it has, what a look-up finds. -/
import Derived.Carry
import Derived.ChangeMaps5
import Derived.Lib.Hide
import Derived.Lib.ItoaMem
import Derived.MapKept
import Derived.Maps.AppendAt
import Derived.ProofKit
import Derived.WalkKit
import Derived.WalkSmall
import Derived.Test.YtkhgfngppcemlaaGreatDoorRows
import Derived.Test.YtkhgfngppcemlaaGreatDoorP1
namespace Go.Proofs.YtkhgfngppcemlaaGreatDoor.scr
open Go Go.RowKit Go.MapKept
open Go.ChangeMaps (setBlock heap_setBlock_same heap_setBlock_other)

def strV (k : List UInt8) : Value := .string ⟨k.toArray⟩
def assoc (k : List UInt8) (z : Value) : List (List UInt8 × Value) → Value
  | [] => z
  | p :: r => if p.1 = k then p.2 else assoc k z r
def enS (n : Nat) : List (List UInt8 × Value) → List MapEntry
  | [] => []
  | p :: r => ⟨strV p.1, p.2, n⟩ :: enS (n + 1) r
theorem enS_snoc (k : List UInt8) (v : Value) : ∀ (ps : List (List UInt8 × Value)) (n : Nat), enS n (ps ++ [(k, v)]) = enS n ps ++ [⟨strV k, v, n + ps.length⟩] := by
  intro ps
  induction ps with
  | nil => intro n; rfl
  | cons p r ih => intro n; simp only [List.cons_append, enS, ih, List.length_cons]; congr 4; omega
theorem same_str (a b : List UInt8) : Instr.sameNow .string (strV a) (strV b) = some (decide (b = a)) := by
  show some (a.toArray == b.toArray) = _
  congr 1
  rw [Bool.eq_iff_iff, beq_iff_eq, decide_eq_true_iff]
  exact ⟨fun h => (List.toArray_inj h).symm, fun h => by rw [h]⟩
theorem find_no (k : List UInt8) : ∀ (ps : List (List UInt8 × Value)) (n i : Nat), (∀ p ∈ ps, p.1 ≠ k) → Instr.findNow .string (strV k) (enS n ps) i = some none := by
  intro ps
  induction ps with
  | nil => intro n i _; rfl
  | cons p r ih =>
    intro n i h
    simp only [enS, Instr.findNow, same_str, decide_eq_false (h p (by simp))]
    exact ih _ _ (fun q hq => h q (by simp [hq]))
theorem find_at (k : List UInt8) (z : Value) : ∀ (ps : List (List UInt8 × Value)) (n i : Nat), (∃ p ∈ ps, p.1 = k) → ∃ j, Instr.findNow .string (strV k) (enS n ps) i = some (some (j, assoc k z ps)) := by
  intro ps
  induction ps with
  | nil => intro n i ⟨_, h, _⟩; cases h
  | cons p r ih =>
    intro n i h
    by_cases e : p.1 = k
    · refine ⟨i, ?_⟩
      simp only [enS, Instr.findNow, same_str, decide_eq_true e, assoc, if_pos e]
    · obtain ⟨q, hq, hk⟩ := h
      have hq' : q ∈ r := by
        rcases List.mem_cons.1 hq with rfl | hq
        · exact absurd hk e
        · exact hq
      obtain ⟨j, hj⟩ := ih (n + 1) (i + 1) ⟨q, hq', hk⟩
      refine ⟨j, ?_⟩
      simp only [enS, Instr.findNow, same_str, decide_eq_false e, assoc, if_neg e]
      exact hj
/-- block b is the map of these pairs -/
def MapIs (w : World) (b : Nat) (ps : List (List UInt8 × Value)) : Prop := w.heap[b]? = some (.map (enS 0 ps).toArray ps.length)
theorem MapIs.made (w : World) : MapIs (w.alloc (.map #[] 0)) w.heap.size [] := by
  exact (MapKept.heap_alloc w (.map #[] 0)).1
theorem run_update {P : Program} {w : World} {t k e : TypeId} (ht : P.underlying t = some (.map k e)) (hk : P.underlying k = some .string) {b : Nat} {ps : List (List UInt8 × Value)} (hM : MapIs w b ps) (key : List UInt8) (v : Value) (hn : ∀ p ∈ ps, p.1 ≠ key) :
    ∃ w', (Instr.mapUpdate t (.map (some b)) (strV key) v).run P w = .ok () w' ∧ MapIs w' b (ps ++ [(key, v)]) ∧ w.grownBy w' (some b) ∧ w'.heap.size = w.heap.size := by
  have hf := find_no key ps 0 0 hn
  refine ⟨setBlock w b (.map ((enS 0 ps).toArray.push ⟨strV key, v, ps.length⟩) (ps.length + 1)), ?_, ?_, ?_, ?_⟩
  · have hc : (Instr.checkKey false 10000 k (strV key)).run P w = .ok () w := by
      unfold Instr.checkKey
      simp [Sem.run_bind, run_underlying hk, Result.andThen, strV]
    have hF : (Instr.findKey k (strV key) (enS 0 ps)).run P w = .ok none w := by
      unfold Instr.findKey
      simp [Sem.run_bind, run_underlying hk, Result.andThen, hf]
    simp [Instr.mapUpdate, run_underlying ht, MapKept.run_getObj_map hM, hc, hF, MapKept.run_setObj_map _ hM, Result.andThen, setBlock]
  · unfold MapIs
    rw [heap_setBlock_same hM, enS_snoc, List.length_append]
    simp
  · exact ⟨rfl, rfl, rfl, by simp [setBlock], fun i _ hne => heap_setBlock_other hM _ (fun e => hne (by rw [e]))⟩
  · simp [setBlock]
theorem run_look {P : Program} {w : World} {t k e : TypeId} (ht : P.underlying t = some (.map k e)) (hk : P.underlying k = some .string) {z : Value} (hz : ∀ u : World, (zeroValue e).run P u = .ok z u) {b : Nat} {ps : List (List UInt8 × Value)} (hM : MapIs w b ps) (key : List UInt8) :
    (Instr.lookup t (.map (some b)) (strV key) false).run P w = .ok (assoc key z ps) w := by
  have hc : ∀ x, (Instr.checkKey x 10000 k (strV key)).run P w = .ok () w := by
    intro x
    unfold Instr.checkKey
    simp [Sem.run_bind, run_underlying hk, Result.andThen, strV]
  by_cases h : ∃ p ∈ ps, p.1 = key
  · obtain ⟨j, hj⟩ := find_at key z ps 0 0 h
    have hF : (Instr.findKey k (strV key) (enS 0 ps)).run P w = .ok (some (j, assoc key z ps)) w := by
      unfold Instr.findKey
      simp [Sem.run_bind, run_underlying hk, Result.andThen, hj]
    simp [Instr.lookup, run_underlying ht, MapKept.run_getObj_map hM, hc, hF, Result.andThen]
  · have hno : ∀ p ∈ ps, p.1 ≠ key := fun p hp e => h ⟨p, hp, e⟩
    have ha : assoc key z ps = z := by
      clear hM hc h
      induction ps with
      | nil => rfl
      | cons p r ih =>
        simp only [assoc, if_neg (hno p (by simp))]
        exact ih (fun q hq => hno q (by simp [hq]))
    have hF : (Instr.findKey k (strV key) (enS 0 ps)).run P w = .ok none w := by
      unfold Instr.findKey
      simp [Sem.run_bind, run_underlying hk, Result.andThen, find_no key ps 0 0 hno]
    simp [Instr.lookup, run_underlying ht, MapKept.run_getObj_map hM, hc, hF, hz, Result.andThen, ha]
/-- the map so far, and all else as it was -/
structure MapG (w0 w : World) (b : Nat) (ps : List (List UInt8 × Value)) : Prop where
  is : MapIs w b ps
  grown : w0.grownBy w (some b)
theorem has_no {ps : List (List UInt8 × Value)} {key : List UInt8} (h : (ps.map (·.1)).contains key = false) : ∀ p ∈ ps, p.1 ≠ key := by
  intro p hp e
  have : key ∈ ps.map (·.1) := List.mem_map.2 ⟨p, hp, e⟩
  rw [List.contains_eq_mem, decide_eq_true this] at h
  cases h
end Go.Proofs.YtkhgfngppcemlaaGreatDoor.scr
