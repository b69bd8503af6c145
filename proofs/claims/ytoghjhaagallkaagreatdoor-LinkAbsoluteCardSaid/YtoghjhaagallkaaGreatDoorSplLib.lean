/- Plain law: strings.Split's pieces at one byte are the pieces of 'spl'. -/
import Derived.Test.YtoghjhaagallkaaGreatDoorSplPure
import Derived.Lib.Split
namespace Go.Proofs.YtoghjhaagallkaaGreatDoor.link
open Go.Lib Go.Proofs.YtoghjhaagallkaaGreatDoor.str

theorem cut1_index (c : UInt8) (l : List UInt8) : (indexByte l c = -1 ∧ cut1 c l = (l, [], false)) ∨ ∃ i : Nat, indexByte l c = i ∧ cut1 c l = (l.take i, l.drop (i + 1), true) := by
  rw [← cut_one]
  unfold Lib.cut
  rw [index_one]
  have hge := indexByte_ge l c
  by_cases h : indexByte l c = -1
  · left; refine ⟨h, ?_⟩; rw [h]; rfl
  · right
    obtain ⟨i, hi⟩ : ∃ i : Nat, indexByte l c = i := ⟨(indexByte l c).toNat, by omega⟩
    refine ⟨i, hi, ?_⟩
    rw [hi, if_pos (by omega)]
    simp

theorem split_spl (c : UInt8) : ∀ (k : Nat) (l : List UInt8), l.count c ≤ k → splitB ⟨#[c]⟩ 0 k ⟨l.toArray⟩ = (spl c [] l).map fun x => (⟨x.toArray⟩ : ByteArray) := by
  intro k
  induction k with
  | zero =>
    intro l hl
    rw [splitB_zero, spl_cut]
    rcases cut1_index c l with ⟨_, h⟩ | ⟨i, hi, h⟩
    · rw [h]; simp
    · exfalso
      have := (indexByte_some hi).1
      have hm : c ∈ l := List.mem_of_getElem? this
      have := List.count_pos_iff.2 hm
      omega
  | succ k ih =>
    intro l hl
    rw [spl_cut]
    have e : indexB ⟨l.toArray⟩ ⟨#[c]⟩ = indexByte l c := by
      show index l [c] = _
      rw [index_one]
    rcases cut1_index c l with ⟨h0, h⟩ | ⟨i, hi, h⟩
    · rw [splitB_miss _ _ _ _ (by rw [e, h0]), h]; simp
    · rw [splitB_hit _ _ _ _ i (by rw [e, hi]), h]
      have hg := (indexByte_some hi).1
      have hlt : i < l.length := (List.getElem?_eq_some_iff.1 hg).1
      have hc : (l.drop (i + 1)).count c ≤ k := by
        have h1 : l.count c = (l.take i).count c + (l.drop i).count c := by rw [← List.count_append, List.take_append_drop]
        have h2 : l.drop i = c :: l.drop (i + 1) := by
          rw [List.drop_eq_getElem_cons hlt]
          congr 1
          exact Option.some.inj (by rw [← List.getElem?_eq_getElem, hg])
        rw [h2, List.count_cons_self] at h1
        omega
      have e1 : (⟨l.toArray⟩ : ByteArray).extract 0 (i + 0) = ⟨(l.take i).toArray⟩ := by rw [bext]; simp
      have e2 : (⟨l.toArray⟩ : ByteArray).extract (i + (⟨#[c]⟩ : ByteArray).size) (⟨l.toArray⟩ : ByteArray).size = ⟨(l.drop (i + 1)).toArray⟩ := by
        rw [bext, bsize, show (⟨#[c]⟩ : ByteArray).size = 1 from rfl, take_drop_all]
      rw [e1, e2, ih _ hc]
      simp
end Go.Proofs.YtoghjhaagallkaaGreatDoor.link
