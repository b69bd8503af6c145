/- Rows of strings as they are read; strings.Split and the reference's Split hand such a row back. -/
import Derived.Test.YtoghjhaagallkaaGreatDoorSplLib
import Derived.Lib.SplitLaws
namespace Go.Proofs.YtoghjhaagallkaaGreatDoor.link
open Go.ChangeShapes Go.WideShapes Go.ChangeAt Go.RowKit Go.Lib Go.Proofs.YtoghjhaagallkaaGreatDoor.str

/-- block b holds these strings -/
def StrAt (w : World) (b : Nat) (ls : List (List UInt8)) : Prop := ∀ j (h : j < ls.length), w.cell? ⟨b, j, none⟩ = some (.string ⟨(ls[j]).toArray⟩)

theorem StrAt.below {w w' : World} {b : Nat} {ls : List (List UInt8)} (h : StrAt w b ls) (hb : Below w.heap.size w w') : StrAt w' b ls := fun j hj => cell_below hb (h j hj)
theorem StrAt.under {w w' : World} {B b : Nat} {ls : List (List UInt8)} (h : StrAt w b ls) (hl : b < B) (hb : Below B w w') : StrAt w' b ls := fun j hj => by rw [hb.cell hl]; exact h j hj
theorem StrAt.lt {w : World} {b : Nat} {ls : List (List UInt8)} (h : StrAt w b ls) (hn : 0 < ls.length) : b < w.heap.size := lt_of_cell (h 0 hn)

theorem spl_pos (c : UInt8) (l : List UInt8) (acc : List UInt8) : 0 < (spl c acc l).length := by rw [spl_len]; omega

theorem spl_small (c : UInt8) (l : List UInt8) : ∀ acc x, x ∈ spl c acc l → x.length ≤ acc.length + l.length := by
  induction l with
  | nil => intro acc x h; simp [spl] at h; subst h; omega
  | cons b r ih =>
    intro acc x h
    unfold spl at h
    by_cases hb : b = c
    · rw [if_pos hb] at h
      rcases List.mem_cons.1 h with rfl | h
      · omega
      · have := ih [] x h; simp at this ⊢; omega
    · rw [if_neg hb] at h
      have := ih _ x h; simp at this ⊢; omega

theorem own_strs {w : World} {base : Nat} {v : Value} {ls : List (List UInt8)} (h : w.ownsRow base 9 1 v ls.length (strsOf ls)) (hp : 0 < ls.length) :
    ∃ b cap, v = .slice (some ⟨b, 0, none⟩) ls.length cap ∧ StrAt w b ls ∧ base ≤ b := by
  obtain ⟨h1, h | ⟨g, cap, cur, rfl, hg, hh, hc, hm, hs, ht⟩⟩ := h
  · omega
  · refine ⟨g, cap, rfl, ?_, hg⟩
    intro j hj
    have e : cur[j]? = some (.string ⟨(ls[j]).toArray⟩) := by
      rw [← Array.getElem?_toList]
      have e2 : (cur.toList.take (ls.length * 1))[j]? = (strsOf ls)[j]? := by rw [ht]
      rw [List.getElem?_take, if_pos (by omega)] at e2
      rw [e2]
      simp [strsOf, hj]
    simp [World.cell?, hh, e]

theorem rsplit_row (l : List UInt8) (c : UInt8) (hl : l.length ≤ 1000000) (w : World) :
    Calls Tryz.prog 47 #[.string ⟨l.toArray⟩, .int .u8 c.toNat] w fun e w' => ∃ b cap, e = .returned (.slice (some ⟨b, 0, none⟩) (spl c [] l).length cap) ∧ StrAt w' b (spl c [] l) ∧ Below w.heap.size w w' := by
  refine (rsplit_any l c hl w).mono ?_
  rintro e w' ⟨v, rfl, ho, hb⟩
  obtain ⟨b, cap, rfl, hs, _⟩ := own_strs ho (spl_pos c l [])
  exact ⟨b, cap, rfl, hs, hb⟩

theorem countB_one (l : List UInt8) (c : UInt8) : countB ⟨l.toArray⟩ ⟨#[c]⟩ = l.count c := Lib.count_one c l

theorem split_row (l : List UInt8) (c : UInt8) (hl : l.length ≤ 1000000) (w : World) (hG : G w) :
    Calls Tryz.prog 35 #[.string ⟨l.toArray⟩, .string ⟨#[c]⟩] w fun e w' => ∃ b cap, e = .returned (.slice (some ⟨b, 0, none⟩) (spl c [] l).length cap) ∧ StrAt w' b (spl c [] l) ∧ Below w.heap.size w w' ∧ (spl c [] l).length ≤ cap := by
  obtain ⟨m, hm⟩ := hG.ml
  refine (Tryz.strings_Split ⟨l.toArray⟩ ⟨#[c]⟩ m w (by rw [bsize]; omega) hm (Nat.le_refl 1)).mono ?_
  rintro e w' ⟨rfl, rfl⟩
  rw [countB_one, split_spl c _ l (Nat.le_refl _)]
  refine ⟨w.heap.size, l.count c + 1, ?_, ?_, (Below.refl _ _).alloc (Nat.le_refl _) _, by rw [spl_len]; exact Nat.le_refl _⟩
  · rw [spl_len]
  · intro j hj
    rw [World.cell?_alloc_new]
    simp [hj]
end Go.Proofs.YtoghjhaagallkaaGreatDoor.link
