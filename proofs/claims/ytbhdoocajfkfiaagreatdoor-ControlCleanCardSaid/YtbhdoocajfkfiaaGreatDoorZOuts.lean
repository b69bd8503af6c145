/- law14: a list of controls whose values are clean. -/
import Derived.Test.YtbhdoocajfkfiaaGreatDoorMs
import Derived.Test.YtbhdoocajfkfiaaGreatDoorMo
import Derived.Laws.OwnMore
namespace Go.Proofs.YtbhdoocajfkfiaaGreatDoor.ctl
open Go.ChangeShapes Go.WideShapes Go.ChangeAt Go.RowKit Go.Lib Go.Proofs.YtbhdoocajfkfiaaGreatDoor.num Go.Proofs.YtbhdoocajfkfiaaGreatDoor.mom Go.Proofs.YtbhdoocajfkfiaaGreatDoor.fits Go.Proofs.YtbhdoocajfkfiaaGreatDoor.atr Go.Proofs.YtbhdoocajfkfiaaGreatDoor.link Go.Proofs.YtbhdoocajfkfiaaGreatDoor.stp Go.Proofs.YtbhdoocajfkfiaaGreatDoor.cln

def GoodV (kind : Int) (l : List Attr) (s : List UInt8) : Prop := cleanV kind l s = s ∧ s.length ≤ 1000000
def encC (v : List UInt8) (d t ch dc m s ds : Bool) (cu : List UInt8) (f : Value) : List Value := [.string ⟨v.toArray⟩, .bool d, .bool t, .bool ch, .bool dc, .bool m, .bool s, .bool ds, .string ⟨cu.toArray⟩, f]
theorem infoC : (Tryz.prog.info? 24).map (fun i => (i.zero, i.size, i.bytes)) = some (some (.agg #[.string ⟨#[]⟩, .bool false, .bool false, .bool false, .bool false, .bool false, .bool false, .bool false, .string ⟨#[]⟩, .slice none 0 0]), 10, 64) := by kernel_rfl
def Outs (B N : Nat) (kind : Int) (l : List Attr) (w : World) (v : Value) : Prop := ∃ g n cap xs, v = .slice (some ⟨g, 0, none⟩) n cap ∧ n ≤ N ∧ w.ownsRow B 24 10 v n xs ∧ ∀ i, i < n → ∃ s : List UInt8, xs[i * 10]? = some (.string ⟨s.toArray⟩) ∧ GoodV kind l s
theorem Outs.more {B N : Nat} {kind : Int} {l : List Attr} {w : World} {v : Value} (h : Outs B N kind l w v) : Outs B (N + 1) kind l w v := by
  obtain ⟨g, n, cap, xs, h1, h2, h3⟩ := h
  exact ⟨g, n, cap, xs, h1, by omega, h3⟩
theorem Outs.low {B N : Nat} {kind : Int} {l : List Attr} {w w' : World} {v : Value} (h : Outs B N kind l w v) (hb : Below w.heap.size w w') : Outs B N kind l w' v := by
  obtain ⟨g, n, cap, xs, h1, h2, ⟨h3, h4⟩, h5⟩ := h
  refine ⟨g, n, cap, xs, h1, h2, ⟨h3, ?_⟩, h5⟩
  rcases h4 with h | ⟨g', cap', cur, e1, e2, e3, e4⟩
  · exact .inl h
  · refine .inr ⟨g', cap', cur, e1, e2, ?_, e4⟩
    have hlt : g' < w.heap.size := by
      apply Nat.lt_of_not_le; intro k
      rw [Array.getElem?_eq_none k] at e3; cases e3
    rw [hb.block g' hlt]; exact e3
theorem Outs.cell {B N : Nat} {kind : Int} {l : List Attr} {w : World} {g n cap : Nat} (h : Outs B N kind l w (.slice (some ⟨g, 0, none⟩) n cap)) : n ≤ N ∧ B ≤ g ∧ g < w.heap.size ∧ ∀ i, i < n → ∃ s : List UInt8, w.cell? ⟨g, i * 10, none⟩ = some (.string ⟨s.toArray⟩) ∧ GoodV kind l s := by
  obtain ⟨g', n', cap', xs, h1, h2, h3, h5⟩ := h
  cases h1
  have := h3.lt g rfl
  refine ⟨h2, this.1, this.2, fun i hi => ?_⟩
  obtain ⟨s, e1, e2⟩ := h5 i hi
  refine ⟨s, ?_, e2⟩
  rw [h3.cellAt (i * 10) (by omega)]; exact e1
theorem Outs.two {B : Nat} {kind : Int} {l : List Attr} {w : World} (hB : B ≤ w.heap.size) (s1 s2 : List UInt8) (r1 r2 : List Value) (h1 : r1.length = 9) (h2 : r2.length = 9) (g1 : GoodV kind l s1) (g2 : GoodV kind l s2) (cur : Array Value) (hc : cur.toList = (.string ⟨s1.toArray⟩ :: r1) ++ (.string ⟨s2.toArray⟩ :: r2)) : Outs B 2 kind l (w.alloc (.cells cur 24)) (.slice (some ⟨w.heap.size, 0, none⟩) 2 2) := by
  have hl : cur.size = 20 := by
    rw [← Array.length_toList, hc]; simp [h1, h2]
  refine ⟨w.heap.size, 2, 2, cur.toList, rfl, Nat.le_refl _, ⟨by rw [Array.length_toList, hl], .inr ⟨w.heap.size, 2, cur, rfl, hB, heap_alloc_new w _, Nat.le_refl _, by decide, by rw [hl], ?_⟩⟩, ?_⟩
  · rw [List.take_of_length_le (by rw [Array.length_toList, hl]; decide)]
  · intro i hi
    rcases Nat.lt_or_ge i 1 with h | h
    · have : i = 0 := by omega
      subst this
      exact ⟨s1, by rw [hc]; rfl, g1⟩
    · have : i = 1 := by omega
      subst this
      refine ⟨s2, ?_, g2⟩
      rw [hc, List.getElem?_append_right (by simp [h1])]
      simp [h1]
theorem Outs.add {B N n : Nat} {kind : Int} {l : List Attr} {w : World} {v : Value} {xs r : List Value} {s : List UInt8} (hn : n ≤ N) (hown : w.ownsRow B 24 10 v (n + 1) (xs ++ (.string ⟨s.toArray⟩ :: r))) (hx : xs.length = n * 10) (hg : ∀ i, i < n → ∃ s : List UInt8, xs[i * 10]? = some (.string ⟨s.toArray⟩) ∧ GoodV kind l s) (g : GoodV kind l s) : Outs B (N + 1) kind l w v := by
  have h0 := hown
  rcases hown.2 with ⟨_, h⟩ | ⟨gb, cap, cur, rfl, _⟩
  · omega
  · refine ⟨gb, n + 1, cap, _, rfl, by omega, h0, fun i hi => ?_⟩
    rcases Nat.lt_or_ge i n with h | h
    · obtain ⟨s', e1, e2⟩ := hg i h
      refine ⟨s', ?_, e2⟩
      rw [List.getElem?_append_left (by omega)]; exact e1
    · have : i = n := by omega
      subst this
      refine ⟨s, ?_, g⟩
      rw [List.getElem?_append_right (by omega), hx, Nat.sub_self]; rfl

theorem attr_len9 (nm : List UInt8) (l : List Attr) (hl : ∀ a ∈ l, a.2.length ≤ 900000) : (attrS nm l).length ≤ 900000 := by
  unfold attrS
  cases h : fval nm l with
  | none => simp
  | some s =>
    obtain ⟨a, ha, rfl⟩ := fval_mem nm l s h
    exact hl a ha
theorem good_clean (kind : Int) (l : List Attr) (s : List UInt8) (h : s.length ≤ 900000) : GoodV kind l (cleanV kind l s) := ⟨cleanV_again kind l s, cleanV_len kind l s h⟩
theorem good_start (kind : Int) (h24 : kind ≠ 24) (h28 : kind ≠ 28) (l : List Attr) (x : List UInt8) (hl : ∀ a ∈ l, a.2.length ≤ 900000) : GoodV kind l (startV kind l x) := by
  unfold startV
  rw [if_neg h28, if_neg h24]
  split
  · exact good_clean kind l _ (attr_len9 nValue l hl)
  · rename_i h
    refine ⟨cleanV_no kind l [] (fun k => h ?_), by simp⟩
    exact mode_1 kind (Or.inl k)
theorem mode1_of (kind : Int) (h : modeP kind = 1) : (2 ≤ kind ∧ kind ≤ 15) ∨ kind = 24 ∨ kind = 28 := by
  unfold modeP at h
  split at h
  · assumption
  · split at h
    · cases h
    · split at h
      · cases h
      · split at h <;> cases h
theorem good_write (kind : Int) (h24 : kind ≠ 24) (c : Ctl) (l : List Attr) (x : List UInt8) (he : (writeO kind c l x).2.2 = 0) (hd : (writeO kind c l x).1.dirty = true) (hc : c.dirty = false) : GoodV kind l (writeO kind c l x).1.value := by
  unfold writeO at he hd ⊢
  split at he
  · cases he
  · rename_i hx
    rw [if_neg hx] at hd ⊢
    split at he
    · rename_i hm
      rw [if_pos hm]
      show GoodV kind l (cleanedP kind l x)
      rw [cleaned_no kind h24]
      exact good_clean kind l x (by omega)
    · rename_i hm
      rw [if_neg hm] at hd ⊢
      split at he
      · rename_i h3
        rw [if_pos h3, hc] at hd
        cases hd
      · rename_i h3
        rw [if_neg h3] at hd ⊢
        split at he
        · rename_i h4
          rw [if_pos h4] at hd ⊢
          split at he
          · rename_i h5
            rw [if_pos h5] at hd
            dsimp only at hd
            rw [hc] at hd; cases hd
          · cases he
        · cases he
end Go.Proofs.YtbhdoocajfkfiaaGreatDoor.ctl
