/- The contract of the reference's Split. Plain law: the pieces of a text by the cut at the first sign. No program in sight. Plain law: strings.Split's pieces at one byte are the pieces of 'spl'. Rows of strings as they are read; strings.Split and the reference's Split hand such a row back. mail.Clean: pieces stripped in place, joined. -/
import Derived.Test.YtbhdoocajfkfiaaGreatDoorMa
import Derived.Lib.Split
import Derived.Test.YtbhdoocajfkfiaaGreatDoorShelf
import Derived.Lib.SplitLaws
import Derived.Test.YtbhdoocajfkfiaaGreatDoorMe
import Derived.Test.YtbhdoocajfkfiaaGreatDoorZJoinLay
import Derived.Lib.Join
namespace Go.Proofs.YtbhdoocajfkfiaaGreatDoor.link
open Go.ChangeShapes Go.WideShapes Go.ChangeAt Go.RowKit Go.Lib

/-- the pieces of a text, the piece under way ahead -/
def spl (c : UInt8) : List UInt8 → List UInt8 → List (List UInt8)
  | acc, [] => [acc]
  | acc, b :: r => if b = c then acc :: spl c [] r else spl c (acc ++ [b]) r
def strsOf (ls : List (List UInt8)) : List Value := ls.map fun x => Value.string ⟨x.toArray⟩

theorem infoStr : (Tryz.prog.info? 9).map (fun i => (i.zero, i.size, i.bytes)) = some (some (.string ⟨#[]⟩), 1, 16) := by kernel_rfl

theorem piece_step (l : List UInt8) (f k : Nat) (b : UInt8) (r : List UInt8) (hf : f ≤ k) (h : l.drop k = b :: r) : (l.drop f).take (k + 1 - f) = (l.drop f).take (k - f) ++ [b] := by
  have hk : k < l.length := by
    have := congrArg List.length h
    simp at this; omega
  have e : l[k] = b := by
    have := List.drop_eq_getElem_cons hk
    rw [h] at this
    exact (List.cons.inj this).1.symm
  have h2 : k - f < (l.drop f).length := by simp; omega
  rw [show k + 1 - f = (k - f) + 1 from by omega, List.take_succ_eq_append_getElem h2]
  congr 1
  rw [List.getElem_drop]
  congr 1
  rw [← e]
  congr 1
  omega

set_option maxHeartbeats 1600000 in
set_option maxRecDepth 100000 in
theorem rsplit_any (l : List UInt8) (c : UInt8) (hl : l.length ≤ 1000000) (w : World) :
    Calls Tryz.prog 118 #[.string ⟨l.toArray⟩, .int .u8 c.toNat] w fun e w' => ∃ v, e = .returned v ∧ w'.ownsRow w.heap.size 9 1 v (spl c [] l).length (strsOf (spl c [] l)) ∧ Below w.heap.size w w' := by
  obtain ⟨i0, hi, hz0, hz1, hz2⟩ := info_parts infoStr
  obtain ⟨B, hB⟩ : ∃ B, B = w.heap.size := ⟨_, rfl⟩
  rw [← hB]
  have HB := Lib.hid hB
  clear hB
  obtain ⟨full, hfull⟩ : ∃ full, full = spl c [] l := ⟨_, rfl⟩
  rw [← hfull]
  have HF := Lib.hid hfull
  clear hfull
  have hc8 := c.toNat_lt
  go_enter Tryz.func118, Tryz.ntmps118
  go_wp2_with fail
  go_loopw [5, 6, 7] (fun v x s wr => ∃ (k f : Nat) (ps : List (List UInt8)), s = .int .i64 k ∧ x = .int .i64 f ∧ k ≤ l.length + 1 ∧ f ≤ k ∧ wr.ownsRow B 9 1 v ps.length (strsOf ps) ∧ Hid ((k ≤ l.length → full = ps ++ spl c ((l.drop f).take (k - f)) (l.drop k)) ∧ (k = l.length + 1 → full = ps) ∧ ps.length ≤ k) ∧ Below B w wr ∧ B ≤ wr.heap.size) (fun _ _ s _ => l.length + 1 - (RowKit.intOf s).toNat)
  case atStart => exact ⟨0, 0, [], rfl, rfl, by omega, by omega, World.ownsRow_nil _ _ _ _, Lib.hid ⟨fun _ => by rw [HF.out]; simp, fun h => by omega, by simp⟩, by rw [HB.out]; exact Below.refl _ _, by rw [HB.out]; omega⟩
  case round =>
    obtain ⟨k, f, ps, rfl, rfl, hk, hf, hown, hh, hb, hbs⟩ := hrel
    by_cases hle : k ≤ l.length
    · have hps := hh.out.2.2
      have hful := hh.out.1 hle
      by_cases hlt : k < l.length
      · obtain ⟨b, rest, hd1, hd2, hidx⟩ := byte_at l k hlt
        have tl : ((k : Int) == l.length) = false := by simp; omega
        have hb8 := b.toNat_lt
        rw [hd1, spl] at hful
        by_cases hbc : b = c
        · subst hbc
          rw [if_pos rfl, ← hd2] at hful
          have HX : Hid (full = (ps ++ [(l.drop f).take (k - f)]) ++ spl b ((l.drop (k + 1)).take (k + 1 - (k + 1))) (l.drop (k + 1))) := Lib.hid (by rw [hful]; simp)
          have HP := Lib.hid hps
          clear hful hd1 hd2 hh hps
          go_wp2_with (first
            | (at_builtin; refine wpList_append_own _ rfl _ _ 109 rfl B 9 i0 (.string ⟨#[]⟩) 1 16 Tryz.underlying109 hi hz0 hz1 hz2 rfl (by decide) _ _ _ rfl (hown.alloc _) ⟨wr.heap.size, 0, none⟩ 1 1 [.string ⟨((l.drop f).take (k - f)).toArray⟩] rfl rfl ?_ ?_ ?_ ?_ ?_ ?_)
            | go_in)
          all_goals first | exact cell_one_new _ _ _ | (show Value.oneCell' _ = true; rfl) | (intro u hu; simp at hu; subst hu; rfl) | (have := HP.out; unfold maxLen; omega) | (have := HP.out; omega) | (simp; omega) | skip
          intro v' w1 hown' hgrow _
          have hr := low_rel w wr w1 B _ _ _ _ _ hown hb hbs hgrow
          have ho2 : w1.ownsRow B 9 1 v' (ps ++ [(l.drop f).take (k - f)]).length (strsOf (ps ++ [(l.drop f).take (k - f)])) := by
            rw [show strsOf (ps ++ [(l.drop f).take (k - f)]) = strsOf ps ++ [.string ⟨((l.drop f).take (k - f)).toArray⟩] from by simp [strsOf], List.length_append]
            exact hown'
          clear hown' hgrow hown
          go_wp2_with fail
          go_roundw
          case rel => exact ⟨k + 1, k + 1, _, by go_num, by go_num, by omega, by omega, ho2, Lib.hid ⟨fun _ => HX.out, fun h => by omega, by have := HP.out; rw [List.length_append]; simp; omega⟩, hr.1, hr.2⟩
          case measure => simp [RowKit.intOf]; omega
        · have tb : ((b.toNat : Int) == c.toNat) = false := by
            simp only [beq_eq_false_iff_ne, ne_eq]
            intro g
            exact hbc (UInt8.toNat_inj.1 (by omega))
          rw [if_neg hbc, ← piece_step l f k b rest hf hd1, ← hd2] at hful
          have HX := Lib.hid (And.intro hful hps)
          clear hful hd1 hd2 hh hps
          go_wp2_with fail
          go_roundw
          case rel => exact ⟨k + 1, f, ps, by go_num, rfl, by omega, by omega, hown, Lib.hid ⟨fun _ => HX.out.1, fun h => by omega, by have := HX.out.2; omega⟩, hb, hbs⟩
          case measure => simp [RowKit.intOf]; omega
      · obtain rfl : k = l.length := by omega
        rw [List.drop_length, take_drop_all, spl] at hful
        have HX := Lib.hid hful
        have HP := Lib.hid hps
        clear hful hh hps
        go_wp2_with (first
          | (at_builtin; refine wpList_append_own _ rfl _ _ 109 rfl B 9 i0 (.string ⟨#[]⟩) 1 16 Tryz.underlying109 hi hz0 hz1 hz2 rfl (by decide) _ _ _ rfl (hown.alloc _) ⟨wr.heap.size, 0, none⟩ 1 1 [.string ⟨(l.drop f).toArray⟩] rfl rfl ?_ ?_ ?_ ?_ ?_ ?_)
          | go_in)
        all_goals first | exact cell_one_new _ _ _ | (show Value.oneCell' _ = true; rfl) | (intro u hu; simp at hu; subst hu; rfl) | (have := HP.out; unfold maxLen; omega) | (have := HP.out; omega) | (simp; omega) | skip
        intro v' w1 hown' hgrow _
        have hr := low_rel w wr w1 B _ _ _ _ _ hown hb hbs hgrow
        have ho2 : w1.ownsRow B 9 1 v' (ps ++ [l.drop f]).length (strsOf (ps ++ [l.drop f])) := by
          rw [show strsOf (ps ++ [l.drop f]) = strsOf ps ++ [.string ⟨(l.drop f).toArray⟩] from by simp [strsOf], List.length_append]
          exact hown'
        clear hown' hgrow hown
        go_wp2_with fail
        go_roundw
        case rel => exact ⟨l.length + 1, l.length + 1, _, by go_num, by go_num, by omega, by omega, ho2, Lib.hid ⟨fun h => by omega, fun _ => HX.out, by have := HP.out; rw [List.length_append]; simp; omega⟩, hr.1, hr.2⟩
        case measure => first | (simp [RowKit.intOf]; done) | (simp [RowKit.intOf]; omega)
    · have HX : Hid (full = ps) := Lib.hid (hh.out.2.1 (by omega))
      clear hh
      go_wp2_with fail
      go_ret
      exact ⟨_, rfl, by rw [HX.out]; exact hown, hb⟩
end Go.Proofs.YtbhdoocajfkfiaaGreatDoor.link

namespace Go.Proofs.YtbhdoocajfkfiaaGreatDoor.link
open Go.Lib Go.Proofs.YtbhdoocajfkfiaaGreatDoor.str

theorem spl_cut (c : UInt8) (l : List UInt8) : ∀ acc, spl c acc l = (acc ++ (cut1 c l).1) :: (if (cut1 c l).2.2 = true then spl c [] (cut1 c l).2.1 else []) := by
  induction l with
  | nil => intro acc; simp [spl, cut1]
  | cons b r ih =>
    intro acc
    by_cases h : b = c
    · rw [spl, if_pos h, cut1, if_pos h]; simp
    · rw [spl, if_neg h, cut1, if_neg h, ih]; simp

theorem spl_len (c : UInt8) (l : List UInt8) : ∀ acc, (spl c acc l).length = l.count c + 1 := by
  induction l with
  | nil => intro acc; simp [spl]
  | cons b r ih =>
    intro acc
    by_cases h : b = c
    · subst h; rw [spl, if_pos rfl, List.length_cons, ih]; simp
    · rw [spl, if_neg h, ih, List.count_cons]; simp [h]
end Go.Proofs.YtbhdoocajfkfiaaGreatDoor.link

namespace Go.Proofs.YtbhdoocajfkfiaaGreatDoor.link
open Go.Lib Go.Proofs.YtbhdoocajfkfiaaGreatDoor.str

theorem cut1_index (c : UInt8) (l : List UInt8) : (indexByte l c = -1 ∧ cut1 c l = (l, [], false)) ∨ ∃ i : Nat, indexByte l c = i ∧ cut1 c l = (l.take i, l.drop (i + 1), true) := by
  rw [← cut_one]
  unfold Lib.cut
  rw [index_one]
  have hge := indexByte_ge l c
  by_cases h : indexByte l c = -1
  · left; refine ⟨h, ?_⟩; rw [h]; rfl
  · right
    obtain ⟨i, hi⟩ : ∃ i : Nat, indexByte l c = i := ⟨(indexByte l c).toNat, by omega⟩
    refine ⟨i, hi, ?_⟩
    rw [hi, if_pos (by omega)]
    simp

theorem split_spl (c : UInt8) : ∀ (k : Nat) (l : List UInt8), l.count c ≤ k → splitB ⟨#[c]⟩ 0 k ⟨l.toArray⟩ = (spl c [] l).map fun x => (⟨x.toArray⟩ : ByteArray) := by
  intro k
  induction k with
  | zero =>
    intro l hl
    rw [splitB_zero, spl_cut]
    rcases cut1_index c l with ⟨_, h⟩ | ⟨i, hi, h⟩
    · rw [h]; simp
    · exfalso
      have := (indexByte_some hi).1
      have hm : c ∈ l := List.mem_of_getElem? this
      have := List.count_pos_iff.2 hm
      omega
  | succ k ih =>
    intro l hl
    rw [spl_cut]
    have e : indexB ⟨l.toArray⟩ ⟨#[c]⟩ = indexByte l c := by
      show index l [c] = _
      rw [index_one]
    rcases cut1_index c l with ⟨h0, h⟩ | ⟨i, hi, h⟩
    · rw [splitB_miss _ _ _ _ (by rw [e, h0]), h]; simp
    · rw [splitB_hit _ _ _ _ i (by rw [e, hi]), h]
      have hg := (indexByte_some hi).1
      have hlt : i < l.length := (List.getElem?_eq_some_iff.1 hg).1
      have hc : (l.drop (i + 1)).count c ≤ k := by
        have h1 : l.count c = (l.take i).count c + (l.drop i).count c := by rw [← List.count_append, List.take_append_drop]
        have h2 : l.drop i = c :: l.drop (i + 1) := by
          rw [List.drop_eq_getElem_cons hlt]
          congr 1
          exact Option.some.inj (by rw [← List.getElem?_eq_getElem, hg])
        rw [h2, List.count_cons_self] at h1
        omega
      have e1 : (⟨l.toArray⟩ : ByteArray).extract 0 (i + 0) = ⟨(l.take i).toArray⟩ := by rw [bext]; simp
      have e2 : (⟨l.toArray⟩ : ByteArray).extract (i + (⟨#[c]⟩ : ByteArray).size) (⟨l.toArray⟩ : ByteArray).size = ⟨(l.drop (i + 1)).toArray⟩ := by
        rw [bext, bsize, show (⟨#[c]⟩ : ByteArray).size = 1 from rfl, take_drop_all]
      rw [e1, e2, ih _ hc]
      simp
end Go.Proofs.YtbhdoocajfkfiaaGreatDoor.link

namespace Go.Proofs.YtbhdoocajfkfiaaGreatDoor.link
open Go.ChangeShapes Go.WideShapes Go.ChangeAt Go.RowKit Go.Lib Go.Proofs.YtbhdoocajfkfiaaGreatDoor.str

/-- block b holds these strings -/
def StrAt (w : World) (b : Nat) (ls : List (List UInt8)) : Prop := ∀ j (h : j < ls.length), w.cell? ⟨b, j, none⟩ = some (.string ⟨(ls[j]).toArray⟩)

theorem StrAt.below {w w' : World} {b : Nat} {ls : List (List UInt8)} (h : StrAt w b ls) (hb : Below w.heap.size w w') : StrAt w' b ls := fun j hj => cell_below hb (h j hj)
theorem StrAt.under {w w' : World} {B b : Nat} {ls : List (List UInt8)} (h : StrAt w b ls) (hl : b < B) (hb : Below B w w') : StrAt w' b ls := fun j hj => by rw [hb.cell hl]; exact h j hj
theorem StrAt.lt {w : World} {b : Nat} {ls : List (List UInt8)} (h : StrAt w b ls) (hn : 0 < ls.length) : b < w.heap.size := lt_of_cell (h 0 hn)

theorem spl_pos (c : UInt8) (l : List UInt8) (acc : List UInt8) : 0 < (spl c acc l).length := by rw [spl_len]; omega

theorem spl_small (c : UInt8) (l : List UInt8) : ∀ acc x, x ∈ spl c acc l → x.length ≤ acc.length + l.length := by
  induction l with
  | nil => intro acc x h; simp [spl] at h; subst h; omega
  | cons b r ih =>
    intro acc x h
    unfold spl at h
    by_cases hb : b = c
    · rw [if_pos hb] at h
      rcases List.mem_cons.1 h with rfl | h
      · omega
      · have := ih [] x h; simp at this ⊢; omega
    · rw [if_neg hb] at h
      have := ih _ x h; simp at this ⊢; omega

theorem own_strs {w : World} {base : Nat} {v : Value} {ls : List (List UInt8)} (h : w.ownsRow base 9 1 v ls.length (strsOf ls)) (hp : 0 < ls.length) :
    ∃ b cap, v = .slice (some ⟨b, 0, none⟩) ls.length cap ∧ StrAt w b ls ∧ base ≤ b := by
  obtain ⟨h1, h | ⟨g, cap, cur, rfl, hg, hh, hc, hm, hs, ht⟩⟩ := h
  · omega
  · refine ⟨g, cap, rfl, ?_, hg⟩
    intro j hj
    have e : cur[j]? = some (.string ⟨(ls[j]).toArray⟩) := by
      rw [← Array.getElem?_toList]
      have e2 : (cur.toList.take (ls.length * 1))[j]? = (strsOf ls)[j]? := by rw [ht]
      rw [List.getElem?_take, if_pos (by omega)] at e2
      rw [e2]
      simp [strsOf, hj]
    simp [World.cell?, hh, e]

theorem rsplit_row (l : List UInt8) (c : UInt8) (hl : l.length ≤ 1000000) (w : World) :
    Calls Tryz.prog 118 #[.string ⟨l.toArray⟩, .int .u8 c.toNat] w fun e w' => ∃ b cap, e = .returned (.slice (some ⟨b, 0, none⟩) (spl c [] l).length cap) ∧ StrAt w' b (spl c [] l) ∧ Below w.heap.size w w' := by
  refine (rsplit_any l c hl w).mono ?_
  rintro e w' ⟨v, rfl, ho, hb⟩
  obtain ⟨b, cap, rfl, hs, _⟩ := own_strs ho (spl_pos c l [])
  exact ⟨b, cap, rfl, hs, hb⟩

theorem countB_one (l : List UInt8) (c : UInt8) : countB ⟨l.toArray⟩ ⟨#[c]⟩ = l.count c := Lib.count_one c l

theorem split_row (l : List UInt8) (c : UInt8) (hl : l.length ≤ 1000000) (w : World) (hG : G w) :
    Calls Tryz.prog 147 #[.string ⟨l.toArray⟩, .string ⟨#[c]⟩] w fun e w' => ∃ b cap, e = .returned (.slice (some ⟨b, 0, none⟩) (spl c [] l).length cap) ∧ StrAt w' b (spl c [] l) ∧ Below w.heap.size w w' ∧ (spl c [] l).length ≤ cap := by
  obtain ⟨m, hm⟩ := hG.ml
  refine (Tryz.strings_Split ⟨l.toArray⟩ ⟨#[c]⟩ m w (by rw [bsize]; omega) hm (Nat.le_refl 1)).mono ?_
  rintro e w' ⟨rfl, rfl⟩
  rw [countB_one, split_spl c _ l (Nat.le_refl _)]
  refine ⟨w.heap.size, l.count c + 1, ?_, ?_, (Below.refl _ _).alloc (Nat.le_refl _) _, by rw [spl_len]; exact Nat.le_refl _⟩
  · rw [spl_len]
  · intro j hj
    rw [World.cell?_alloc_new]
    simp [hj]
end Go.Proofs.YtbhdoocajfkfiaaGreatDoor.link

namespace Go.Proofs.YtbhdoocajfkfiaaGreatDoor.cln
open Go.ChangeShapes Go.WideShapes Go.ChangeAt Go.RowKit Go.Lib Go.Proofs.YtbhdoocajfkfiaaGreatDoor.link

/-- a block that holds just these strings -/
def SRow (w : World) (b : Nat) (ls : List (List UInt8)) : Prop := w.heap[b]? = some (.cells (strsOf ls).toArray 9)
theorem srow_cell {w : World} {b : Nat} {ls : List (List UInt8)} (h : SRow w b ls) (k : Nat) (x : List UInt8) (hx : ls[k]? = some x) : w.cell? ⟨b, k, none⟩ = some (.string ⟨x.toArray⟩) := by
  unfold SRow at h
  simp [World.cell?, h, strsOf, hx]
theorem srow_frozen {w : World} {b : Nat} {ls : List (List UInt8)} (h : SRow w b ls) (k : Nat) : w.frozen? ⟨b, k, none⟩ = false := by
  unfold SRow at h
  simp [World.frozen?, h]
theorem srow_set {w : World} {b : Nat} {ls : List (List UInt8)} (h : SRow w b ls) (k : Nat) (x : List UInt8) : SRow (w.setCell ⟨b, k, none⟩ (.string ⟨x.toArray⟩)) b (ls.set k x) := by
  unfold SRow at h ⊢
  simp [World.setCell, Array.getElem?_modify, h, strsOf, List.map_set]
theorem srow_lt {w : World} {b : Nat} {ls : List (List UInt8)} (h : SRow w b ls) : b < w.heap.size := (Array.getElem?_eq_some_iff.1 h).1
theorem srow_below {w w' : World} {b B : Nat} {ls : List (List UInt8)} (h : SRow w b ls) (hl : b < B) (hb : Below B w w') : SRow w' b ls := by
  unfold SRow at h ⊢
  rw [← h]
  exact hb.block b hl

theorem split_new (l : List UInt8) (c : UInt8) (hl : l.length ≤ 1000000) (w : World) (hG : G w) :
    Calls Tryz.prog 147 #[.string ⟨l.toArray⟩, .string ⟨#[c]⟩] w fun e w' => e = .returned (.slice (some ⟨w.heap.size, 0, none⟩) (spl c [] l).length (spl c [] l).length) ∧ SRow w' w.heap.size (spl c [] l) ∧ Below w.heap.size w w' := by
  obtain ⟨m, hm⟩ := hG.ml
  refine (Tryz.strings_Split ⟨l.toArray⟩ ⟨#[c]⟩ m w (by rw [bsize]; omega) hm (Nat.le_refl 1)).mono ?_
  rintro e w' ⟨rfl, rfl⟩
  rw [countB_one, split_spl c _ l (Nat.le_refl _)]
  refine ⟨by rw [spl_len], ?_, (Below.refl _ _).alloc (Nat.le_refl _) _⟩
  unfold SRow strsOf
  rw [List.map_map]
  show (w.heap.push _)[w.heap.size]? = _
  rw [Array.getElem?_push_size]
  rfl

/-- the first k stripped -/
def mixL (ls : List (List UInt8)) (k : Nat) : List (List UInt8) := (ls.take k).map stripB ++ ls.drop k
theorem mixL_len (ls : List (List UInt8)) (k : Nat) (hk : k ≤ ls.length) : (mixL ls k).length = ls.length := by simp [mixL]; omega
theorem mixL_at (ls : List (List UInt8)) (k : Nat) (h : k < ls.length) : (mixL ls k)[k]? = some ls[k] := by
  unfold mixL
  rw [List.getElem?_append_right (by simp; omega)]
  simp [Nat.min_eq_left (Nat.le_of_lt h)]
theorem mixL_step (ls : List (List UInt8)) (k : Nat) (h : k < ls.length) : mixL ls (k + 1) = (mixL ls k).set k (stripB ls[k]) := by
  unfold mixL
  rw [List.take_succ_eq_append_getElem h, List.map_append, List.map_cons, List.map_nil, List.append_assoc, List.set_append_right _ _ (by simp; omega)]
  simp only [List.length_map, List.length_take, Nat.min_eq_left (Nat.le_of_lt h), Nat.sub_self]
  rw [List.drop_eq_getElem_cons h]
  rfl
theorem mixL_all (ls : List (List UInt8)) : mixL ls ls.length = ls.map stripB := by simp [mixL]

/-- the text of mail.Clean -/
def cleanM (l : List UInt8) : List UInt8 := Lib.join ((spl 44 [] l).map stripB) [44]

theorem joinTail_len (sep : List UInt8) (xs : List (List UInt8)) (n : Nat) (h : ∀ x ∈ xs, x.length ≤ n) : (Lib.joinTail sep xs).length ≤ xs.length * (sep.length + n) := by
  induction xs with
  | nil => simp [Lib.joinTail]
  | cons a r ih =>
    have h1 := ih (fun x hx => h x (List.mem_cons_of_mem _ hx))
    have h2 := h a List.mem_cons_self
    unfold Lib.joinTail at h1 ⊢
    rw [List.map_cons, List.flatten_cons, List.length_append, List.length_append, List.length_cons, Nat.succ_mul]
    omega
theorem join_len (sep : List UInt8) (xs : List (List UInt8)) (n : Nat) (h : ∀ x ∈ xs, x.length ≤ n) : (Lib.join xs sep).length ≤ n + xs.length * (sep.length + n) := by
  cases xs with
  | nil => rw [Lib.join_nil]; simp
  | cons a r =>
    rw [Lib.join_cons, List.length_append]
    have h1 := joinTail_len sep r n (fun x hx => h x (List.mem_cons_of_mem _ hx))
    have h2 := h a List.mem_cons_self
    have h3 : r.length * (sep.length + n) ≤ (a :: r).length * (sep.length + n) := Nat.mul_le_mul_right _ (by simp)
    omega

theorem join_row (xs : List (List UInt8)) (b : Nat) (w : World) (h : SRow w b xs) (hn : xs.length ≤ 1000001) (hx : ∀ x ∈ xs, x.length ≤ 1000000) :
    Calls Tryz.prog 148 #[.slice (some ⟨b, 0, none⟩) xs.length xs.length, .string ⟨#[44]⟩] w fun e w' => e = .returned (.string ⟨(Lib.join xs [44]).toArray⟩) ∧ Below w.heap.size w w' := by
  have hl := join_len [44] xs 1000000 hx
  have e1 : (xs.map fun x => (⟨x.toArray⟩ : ByteArray)).map (·.data.toList) = xs := by rw [List.map_map]; exact List.map_id' _ 
  have hm : xs.length * (1 + 1000000) ≤ 1000001 * (1 + 1000000) := Nat.mul_le_mul_right _ hn
  have hJ := Tryz.strings_Join b 0 xs.length (xs.map fun x => (⟨x.toArray⟩ : ByteArray)) ⟨#[44]⟩ w (by
    intro j x hj
    rw [List.getElem?_map, Option.map_eq_some_iff] at hj
    obtain ⟨y, hy, rfl⟩ := hj
    rw [Nat.zero_add]
    exact srow_cell h j y hy) (srow_lt h) (by rw [List.length_map]; omega) (by rw [List.length_map]; exact Nat.le_refl _) (by
    rw [e1]
    show (Lib.join xs [44]).length ≤ _
    simp only [List.length_cons, List.length_nil] at hl
    omega)
  rw [e1, List.length_map] at hJ
  exact hJ

set_option maxHeartbeats 1600000 in
set_option maxRecDepth 100000 in
theorem mclean_any (l : List UInt8) (hl : l.length ≤ 1000000) (w : World) (hG : G w) :
    Calls Tryz.prog 109 #[.string ⟨l.toArray⟩] w fun e w' => e = .returned (.string ⟨(cleanM l).toArray⟩) ∧ Below w.heap.size w w' := by
  have h1 := split_new l 44 hl w hG
  obtain ⟨tx, htx⟩ : ∃ tx, tx = cleanM l := ⟨_, rfl⟩
  rw [← htx]
  unfold cleanM at htx
  have hsm : ∀ x ∈ spl 44 [] l, x.length ≤ 1000000 := fun x hx => by have := spl_small 44 l [] x hx; simp at this; omega
  have hn : (spl 44 [] l).length ≤ 1000001 := by have := spl_len 44 l []; have h3 : l.count 44 ≤ l.length := List.count_le_length; omega
  obtain ⟨B, hB⟩ : ∃ B, B = w.heap.size := ⟨_, rfl⟩
  rw [← hB] at h1 ⊢
  generalize spl 44 [] l = ls at *
  have HTX := Lib.hid htx
  have HB := Lib.hid hB
  have HS := Lib.hid hsm
  clear htx hB hsm
  go_enter Tryz.func109, Tryz.ntmps109
  go_wp2_with fail
  refine h1.mono ?_
  rintro e w1 ⟨rfl, hR, hb1⟩
  go_wp2_with fail
  go_loopw [4, 9] (fun _ s wr => ∃ k : Nat, s = .int .i64 k ∧ k ≤ ls.length ∧ SRow wr B (mixL ls k) ∧ Below B w wr) (fun _ s _ => ls.length - (RowKit.intOf s).toNat)
  case atStart => exact ⟨0, rfl, by omega, by simpa [mixL] using hR, hb1⟩
  case round =>
    obtain ⟨k, rfl, hk, hrow, hb⟩ := hrel
    clear hR hb1
    by_cases hlt : k < ls.length
    · have hcell := srow_cell hrow k _ (mixL_at ls k hlt)
      have hfr := srow_frozen hrow k
      have hstep := mixL_step ls k hlt
      have hxl := HS.out ls[k] (List.getElem_mem hlt)
      generalize ls[k] = x at *
      have h2 := strip_any x (by omega) wr
      generalize stripB x = y at *
      go_wp2_with fail
      refine h2.mono ?_
      rintro e w2 ⟨rfl, hb2⟩
      have hrow2 := srow_below hrow (srow_lt hrow) hb2
      have hcell2 := srow_cell hrow2 k _ (by rw [mixL_at ls k hlt])
      have hfr2 := srow_frozen hrow2 k
      have hset := srow_set hrow2 k y
      rw [← hstep] at hset
      have hbs := (hb.trans (hb2.mono (Nat.le_of_lt (srow_lt hrow)))).setCell (p := ⟨B, k, none⟩) (Nat.le_refl _) (.string ⟨y.toArray⟩)
      clear hrow hrow2 hstep hcell hfr hb2
      go_wp2_with fail
      go_roundw
      case rel => exact ⟨k + 1, by go_num, by omega, hset, hbs⟩
      case measure => simp [RowKit.intOf]; omega
    · obtain rfl : k = ls.length := by omega
      rw [mixL_all] at hrow
      have h3 := join_row (ls.map stripB) B wr hrow (by rw [List.length_map]; exact hn) (by
        intro x hx
        obtain ⟨y, hy, rfl⟩ := List.mem_map.1 hx
        exact Nat.le_trans (stripB_le y) (HS.out y hy))
      rw [← HTX.out, List.length_map] at h3
      have hBs := Nat.le_of_lt (srow_lt hrow)
      clear hrow
      go_wp2_with fail
      refine h3.mono ?_
      rintro e w2 ⟨rfl, hb2⟩
      go_wp2_with fail
      go_ret
      exact ⟨rfl, hb.trans (hb2.mono hBs)⟩
end Go.Proofs.YtbhdoocajfkfiaaGreatDoor.cln
