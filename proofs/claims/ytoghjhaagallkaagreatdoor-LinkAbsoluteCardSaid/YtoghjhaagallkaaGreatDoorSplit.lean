/- The contract of the reference's Split. -/
import Derived.Test.YtoghjhaagallkaaGreatDoorLower
namespace Go.Proofs.YtoghjhaagallkaaGreatDoor.link
open Go.ChangeShapes Go.WideShapes Go.ChangeAt Go.RowKit Go.Lib

/-- the pieces of a text, the piece under way ahead -/
def spl (c : UInt8) : List UInt8 → List UInt8 → List (List UInt8)
  | acc, [] => [acc]
  | acc, b :: r => if b = c then acc :: spl c [] r else spl c (acc ++ [b]) r
def strsOf (ls : List (List UInt8)) : List Value := ls.map fun x => Value.string ⟨x.toArray⟩

theorem infoStr : (Tryz.prog.info? 9).map (fun i => (i.zero, i.size, i.bytes)) = some (some (.string ⟨#[]⟩), 1, 16) := by kernel_rfl

theorem piece_step (l : List UInt8) (f k : Nat) (b : UInt8) (r : List UInt8) (hf : f ≤ k) (h : l.drop k = b :: r) : (l.drop f).take (k + 1 - f) = (l.drop f).take (k - f) ++ [b] := by
  have hk : k < l.length := by
    have := congrArg List.length h
    simp at this; omega
  have e : l[k] = b := by
    have := List.drop_eq_getElem_cons hk
    rw [h] at this
    exact (List.cons.inj this).1.symm
  have h2 : k - f < (l.drop f).length := by simp; omega
  rw [show k + 1 - f = (k - f) + 1 from by omega, List.take_succ_eq_append_getElem h2]
  congr 1
  rw [List.getElem_drop]
  congr 1
  rw [← e]
  congr 1
  omega

set_option maxHeartbeats 1600000 in
set_option maxRecDepth 100000 in
theorem rsplit_any (l : List UInt8) (c : UInt8) (hl : l.length ≤ 1000000) (w : World) :
    Calls Tryz.prog 47 #[.string ⟨l.toArray⟩, .int .u8 c.toNat] w fun e w' => ∃ v, e = .returned v ∧ w'.ownsRow w.heap.size 9 1 v (spl c [] l).length (strsOf (spl c [] l)) ∧ Below w.heap.size w w' := by
  obtain ⟨i0, hi, hz0, hz1, hz2⟩ := info_parts infoStr
  obtain ⟨B, hB⟩ : ∃ B, B = w.heap.size := ⟨_, rfl⟩
  rw [← hB]
  have HB := Lib.hid hB
  clear hB
  obtain ⟨full, hfull⟩ : ∃ full, full = spl c [] l := ⟨_, rfl⟩
  rw [← hfull]
  have HF := Lib.hid hfull
  clear hfull
  have hc8 := c.toNat_lt
  go_enter Tryz.func47, Tryz.ntmps47
  go_wp2_with fail
  go_loopw [5, 6, 7] (fun v x s wr => ∃ (k f : Nat) (ps : List (List UInt8)), s = .int .i64 k ∧ x = .int .i64 f ∧ k ≤ l.length + 1 ∧ f ≤ k ∧ wr.ownsRow B 9 1 v ps.length (strsOf ps) ∧ Hid ((k ≤ l.length → full = ps ++ spl c ((l.drop f).take (k - f)) (l.drop k)) ∧ (k = l.length + 1 → full = ps) ∧ ps.length ≤ k) ∧ Below B w wr ∧ B ≤ wr.heap.size) (fun _ _ s _ => l.length + 1 - (RowKit.intOf s).toNat)
  case atStart => exact ⟨0, 0, [], rfl, rfl, by omega, by omega, World.ownsRow_nil _ _ _ _, Lib.hid ⟨fun _ => by rw [HF.out]; simp, fun h => by omega, by simp⟩, by rw [HB.out]; exact Below.refl _ _, by rw [HB.out]; omega⟩
  case round =>
    obtain ⟨k, f, ps, rfl, rfl, hk, hf, hown, hh, hb, hbs⟩ := hrel
    by_cases hle : k ≤ l.length
    · have hps := hh.out.2.2
      have hful := hh.out.1 hle
      by_cases hlt : k < l.length
      · obtain ⟨b, rest, hd1, hd2, hidx⟩ := byte_at l k hlt
        have tl : ((k : Int) == l.length) = false := by simp; omega
        have hb8 := b.toNat_lt
        rw [hd1, spl] at hful
        by_cases hbc : b = c
        · subst hbc
          rw [if_pos rfl, ← hd2] at hful
          have HX : Hid (full = (ps ++ [(l.drop f).take (k - f)]) ++ spl b ((l.drop (k + 1)).take (k + 1 - (k + 1))) (l.drop (k + 1))) := Lib.hid (by rw [hful]; simp)
          have HP := Lib.hid hps
          clear hful hd1 hd2 hh hps
          go_wp2_with (first
            | (at_builtin; refine wpList_append_own _ rfl _ _ 38 rfl B 9 i0 (.string ⟨#[]⟩) 1 16 Tryz.underlying38 hi hz0 hz1 hz2 rfl (by decide) _ _ _ rfl (hown.alloc _) ⟨wr.heap.size, 0, none⟩ 1 1 [.string ⟨((l.drop f).take (k - f)).toArray⟩] rfl rfl ?_ ?_ ?_ ?_ ?_ ?_)
            | go_in)
          all_goals first | exact cell_one_new _ _ _ | (show Value.oneCell' _ = true; rfl) | (intro u hu; simp at hu; subst hu; rfl) | (have := HP.out; unfold maxLen; omega) | (have := HP.out; omega) | (simp; omega) | skip
          intro v' w1 hown' hgrow _
          have hr := low_rel w wr w1 B _ _ _ _ _ hown hb hbs hgrow
          have ho2 : w1.ownsRow B 9 1 v' (ps ++ [(l.drop f).take (k - f)]).length (strsOf (ps ++ [(l.drop f).take (k - f)])) := by
            rw [show strsOf (ps ++ [(l.drop f).take (k - f)]) = strsOf ps ++ [.string ⟨((l.drop f).take (k - f)).toArray⟩] from by simp [strsOf], List.length_append]
            exact hown'
          clear hown' hgrow hown
          go_wp2_with fail
          go_roundw
          case rel => exact ⟨k + 1, k + 1, _, by go_num, by go_num, by omega, by omega, ho2, Lib.hid ⟨fun _ => HX.out, fun h => by omega, by have := HP.out; rw [List.length_append]; simp; omega⟩, hr.1, hr.2⟩
          case measure => simp [RowKit.intOf]; omega
        · have tb : ((b.toNat : Int) == c.toNat) = false := by
            simp only [beq_eq_false_iff_ne, ne_eq]
            intro g
            exact hbc (UInt8.toNat_inj.1 (by omega))
          rw [if_neg hbc, ← piece_step l f k b rest hf hd1, ← hd2] at hful
          have HX := Lib.hid (And.intro hful hps)
          clear hful hd1 hd2 hh hps
          go_wp2_with fail
          go_roundw
          case rel => exact ⟨k + 1, f, ps, by go_num, rfl, by omega, by omega, hown, Lib.hid ⟨fun _ => HX.out.1, fun h => by omega, by have := HX.out.2; omega⟩, hb, hbs⟩
          case measure => simp [RowKit.intOf]; omega
      · obtain rfl : k = l.length := by omega
        rw [List.drop_length, take_drop_all, spl] at hful
        have HX := Lib.hid hful
        have HP := Lib.hid hps
        clear hful hh hps
        go_wp2_with (first
          | (at_builtin; refine wpList_append_own _ rfl _ _ 38 rfl B 9 i0 (.string ⟨#[]⟩) 1 16 Tryz.underlying38 hi hz0 hz1 hz2 rfl (by decide) _ _ _ rfl (hown.alloc _) ⟨wr.heap.size, 0, none⟩ 1 1 [.string ⟨(l.drop f).toArray⟩] rfl rfl ?_ ?_ ?_ ?_ ?_ ?_)
          | go_in)
        all_goals first | exact cell_one_new _ _ _ | (show Value.oneCell' _ = true; rfl) | (intro u hu; simp at hu; subst hu; rfl) | (have := HP.out; unfold maxLen; omega) | (have := HP.out; omega) | (simp; omega) | skip
        intro v' w1 hown' hgrow _
        have hr := low_rel w wr w1 B _ _ _ _ _ hown hb hbs hgrow
        have ho2 : w1.ownsRow B 9 1 v' (ps ++ [l.drop f]).length (strsOf (ps ++ [l.drop f])) := by
          rw [show strsOf (ps ++ [l.drop f]) = strsOf ps ++ [.string ⟨(l.drop f).toArray⟩] from by simp [strsOf], List.length_append]
          exact hown'
        clear hown' hgrow hown
        go_wp2_with fail
        go_roundw
        case rel => exact ⟨l.length + 1, l.length + 1, _, by go_num, by go_num, by omega, by omega, ho2, Lib.hid ⟨fun h => by omega, fun _ => HX.out, by have := HP.out; rw [List.length_append]; simp; omega⟩, hr.1, hr.2⟩
        case measure => first | (simp [RowKit.intOf]; done) | (simp [RowKit.intOf]; omega)
    · have HX : Hid (full = ps) := Lib.hid (hh.out.2.1 (by omega))
      clear hh
      go_wp2_with fail
      go_ret
      exact ⟨_, rfl, by rw [HX.out]; exact hown, hb⟩
end Go.Proofs.YtoghjhaagallkaaGreatDoor.link
