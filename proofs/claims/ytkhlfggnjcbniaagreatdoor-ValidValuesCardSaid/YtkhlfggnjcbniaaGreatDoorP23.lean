/- The contracts of the reference's Words and Collapse. The contract of the reference's Collapse. -/
import Derived.BigQuiet
import Derived.ChangeAlike
import Derived.Deep.CutBlock
import Derived.Deep.DeepCutAuto
import Derived.Deep.MidRow
import Derived.Deep.RegionHeld3
import Derived.Deep.SlicePairs
import Derived.Deep.Slices
import Derived.Ground.MpProg
import Derived.Laws.BytesArg
import Derived.Laws.IdiomStrings
import Derived.Laws.OwnMore
import Derived.Lib.AppendStr
import Derived.Lib.Hide
import Derived.Lib.IndexBytes
import Derived.Lib.IndexMore
import Derived.Lib.ItoaMem
import Derived.Lib.ItoaNum
import Derived.Lib.Replace
import Derived.Lib.SlTrimSet
import Derived.Lib.Strings
import Derived.OpenShut
import Derived.ProofKit
import Derived.RegionTactic
import Derived.Shelf.SlicesQ.IndexFunc
import Derived.Shelf.Strings.BuilderK
import Derived.WalkKit
import Derived.WalkSmall
import Derived.WalkSpells
import Derived.WideKeyArgs
import Derived.Test.YtkhlfggnjcbniaaGreatDoorRows
import Derived.Test.YtkhlfggnjcbniaaGreatDoorShelf
import Derived.Test.YtkhlfggnjcbniaaGreatDoorP0
import Derived.Test.YtkhlfggnjcbniaaGreatDoorP1
import Derived.Test.YtkhlfggnjcbniaaGreatDoorP2
import Derived.Test.YtkhlfggnjcbniaaGreatDoorP3
import Derived.Test.YtkhlfggnjcbniaaGreatDoorP5
import Derived.Test.YtkhlfggnjcbniaaGreatDoorP6
import Derived.Test.YtkhlfggnjcbniaaGreatDoorP7
import Derived.Test.YtkhlfggnjcbniaaGreatDoorP8
import Derived.Test.YtkhlfggnjcbniaaGreatDoorP9
import Derived.Test.YtkhlfggnjcbniaaGreatDoorP10
import Derived.Test.YtkhlfggnjcbniaaGreatDoorP11
import Derived.Test.YtkhlfggnjcbniaaGreatDoorP12
import Derived.Test.YtkhlfggnjcbniaaGreatDoorP20
import Derived.Test.YtkhlfggnjcbniaaGreatDoorP21
import Derived.Test.YtkhlfggnjcbniaaGreatDoorP22
namespace Go.Proofs.YtkhlfggnjcbniaaGreatDoor.doc
open Go.ChangeShapes Go.WideShapes Go.ChangeAt Go.RowKit Go.Lib Go.Proofs.YtkhlfggnjcbniaaGreatDoor.atr Go.Proofs.YtkhlfggnjcbniaaGreatDoor.link Go.Proofs.YtkhlfggnjcbniaaGreatDoor.cln

/-- the run so far: from where it began -/
def curF (s : List UInt8) (f : Int) (k : Nat) : List UInt8 := if f < 0 then [] else (s.drop f.toNat).take (k - f.toNat)
theorem cur_none (s : List UInt8) (k : Nat) : curF s (-1) k = [] := rfl
theorem cur_some (s : List UInt8) (f k : Nat) : curF s (f : Int) k = (s.drop f).take (k - f) := by unfold curF; rw [if_neg (by omega), Int.toNat_natCast]
theorem cur_ne (s : List UInt8) (f k : Nat) (h : f < k) (hk : k ≤ s.length) : curF s (f : Int) k ≠ [] := by
  rw [cur_some]
  intro e
  have := congrArg List.length e
  rw [List.length_take, List.length_drop] at this
  simp at this
  omega
theorem cur_step (s : List UInt8) (f k : Nat) (c : UInt8) (r : List UInt8) (hf : f ≤ k) (h : s.drop k = c :: r) : curF s (f : Int) (k + 1) = curF s (f : Int) k ++ [c] := by
  rw [cur_some, cur_some]; exact piece_step s f k c r hf h
theorem cur_begin (s : List UInt8) (k : Nat) (c : UInt8) (r : List UInt8) (h : s.drop k = c :: r) : curF s (k : Int) (k + 1) = [c] := by
  rw [cur_step s k k c r (Nat.le_refl _) h, cur_some, Nat.sub_self, List.take_zero, List.nil_append]

theorem wrd_nil0 : wrdS [] [] = [] := by rw [wrdS, if_pos rfl]
theorem wrd_nil1 (cur : List UInt8) (h : cur ≠ []) : wrdS cur [] = [cur] := by rw [wrdS, if_neg h]
theorem wrd_b0 (c : UInt8) (r : List UInt8) (h : isB c = true) : wrdS [] (c :: r) = wrdS [] r := by rw [wrdS, if_pos h, if_pos rfl]
theorem wrd_b1 (cur : List UInt8) (c : UInt8) (r : List UInt8) (h : isB c = true) (hc : cur ≠ []) : wrdS cur (c :: r) = cur :: wrdS [] r := by rw [wrdS, if_pos h, if_neg hc]
theorem wrd_c (cur : List UInt8) (c : UInt8) (r : List UInt8) (h : isB c = false) : wrdS cur (c :: r) = wrdS (cur ++ [c]) r := by rw [wrdS, if_neg (by rw [h]; simp)]

set_option maxHeartbeats 3200000 in
set_option maxRecDepth 100000 in
theorem rwords_any (s : List UInt8) (hl : s.length ≤ 2000000) (w : World) :
    Calls Tryz.prog 279 #[.string ⟨s.toArray⟩] w fun e w' => ∃ v, e = .returned v ∧ w'.ownsRow w.heap.size 9 1 v (wrdS [] s).length (strsOf (wrdS [] s)) ∧ Below w.heap.size w w' := by
  obtain ⟨i0, hi, hz0, hz1, hz2⟩ := info_parts infoStr
  obtain ⟨B, hB⟩ : ∃ B, B = w.heap.size := ⟨_, rfl⟩
  rw [← hB]
  have HB := Lib.hid hB
  clear hB
  obtain ⟨full, hfull⟩ : ∃ full, full = wrdS [] s := ⟨_, rfl⟩
  rw [← hfull]
  have HF := Lib.hid hfull
  clear hfull
  go_enter Tryz.func279, Tryz.ntmps279
  go_wp2_with fail
  go_loopw [3, 4, 5] (fun v x y wr => ∃ (k : Nat) (f : Int) (ps : List (List UInt8)), y = .int .i64 k ∧ x = .int .i64 f ∧ k ≤ s.length + 1 ∧ -1 ≤ f ∧ f < (k : Int) + 1 ∧ (0 ≤ f → f < (k : Int) ∧ k ≤ s.length) ∧ wr.ownsRow B 9 1 v ps.length (strsOf ps) ∧ Hid (full = ps ++ wrdS (curF s f k) (s.drop k) ∧ ps.length ≤ k) ∧ Below B w wr ∧ B ≤ wr.heap.size) (fun _ _ y _ => s.length + 1 - (RowKit.intOf y).toNat)
  case atStart => exact ⟨0, -1, [], rfl, rfl, by omega, by omega, by omega, fun h => by omega, World.ownsRow_nil _ _ _ _, Lib.hid ⟨by rw [HF.out, cur_none]; simp, by simp⟩, by rw [HB.out]; exact Below.refl _ _, by rw [HB.out]; omega⟩
  case round =>
    obtain ⟨k, f, ps, rfl, rfl, hk, hf1, hf2, hf3, hown, hh, hb, hbs⟩ := hrel
    by_cases hle : k ≤ s.length
    · by_cases hlt : k < s.length
      · obtain ⟨c, rest, hd1, hd2, hidx⟩ := Go.Proofs.YtkhlfggnjcbniaaGreatDoor.link.byte_at s k hlt
        have hbl := fun w => rblank_any c w
        have HE := Lib.hid hh.out.1
        have HP := Lib.hid hh.out.2
        have HD1 := Lib.hid hd1
        have HD2 := Lib.hid hd2
        have HG := Lib.hid (show isB c = isB c from rfl)
        obtain ⟨q, hq⟩ : ∃ q, q = isB c := ⟨_, rfl⟩
        rw [← hq] at hbl
        have HQ := Lib.hid hq
        clear hd1 hd2 hh hq HG
        by_cases g : f < 0
        · obtain rfl : f = -1 := by omega
          clear hf1 hf2 hf3 g
          cases q
          · have HX : Hid (full = ps ++ wrdS (curF s (k : Int) (k + 1)) (s.drop (k + 1))) := Lib.hid (by rw [HE.out, HD1.out, cur_none, wrd_c _ c rest HQ.out.symm, cur_begin s k c rest HD1.out, HD2.out]; rfl)
            go_upto_region 6 with fail
            go_cut [22] (fun s22 wx => s22 = .bool true ∧ wx = wr)
            case first =>
              go_wp2_with fail
              refine (hbl _).mono ?_
              rintro e w' ⟨rfl, rfl⟩
              go_wp2_with fail
              go_meet
              exact ⟨rfl, rfl⟩
            case rest =>
            obtain ⟨rfl, rfl⟩ := hcut
            go_wp2_with fail
            go_roundw
            case rel => exact ⟨k + 1, k, ps, by go_num, rfl, by omega, by omega, by omega, fun _ => ⟨by omega, by omega⟩, hown, Lib.hid ⟨HX.out, by have := HP.out; omega⟩, hb, hbs⟩
            case measure => simp [RowKit.intOf]; omega
          · have HX : Hid (full = ps ++ wrdS (curF s (-1) (k + 1)) (s.drop (k + 1))) := Lib.hid (by rw [HE.out, HD1.out, cur_none, wrd_b0 c rest HQ.out.symm, HD2.out]; rfl)
            go_upto_region 6 with fail
            go_cut [22] (fun s22 wx => s22 = .bool false ∧ wx = wr)
            case first =>
              go_wp2_with fail
              refine (hbl _).mono ?_
              rintro e w' ⟨rfl, rfl⟩
              go_wp2_with fail
              go_meet
              exact ⟨rfl, rfl⟩
            case rest =>
            obtain ⟨rfl, rfl⟩ := hcut
            go_wp2_with fail
            go_roundw
            case rel => exact ⟨k + 1, -1, ps, by go_num, rfl, by omega, by omega, by omega, fun h => by omega, hown, Lib.hid ⟨HX.out, by have := HP.out; omega⟩, hb, hbs⟩
            case measure => simp [RowKit.intOf]; omega
        · obtain ⟨fn, rfl⟩ : ∃ fn : Nat, f = (fn : Int) := ⟨f.toNat, by omega⟩
          obtain ⟨h1, h2⟩ := hf3 (by omega)
          have HC := Lib.hid (cur_some s fn k)
          have HNe := Lib.hid (cur_ne s fn k (by omega) h2)
          clear hf3
          cases q
          · have HX : Hid (full = ps ++ wrdS (curF s (fn : Int) (k + 1)) (s.drop (k + 1))) := Lib.hid (by rw [HE.out, HD1.out, wrd_c _ c rest HQ.out.symm, cur_step s fn k c rest (by omega) HD1.out, HD2.out])
            go_upto_region 6 with fail
            go_cut [22] (fun s22 wx => s22 = .bool true ∧ wx = wr)
            case first =>
              go_wp2_with fail
              refine (hbl _).mono ?_
              rintro e w' ⟨rfl, rfl⟩
              go_wp2_with fail
              go_meet
              exact ⟨rfl, rfl⟩
            case rest =>
            obtain ⟨rfl, rfl⟩ := hcut
            go_wp2_with fail
            go_roundw
            case rel => exact ⟨k + 1, fn, ps, by go_num, rfl, by omega, by omega, by omega, fun _ => ⟨by omega, by omega⟩, hown, Lib.hid ⟨HX.out, by have := HP.out; omega⟩, hb, hbs⟩
            case measure => simp [RowKit.intOf]; omega
          · have HX : Hid (full = (ps ++ [(s.drop fn).take (k - fn)]) ++ wrdS (curF s (-1) (k + 1)) (s.drop (k + 1))) := Lib.hid (by rw [HE.out, HD1.out, wrd_b1 _ c rest HQ.out.symm HNe.out, HC.out, cur_none, HD2.out]; simp)
            go_upto_region 6 with fail
            go_cut [22] (fun s22 wx => s22 = .bool false ∧ wx = wr)
            case first =>
              go_wp2_with fail
              refine (hbl _).mono ?_
              rintro e w' ⟨rfl, rfl⟩
              go_wp2_with fail
              go_meet
              exact ⟨rfl, rfl⟩
            case rest =>
            obtain ⟨rfl, rfl⟩ := hcut
            go_wp2_with (first
              | (at_builtin; refine wpList_append_own _ rfl _ _ 82 rfl B 9 i0 (.string ⟨#[]⟩) 1 16 Tryz.underlying82 hi hz0 hz1 hz2 rfl (by decide) _ _ _ rfl (hown.alloc _) ⟨wc.heap.size, 0, none⟩ 1 1 [.string ⟨((s.drop fn).take (k - fn)).toArray⟩] rfl rfl ?_ ?_ ?_ ?_ ?_ ?_)
              | go_in)
            all_goals first | exact cell_one_new _ _ _ | (show Value.oneCell' _ = true; rfl) | (intro u hu; simp at hu; subst hu; rfl) | (have := HP.out; unfold maxLen; omega) | (have := HP.out; omega) | (simp; omega) | skip
            intro v' w1 hown' hgrow _
            have hr := low_rel w wc w1 B _ _ _ _ _ hown hb hbs hgrow
            have ho2 : w1.ownsRow B 9 1 v' (ps ++ [(s.drop fn).take (k - fn)]).length (strsOf (ps ++ [(s.drop fn).take (k - fn)])) := by
              rw [show strsOf (ps ++ [(s.drop fn).take (k - fn)]) = strsOf ps ++ [.string ⟨((s.drop fn).take (k - fn)).toArray⟩] from by simp [strsOf], List.length_append]
              exact hown'
            clear hown' hgrow hown
            go_wp2_with fail
            go_roundw
            case rel => exact ⟨k + 1, -1, _, by go_num, rfl, by omega, by omega, by omega, fun h => by omega, ho2, Lib.hid ⟨HX.out, by have := HP.out; rw [List.length_append]; simp; omega⟩, hr.1, hr.2⟩
            case measure => simp [RowKit.intOf]; omega
      · obtain rfl : k = s.length := by omega
        have HE := Lib.hid hh.out.1
        have HP := Lib.hid hh.out.2
        clear hh
        by_cases g : f < 0
        · obtain rfl : f = -1 := by omega
          have HX : Hid (full = ps ++ wrdS (curF s (-1) (s.length + 1)) (s.drop (s.length + 1))) := Lib.hid (by rw [HE.out, List.drop_length, List.drop_eq_nil_of_le (by omega), cur_none, cur_none])
          clear hf1 hf2 hf3 g
          go_wp2_with fail
          go_roundw
          case rel => exact ⟨s.length + 1, -1, ps, by go_num, rfl, by omega, by omega, by omega, fun h => by omega, hown, Lib.hid ⟨HX.out, by have := HP.out; omega⟩, hb, hbs⟩
          case measure => first | (simp [RowKit.intOf]; done) | (simp [RowKit.intOf]; omega)
        · obtain ⟨fn, rfl⟩ : ∃ fn : Nat, f = (fn : Int) := ⟨f.toNat, by omega⟩
          obtain ⟨h1, h2⟩ := hf3 (by omega)
          have HX : Hid (full = (ps ++ [s.drop fn]) ++ wrdS (curF s (-1) (s.length + 1)) (s.drop (s.length + 1))) := Lib.hid (by
            rw [HE.out, List.drop_length, List.drop_eq_nil_of_le (Nat.le_succ _), wrd_nil1 _ (cur_ne s fn s.length (by omega) (Nat.le_refl _)), cur_some, take_drop_all, cur_none, wrd_nil0]; simp)
          clear hf3
          go_wp2_with (first
            | (at_builtin; refine wpList_append_own _ rfl _ _ 82 rfl B 9 i0 (.string ⟨#[]⟩) 1 16 Tryz.underlying82 hi hz0 hz1 hz2 rfl (by decide) _ _ _ rfl (hown.alloc _) ⟨wr.heap.size, 0, none⟩ 1 1 [.string ⟨(s.drop fn).toArray⟩] rfl rfl ?_ ?_ ?_ ?_ ?_ ?_)
            | go_in)
          all_goals first | exact cell_one_new _ _ _ | (show Value.oneCell' _ = true; rfl) | (intro u hu; simp at hu; subst hu; rfl) | (have := HP.out; unfold maxLen; omega) | (have := HP.out; omega) | (simp; omega) | skip
          intro v' w1 hown' hgrow _
          have hr := low_rel w wr w1 B _ _ _ _ _ hown hb hbs hgrow
          have ho2 : w1.ownsRow B 9 1 v' (ps ++ [s.drop fn]).length (strsOf (ps ++ [s.drop fn])) := by
            rw [show strsOf (ps ++ [s.drop fn]) = strsOf ps ++ [.string ⟨(s.drop fn).toArray⟩] from by simp [strsOf], List.length_append]
            exact hown'
          clear hown' hgrow hown
          go_wp2_with fail
          go_roundw
          case rel => exact ⟨s.length + 1, -1, _, by go_num, rfl, by omega, by omega, by omega, fun h => by omega, ho2, Lib.hid ⟨HX.out, by have := HP.out; rw [List.length_append]; simp; omega⟩, hr.1, hr.2⟩
          case measure => first | (simp [RowKit.intOf]; done) | (simp [RowKit.intOf]; omega)
    · obtain rfl : k = s.length + 1 := by omega
      have hf4 : f = -1 := by
        by_cases g : 0 ≤ f
        · have := hf3 g; omega
        · omega
      have HX : Hid (full = ps) := Lib.hid (by rw [hh.out.1, hf4, cur_none, List.drop_eq_nil_of_le (by omega), wrd_nil0, List.append_nil])
      clear hh hf4 hf3
      go_wp2_with fail
      go_ret
      exact ⟨_, rfl, by rw [HX.out]; exact hown, hb⟩
end Go.Proofs.YtkhlfggnjcbniaaGreatDoor.doc
namespace Go.Proofs.YtkhlfggnjcbniaaGreatDoor.doc
open Go.ChangeShapes Go.WideShapes Go.ChangeAt Go.RowKit Go.Lib Go.Proofs.YtkhlfggnjcbniaaGreatDoor.atr Go.Proofs.YtkhlfggnjcbniaaGreatDoor.link Go.Proofs.YtkhlfggnjcbniaaGreatDoor.cln

theorem jn_drop (l : List (List UInt8)) : jnW l = (spW l).drop 1 := by
  cases l with
  | nil => rfl
  | cons x r => rw [spW_cons]; rfl
theorem sp_take (l : List (List UInt8)) (m : Nat) (h : m < l.length) : spW (l.take (m + 1)) = spW (l.take m) ++ 32 :: l[m] := by
  unfold spW
  rw [List.take_succ_eq_append_getElem h, List.flatMap_append]; simp
theorem sp_pos (l : List (List UInt8)) (h : 0 < l.length) : 1 ≤ (spW l).length := by
  cases l with
  | nil => exact absurd h (Nat.lt_irrefl _)
  | cons x r => rw [spW_cons]; simp
theorem sp_take_le (l : List (List UInt8)) (m : Nat) : (spW (l.take m)).length ≤ (spW l).length := by
  have e : spW l = spW (l.take m) ++ spW (l.drop m) := by
    unfold spW
    rw [← List.flatMap_append, List.take_append_drop]
  rw [e, List.length_append]; omega
theorem jn_take_le (l : List (List UInt8)) (m : Nat) : (jnW (l.take m)).length ≤ (jnW l).length := by
  rw [jn_drop, jn_drop, List.length_drop, List.length_drop]
  have := sp_take_le l m
  omega
theorem jn_first (l : List (List UInt8)) (h : 0 < l.length) : jnW (l.take 1) = l[0] := by
  rw [jn_drop, sp_take l 0 h]; rfl
theorem jn_next (l : List (List UInt8)) (m : Nat) (h : m < l.length) (h0 : 0 < m) : jnW (l.take (m + 1)) = jnW (l.take m) ++ [32] ++ l[m] := by
  rw [jn_drop, jn_drop, sp_take l m h, List.drop_append_of_le_length (sp_pos _ (by rw [List.length_take]; omega))]
  simp

set_option maxHeartbeats 3200000 in
set_option maxRecDepth 100000 in
theorem rcollapse_any (s : List UInt8) (hl : s.length ≤ 2000000) (w : World) :
    Calls Tryz.prog 212 #[.string ⟨s.toArray⟩] w fun e w' => e = .returned (.string ⟨(collapseS s).toArray⟩) ∧ Below w.heap.size w w' := by
  obtain ⟨i0, hi, hz0, hz1, hz2⟩ := info_parts infoU8
  have hw := rwords_any s hl w
  have hwl := wrd_len s []
  have hcl := collapse_le s
  rw [col_is] at hcl ⊢
  generalize wrdS [] s = ws at *
  have HLe := Lib.hid (fun m => jn_take_le ws m)
  have HFi := Lib.hid (jn_first ws)
  have HNx := Lib.hid (jn_next ws)
  obtain ⟨res, hres⟩ : ∃ r, r = jnW ws := ⟨_, rfl⟩
  rw [← hres] at hcl HLe ⊢
  have HR := Lib.hid hres
  clear hres
  go_enter Tryz.func212, Tryz.ntmps212
  go_wp2_with fail
  refine hw.mono ?_
  rintro e w1 ⟨v1, rfl, hown1, hb1⟩
  have hr1 := RowAt.of_owns hown1
  obtain ⟨oa, oc, rfl⟩ := RowAt.lenN hr1
  have hl1 : (strsOf ws).length = ws.length := by unfold strsOf; rw [List.length_map]
  have HCell : Hid (∀ (wr : World), Below w1.heap.size w1 wr → ∀ k (hk : k < ws.length), ∃ b o, oa = some ⟨b, o, none⟩ ∧ wr.cell? ⟨b, o + k, none⟩ = some (.string ⟨(ws[k]).toArray⟩)) := Lib.hid (fun wr hb k hk => by
    rcases hr1 with ⟨h0, _⟩ | ⟨b, off, cap, e, h0, h2, h3⟩
    · omega
    · cases e
      refine ⟨b, off, rfl, (hb.cell (p := ⟨b, off + k, none⟩) h2).trans (h3 k _ ?_)⟩
      unfold strsOf
      rw [List.getElem?_map, List.getElem?_eq_getElem hk]; rfl)
  clear hw hown1 hr1 hl1
  obtain ⟨B, hB⟩ : ∃ B, B = w1.heap.size := ⟨_, rfl⟩
  have HB := Lib.hid hB
  rw [← hB] at HCell
  clear hB
  go_wp2_with fail
  go_loopw [4, 5] (fun v y wr => ∃ k : Nat, y = .int .i64 k ∧ k ≤ ws.length ∧ wr.ownsRow B 5 1 v (jnW (ws.take k)).length (cellsOf (jnW (ws.take k))) ∧ Below B w1 wr ∧ B ≤ wr.heap.size) (fun _ y _ => ws.length - (RowKit.intOf y).toNat)
  case atStart => exact ⟨0, rfl, by omega, World.ownsRow_nil _ _ _ _, by rw [HB.out]; exact Below.refl _ _, by rw [HB.out]; omega⟩
  case round =>
    obtain ⟨k, rfl, hk, hown, hb, hbs⟩ := hrel
    by_cases hlt : k < ws.length
    · obtain ⟨b, off, e, hc⟩ := HCell.out wr hb k hlt
      cases e
      have hle1 := HLe.out (k + 1)
      cases k with
      | zero =>
        have hX := HFi.out (by omega)
        have hle1 := HLe.out 1
        rw [hX] at hle1
        rw [Nat.add_zero] at hc
        have HX := Lib.hid hX
        clear hX
        generalize ws[0] = wt at *
        have hsz : (⟨wt.toArray⟩ : ByteArray).size = wt.length := rfl
        go_wp2_with (first
          | (at_builtin; refine wpList_append_own_string _ rfl _ _ 106 9 rfl B 5 i0 Tryz.underlying106 Tryz.underlying9 hi hz0 hz1 hz2 _ _ _ rfl hown ⟨wt.toArray⟩ rfl ?_ ?_ ?_ ?_)
          | go_in)
        all_goals first | (rw [hsz]; simp [jnW]; unfold maxLen; omega) | (rw [hsz]; simp [jnW]; omega) | omega | skip
        intro v' w2 hown' hgrow _
        have hr := grown_rel w1 wr w2 B _ _ _ _ hown hb hbs hgrow
        have ho2 : w2.ownsRow B 5 1 v' (jnW (ws.take (0 + 1))).length (cellsOf (jnW (ws.take (0 + 1)))) := by
          rw [show (0 : Nat) + 1 = 1 from rfl, HX.out]
          rw [strCells_of, ← cells_app] at hown'
          simpa [jnW] using hown'
        clear hgrow hown hown'
        go_wp2_with fail
        go_roundw
        case rel => exact ⟨0 + 1, by go_num, by omega, ho2, hr.1, hr.2⟩
        case measure => simp [RowKit.intOf]; omega
      | succ k =>
        have hX := HNx.out (k + 1) hlt (by omega)
        rw [hX, List.length_append, List.length_append] at hle1
        have HX := Lib.hid hX
        obtain ⟨wt, hwt⟩ : ∃ wt, ws[k + 1] = wt := ⟨_, rfl⟩
        rw [hwt] at hle1 HX hc
        have HWt := Lib.hid hwt
        clear hX hwt
        have hsz : (⟨wt.toArray⟩ : ByteArray).size = wt.length := rfl
        have hone : ([32] : List UInt8).length = 1 := rfl
        rw [hone] at hle1
        go_upto_if 15 with fail
        go_cut [4] (fun s4 wx => wx.ownsRow B 5 1 s4 (jnW (ws.take (k + 1)) ++ [32]).length (cellsOf (jnW (ws.take (k + 1)) ++ [32])) ∧ Below B w1 wx ∧ B ≤ wx.heap.size)
        case first =>
          go_wp2_with (first
            | (at_builtin; refine wpList_append_own _ rfl _ _ 106 rfl B 5 i0 (.int .u8 0) 1 1 Tryz.underlying106 hi hz0 hz1 hz2 rfl (by decide) _ _ _ rfl (hown.alloc _) ⟨wr.heap.size, 0, none⟩ 1 1 [.int .u8 32] rfl rfl ?_ ?_ ?_ ?_ ?_ ?_)
            | go_in)
          all_goals first | exact cell_one_new _ _ _ | (show Value.oneCell' _ = true; rfl) | (intro u hu; simp at hu; subst hu; rfl) | (unfold maxLen; omega) | omega | (simp; omega) | skip
          intro v' w2 hown' hgrow _
          have hr := low_rel w1 wr w2 B _ _ _ _ _ hown hb hbs hgrow
          have ho2 : w2.ownsRow B 5 1 v' (jnW (ws.take (k + 1)) ++ [32]).length (cellsOf (jnW (ws.take (k + 1)) ++ [32])) := by
            rw [cells_app, List.length_append]; exact hown'
          clear hgrow hown hown'
          go_wp2_with fail
          go_meet
          exact ⟨ho2, hr.1, hr.2⟩
        case rest =>
        obtain ⟨hown2, hb2, hbs2⟩ := hcut
        clear hown hb hbs hc
        have hX2 := HX.out
        have hcc := HCell.out wc hb2 (k + 1) hlt
        obtain ⟨b2, off2, e2, hc3⟩ := hcc
        cases e2
        rw [HWt.out] at hc3
        clear hX2
        go_wp2_with (first
          | (at_builtin; refine wpList_append_own_string _ rfl _ _ 106 9 rfl B 5 i0 Tryz.underlying106 Tryz.underlying9 hi hz0 hz1 hz2 _ _ _ rfl hown2 ⟨wt.toArray⟩ rfl ?_ ?_ ?_ ?_)
          | go_in)
        all_goals first | (rw [hsz]; simp; unfold maxLen; omega) | (rw [hsz]; simp; omega) | omega | skip
        intro v' w2 hown' hgrow _
        have hr := grown_rel w1 wc w2 B _ _ _ _ hown2 hb2 hbs2 hgrow
        have ho2 : w2.ownsRow B 5 1 v' (jnW (ws.take (k + 1 + 1))).length (cellsOf (jnW (ws.take (k + 1 + 1)))) := by
          have e1 : (jnW (ws.take (k + 1)) ++ [32]).length = (jnW (ws.take (k + 1))).length + 1 := by simp
          rw [HX.out, cells_app, List.length_append, e1]
          rw [strCells_of] at hown'
          exact hown'
        clear hgrow hown2 hown'
        go_wp2_with fail
        go_roundw
        case rel => exact ⟨k + 1 + 1, by go_num, by omega, ho2, hr.1, hr.2⟩
        case measure => simp [RowKit.intOf]; omega
    · obtain rfl : k = ws.length := by omega
      rw [List.take_length] at hown
      rw [← HR.out] at hown
      have hcv := own_string wr B _ res res.length rfl hown
      clear hown
      go_wp2_with fail
      go_ret
      exact ⟨rfl, hb1.trans (hb.mono (by have := HB.out; have := hb1.size; omega))⟩
end Go.Proofs.YtkhlfggnjcbniaaGreatDoor.doc
