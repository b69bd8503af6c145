/- The contract of the reference's ends, NoBreaks. The contracts of the reference's Blank, Strip, Trim. The contracts of the reference's Strip, Trim. The contract of the reference's Digit. -/
import Derived.Test.YtbhdoocajfkfiaaGreatDoorMe
import Derived.Test.YtbhdoocajfkfiaaGreatDoorMa
import Derived.WalkSpells
import Derived.Lib.AppendStr
import Derived.Deep.CutBlock
import Derived.Deep.DeepCutAuto
import Derived.Outline
namespace Go.Proofs.YtbhdoocajfkfiaaGreatDoor.cln
open Go.ChangeShapes Go.WideShapes Go.ChangeAt Go.RowKit Go.Lib Go.Proofs.YtbhdoocajfkfiaaGreatDoor.link

/-- a text with each end of a line as another text -/
def endsS (wt : List UInt8) : List UInt8 → List UInt8
  | [] => []
  | [c] => if c = 13 ∨ c = 10 then wt else [c]
  | c :: d :: r => if c = 13 ∧ d = 10 then wt ++ endsS wt r else if c = 13 ∨ c = 10 then wt ++ endsS wt (d :: r) else c :: endsS wt (d :: r)
theorem ends_nil (wt : List UInt8) : endsS wt [] = [] := by rw [endsS]
theorem ends_single (wt : List UInt8) (c : UInt8) : endsS wt [c] = if c = 13 ∨ c = 10 then wt else [c] := by rw [endsS]
theorem ends_more (wt : List UInt8) (c d : UInt8) (r : List UInt8) : endsS wt (c :: d :: r) = if c = 13 ∧ d = 10 then wt ++ endsS wt r else if c = 13 ∨ c = 10 then wt ++ endsS wt (d :: r) else c :: endsS wt (d :: r) := by rw [endsS]
theorem ends_keep (wt : List UInt8) (c : UInt8) (r : List UInt8) (h1 : c ≠ 13) (h2 : c ≠ 10) : endsS wt (c :: r) = c :: endsS wt r := by
  cases r with
  | nil => rw [ends_single, if_neg (by simp [h1, h2]), ends_nil]
  | cons d r => rw [ends_more, if_neg (by simp [h1]), if_neg (by simp [h1, h2])]
theorem ends_two (wt r : List UInt8) : endsS wt (13 :: 10 :: r) = wt ++ endsS wt r := by rw [ends_more, if_pos ⟨rfl, rfl⟩]
theorem ends_one (wt : List UInt8) (c : UInt8) (r : List UInt8) (h : c = 13 ∨ c = 10) (h2 : ¬ (c = 13 ∧ r.head? = some 10)) : endsS wt (c :: r) = wt ++ endsS wt r := by
  cases r with
  | nil => rw [ends_single, if_pos h, ends_nil, List.append_nil]
  | cons d r => rw [ends_more, if_neg (by simpa using h2), if_pos h]
theorem noBr_nil : noBr [] = [] := rfl
theorem noBr_out (c : UInt8) (r : List UInt8) (h : c = 13 ∨ c = 10) : noBr (c :: r) = noBr r := by
  unfold noBr
  rcases h with rfl | rfl
  · rw [List.filter_cons, if_neg (by decide)]
  · rw [List.filter_cons, if_neg (by decide)]
theorem noBr_in (c : UInt8) (r : List UInt8) (h : ¬ (c = 13 ∨ c = 10)) : noBr (c :: r) = c :: noBr r := by
  unfold noBr
  rw [List.filter_cons, if_pos (by simp [not_or.1 h])]
theorem ends_none (s : List UInt8) : endsS [] s = noBr s := by
  have key : ∀ n (s : List UInt8), s.length ≤ n → endsS [] s = noBr s := by
    intro n
    induction n with
    | zero =>
      intro s h
      have : s = [] := List.length_eq_zero_iff.1 (by omega)
      rw [this, ends_nil]; rfl
    | succ n ih =>
      intro s h
      match s, h with
      | [], _ => rw [ends_nil]; rfl
      | [c], _ =>
        rw [ends_single]
        by_cases g : c = 13 ∨ c = 10
        · rw [if_pos g, noBr_out c [] g]; rfl
        · rw [if_neg g, noBr_in c [] g]; rfl
      | c :: d :: r, h =>
        rw [ends_more]
        by_cases g : c = 13 ∧ d = 10
        · rw [if_pos g, List.nil_append, ih r (by simp at h; omega), noBr_out c _ (Or.inl g.1), noBr_out d _ (Or.inr g.2)]
        · rw [if_neg g]
          have e := ih (d :: r) (by simp at h ⊢; omega)
          by_cases g2 : c = 13 ∨ c = 10
          · rw [if_pos g2, List.nil_append, e, noBr_out c _ g2]
          · rw [if_neg g2, e, noBr_in c _ g2]
  exact key s.length s (Nat.le_refl _)

theorem strCells_of (s : List UInt8) : strCells ⟨s.toArray⟩ = link.cellsOf s := rfl
theorem cells_app (a b : List UInt8) : link.cellsOf (a ++ b) = link.cellsOf a ++ link.cellsOf b := by unfold link.cellsOf; rw [List.map_append]
theorem grown_rel (w wr w1 : World) (B : Nat) (e : TypeId) (v : Value) (k : Nat) (xs : List Value) (hown : wr.ownsRow B e 1 v k xs) (hb : Below B w wr) (hbs : B ≤ wr.heap.size) (hg : wr.grownBy w1 v.ownBlock) :
    Below B w w1 ∧ B ≤ w1.heap.size := by
  constructor
  · refine Below.grown hb hg (by omega) ?_
    intro j hj
    obtain ⟨_, ⟨rfl, _⟩ | ⟨g, cap, cur, rfl, hge, _⟩⟩ := hown
    · cases hj
    · cases hj; exact hge
  · have := hg.size; omega

set_option maxHeartbeats 3200000 in
set_option maxRecDepth 100000 in
theorem rends_any (l wt : List UInt8) (hl : l.length ≤ 1000000) (hwt : wt.length ≤ 10) (w : World) :
    Calls Tryz.prog 116 #[.string ⟨l.toArray⟩, .string ⟨wt.toArray⟩] w fun e w' => e = .returned (.string ⟨(endsS wt l).toArray⟩) ∧ Below w.heap.size w w' := by
  obtain ⟨i0, hi, hz0, hz1, hz2⟩ := info_parts infoU8
  obtain ⟨B, hB⟩ : ∃ B, B = w.heap.size := ⟨_, rfl⟩
  rw [← hB]
  have HB := Lib.hid hB
  clear hB
  obtain ⟨tx, htx⟩ : ∃ tx, tx = endsS wt l := ⟨_, rfl⟩
  rw [← htx]
  have HTX := Lib.hid htx
  clear htx
  have hsz : (⟨wt.toArray⟩ : ByteArray).size = wt.length := rfl
  go_enter Tryz.func116, Tryz.ntmps116
  go_wp2_with fail
  go_loopw [5, 6] (fun v i wr => ∃ (k : Nat) (acc : List UInt8), k ≤ l.length ∧ i = .int .i64 k ∧ wr.ownsRow B 5 1 v acc.length (link.cellsOf acc) ∧ acc.length ≤ k * 11 ∧ Hid (tx = acc ++ endsS wt (l.drop k)) ∧ Below B w wr ∧ B ≤ wr.heap.size) (fun _ i _ => l.length - (RowKit.intOf i).toNat)
  case atStart => exact ⟨0, [], by omega, rfl, World.ownsRow_nil _ _ _ _, by simp, by rw [List.drop_zero]; exact Lib.hid HTX.out, by rw [HB.out]; exact Below.refl _ _, by rw [HB.out]; omega⟩
  case round =>
    obtain ⟨k, acc, hk, rfl, hown, hac, hh, hb, hbs⟩ := hrel
    by_cases hlt : k < l.length
    · obtain ⟨c, rest, hd1, hd2, hidx⟩ := link.byte_at l k hlt
      have hlt8 := c.toNat_lt
      have t13 := byteq c 13 13 rfl
      have t10 := byteq c 10 10 rfl
      have hx := hh.out
      rw [hd1] at hx
      have e13 : (c == 13) = decide (c = 13) := by rw [Bool.eq_iff_iff]; simp
      have e10 : (c == 10) = decide (c = 10) := by rw [Bool.eq_iff_iff]; simp
      rw [e13] at t13
      rw [e10] at t10
      by_cases g10 : c = 10
      · -- an end by itself
        rw [ends_one wt c rest (Or.inr g10) (by rw [g10]; rintro ⟨h, _⟩; exact absurd h (by decide)), ← hd2] at hx
        have n10 : ((c.toNat : Int) != 10) = false := by rw [g10]; rfl
        have t13' : ((c.toNat : Int) == 13) = false := by rw [g10]; rfl
        have HX : Hid (tx = (acc ++ wt) ++ endsS wt (l.drop (k + 1))) := Lib.hid (by rw [hx, List.append_assoc])
        clear hx hh hd1 hd2 t13 t10 e13 e10 g10
        go_wp2_with (first
          | (at_builtin; refine wpList_append_own_string _ rfl _ _ 129 9 rfl B 5 i0 Tryz.underlying129 Tryz.underlying9 hi hz0 hz1 hz2 _ _ _ rfl hown ⟨wt.toArray⟩ rfl ?_ ?_ ?_ ?_)
          | go_in)
        all_goals first | (unfold maxLen; omega) | (rw [hsz]; unfold maxLen; omega) | (rw [hsz]; omega) | omega | skip
        intro v' w1 hown' hgrow _
        have hr := grown_rel w wr w1 B _ _ _ _ hown hb hbs hgrow
        rw [strCells_of, ← cells_app, ← List.length_append] at hown'
        clear hgrow hown
        go_wp2_with fail
        go_roundw
        case rel => exact ⟨k + 1, acc ++ wt, by omega, by go_num, hown', by simp; omega, HX, hr.1, hr.2⟩
        case measure => simp [RowKit.intOf]; omega
      · have n10 : ((c.toNat : Int) != 10) = true := by rw [bne, t10, decide_eq_false g10]; rfl
        by_cases g13 : c = 13
        · have n13 : ((c.toNat : Int) != 13) = false := by rw [g13]; rfl
          have t13' : ((c.toNat : Int) == 13) = true := by rw [g13]; rfl
          by_cases hlt2 : k + 1 < l.length
          · obtain ⟨d, rest2, hd3, hd4, hidx2⟩ := link.byte_at l (k + 1) hlt2
            have hd8 := d.toNat_lt
            by_cases gd : d = 10
            · have td : ((d.toNat : Int) == 10) = true := by rw [gd]; rfl
              rw [g13, ← hd2, hd3, gd, ends_two, ← hd4] at hx
              have HX : Hid (tx = (acc ++ wt) ++ endsS wt (l.drop (k + 1 + 1))) := Lib.hid (by rw [hx, List.append_assoc])
              clear hx hh hd1 hd2 hd3 hd4 t13 t10 e13 e10 g10 g13 gd
              go_wp2_with (first
                | (at_builtin; refine wpList_append_own_string _ rfl _ _ 129 9 rfl B 5 i0 Tryz.underlying129 Tryz.underlying9 hi hz0 hz1 hz2 _ _ _ rfl hown ⟨wt.toArray⟩ rfl ?_ ?_ ?_ ?_)
                | go_in)
              all_goals first | (unfold maxLen; omega) | (rw [hsz]; unfold maxLen; omega) | (rw [hsz]; omega) | omega | skip
              intro v' w1 hown' hgrow _
              have hr := grown_rel w wr w1 B _ _ _ _ hown hb hbs hgrow
              rw [strCells_of, ← cells_app, ← List.length_append] at hown'
              clear hgrow hown
              go_wp2_with fail
              go_roundw
              case rel => exact ⟨k + 1 + 1, acc ++ wt, by omega, by go_num, hown', by simp; omega, HX, hr.1, hr.2⟩
              case measure => simp [RowKit.intOf]; omega
            · have td : ((d.toNat : Int) == 10) = false := by
                cases q : ((d.toNat : Int) == 10)
                · rfl
                · exact absurd (UInt8.toNat_inj.1 (by have := eq_of_beq q; show d.toNat = 10; omega)) gd
              rw [ends_one wt c rest (Or.inl g13) (by rw [← hd2, hd3]; rintro ⟨_, h⟩; exact gd (Option.some.inj h)), ← hd2] at hx
              have HX : Hid (tx = (acc ++ wt) ++ endsS wt (l.drop (k + 1))) := Lib.hid (by rw [hx, List.append_assoc])
              clear hx hh hd1 hd2 hd3 hd4 t13 t10 e13 e10 g10 g13 gd
              go_wp2_with (first
                | (at_builtin; refine wpList_append_own_string _ rfl _ _ 129 9 rfl B 5 i0 Tryz.underlying129 Tryz.underlying9 hi hz0 hz1 hz2 _ _ _ rfl hown ⟨wt.toArray⟩ rfl ?_ ?_ ?_ ?_)
                | go_in)
              all_goals first | (unfold maxLen; omega) | (rw [hsz]; unfold maxLen; omega) | (rw [hsz]; omega) | omega | skip
              intro v' w1 hown' hgrow _
              have hr := grown_rel w wr w1 B _ _ _ _ hown hb hbs hgrow
              rw [strCells_of, ← cells_app, ← List.length_append] at hown'
              clear hgrow hown
              go_wp2_with fail
              go_roundw
              case rel => exact ⟨k + 1, acc ++ wt, by omega, by go_num, hown', by simp; omega, HX, hr.1, hr.2⟩
              case measure => simp [RowKit.intOf]; omega
          · rw [ends_one wt c rest (Or.inl g13) (by rw [← hd2, List.drop_eq_nil_of_le (by omega)]; rintro ⟨_, h⟩; cases h), ← hd2] at hx
            have HX : Hid (tx = (acc ++ wt) ++ endsS wt (l.drop (k + 1))) := Lib.hid (by rw [hx, List.append_assoc])
            clear hx hh hd1 hd2 t13 t10 e13 e10 g10 g13
            go_wp2_with (first
              | (at_builtin; refine wpList_append_own_string _ rfl _ _ 129 9 rfl B 5 i0 Tryz.underlying129 Tryz.underlying9 hi hz0 hz1 hz2 _ _ _ rfl hown ⟨wt.toArray⟩ rfl ?_ ?_ ?_ ?_)
              | go_in)
            all_goals first | (unfold maxLen; omega) | (rw [hsz]; unfold maxLen; omega) | (rw [hsz]; omega) | omega | skip
            intro v' w1 hown' hgrow _
            have hr := grown_rel w wr w1 B _ _ _ _ hown hb hbs hgrow
            rw [strCells_of, ← cells_app, ← List.length_append] at hown'
            clear hgrow hown
            go_wp2_with fail
            go_roundw
            case rel => exact ⟨k + 1, acc ++ wt, by omega, by go_num, hown', by simp; omega, HX, hr.1, hr.2⟩
            case measure => simp [RowKit.intOf]; omega
        · have n13 : ((c.toNat : Int) != 13) = true := by rw [bne, t13, decide_eq_false g13]; rfl
          rw [ends_keep wt c rest g13 g10, ← hd2] at hx
          have HX : Hid (tx = (acc ++ [c]) ++ endsS wt (l.drop (k + 1))) := Lib.hid (by rw [hx, List.append_assoc]; rfl)
          clear hx hh hd1 hd2 t13 t10 e13 e10 g10 g13
          go_wp2_with (first
            | (at_builtin; refine wpList_append_own _ rfl _ _ 129 rfl B 5 i0 (.int .u8 0) 1 1 Tryz.underlying129 hi hz0 hz1 hz2 rfl (by decide) _ _ _ rfl (hown.alloc _) ⟨wr.heap.size, 0, none⟩ 1 1 [.int .u8 (c.toNat : Int)] rfl rfl ?_ ?_ ?_ ?_ ?_ ?_)
            | go_in)
          all_goals first | exact cell_one_new _ _ _ | (show Value.oneCell' _ = true; rfl) | (intro u hu; simp at hu; subst hu; rfl) | (unfold maxLen; omega) | omega | (simp; omega) | skip
          intro v' w1 hown' hgrow _
          have hr := low_rel w wr w1 B _ _ _ _ _ hown hb hbs hgrow
          have ho2 : w1.ownsRow B 5 1 v' (acc ++ [c]).length (link.cellsOf (acc ++ [c])) := by rw [List.length_append, cells_app]; exact hown'
          clear hown' hgrow hown
          go_wp2_with fail
          go_roundw
          case rel => exact ⟨k + 1, acc ++ [c], by omega, by go_num, ho2, by simp; omega, HX, hr.1, hr.2⟩
          case measure => simp [RowKit.intOf]; omega
    · obtain rfl : k = l.length := by omega
      have HX : Hid (tx = acc) := Lib.hid (by rw [hh.out, List.drop_length, ends_nil, List.append_nil])
      have hcv := own_string wr B _ acc acc.length rfl hown
      clear hown hh
      go_wp2_with fail
      go_ret
      exact ⟨by rw [HX.out]; rfl, hb⟩

set_option maxHeartbeats 800000 in
set_option maxRecDepth 100000 in
theorem rnobreaks_any (s : List UInt8) (hs : s.length ≤ 1000000) (w : World) :
    Calls Tryz.prog 72 #[.string ⟨s.toArray⟩] w fun e w' => e = .returned (.string ⟨(noBr s).toArray⟩) ∧ Below w.heap.size w w' := by
  have h := fun w => rends_any s [] hs (by decide) w
  rw [ends_none] at h
  generalize noBr s = t at *
  go_enter Tryz.func72, Tryz.ntmps72
  go_wp2_with fail
  refine (h w).mono ?_
  rintro e w1 ⟨rfl, hB⟩
  go_wp2_with fail
  go_ret
  exact ⟨rfl, hB⟩
end Go.Proofs.YtbhdoocajfkfiaaGreatDoor.cln

namespace Go.Proofs.YtbhdoocajfkfiaaGreatDoor.cln
open Go.ChangeShapes Go.WideShapes Go.ChangeAt Go.RowKit Go.Lib Go.Proofs.YtbhdoocajfkfiaaGreatDoor.link

theorem isB_iff (c : UInt8) : isB c = true ↔ (c = 9 ∨ c = 10 ∨ c = 12 ∨ c = 13 ∨ c = 32) := by
  unfold isB blanks
  simp
theorem tb_ret {a b : Bool} (h : a = b) : Ending.returned (.bool a) = .returned (.bool b) := by rw [h]
theorem byte_eqd (c d : UInt8) (n : Int) (h : (d.toNat : Int) = n) : ((c.toNat : Int) == n) = decide (c = d) := by
  rw [byteq c d n h, Bool.eq_iff_iff]; simp

set_option maxHeartbeats 800000 in
set_option maxRecDepth 100000 in
theorem rblank_any (c : UInt8) (w : World) :
    Calls Tryz.prog 161 #[.int .u8 c.toNat] w fun e w' => e = .returned (.bool (isB c)) ∧ w = w' := by
  have t9 := byte_eqd c 9 9 rfl
  have t10 := byte_eqd c 10 10 rfl
  have t12 := byte_eqd c 12 12 rfl
  have t13 := byte_eqd c 13 13 rfl
  have t32 := byte_eqd c 32 32 rfl
  have hi := isB_iff c
  obtain ⟨r, hr⟩ : ∃ r, r = isB c := ⟨_, rfl⟩
  rw [← hr] at hi ⊢
  clear hr
  have HI := Lib.hid hi
  clear hi
  by_cases c9 : c = 9
  · have HX : Hid (r = true) := Lib.hid (HI.out.2 (Or.inl c9))
    rw [decide_eq_true c9] at t9
    clear c9 t10 t12 t13 t32
    go_enter Tryz.func161, Tryz.ntmps161
    go_wp2_with fail
    go_ret
    exact ⟨tb_ret HX.out.symm, rfl⟩
  by_cases c10 : c = 10
  · have HX : Hid (r = true) := Lib.hid (HI.out.2 (Or.inr (Or.inl c10)))
    rw [decide_eq_false c9] at t9
    rw [decide_eq_true c10] at t10
    clear c9 c10 t12 t13 t32
    go_enter Tryz.func161, Tryz.ntmps161
    go_wp2_with fail
    go_ret
    exact ⟨tb_ret HX.out.symm, rfl⟩
  by_cases c12 : c = 12
  · have HX : Hid (r = true) := Lib.hid (HI.out.2 (Or.inr (Or.inr (Or.inl c12))))
    rw [decide_eq_false c9] at t9
    rw [decide_eq_false c10] at t10
    rw [decide_eq_true c12] at t12
    clear c9 c10 c12 t13 t32
    go_enter Tryz.func161, Tryz.ntmps161
    go_wp2_with fail
    go_ret
    exact ⟨tb_ret HX.out.symm, rfl⟩
  by_cases c13 : c = 13
  · have HX : Hid (r = true) := Lib.hid (HI.out.2 (Or.inr (Or.inr (Or.inr (Or.inl c13)))))
    rw [decide_eq_false c9] at t9
    rw [decide_eq_false c10] at t10
    rw [decide_eq_false c12] at t12
    rw [decide_eq_true c13] at t13
    clear c9 c10 c12 c13 t32
    go_enter Tryz.func161, Tryz.ntmps161
    go_wp2_with fail
    go_ret
    exact ⟨tb_ret HX.out.symm, rfl⟩
  rw [decide_eq_false c9] at t9
  rw [decide_eq_false c10] at t10
  rw [decide_eq_false c12] at t12
  rw [decide_eq_false c13] at t13
  have HX : Hid (r = decide (c = 32)) := Lib.hid (by
    rw [Bool.eq_iff_iff, decide_eq_true_eq, HI.out]
    constructor
    · rintro (h | h | h | h | h)
      · exact absurd h c9
      · exact absurd h c10
      · exact absurd h c12
      · exact absurd h c13
      · exact h
    · intro h; exact Or.inr (Or.inr (Or.inr (Or.inr h))))
  clear c9 c10 c12 c13 HI
  generalize decide (c = 32) = q at *
  go_enter Tryz.func161, Tryz.ntmps161
  go_wp2_with fail
  go_ret
  exact ⟨tb_ret HX.out.symm, rfl⟩

theorem dropW_all (p : UInt8 → Bool) (A X : List UInt8) (h : A.all p = true) : (A ++ X).dropWhile p = X.dropWhile p := by
  induction A with
  | nil => rfl
  | cons c r ih =>
    rw [List.all_cons, Bool.and_eq_true] at h
    rw [List.cons_append, List.dropWhile_cons, if_pos h.1, ih h.2]
theorem dropW_stop (p : UInt8 → Bool) (c : UInt8) (r : List UInt8) (h : p c = false) : (c :: r).dropWhile p = c :: r := by
  rw [List.dropWhile_cons, h]; rfl
theorem strip_parts (A M C : List UInt8) (hA : A.all isB = true) (hC : C.all isB = true) (hM : M = [] ∨ (∃ a r, M = a :: r ∧ isB a = false) ∧ (∃ q z, M = q ++ [z] ∧ isB z = false)) : stripB (A ++ (M ++ C)) = M := by
  have e : (fun c => blanks.contains c) = isB := rfl
  unfold stripB trimS trimLeftS trimRightS
  rw [e, List.reverse_append, List.reverse_append, List.append_assoc, dropW_all isB C.reverse _ (by rw [List.all_reverse]; exact hC)]
  rcases hM with rfl | ⟨⟨a, r, h1, ha⟩, q, z, h2, hz⟩
  · have h0 : (([] : List UInt8).reverse ++ A.reverse).dropWhile isB = [] := by
      have := dropW_all isB A.reverse [] (by rw [List.all_reverse]; exact hA)
      rw [List.append_nil] at this
      exact this
    rw [h0]; rfl
  · have h3 : (M.reverse ++ A.reverse).dropWhile isB = M.reverse ++ A.reverse := by
      rw [h2, List.reverse_append]
      exact dropW_stop isB z _ hz
    rw [h3, List.reverse_append, List.reverse_reverse, List.reverse_reverse, dropW_all isB A M hA, h1, dropW_stop isB a r ha]

/-- where the blanks at the ends are -/
theorem strip_at (l : List UInt8) (k m : Nat) (hk : k ≤ m) (hm : m ≤ l.length) (h1 : (l.take k).all isB = true) (h2 : (l.drop m).all isB = true)
    (h3 : k = m ∨ (∃ c, l[k]? = some c ∧ isB c = false) ∧ (∃ c, l[m - 1]? = some c ∧ isB c = false ∧ k < m)) : stripB l = (l.drop k).take (m - k) := by
  have e : l = l.take k ++ ((l.drop k).take (m - k) ++ l.drop m) := by
    have e1 : l.drop m = (l.drop k).drop (m - k) := by rw [List.drop_drop]; congr 1; omega
    rw [e1, List.take_append_drop, List.take_append_drop]
  have h := strip_parts (l.take k) ((l.drop k).take (m - k)) (l.drop m) h1 h2 (by
    rcases h3 with rfl | ⟨⟨c, hc, hc2⟩, d, hd, hd2, hlt⟩
    · left; rw [Nat.sub_self]; rfl
    · right
      constructor
      · have hkl : k < l.length := by omega
        refine ⟨c, ((l.drop k).take (m - k)).tail, ?_, hc2⟩
        have e1 := List.drop_eq_getElem_cons hkl
        rw [List.getElem?_eq_getElem hkl] at hc
        rw [Option.some.inj hc] at e1
        rw [e1]
        obtain ⟨n, hn⟩ : ∃ n, m - k = n + 1 := ⟨m - k - 1, by omega⟩
        rw [hn]; rfl
      · refine ⟨(l.drop k).take (m - 1 - k), d, ?_, hd2⟩
        have e2 := List.take_add_one (l := l.drop k) (i := m - 1 - k)
        rw [show m - 1 - k + 1 = m - k from by omega, List.getElem?_drop, show k + (m - 1 - k) = m - 1 from by omega, hd] at e2
        exact e2)
  rw [← e] at h
  exact h
end Go.Proofs.YtbhdoocajfkfiaaGreatDoor.cln

namespace Go.Proofs.YtbhdoocajfkfiaaGreatDoor.cln
open Go.ChangeShapes Go.WideShapes Go.ChangeAt Go.RowKit Go.Lib Go.Proofs.YtbhdoocajfkfiaaGreatDoor.link

set_option maxHeartbeats 1600000 in
set_option maxRecDepth 100000 in
theorem rstrip_any (l : List UInt8) (hl : l.length ≤ 10000000) (w : World) :
    Calls Tryz.prog 117 #[.string ⟨l.toArray⟩] w fun e w' => e = .returned (.string ⟨(stripB l).toArray⟩) ∧ w = w' := by
  obtain ⟨tx, htx⟩ : ∃ tx, tx = stripB l := ⟨_, rfl⟩
  rw [← htx]
  have HTX := Lib.hid htx
  clear htx
  go_enter Tryz.func117, Tryz.ntmps117
  go_upto_block 0 with fail
  go_cut [3] (fun s3 wx => ∃ k : Nat, s3 = .int .i64 k ∧ k ≤ l.length ∧ Hid ((l.take k).all isB = true ∧ (k = l.length ∨ ∃ c, l[k]? = some c ∧ isB c = false)) ∧ w = wx)
  case first =>
    go_wp2_with fail
    go_loop [3] (fun s => ∃ k : Nat, s = .int .i64 k ∧ k ≤ l.length ∧ Hid ((l.take k).all isB = true)) (fun s => l.length - (RowKit.intOf s).toNat)
    case atStart => exact ⟨0, rfl, by omega, Lib.hid rfl⟩
    case round =>
      obtain ⟨k, rfl, hk, hh⟩ := hrel
      by_cases hlt : k < l.length
      · obtain ⟨c, r, hd1, hd2, hidx⟩ := link.byte_at l k hlt
        have hget : l[k]? = some c := by rw [← List.head?_drop, hd1]; rfl
        have hcall := rblank_any c w
        cases hb : isB c
        · rw [hb] at hcall
          have HX : Hid ((l.take k).all isB = true ∧ (k = l.length ∨ ∃ c, l[k]? = some c ∧ isB c = false)) := Lib.hid ⟨hh.out, Or.inr ⟨c, hget, hb⟩⟩
          clear hh hd1 hd2 hget hb
          go_wp2_with fail
          refine hcall.mono ?_
          rintro e w1 ⟨rfl, rfl⟩
          go_wp2_with fail
          go_meet
          exact ⟨k, rfl, by omega, HX, rfl⟩
        · rw [hb] at hcall
          have HX : Hid ((l.take (k + 1)).all isB = true) := Lib.hid (by rw [List.take_add_one, hget, List.all_append, hh.out]; simp [hb])
          clear hh hd1 hd2 hget hb
          go_wp2_with fail
          refine hcall.mono ?_
          rintro e w1 ⟨rfl, rfl⟩
          go_wp2_with fail
          go_round
          case rel => exact ⟨k + 1, by go_num, by omega, HX⟩
          case measure => simp [RowKit.intOf]; omega
      · have HX : Hid ((l.take k).all isB = true ∧ (k = l.length ∨ ∃ c, l[k]? = some c ∧ isB c = false)) := Lib.hid ⟨hh.out, Or.inl (by omega)⟩
        clear hh
        go_wp2_with fail
        go_meet
        exact ⟨k, rfl, by omega, HX, rfl⟩
  case rest =>
    obtain ⟨k, rfl, hk, hh, rfl⟩ := hcut
    go_wp2_with fail
    go_loop [4] (fun s => ∃ m : Nat, s = .int .i64 m ∧ k ≤ m ∧ m ≤ l.length ∧ Hid ((l.drop m).all isB = true)) (fun s => (RowKit.intOf s).toNat)
    case atStart => exact ⟨l.length, rfl, by omega, by omega, Lib.hid (by rw [List.drop_length]; rfl)⟩
    case round =>
      obtain ⟨m, rfl, hkm, hm, hd⟩ := hrel
      by_cases hlt : k < m
      · obtain ⟨j, rfl⟩ : ∃ j, m = j + 1 := ⟨m - 1, by omega⟩
        obtain ⟨c, r, hd1, hd2, hidx⟩ := link.byte_at l j (by omega)
        have hget : l[j]? = some c := by rw [← List.head?_drop, hd1]; rfl
        have hcall := rblank_any c w
        cases hb : isB c
        · rw [hb] at hcall
          have HX : Hid (tx = (l.drop k).take (j + 1 - k)) := Lib.hid (by
            rw [HTX.out]
            refine strip_at l k (j + 1) (by omega) hm hh.out.1 hd.out (Or.inr ⟨?_, c, hget, hb, hlt⟩)
            rcases hh.out.2 with h | h
            · omega
            · exact h)
          clear hh hd hd1 hd2 hget hb
          go_wp2_with fail
          refine hcall.mono ?_
          rintro e w1 ⟨rfl, rfl⟩
          go_wp2_with fail
          go_ret
          exact ⟨by rw [HX.out]; rfl, rfl⟩
        · rw [hb] at hcall
          have HX : Hid ((l.drop j).all isB = true) := Lib.hid (by rw [hd1, List.all_cons, hb, ← hd2, hd.out]; rfl)
          clear hd hd1 hd2 hget hb
          go_wp2_with fail
          refine hcall.mono ?_
          rintro e w1 ⟨rfl, rfl⟩
          go_wp2_with fail
          go_round
          case rel => exact ⟨j, by go_num, by omega, by omega, HX⟩
          case measure => simp [RowKit.intOf] <;> omega
      · obtain rfl : m = k := by omega
        have HX : Hid (tx = (l.drop m).take (m - m)) := Lib.hid (by
          rw [HTX.out]
          exact strip_at l m m (by omega) hm hh.out.1 hd.out (Or.inl rfl))
        clear hh hd
        go_wp2_with fail
        go_ret
        exact ⟨by rw [HX.out, Nat.sub_self]; rfl, rfl⟩

set_option maxHeartbeats 800000 in
set_option maxRecDepth 100000 in
theorem rtrim_any (s : List UInt8) (hs : s.length ≤ 1000000) (w : World) :
    Calls Tryz.prog 73 #[.string ⟨s.toArray⟩] w fun e w' => e = .returned (.string ⟨(trimM s).toArray⟩) ∧ Below w.heap.size w w' := by
  have h1 := fun w => rnobreaks_any s hs w
  have hl := noBr_le s
  have h2 := fun w => rstrip_any (noBr s) (by omega) w
  have e : stripB (noBr s) = trimM s := rfl
  rw [e] at h2
  generalize noBr s = t at *
  generalize trimM s = u at *
  clear e
  go_enter Tryz.func73, Tryz.ntmps73
  go_wp2_with fail
  refine (h1 w).mono ?_
  rintro e w1 ⟨rfl, hB⟩
  go_wp2_with fail
  refine (h2 w1).mono ?_
  rintro e w2 ⟨rfl, rfl⟩
  go_wp2_with fail
  go_ret
  exact ⟨rfl, hB⟩
end Go.Proofs.YtbhdoocajfkfiaaGreatDoor.cln

namespace Go.Proofs.YtbhdoocajfkfiaaGreatDoor.link
open Go.ChangeShapes Go.WideShapes Go.ChangeAt Go.RowKit Go.Lib

def hexN (c : Nat) : Int := if 48 ≤ c ∧ c ≤ 57 then (c : Int) - 48 else if 65 ≤ c ∧ c ≤ 70 then (c : Int) - 55 else if 97 ≤ c ∧ c ≤ 102 then (c : Int) - 87 else -1

def hexL : List UInt8 := [48, 49, 50, 51, 52, 53, 54, 55, 56, 57, 65, 66, 67, 68, 69, 70, 97, 98, 99, 100, 101, 102]
theorem hexL_no (c : UInt8) (h : ¬ c ∈ hexL) : hexN c.toNat = -1 := by
  have : ∀ n : Fin 256, ¬ (UInt8.ofNat n.1) ∈ hexL → hexN (UInt8.ofNat n.1).toNat = -1 := by decide +kernel
  have h2 := this ⟨c.toNat, c.toNat_lt⟩
  simp at h2
  exact h2 h
theorem hexL_at (k : Nat) (hk : k < 22) (c : UInt8) (h : hexL[k]? = some c) : hexN c.toNat = if 15 < k then (k : Int) - 6 else k := by
  have : ∀ n : Fin 22, hexN (hexL[n.1]?.getD 0).toNat = if 15 < n.1 then (n.1 : Int) - 6 else n.1 := by decide +kernel
  have h2 := this ⟨k, hk⟩
  simp only at h2
  rw [h] at h2
  exact h2

set_option maxHeartbeats 800000 in
theorem digit_any (c : UInt8) (w : World) :
    Calls Tryz.prog 172 #[.int .u8 c.toNat] w fun e w' => e = .returned (.int .i64 (hexN c.toNat)) ∧ w = w' := by
  obtain ⟨v, hv⟩ : ∃ v, v = hexN c.toNat := ⟨_, rfl⟩
  rw [← hv]
  have HV := Lib.hid hv
  clear hv
  go_enter Tryz.func172, Tryz.ntmps172
  go_wp2_with fail
  go_loop [4] (fun s => ∃ k : Nat, s = .int .i64 k ∧ k ≤ 22 ∧ Hid (c ∈ hexL → c ∈ hexL.drop k)) (fun s => 22 - (RowKit.intOf s).toNat)
  case atStart => exact ⟨0, rfl, by omega, Lib.hid id⟩
  case round =>
    obtain ⟨k, rfl, hk, hh⟩ := hrel
    by_cases hlt : k < 22
    · obtain ⟨b, rest, h1, h2, h3⟩ := byte_at hexL k hlt
      have h3' : ∀ h', (⟨#[48, 49, 50, 51, 52, 53, 54, 55, 56, 57, 65, 66, 67, 68, 69, 70, 97, 98, 99, 100, 101, 102]⟩ : ByteArray)[k]'h' = b := h3
      have hkb : hexL[k]? = some b := by
        have := List.drop_eq_getElem_cons (l := hexL) hlt
        rw [h1] at this
        rw [List.getElem?_eq_getElem hlt, (List.cons.inj this).1]
      cases hb : (b == c) with
      | true =>
        have t1 : ((b.toNat : Int) == (c.toNat : Int)) = true := by rw [byteq b c _ rfl]; exact hb
        have hv := hexL_at k hlt b hkb
        rw [eq_of_beq hb, ← HV.out] at hv
        by_cases h15 : 15 < k
        · rw [if_pos h15] at hv
          have H := Lib.hid hv
          clear hv h1 h2 h3 hh hkb hb HV
          go_wp2_with fail
          go_ret
          exact ⟨ret_int H.out.symm, rfl⟩
        · rw [if_neg h15] at hv
          have H := Lib.hid hv
          clear hv h1 h2 h3 hh hkb hb HV
          go_wp2_with fail
          go_ret
          exact ⟨ret_int H.out.symm, rfl⟩
      | false =>
        have t1 : ((b.toNat : Int) == (c.toNat : Int)) = false := by rw [byteq b c _ rfl]; exact hb
        have H : Hid (c ∈ hexL → c ∈ hexL.drop (k + 1)) := Lib.hid (fun g => by
          have := hh.out g
          rw [h1] at this
          rw [h2]
          rcases List.mem_cons.1 this with e | e
          · rw [e] at hb; simp at hb
          · exact e)
        clear h1 h2 h3 hh hkb hb
        go_wp2_with fail
        go_round
        case rel => exact ⟨k + 1, by go_num, by omega, H⟩
        case measure => simp [RowKit.intOf]; omega
    · have H : Hid (v = -1) := Lib.hid (by
        rw [HV.out]
        refine hexL_no c (fun g => ?_)
        have := hh.out g
        rw [List.drop_eq_nil_of_le (by show 22 ≤ k; omega)] at this
        cases this)
      clear hh HV
      go_wp2_with fail
      go_ret
      exact ⟨ret_int H.out.symm, rfl⟩
end Go.Proofs.YtbhdoocajfkfiaaGreatDoor.link
