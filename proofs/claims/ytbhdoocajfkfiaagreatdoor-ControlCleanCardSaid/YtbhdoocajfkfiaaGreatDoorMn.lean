/- The contract of control.attr. The contract of the reference's Attr; of Lines, cleaned. The contracts of Mode, button, pushes. What is done to a control: plain. -/
import Derived.Test.YtbhdoocajfkfiaaGreatDoorNn
import Derived.Test.YtbhdoocajfkfiaaGreatDoorMk
import Derived.Test.YtbhdoocajfkfiaaGreatDoorMj
import Derived.Test.YtbhdoocajfkfiaaGreatDoorMa
import Derived.Test.YtbhdoocajfkfiaaGreatDoorMl
namespace Go.Proofs.YtbhdoocajfkfiaaGreatDoor.atr
open Go.ChangeShapes Go.WideShapes Go.ChangeAt Go.RowKit Go.Lib

theorem attr_predC (nm : List UInt8) (B : Nat) (w : World) (hB : B < w.heap.size) (hcell : w.cell? ⟨B, 0, none⟩ = some (.string ⟨nm.toArray⟩)) :
    PredBelow Tryz.prog 101 #[.pointer (some ⟨B, 0, none⟩)] (fun x => .agg (encA x).toArray) (fun x => decide (x.1 = nm)) w := fun W x hb => by
  have hc : W.cell? ⟨B, 0, none⟩ = some (.string ⟨nm.toArray⟩) := (hb.cell (p := ⟨B, 0, none⟩) hB).trans hcell
  have hBW : B < W.heap.size := Nat.lt_of_lt_of_le hB hb.size
  have hne : B ≠ W.heap.size := by omega
  obtain ⟨a, b⟩ := x
  show Calls Tryz.prog 101 #[.agg #[.string ⟨a.toArray⟩, .string ⟨b.toArray⟩], .pointer (some ⟨B, 0, none⟩)] W _
  have he := lst_eq a nm
  have HE := Lib.hid he
  clear he
  go_enter Tryz.func101, Tryz.ntmps101
  go_wp2_with fail
  go_ret
  exact ⟨by first | rfl | (rw [← HE.out]; rfl), hb.alloc hb.size _⟩

set_option maxHeartbeats 1600000 in
set_option maxRecDepth 100000 in
theorem attr_anyC (v : Value) (l : List Attr) (nm : List UInt8) (hl : l.length ≤ 1000000000) (w : World) (hA : AttrsAt w v l) :
    Calls Tryz.prog 64 #[v, .string ⟨nm.toArray⟩] w fun e w' => e = .returned (.tuple #[.string ⟨(attrS nm l).toArray⟩, .bool (attrB nm l)]) ∧ Below w.heap.size w w' := by
  have eg : ∀ args w, (callFunc 101 args).run Tryz.prog w = .ok (.enter 101 args) w := enters_of Tryz.func101 (by kernel_rfl) rfl
  have hB1 : Below w.heap.size w (w.alloc (.cells #[.string ⟨nm.toArray⟩] 9)) := (Below.refl _ _).alloc (Nat.le_refl _) _
  have hI := idxf_any 101 #[.pointer (some ⟨w.heap.size, 0, none⟩)] eg nm v l hl (w.alloc (.cells #[.string ⟨nm.toArray⟩] 9)) (hA.below hB1)
    (attr_predC nm w.heap.size _ (by simp) (by simp))
  have hw := fint_ways nm l
  have hS : Hid (attrS nm l = (fval nm l).getD [] ∧ attrB nm l = (fval nm l).isSome) := Lib.hid ⟨rfl, rfl⟩
  generalize attrS nm l = s at *
  generalize attrB nm l = bb at *
  generalize fint nm l = r at *
  have HW := Lib.hid hw
  clear hw
  obtain ⟨q, hq⟩ : ∃ q, q = v := ⟨_, rfl⟩
  rcases hA with ⟨rfl, oa, cap, rfl⟩ | ⟨b, off, cap, rfl, h0, hb, hR⟩
  · have HX : Hid (r = -1 ∧ s = [] ∧ bb = false) := Lib.hid (by
      rcases HW.out with ⟨k, h, _⟩ | ⟨h, _, h3⟩
      · exact absurd h (Nat.not_lt_zero _)
      · exact ⟨h, by rw [hS.out.1, h3]; rfl, by rw [hS.out.2, h3]; rfl⟩)
    obtain ⟨rfl, rfl, rfl⟩ := HX.out
    clear HW hq HX hS
    go_enter Tryz.func64, Tryz.ntmps64
    go_wp2_with fail
    refine hI.mono ?_
    rintro e w' ⟨rfl, hb'⟩
    clear hI
    go_wp2_with fail
    go_ret2
    exact ⟨rfl, below_trans hB1 hb'⟩
  · rcases HW.out with ⟨k, hk, h1, h2, h3, h4⟩ | ⟨h1, h2, h3⟩
    · obtain ⟨c1, c2⟩ := hR k hk
      have HX : Hid (s = l[k].2 ∧ bb = true) := Lib.hid ⟨by rw [hS.out.1, h4]; rfl, by rw [hS.out.2, h4]; rfl⟩
      have HC : Hid (∀ w', Below w.heap.size w w' → w'.cell? ⟨b, off + k * 2 + 1, none⟩ = some (.string ⟨l[k].2.toArray⟩)) := Lib.hid (fun w' h => (h.cell (p := ⟨b, off + k * 2 + 1, none⟩) hb).trans c2)
      generalize l[k].2 = y at *
      clear h2 h3 h4 HW hS c1 c2 hR hq
      subst h1
      obtain ⟨rfl, rfl⟩ := HX.out
      clear HX
      go_enter Tryz.func64, Tryz.ntmps64
      go_wp2_with fail
      refine hI.mono ?_
      rintro e w' ⟨rfl, hb'⟩
      clear hI
      have hBB := below_trans hB1 hb'
      have hc := HC.out w' hBB
      clear HC
      go_wp2_with fail
      go_ret2
      exact ⟨rfl, hBB⟩
    · have HX : Hid (s = [] ∧ bb = false) := Lib.hid ⟨by rw [hS.out.1, h3]; rfl, by rw [hS.out.2, h3]; rfl⟩
      subst h1
      obtain ⟨rfl, rfl⟩ := HX.out
      clear h2 h3 HW hS hR hq HX
      go_enter Tryz.func64, Tryz.ntmps64
      go_wp2_with fail
      refine hI.mono ?_
      rintro e w' ⟨rfl, hb'⟩
      clear hI
      go_wp2_with fail
      go_ret2
      exact ⟨rfl, below_trans hB1 hb'⟩
end Go.Proofs.YtbhdoocajfkfiaaGreatDoor.atr

namespace Go.Proofs.YtbhdoocajfkfiaaGreatDoor.ctl
open Go.ChangeShapes Go.WideShapes Go.ChangeAt Go.RowKit Go.Lib Go.Proofs.YtbhdoocajfkfiaaGreatDoor.num Go.Proofs.YtbhdoocajfkfiaaGreatDoor.mom Go.Proofs.YtbhdoocajfkfiaaGreatDoor.fits Go.Proofs.YtbhdoocajfkfiaaGreatDoor.atr Go.Proofs.YtbhdoocajfkfiaaGreatDoor.link Go.Proofs.YtbhdoocajfkfiaaGreatDoor.stp Go.Proofs.YtbhdoocajfkfiaaGreatDoor.cln

set_option maxHeartbeats 1600000 in
set_option maxRecDepth 100000 in
theorem rattr14_any (v : Value) (l : List Attr) (nm : List UInt8) (hl : l.length ≤ 1000000000) (w : World) (hA : AttrsAt w v l) :
    Calls Tryz.prog 61 #[v, .string ⟨nm.toArray⟩] w fun e w' => e = .returned (.tuple #[.string ⟨(attrS nm l).toArray⟩, .bool (attrB nm l)]) ∧ w = w' := by
  have hf := rfind_any v l nm hl w hA
  have hw := fint_ways nm l
  have hS : attrS nm l = (fval nm l).getD [] := rfl
  have hB : attrB nm l = (fval nm l).isSome := rfl
  rcases hw with ⟨k, hk', h1, _, _, h4⟩ | ⟨h1, _, h3⟩
  · rw [h1] at hf
    rw [hS, hB, h4]
    dsimp only [Option.getD, Option.isSome]
    rcases hA with ⟨rfl, _⟩ | ⟨b, off, cap, rfl, h0, hb, hR⟩
    · exact absurd hk' (Nat.not_lt_zero _)
    · obtain ⟨_, c2⟩ := hR k hk'
      generalize l[k].2 = y at *
      clear h1 h4 hB hR hS
      go_enter Tryz.func61, Tryz.ntmps61
      go_wp2_with fail
      refine hf.mono ?_
      rintro e w' ⟨rfl, rfl⟩
      clear hf
      go_wp2_with fail
      go_ret2
      exact ⟨rfl, rfl⟩
  · rw [h1] at hf
    rw [hS, hB, h3]
    dsimp only [Option.getD, Option.isSome]
    clear h1 h3 hB hA hl hS
    go_enter Tryz.func61, Tryz.ntmps61
    go_wp2_with fail
    refine hf.mono ?_
    rintro e w' ⟨rfl, rfl⟩
    clear hf
    go_wp2_with fail
    go_ret2
    exact ⟨rfl, rfl⟩

/-! ### Lines -/
theorem rep_two (s : List UInt8) (hs : s.length ≤ 10000000) (w : World) (hG : G w) :
    Calls Tryz.prog 145 #[.string ⟨s.toArray⟩, .string ⟨#[13, 10]⟩, .string ⟨#[10]⟩] w fun e w' => e = .returned (.string ⟨(crl s).toArray⟩) ∧ Below w.heap.size w w' := by
  obtain ⟨m, hm⟩ := hG.ml
  have hc : Lib.countB ⟨s.toArray⟩ ⟨#[13, 10]⟩ ≤ (⟨s.toArray⟩ : ByteArray).size := Lib.countB_le ⟨#[13, 10]⟩ (by decide) _ _ (Nat.le_refl _)
  rw [bsize] at hc
  have h := Tryz.strings_ReplaceAll ⟨s.toArray⟩ ⟨#[13, 10]⟩ ⟨#[10]⟩ m w (by rw [bsize]; omega) hm (show 1 ≤ 2 by decide) (by
    have e1 : (⟨#[10]⟩ : ByteArray).size = 1 := rfl
    rw [bsize, e1]; omega)
  have e : replaceAll s [13, 10] [10] = crl s := replaceAll_crl s
  rw [← e]
  exact h
set_option maxHeartbeats 800000 in
set_option maxRecDepth 100000 in
theorem lines_any (s : List UInt8) (hs : s.length ≤ 10000000) (w : World) (hG : G w) :
    Calls Tryz.prog 104 #[.string ⟨s.toArray⟩] w fun e w' => e = .returned (.string ⟨(linesS s).toArray⟩) ∧ Below w.heap.size w w' := by
  have h1 := fun w g => rep_two s hs w g
  have hl := crl_le s.length s (Nat.le_refl _)
  have h2 := fun w g => rep_call (crl s) 13 [10] (by omega) (by decide) w g
  rw [lines_is] at h2
  generalize crl s = t at *
  generalize linesS s = u at *
  go_enter Tryz.func104, Tryz.ntmps104
  go_wp2_with fail
  refine (h1 w hG).mono ?_
  rintro e w1 ⟨rfl, hB⟩
  go_wp2_with fail
  refine (h2 w1 (hG.below hB)).mono ?_
  rintro e w2 ⟨rfl, hB2⟩
  go_wp2_with fail
  go_ret
  exact ⟨rfl, below_trans hB hB2⟩
set_option maxHeartbeats 800000 in
set_option maxRecDepth 100000 in
theorem rlines_any (s : List UInt8) (hs : s.length ≤ 1000000) (w : World) :
    Calls Tryz.prog 99 #[.string ⟨s.toArray⟩] w fun e w' => e = .returned (.string ⟨(linesS s).toArray⟩) ∧ Below w.heap.size w w' := by
  have h := fun w => rends_any s [10] hs (by decide) w
  have e : endsS [10] s = linesS s := rfl
  rw [e] at h
  generalize linesS s = t at *
  clear e
  go_enter Tryz.func99, Tryz.ntmps99
  go_wp2_with fail
  refine (h w).mono ?_
  rintro e w1 ⟨rfl, hB⟩
  go_wp2_with fail
  go_ret
  exact ⟨rfl, hB⟩

set_option maxHeartbeats 800000 in
set_option maxRecDepth 100000 in
theorem cleaned_any (kind : Int) (v : Value) (l : List Attr) (hl : Fine l) (s : List UInt8) (hs : s.length ≤ 1000000) (w : World) (hA : AttrsAt w v l) (hG : G w) (hE : GE w) :
    Calls Tryz.prog 69 #[.int .i64 kind, v, .string ⟨s.toArray⟩] w fun e w' => e = .returned (.string ⟨(cleanedP kind l s).toArray⟩) ∧ Below w.heap.size w w' := by
  by_cases h : kind = 24
  · subst h
    rw [cleaned_24]
    have hx := lines_any s (by omega) w hG
    generalize linesS s = t at *
    go_enter Tryz.func69, Tryz.ntmps69
    go_wp2_with fail
    refine hx.mono ?_
    rintro e w1 ⟨rfl, hB⟩
    go_wp2_with fail
    go_ret
    exact ⟨rfl, hB⟩
  · rw [cleaned_no kind h]
    have hx := cval_any kind v l hl s hs w hA hG hE
    have t24 : (kind == 24) = false := by simpa using h
    generalize cleanV kind l s = t at *
    clear h
    go_enter Tryz.func69, Tryz.ntmps69
    go_wp2_with fail
    refine hx.mono ?_
    rintro e w1 ⟨rfl, hB⟩
    go_wp2_with fail
    go_ret
    exact ⟨rfl, hB⟩
set_option maxHeartbeats 800000 in
set_option maxRecDepth 100000 in
theorem rcleaned_any (kind : Int) (hk : i64 kind) (v : Value) (l : List Attr) (hl : Fine l) (s : List UInt8) (hs : s.length ≤ 1000000) (w : World) (hA : AttrsAt w v l) :
    Calls Tryz.prog 62 #[.int .i64 kind, v, .string ⟨s.toArray⟩] w fun e w' => e = .returned (.string ⟨(cleanedP kind l s).toArray⟩) ∧ Below w.heap.size w w' := by
  by_cases h : kind = 24
  · subst h
    rw [cleaned_24]
    have hx := rlines_any s hs w
    generalize linesS s = t at *
    go_enter Tryz.func62, Tryz.ntmps62
    go_wp2_with fail
    refine hx.mono ?_
    rintro e w1 ⟨rfl, hB⟩
    go_wp2_with fail
    go_ret
    exact ⟨rfl, hB⟩
  · rw [cleaned_no kind h]
    have hx := rval_any kind hk v l hl s hs w hA
    have t24 : (kind == 24) = false := by simpa using h
    generalize cleanV kind l s = t at *
    clear h
    go_enter Tryz.func62, Tryz.ntmps62
    go_wp2_with fail
    refine hx.mono ?_
    rintro e w1 ⟨rfl, hB⟩
    go_wp2_with fail
    go_ret
    exact ⟨rfl, hB⟩
end Go.Proofs.YtbhdoocajfkfiaaGreatDoor.ctl

namespace Go.Proofs.YtbhdoocajfkfiaaGreatDoor.ctl
open Go.ChangeShapes Go.WideShapes Go.ChangeAt Go.RowKit Go.Lib Go.Proofs.YtbhdoocajfkfiaaGreatDoor.num

set_option maxHeartbeats 1600000 in
set_option maxRecDepth 100000 in
theorem mode_any (kind : Int) (w : World) :
    Calls Tryz.prog 65 #[.int .i64 kind] w fun e w' => e = .returned (.int .i64 (modeP kind)) ∧ w = w' := by
  rcases kinds_c kind with rfl | rfl | h | h | rfl | h | h | rfl | h
  · rw [mode_1 24 (by decide)]
    go_enter Tryz.func65, Tryz.ntmps65
    go_wp2_with (first | go_in)
    go_ret
    exact ⟨rfl, rfl⟩
  · rw [mode_1 28 (by decide)]
    go_enter Tryz.func65, Tryz.ntmps65
    go_wp2_with (first | go_in)
    go_ret
    exact ⟨rfl, rfl⟩
  · rw [mode_1 kind (Or.inl h)]
    obtain ⟨h1, h2⟩ := h
    go_enter Tryz.func65, Tryz.ntmps65
    go_wp2_with (first | go_in)
    go_ret
    exact ⟨rfl, rfl⟩
  · rw [mode_3 kind h]
    rcases h with rfl | rfl
    all_goals
      go_enter Tryz.func65, Tryz.ntmps65
      go_wp2_with (first | go_in)
      go_ret
      exact ⟨rfl, rfl⟩
  · rw [mode_4]
    go_enter Tryz.func65, Tryz.ntmps65
    go_wp2_with (first | go_in)
    go_ret
    exact ⟨rfl, rfl⟩
  · rw [mode_2 kind h]
    rcases h with rfl | rfl | rfl | rfl | rfl
    all_goals
      go_enter Tryz.func65, Tryz.ntmps65
      go_wp2_with (first | go_in)
      go_ret
      exact ⟨rfl, rfl⟩
  · rw [mode_0 kind (by omega)]
    rcases h with rfl | rfl | rfl
    all_goals
      go_enter Tryz.func65, Tryz.ntmps65
      go_wp2_with (first | go_in)
      go_ret
      exact ⟨rfl, rfl⟩
  · rw [mode_0 32 (by decide)]
    go_enter Tryz.func65, Tryz.ntmps65
    go_wp2_with (first | go_in)
    go_ret
    exact ⟨rfl, rfl⟩
  · rw [mode_0 kind (by omega)]
    have t24 : (kind == 24) = false := by simp; omega
    have t28 : (kind == 28) = false := by simp; omega
    have t16 : (kind == 16) = false := by simp; omega
    have t17 : (kind == 17) = false := by simp; omega
    have t18 : (kind == 18) = false := by simp; omega
    rcases Int.lt_or_le kind 1 with g | g
    · clear h
      have g2 : kind < 2 := by omega
      go_enter Tryz.func65, Tryz.ntmps65
      go_wp2_with (first | go_in)
      go_ret
      exact ⟨rfl, rfl⟩
    · have g2 : 22 < kind := by omega
      have g3 : 15 < kind := by omega
      have g4 : 2 ≤ kind := by omega
      clear h
      go_enter Tryz.func65, Tryz.ntmps65
      go_wp2_with (first | go_in)
      go_ret
      exact ⟨rfl, rfl⟩
set_option maxHeartbeats 1600000 in
set_option maxRecDepth 100000 in
theorem rmode_any (kind : Int) (w : World) :
    Calls Tryz.prog 63 #[.int .i64 kind] w fun e w' => e = .returned (.int .i64 (modeP kind)) ∧ w = w' := by
  rcases kinds_c kind with rfl | rfl | h | h | rfl | h | h | rfl | h
  · rw [mode_1 24 (by decide)]
    go_enter Tryz.func63, Tryz.ntmps63
    go_wp2_with (first | go_in)
    go_ret
    exact ⟨rfl, rfl⟩
  · rw [mode_1 28 (by decide)]
    go_enter Tryz.func63, Tryz.ntmps63
    go_wp2_with (first | go_in)
    go_ret
    exact ⟨rfl, rfl⟩
  · rw [mode_1 kind (Or.inl h)]
    have hk : kind = 2 ∨ kind = 3 ∨ kind = 4 ∨ kind = 5 ∨ kind = 6 ∨ kind = 7 ∨ kind = 8 ∨ kind = 9 ∨ kind = 10 ∨ kind = 11 ∨ kind = 12 ∨ kind = 13 ∨ kind = 14 ∨ kind = 15 := by omega
    clear h
    rcases hk with rfl | rfl | rfl | rfl | rfl | rfl | rfl | rfl | rfl | rfl | rfl | rfl | rfl | rfl
    all_goals
      go_enter Tryz.func63, Tryz.ntmps63
      go_wp2_with (first | go_in)
      go_ret
      exact ⟨rfl, rfl⟩
  · rw [mode_3 kind h]
    rcases h with rfl | rfl
    all_goals
      go_enter Tryz.func63, Tryz.ntmps63
      go_wp2_with (first | go_in)
      go_ret
      exact ⟨rfl, rfl⟩
  · rw [mode_4]
    go_enter Tryz.func63, Tryz.ntmps63
    go_wp2_with (first | go_in)
    go_ret
    exact ⟨rfl, rfl⟩
  · rw [mode_2 kind h]
    rcases h with rfl | rfl | rfl | rfl | rfl
    all_goals
      go_enter Tryz.func63, Tryz.ntmps63
      go_wp2_with (first | go_in)
      go_ret
      exact ⟨rfl, rfl⟩
  · rw [mode_0 kind (by omega)]
    rcases h with rfl | rfl | rfl
    all_goals
      go_enter Tryz.func63, Tryz.ntmps63
      go_wp2_with (first | go_in)
      go_ret
      exact ⟨rfl, rfl⟩
  · rw [mode_0 32 (by decide)]
    go_enter Tryz.func63, Tryz.ntmps63
    go_wp2_with (first | go_in)
    go_ret
    exact ⟨rfl, rfl⟩
  · rw [mode_0 kind (by omega)]
    have t1 : (kind == 1) = false := by simp; omega
    have t2 : (kind == 2) = false := by simp; omega
    have t3 : (kind == 3) = false := by simp; omega
    have t4 : (kind == 4) = false := by simp; omega
    have t5 : (kind == 5) = false := by simp; omega
    have t6 : (kind == 6) = false := by simp; omega
    have t7 : (kind == 7) = false := by simp; omega
    have t8 : (kind == 8) = false := by simp; omega
    have t9 : (kind == 9) = false := by simp; omega
    have t10 : (kind == 10) = false := by simp; omega
    have t11 : (kind == 11) = false := by simp; omega
    have t12 : (kind == 12) = false := by simp; omega
    have t13 : (kind == 13) = false := by simp; omega
    have t14 : (kind == 14) = false := by simp; omega
    have t15 : (kind == 15) = false := by simp; omega
    have t16 : (kind == 16) = false := by simp; omega
    have t17 : (kind == 17) = false := by simp; omega
    have t18 : (kind == 18) = false := by simp; omega
    have t19 : (kind == 19) = false := by simp; omega
    have t20 : (kind == 20) = false := by simp; omega
    have t21 : (kind == 21) = false := by simp; omega
    have t22 : (kind == 22) = false := by simp; omega
    have t24 : (kind == 24) = false := by simp; omega
    have t28 : (kind == 28) = false := by simp; omega
    clear h
    go_enter Tryz.func63, Tryz.ntmps63
    go_wp2_with (first | go_in)
    go_ret
    exact ⟨rfl, rfl⟩
def pushB (kind : Int) : Bool := decide (kind = 25 ∨ kind = 26 ∨ kind = 27)
theorem push_yes (kind : Int) (h : kind = 25 ∨ kind = 26 ∨ kind = 27) : pushB kind = true := decide_eq_true h
theorem push_no (kind : Int) (h : ¬ (kind = 25 ∨ kind = 26 ∨ kind = 27)) : pushB kind = false := decide_eq_false h
set_option maxHeartbeats 1600000 in
set_option maxRecDepth 100000 in
theorem button_any (kind : Int) (w : World) :
    Calls Tryz.prog 66 #[.int .i64 kind] w fun e w' => e = .returned (.bool (pushB kind)) ∧ w = w' := by
  by_cases h : kind = 25 ∨ kind = 26 ∨ kind = 27
  · rw [push_yes kind h]
    rcases h with rfl | rfl | rfl
    all_goals
      go_enter Tryz.func66, Tryz.ntmps66
      go_wp2_with (first | go_in)
      go_ret
      exact ⟨rfl, rfl⟩
  · rw [push_no kind h]
    have t25 : (kind == 25) = false := by simp; omega
    have t26 : (kind == 26) = false := by simp; omega
    have t27 : (kind == 27) = false := by simp; omega
    rcases Int.lt_or_le kind 25 with g | g
    · clear h
      go_enter Tryz.func66, Tryz.ntmps66
      go_wp2_with (first | go_in)
      go_ret
      exact ⟨rfl, rfl⟩
    · have g2 : ¬ kind ≤ 27 := by omega
      clear h
      go_enter Tryz.func66, Tryz.ntmps66
      go_wp2_with (first | go_in)
      go_ret
      exact ⟨rfl, rfl⟩
set_option maxHeartbeats 1600000 in
set_option maxRecDepth 100000 in
theorem pushes_any (kind : Int) (w : World) :
    Calls Tryz.prog 67 #[.int .i64 kind] w fun e w' => e = .returned (.bool (pushB kind)) ∧ w = w' := by
  by_cases h : kind = 25 ∨ kind = 26 ∨ kind = 27
  · rw [push_yes kind h]
    rcases h with rfl | rfl | rfl
    all_goals
      go_enter Tryz.func67, Tryz.ntmps67
      go_wp2_with (first | go_in)
      go_ret
      exact ⟨rfl, rfl⟩
  · rw [push_no kind h]
    have t25 : (kind == 25) = false := by simp; omega
    have t26 : (kind == 26) = false := by simp; omega
    have t27 : (kind == 27) = false := by simp; omega
    rcases Int.lt_or_le kind 25 with g | g
    · clear h
      go_enter Tryz.func67, Tryz.ntmps67
      go_wp2_with (first | go_in)
      go_ret
      exact ⟨rfl, rfl⟩
    · have g2 : ¬ kind ≤ 27 := by omega
      clear h
      go_enter Tryz.func67, Tryz.ntmps67
      go_wp2_with (first | go_in)
      go_ret
      exact ⟨rfl, rfl⟩
theorem mode_anyB (kind : Int) (w : World) :
    Calls Tryz.prog 65 #[.int .i64 kind] w fun e w' => e = .returned (.int .i64 (modeP kind)) ∧ Below w.heap.size w w' :=
  (mode_any kind w).mono fun e w' h => ⟨h.1, by rw [← h.2]; exact Below.refl _ _⟩
theorem rmode_anyB (kind : Int) (w : World) :
    Calls Tryz.prog 63 #[.int .i64 kind] w fun e w' => e = .returned (.int .i64 (modeP kind)) ∧ Below w.heap.size w w' :=
  (rmode_any kind w).mono fun e w' h => ⟨h.1, by rw [← h.2]; exact Below.refl _ _⟩
end Go.Proofs.YtbhdoocajfkfiaaGreatDoor.ctl

namespace Go.Proofs.YtbhdoocajfkfiaaGreatDoor.ctl
open Go.Lib Go.Proofs.YtbhdoocajfkfiaaGreatDoor.num Go.Proofs.YtbhdoocajfkfiaaGreatDoor.mom Go.Proofs.YtbhdoocajfkfiaaGreatDoor.atr Go.Proofs.YtbhdoocajfkfiaaGreatDoor.link Go.Proofs.YtbhdoocajfkfiaaGreatDoor.stp Go.Proofs.YtbhdoocajfkfiaaGreatDoor.cln

def writeO (kind : Int) (c : Ctl) (l : List Attr) (s : List UInt8) : Ctl × Bool × Int :=
  if 4000 < s.length then (zeroC, false, 2)
  else if modeP kind = 1 then (⟨cleanedP kind l s, true, false, c.checked, c.dchecked, c.mixed, c.selected, c.dselected, c.custom, c.files⟩, false, 0)
  else if modeP kind = 3 ∨ modeP kind = 2 ∨ pushB kind = true then (c, true, 0)
  else if modeP kind = 4 then (if s = [] then (⟨c.value, c.dirty, c.typed, c.checked, c.dchecked, c.mixed, c.selected, c.dselected, c.custom, []⟩, false, 0) else (zeroC, false, 8))
  else (zeroC, false, 3)
def typeO (kind : Int) (c : Ctl) (l : List Attr) (s : List UInt8) : Ctl × Int :=
  if 4000 < s.length then (zeroC, 2)
  else if modeP kind = 1 ∧ kind ≠ 28 then (⟨cleanedP kind l s, true, true, c.checked, c.dchecked, c.mixed, c.selected, c.dselected, c.custom, c.files⟩, 0)
  else (zeroC, 3)
def changeO (kind : Int) (c : Ctl) (l : List Attr) (nm : List UInt8) : Ctl :=
  ⟨changeV kind c.value c.dirty l nm, c.dirty, c.typed, changeC kind c.checked c.dchecked l nm, c.dchecked, c.mixed, changeS kind c.selected c.dselected l nm, c.dselected, c.custom, c.files⟩
def resetO (kind : Int) (c : Ctl) (l : List Attr) (x : List UInt8) : Ctl :=
  ⟨startV kind l x, false, false, startC kind l, false, c.mixed, startS kind l, false, c.custom, []⟩
theorem write_long (kind : Int) (c : Ctl) (l : List Attr) (s : List UInt8) (h : 4000 < s.length) : writeO kind c l s = (zeroC, false, 2) := by unfold writeO; rw [if_pos h]
theorem write_1 (kind : Int) (c : Ctl) (l : List Attr) (s : List UInt8) (h : ¬ 4000 < s.length) (hm : modeP kind = 1) :
    writeO kind c l s = (⟨cleanedP kind l s, true, false, c.checked, c.dchecked, c.mixed, c.selected, c.dselected, c.custom, c.files⟩, false, 0) := by unfold writeO; rw [if_neg h, if_pos hm]
theorem write_2 (kind : Int) (c : Ctl) (l : List Attr) (s : List UInt8) (h : ¬ 4000 < s.length) (h1 : modeP kind ≠ 1) (hm : modeP kind = 3 ∨ modeP kind = 2 ∨ pushB kind = true) :
    writeO kind c l s = (c, true, 0) := by unfold writeO; rw [if_neg h, if_neg h1, if_pos hm]
theorem write_18 (c : Ctl) (l : List Attr) (s : List UInt8) (h : ¬ 4000 < s.length) :
    writeO 18 c l s = if s = [] then (⟨c.value, c.dirty, c.typed, c.checked, c.dchecked, c.mixed, c.selected, c.dselected, c.custom, []⟩, false, 0) else (zeroC, false, 8) := by
  unfold writeO; rw [if_neg h, if_neg (by decide), if_neg (by decide), if_pos (by decide)]
theorem write_0 (kind : Int) (c : Ctl) (l : List Attr) (s : List UInt8) (h : ¬ 4000 < s.length) (h1 : modeP kind = 0) (hp : pushB kind = false) :
    writeO kind c l s = (zeroC, false, 3) := by
  unfold writeO; rw [if_neg h, if_neg (by rw [h1]; decide), if_neg (by rw [h1, hp]; decide), if_neg (by rw [h1]; decide)]
theorem type_long (kind : Int) (c : Ctl) (l : List Attr) (s : List UInt8) (h : 4000 < s.length) : typeO kind c l s = (zeroC, 2) := by unfold typeO; rw [if_pos h]
theorem type_no (kind : Int) (c : Ctl) (l : List Attr) (s : List UInt8) (h : ¬ 4000 < s.length) (hm : ¬ (modeP kind = 1 ∧ kind ≠ 28)) : typeO kind c l s = (zeroC, 3) := by unfold typeO; rw [if_neg h, if_neg hm]
theorem type_yes (kind : Int) (c : Ctl) (l : List Attr) (s : List UInt8) (h : ¬ 4000 < s.length) (hm : modeP kind = 1 ∧ kind ≠ 28) :
    typeO kind c l s = (⟨cleanedP kind l s, true, true, c.checked, c.dchecked, c.mixed, c.selected, c.dselected, c.custom, c.files⟩, 0) := by unfold typeO; rw [if_neg h, if_pos hm]
theorem moves_iff (nm : List UInt8) : movesP nm = true ↔ (nm = nValue ∨ nm = nMultiple ∨ nm = nMin ∨ nm = nMax ∨ nm = nStep) := by unfold movesP; exact decide_eq_true_iff
theorem change_same (kind : Int) (c : Ctl) (l : List Attr) (nm : List UInt8) (h1 : ¬ (2 ≤ kind ∧ kind ≤ 15)) (h2 : ¬ ((kind = 16 ∨ kind = 17) ∧ nm = nChecked ∧ c.dchecked = false)) (h3 : ¬ (kind = 32 ∧ nm = nSelected ∧ c.dselected = false)) :
    changeO kind c l nm = c := by unfold changeO changeV changeC changeS; rw [if_neg h1, if_neg h2, if_neg h3]
theorem change_attr (kind : Int) (c : Ctl) (l : List Attr) (nm : List UInt8) (h : 2 ≤ kind ∧ kind ≤ 15) (e : nm = nValue) (hd : c.dirty = false) :
    changeO kind c l nm = ⟨cleanV kind l (attrS nm l), c.dirty, c.typed, c.checked, c.dchecked, c.mixed, c.selected, c.dselected, c.custom, c.files⟩ := by
  unfold changeO changeV changeC changeS; rw [if_pos h, if_pos ⟨e, hd⟩, if_neg (by rintro ⟨e, _⟩; omega), if_neg (by rintro ⟨e, _⟩; omega)]
theorem change_own (kind : Int) (c : Ctl) (l : List Attr) (nm : List UInt8) (h : 2 ≤ kind ∧ kind ≤ 15) (e : nm = nValue ∨ nm = nMultiple ∨ nm = nMin ∨ nm = nMax ∨ nm = nStep) (hd : ¬ (nm = nValue ∧ c.dirty = false)) :
    changeO kind c l nm = ⟨cleanV kind l c.value, c.dirty, c.typed, c.checked, c.dchecked, c.mixed, c.selected, c.dselected, c.custom, c.files⟩ := by
  unfold changeO changeV changeC changeS; rw [if_pos h, if_neg hd, if_pos ((moves_iff nm).2 e), if_neg (by rintro ⟨e, _⟩; omega), if_neg (by rintro ⟨e, _⟩; omega)]
theorem change_non (kind : Int) (c : Ctl) (l : List Attr) (nm : List UInt8) (h : 2 ≤ kind ∧ kind ≤ 15) (e : ¬ (nm = nValue ∨ nm = nMultiple ∨ nm = nMin ∨ nm = nMax ∨ nm = nStep)) :
    changeO kind c l nm = c := by
  unfold changeO changeV changeC changeS; rw [if_pos h, if_neg (by rintro ⟨g, _⟩; exact e (Or.inl g)), if_neg (fun g => e ((moves_iff nm).1 g)), if_neg (by rintro ⟨e, _⟩; omega), if_neg (by rintro ⟨e, _⟩; omega)]
theorem change_chk (kind : Int) (c : Ctl) (l : List Attr) (nm : List UInt8) (h : kind = 16 ∨ kind = 17) (e : nm = nChecked) (hd : c.dchecked = false) :
    changeO kind c l nm = ⟨c.value, c.dirty, c.typed, attrB nm l, c.dchecked, c.mixed, c.selected, c.dselected, c.custom, c.files⟩ := by
  unfold changeO changeV changeC changeS; rw [if_neg (by omega), if_pos ⟨h, e, hd⟩, if_neg (by rintro ⟨e, _⟩; omega)]
theorem change_sel (c : Ctl) (l : List Attr) (nm : List UInt8) (e : nm = nSelected) (hd : c.dselected = false) :
    changeO 32 c l nm = ⟨c.value, c.dirty, c.typed, c.checked, c.dchecked, c.mixed, attrB nm l, c.dselected, c.custom, c.files⟩ := by
  unfold changeO changeV changeC changeS; rw [if_neg (by decide), if_neg (by rintro ⟨e, _⟩; omega), if_pos ⟨rfl, e, hd⟩]
end Go.Proofs.YtbhdoocajfkfiaaGreatDoor.ctl
