/- The contracts of link.groups and of the reference's groups. -/
import Derived.Test.YtoghjhaagallkaaGreatDoorStrRows
import Derived.Test.YtoghjhaagallkaaGreatDoorHexes
import Derived.Test.YtoghjhaagallkaaGreatDoorRScheme
import Derived.Test.YtoghjhaagallkaaGreatDoorRFine
import Derived.WalkSpells
namespace Go.Proofs.YtoghjhaagallkaaGreatDoor.link
open Go.ChangeShapes Go.WideShapes Go.ChangeAt Go.RowKit Go.Lib Go.Proofs.YtoghjhaagallkaaGreatDoor.str

def grpOk (g : List UInt8) : Bool := decide (g.length ≤ 4) && hexesB g
def grpL (ls : List (List UInt8)) (n : Nat) : Option Nat := if ls.all grpOk then some n else none
def grpN (l : List UInt8) : Option Nat := if l = [] then some 0 else grpL (spl 58 [] l) (spl 58 [] l).length
theorem grpL_cons (g : List UInt8) (r : List (List UInt8)) (n : Nat) : grpL (g :: r) n = if grpOk g then grpL r n else none := by
  unfold grpL
  rw [List.all_cons]
  cases grpOk g <;> cases r.all grpOk <;> rfl
theorem ret_ib (a : Int) (b : Bool) (a' : Int) (b' : Bool) (h : a = a') (g : b = b') : Ending.returned (.tuple #[.int .i64 a, .bool b]) = .returned (.tuple #[.int .i64 a', .bool b']) := by rw [h, g]

set_option maxHeartbeats 1600000 in
set_option maxRecDepth 100000 in
theorem groups_any (l : List UInt8) (hl : l.length ≤ 1000000) (w : World) (hG : G w) :
    Calls Tryz.prog 57 #[.string ⟨l.toArray⟩] w fun e w' => e = .returned (.tuple #[.int .i64 ((grpN l).getD 0 : Nat), .bool (grpN l).isSome]) ∧ Below w.heap.size w w' := by
  obtain ⟨v, hv⟩ : ∃ v, v = grpN l := ⟨_, rfl⟩
  rw [← hv]
  have hs := split_row l 58 hl w hG
  have hsm := spl_small 58 l []
  have hps := spl_pos 58 l []
  have hspn : (spl 58 [] l).length ≤ 1000001 := by rw [spl_len]; have := List.count_le_length (a := (58 : UInt8)) (l := l); omega
  by_cases he : l = []
  · subst he
    have HV : Hid (v = some 0) := Lib.hid (by rw [hv]; rfl)
    clear hv hs hsm hps
    go_enter Tryz.func57, Tryz.ntmps57
    go_wp2_with fail
    go_ret2
    exact ⟨ret_ib _ _ _ _ (by rw [HV.out]; rfl) (by rw [HV.out]; rfl), Below.refl _ _⟩
  · unfold grpN at hv
    rw [if_neg he] at hv
    have hemp : l.isEmpty = false := by simp [he]
    generalize spl 58 [] l = ls at *
    have HV := Lib.hid hv
    have HS := Lib.hid (show ∀ x ∈ ls, x.length ≤ 1000000 from fun x hx => by have := hsm x hx; simp at this; omega)
    clear hv hsm
    go_enter Tryz.func57, Tryz.ntmps57
    go_wp2_with fail
    refine hs.mono ?_
    rintro e w1 ⟨b, cap, rfl, hst, hb1, _⟩
    clear hs
    have HST := Lib.hid hst
    have hbl := hst.lt hps
    clear hst
    go_wp2_with fail
    go_loopw [13] (fun s wr => ∃ k : Nat, s = .int .i64 k ∧ k ≤ ls.length ∧ Hid (v = grpL (ls.drop k) ls.length) ∧ Below w1.heap.size w1 wr) (fun s _ => ls.length - (RowKit.intOf s).toNat)
    case atStart => exact ⟨0, rfl, by omega, HV, Below.refl _ _⟩
    case round =>
      obtain ⟨k, rfl, hk, hh, hb⟩ := hrel
      by_cases hlt : k < ls.length
      · have hcell := (HST.out.under hbl hb) k hlt
        have hx := hh.out
        have hgs := HS.out ls[k] (List.getElem_mem hlt)
        rw [List.drop_eq_getElem_cons hlt, grpL_cons] at hx
        generalize ls[k] = g at *
        unfold grpOk at hx
        have hcall := hexes_any g (by omega) wr
        by_cases h4 : g.length ≤ 4
        · rw [decide_eq_true h4, Bool.true_and] at hx
          generalize hexesB g = q at *
          have HX := Lib.hid hx
          clear hx hh hgs
          go_wp2_with fail
          refine hcall.mono ?_
          rintro e w2 ⟨rfl, hb2⟩
          have hb3 := below_trans hb hb2
          clear hcall
          cases q
          · have HY : Hid (v = none) := Lib.hid (by rw [HX.out]; rfl)
            go_wp2_with fail
            go_ret2
            exact ⟨ret_ib _ _ _ _ (by rw [HY.out]; rfl) (by rw [HY.out]; rfl), below_trans hb1 hb3⟩
          · have HY : Hid (v = grpL (ls.drop (k + 1)) ls.length) := Lib.hid (by rw [HX.out]; rfl)
            go_wp2_with fail
            go_roundw
            case rel => exact ⟨k + 1, by go_num, by omega, HY, hb3⟩
            case measure => simp [RowKit.intOf]; omega
        · rw [decide_eq_false h4, Bool.false_and] at hx
          have HY : Hid (v = none) := Lib.hid (by rw [hx]; rfl)
          clear hx hh hgs hcall
          go_wp2_with fail
          go_ret2
          exact ⟨ret_ib _ _ _ _ (by rw [HY.out]; rfl) (by rw [HY.out]; rfl), below_trans hb1 hb⟩
      · have HY : Hid (v = some ls.length) := Lib.hid (by rw [hh.out, List.drop_eq_nil_of_le (by omega)]; rfl)
        clear hh
        go_wp2_with fail
        go_ret2
        exact ⟨ret_ib _ _ _ _ (by rw [HY.out]; rfl) (by rw [HY.out]; rfl), below_trans hb1 hb⟩

def grpI (o : Option Nat) : Int := match o with | none => -1 | some n => n

def hexGo (x : List UInt8) (t : Option Nat) : Option Nat := if x.all hexOk then t else none
theorem hexGo_cons (c : UInt8) (r : List UInt8) (t : Option Nat) : hexGo (c :: r) t = if hexOk c then hexGo r t else none := by
  unfold hexGo
  rw [List.all_cons]
  cases hexOk c <;> cases r.all hexOk <;> rfl
theorem hexGo_grp (g : List UInt8) (h1 : 1 ≤ g.length) (h4 : g.length ≤ 4) (t : Option Nat) : (if grpOk g then t else none) = hexGo g t := by
  unfold grpOk hexesB hexGo
  rw [decide_eq_true h4]
  cases g with
  | nil => simp at h1
  | cons a r => rfl

set_option maxHeartbeats 3200000 in
set_option maxRecDepth 100000 in
theorem rgroups_any (l : List UInt8) (hl : l.length ≤ 1000000) (w : World) :
    Calls Tryz.prog 60 #[.string ⟨l.toArray⟩] w fun e w' => e = .returned (.int .i64 (grpI (grpN l))) ∧ Below w.heap.size w w' := by
  obtain ⟨v, hv⟩ : ∃ v, v = grpN l := ⟨_, rfl⟩
  rw [← hv]
  have hs := rsplit_row l 58 hl w
  have hsm := spl_small 58 l []
  have hps := spl_pos 58 l []
  have hspn : (spl 58 [] l).length ≤ 1000001 := by rw [spl_len]; have := List.count_le_length (a := (58 : UInt8)) (l := l); omega
  by_cases he : l = []
  · subst he
    have HV : Hid (v = some 0) := Lib.hid (by rw [hv]; rfl)
    clear hv hs hsm hps
    go_enter Tryz.func60, Tryz.ntmps60
    go_wp2_with fail
    go_ret
    exact ⟨ret_int (by rw [HV.out]; rfl), Below.refl _ _⟩
  · unfold grpN at hv
    rw [if_neg he] at hv
    have hlen : ((l.length : Int) == 0) = false := by
      have := List.length_pos_iff.2 he
      simp; exact he
    generalize spl 58 [] l = ls at *
    have HV := Lib.hid hv
    have HS := Lib.hid (show ∀ x ∈ ls, x.length ≤ 1000000 from fun x hx => by have := hsm x hx; simp at this; omega)
    clear hv hsm
    go_enter Tryz.func60, Tryz.ntmps60
    go_wp2_with fail
    refine hs.mono ?_
    rintro e w1 ⟨b, cap, rfl, hst, hb1⟩
    clear hs
    have HST := Lib.hid hst
    have hbl := hst.lt hps
    clear hst
    go_wp2_with fail
    go_loopw [4, 5] (fun s _ wr => ∃ k : Nat, s = .int .i64 k ∧ k ≤ ls.length ∧ Hid (v = grpL (ls.drop k) ls.length) ∧ wr = w1) (fun s _ _ => ls.length - (RowKit.intOf s).toNat)
    case atStart => exact ⟨0, rfl, by omega, HV, rfl⟩
    case round =>
      obtain ⟨k, rfl, hk, hh, rfl⟩ := hrel
      by_cases hlt : k < ls.length
      · have hcell := HST.out k hlt
        have hx := hh.out
        have hgs := HS.out ls[k] (List.getElem_mem hlt)
        rw [List.drop_eq_getElem_cons hlt, grpL_cons] at hx
        generalize ls[k] = g at *
        by_cases h1 : 1 ≤ g.length
        · by_cases h4 : g.length ≤ 4
          · rw [hexGo_grp g h1 h4] at hx
            have HX := Lib.hid hx
            clear hx hh hgs
            go_wp2_with fail
            go_loop [5] (fun s => ∃ j : Nat, s = .int .i64 j ∧ j ≤ g.length ∧ Hid (v = hexGo (g.drop j) (grpL (ls.drop (k + 1)) ls.length))) (fun s => g.length - (RowKit.intOf s).toNat)
            case atStart => exact ⟨0, rfl, by omega, HX⟩
            case round =>
              obtain ⟨j, rfl, hj, hh⟩ := hrel
              by_cases hjl : j < g.length
              · obtain ⟨c, rest, hd1, hd2, hidx⟩ := byte_at g j hjl
                have hx := hh.out
                rw [hd1, hexGo_cons, ← hd2, hexOk_lt] at hx
                have hcall := digit_any c wr
                generalize hexN c.toNat = z at *
                clear hd1 hd2 hh
                by_cases hz : z < 0
                · have HY : Hid (v = none) := Lib.hid (by rw [hx]; simp [hz])
                  clear hx
                  go_wp2_with fail
                  refine hcall.mono ?_
                  rintro e w2 ⟨rfl, rfl⟩
                  clear hcall
                  go_wp2_with fail
                  go_ret
                  exact ⟨ret_int (by rw [HY.out]; rfl), hb1⟩
                · have HY : Hid (v = hexGo (g.drop (j + 1)) (grpL (ls.drop (k + 1)) ls.length)) := Lib.hid (by rw [hx]; simp [hz])
                  clear hx
                  go_wp2_with fail
                  refine hcall.mono ?_
                  rintro e w2 ⟨rfl, rfl⟩
                  clear hcall
                  go_wp2_with fail
                  go_round
                  case rel => exact ⟨j + 1, by go_num, by omega, HY⟩
                  case measure => simp [RowKit.intOf]; omega
              · have HY : Hid (v = grpL (ls.drop (k + 1)) ls.length) := Lib.hid (by rw [hh.out, List.drop_eq_nil_of_le (by omega)]; rfl)
                clear hh
                go_wp2_with fail
                go_roundw
                case rel => exact ⟨k + 1, by go_num, by omega, HY, by first | rfl | trivial⟩
                case measure => simp [RowKit.intOf]; omega
          · have HY : Hid (v = none) := Lib.hid (by rw [hx]; unfold grpOk; rw [decide_eq_false h4]; rfl)
            clear hx hh hgs
            go_wp2_with fail
            go_ret
            exact ⟨ret_int (by rw [HY.out]; rfl), hb1⟩
        · have HY : Hid (v = none) := Lib.hid (by
            have : g = [] := List.length_eq_zero_iff.1 (by omega)
            rw [hx, this]; rfl)
          clear hx hh hgs
          go_wp2_with fail
          go_ret
          exact ⟨ret_int (by rw [HY.out]; rfl), hb1⟩
      · have HY : Hid (v = some ls.length) := Lib.hid (by rw [hh.out, List.drop_eq_nil_of_le (by omega)]; rfl)
        clear hh
        go_wp2_with fail
        go_ret
        exact ⟨ret_int (by rw [HY.out]; rfl), hb1⟩
end Go.Proofs.YtoghjhaagallkaaGreatDoor.link
