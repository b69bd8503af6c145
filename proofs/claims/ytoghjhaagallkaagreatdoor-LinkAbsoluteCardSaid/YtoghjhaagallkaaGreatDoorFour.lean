/- The contract of link.four. -/
import Derived.Test.YtoghjhaagallkaaGreatDoorStrRows
import Derived.Test.YtoghjhaagallkaaGreatDoorAtoi
namespace Go.Proofs.YtoghjhaagallkaaGreatDoor.link
open Go.ChangeShapes Go.WideShapes Go.ChangeAt Go.RowKit Go.Lib Go.Proofs.YtoghjhaagallkaaGreatDoor.str

def octOk (l : List UInt8) : Bool := digsB l && decide (l.length ≤ 3) && decide (valN 0 l ≤ 255)
def fourS (ls : List (List UInt8)) : Bool := decide (ls.length = 4) && ls.all octOk

theorem oct_ok (x : List UInt8) (v : Int) (h : atoiAll x = .ok v) : octOk x = (digsB x && decide (x.length ≤ 3) && decide (v ≤ 255)) := by
  unfold octOk
  cases hd : digsB x
  · rfl
  · rcases atoi_bound x hd 255 (by decide) with ⟨u, h1, _, h2⟩ | ⟨h1, _⟩
    · rw [h] at h1
      cases h1
      congr 1
      rw [decide_eq_decide]
      constructor <;> intro g <;> omega
    · exact absurd h (h1 v)
theorem oct_no (x : List UInt8) (h : ∀ v, atoiAll x ≠ .ok v) : octOk x = false := by
  unfold octOk
  cases hd : digsB x
  · rfl
  · rcases atoi_bound x hd 255 (by decide) with ⟨u, h1, _, h2⟩ | ⟨_, h2⟩
    · exact absurd h1 (h u)
    · rw [decide_eq_false (by omega : ¬ valN 0 x ≤ 255), Bool.and_false]

set_option maxHeartbeats 1600000 in
set_option maxRecDepth 100000 in
theorem four_any (ls : List (List UInt8)) (b cap : Nat) (hn : ls.length ≤ 1000001) (hsm : ∀ x ∈ ls, x.length ≤ 1000000) (hpos : 0 < ls.length) (w : World) (hst : StrAt w b ls) (hE : GE w) :
    Calls Tryz.prog 36 #[.slice (some ⟨b, 0, none⟩) ls.length cap] w fun e w' => e = .returned (.bool (fourS ls)) ∧ Below w.heap.size w w' := by
  obtain ⟨v, hv⟩ : ∃ v, v = fourS ls := ⟨_, rfl⟩
  rw [← hv]
  unfold fourS at hv
  have HS := Lib.hid hsm
  have HST := Lib.hid hst
  have hbl := hst.lt hpos
  clear hsm hst
  by_cases h4 : ls.length = 4
  · rw [decide_eq_true h4, Bool.true_and] at hv
    have hneq : ((ls.length : Int) != 4) = false := by simp; omega
    have HV := Lib.hid hv
    have hlen : ls.length ≤ 4 := by omega
    have HL := Lib.hid h4
    clear hv h4
    go_enter Tryz.func36, Tryz.ntmps36
    go_wp2_with fail
    go_loopw [12] (fun s wr => ∃ k : Nat, s = .int .i64 k ∧ k ≤ ls.length ∧ Hid (v = (ls.drop k).all octOk) ∧ Below w.heap.size w wr) (fun s _ => ls.length - (RowKit.intOf s).toNat)
    case atStart => exact ⟨0, rfl, by omega, HV, Below.refl _ _⟩
    case round =>
      obtain ⟨k, rfl, hk, hh, hb⟩ := hrel
      by_cases hlt : k < ls.length
      · have hcell := (HST.out.under hbl hb) k hlt
        have hx := hh.out
        have hgs := HS.out ls[k] (List.getElem_mem hlt)
        rw [List.drop_eq_getElem_cons hlt, List.all_cons] at hx
        generalize ls[k] = g at *
        have hat := atoi_any g (by omega) wr (hE.below hb)
        have hok := oct_ok g
        have hno := oct_no g
        have hdg := fun w => digs_any g (by omega) w
        generalize octOk g = q at *
        generalize digsB g = d at *
        have HX := Lib.hid hx
        have HO := Lib.hid hok
        have HN := Lib.hid hno
        clear hx hh hgs hok hno
        go_wp2_with fail
        refine hat.mono ?_
        rintro e w2 ⟨hb2, ⟨u, hu, rfl⟩ | ⟨hno, n, N, rfl⟩⟩
        · have HU : Hid (q = (d && decide (g.length ≤ 3) && decide (u ≤ 255))) := Lib.hid (HO.out u hu)
          clear hu hat
          have hb3 := below_trans hb hb2
          go_wp2_with fail
          refine (hdg w2).mono ?_
          rintro e w3 ⟨rfl, hb4⟩
          have hb5 := below_trans hb3 hb4
          clear hdg hb2 hb3 hb4
          cases d
          · have HY : Hid (v = false) := Lib.hid (by rw [HX.out, HU.out]; rfl)
            go_wp2_with fail
            go_ret
            exact ⟨ret_bool HY.out.symm, hb5⟩
          · by_cases h3 : g.length ≤ 3
            · by_cases h255 : u ≤ 255
              · have HY : Hid (v = (ls.drop (k + 1)).all octOk) := Lib.hid (by rw [HX.out, HU.out, decide_eq_true h3, decide_eq_true h255]; rfl)
                go_wp2_with fail
                go_roundw
                case rel => exact ⟨k + 1, by go_num, by omega, HY, hb5⟩
                case measure => simp [RowKit.intOf]; omega
              · have HY : Hid (v = false) := Lib.hid (by rw [HX.out, HU.out, decide_eq_true h3, decide_eq_false h255]; rfl)
                go_wp2_with fail
                go_ret
                exact ⟨ret_bool HY.out.symm, hb5⟩
            · have HY : Hid (v = false) := Lib.hid (by rw [HX.out, HU.out, decide_eq_false h3]; rfl)
              go_wp2_with fail
              go_ret
              exact ⟨ret_bool HY.out.symm, hb5⟩
        · have HY : Hid (v = false) := Lib.hid (by rw [HX.out, HN.out hno]; rfl)
          clear hno hat
          have hb3 := below_trans hb hb2
          go_wp2_with fail
          refine (hdg w2).mono ?_
          rintro e w3 ⟨rfl, hb4⟩
          have hb5 := below_trans hb3 hb4
          clear hdg hb2 hb3 hb4
          cases d
          · go_wp2_with fail
            go_ret
            exact ⟨ret_bool HY.out.symm, hb5⟩
          · by_cases h3 : g.length ≤ 3
            · go_wp2_with fail
              go_ret
              exact ⟨ret_bool HY.out.symm, hb5⟩
            · go_wp2_with fail
              go_ret
              exact ⟨ret_bool HY.out.symm, hb5⟩
      · have HY : Hid (v = true) := Lib.hid (by rw [hh.out, List.drop_eq_nil_of_le (by omega)]; rfl)
        clear hh
        go_wp2_with fail
        go_ret
        exact ⟨ret_bool HY.out.symm, hb⟩
  · have hneq : ((ls.length : Int) != 4) = true := by simp; omega
    have HY : Hid (v = false) := Lib.hid (by rw [hv, decide_eq_false h4]; rfl)
    clear hv
    go_enter Tryz.func36, Tryz.ntmps36
    go_wp2_with fail
    go_ret
    exact ⟨ret_bool HY.out.symm, Below.refl _ _⟩
end Go.Proofs.YtoghjhaagallkaaGreatDoor.link
