/- The contract of link.server. -/
import Derived.Test.YtoghjhaagallkaaGreatDoorHostB
import Derived.Test.YtoghjhaagallkaaGreatDoorFine
import Derived.Test.YtoghjhaagallkaaGreatDoorLast
import Derived.RegionTactic
import Derived.ChangeAlike
namespace Go.Proofs.YtoghjhaagallkaaGreatDoor.link
open Go.ChangeShapes Go.WideShapes Go.ChangeAt Go.RowKit Go.Lib Go.Proofs.YtoghjhaagallkaaGreatDoor.str

def portOk (p : List UInt8) : Bool := (p == []) || (digsB p && decide (valN 0 p ≤ 65535))
def portHT (u : List UInt8) : List UInt8 × List UInt8 := match lastB 58 u with
  | some k => if optI (lastB 93 u) < k then (u.take k, u.drop (k + 1)) else (u, [])
  | none => (u, [])
def portS (u : List UInt8) : Bool := portOk (portHT u).2 && hostS (portHT u).1
def serverS (s : List UInt8) : Bool := match lastB 64 s with
  | some k => !(hasB (s.take k) 64 || !fineS (s.take k)) && portS (s.drop (k + 1))
  | none => portS s

def restO (l : List UInt8) (o : Option Nat) : List UInt8 := match o with | some k => l.drop (k + 1) | none => l
theorem restO_le (l : List UInt8) (o : Option Nat) : (restO l o).length ≤ l.length := by
  cases o with
  | none => exact Nat.le_refl _
  | some k => simp [restO]

theorem port_ok (x : List UInt8) (hx : x ≠ []) (v : Int) (h : atoiAll x = .ok v) : portOk x = (digsB x && decide (v ≤ 65535)) := by
  unfold portOk
  rw [show (x == []) = false from by simp [hx], Bool.false_or]
  cases hd : digsB x
  · rfl
  · rcases atoi_bound x hd 65535 (by decide) with ⟨u, h1, _, h2⟩ | ⟨h1, _⟩
    · rw [h] at h1
      cases h1
      congr 1
      rw [decide_eq_decide]
      constructor <;> intro g <;> omega
    · exact absurd h (h1 v)
theorem port_no (x : List UInt8) (hx : x ≠ []) (h : ∀ v, atoiAll x ≠ .ok v) : portOk x = false := by
  unfold portOk
  rw [show (x == []) = false from by simp [hx], Bool.false_or]
  cases hd : digsB x
  · rfl
  · rcases atoi_bound x hd 65535 (by decide) with ⟨u, h1, _, h2⟩ | ⟨_, h2⟩
    · exact absurd h1 (h u)
    · rw [decide_eq_false (by omega : ¬ valN 0 x ≤ 65535), Bool.and_false]

theorem portHT_le (u : List UInt8) : (portHT u).1.length ≤ u.length ∧ (portHT u).2.length ≤ u.length := by
  unfold portHT
  cases lastB 58 u with
  | none => simp
  | some k =>
    simp only []
    split <;> simp <;> omega

set_option maxHeartbeats 3200000 in
set_option maxRecDepth 100000 in
theorem server_any (l : List UInt8) (hl : l.length ≤ 1000000) (w : World) (hG : G w) (hE : GE w) (hU : GU w) :
    Calls Tryz.prog 13 #[.string ⟨l.toArray⟩] w fun e w' => e = .returned (.bool (serverS l)) ∧ Below w.heap.size w w' := by
  obtain ⟨v, hv⟩ : ∃ v, v = serverS l := ⟨_, rfl⟩
  rw [← hv]
  unfold serverS at hv
  have h64 := lastidx_any l 64 (by omega) w
  have hsp := lastB_spec 64 l
  generalize lastB 64 l = o at *
  have HV := Lib.hid hv
  clear hv
  go_enter Tryz.func13, Tryz.ntmps13
  go_wp2_with fail
  refine h64.mono ?_
  rintro e w' ⟨rfl, rfl⟩
  go_upto_region 2 with fail
  go_cut [12] (fun s10 wx => s10 = .bool (decide (0 ≤ optI o)) ∧ wx = w)
  case first =>
    go_wp2_with fail
    go_meet
    exact ⟨rfl, rfl⟩
  case rest =>
  obtain ⟨rfl, rfl⟩ := hcut
  clear h64
  have HSP := Lib.hid hsp
  clear hsp
  go_upto_if 12 with fail
  go_cut [0] (fun s0 wx => s0 = .string ⟨(restO l o).toArray⟩ ∧ Hid (v = portS (restO l o)) ∧ Below wc.heap.size wc wx)
  case first =>
    cases o with
    | none =>
      have e0 : decide (0 ≤ optI none) = false := rfl
      have HY : Hid (v = portS l) := Lib.hid HV.out
      rw [e0]
      go_wp2_with fail
      go_meet
      exact ⟨rfl, HY, Below.refl _ _⟩
    | some k =>
      have hk : k < l.length := by
        rcases HSP.out with ⟨h, _⟩ | ⟨k', h, h2, _⟩
        · cases h
        · cases h; exact h2
      have e0 : decide (0 ≤ optI (some k)) = true := decide_eq_true (by show (0 : Int) ≤ k; omega)
      have hx : v = (!(hasB (l.take k) 64 || !fineS (l.take k)) && portS (l.drop (k + 1))) := HV.out
      have hc := contains_any (l.take k) 64 wc
      have hf := fine_any (l.take k) (by simp; omega) wc hU
      have eo : optI (some k) = (k : Int) := rfl
      rw [e0]
      clear HV HSP
      rw [eo]
      cases hh : hasB (l.take k) 64
      · rw [hh] at hc hx
        generalize fineS (l.take k) = q at *
        have HX := Lib.hid hx
        clear hx hh eo e0
        go_wp2_with fail
        refine hc.mono ?_
        rintro e w' ⟨rfl, rfl⟩
        clear hc
        go_wp2_with fail
        refine hf.mono ?_
        rintro e w1 ⟨rfl, hb⟩
        clear hf
        cases q
        · have HY : Hid (v = false) := Lib.hid HX.out
          go_wp2_with fail
          go_ret
          exact ⟨ret_bool HY.out.symm, hb⟩
        · have HY : Hid (v = portS (l.drop (k + 1))) := Lib.hid (by rw [HX.out]; rfl)
          go_wp2_with fail
          go_meet
          exact ⟨rfl, HY, hb⟩
      · rw [hh] at hc hx
        have HY : Hid (v = false) := Lib.hid (by rw [hx]; rfl)
        clear hx hf hh eo e0
        go_wp2_with fail
        refine hc.mono ?_
        rintro e w' ⟨rfl, rfl⟩
        go_wp2_with fail
        go_ret
        exact ⟨ret_bool HY.out.symm, Below.refl _ _⟩
  case rest =>
  obtain ⟨rfl, HY, hb1⟩ := hcut
  have hrl := restO_le l o
  clear HSP HV
  generalize restO l o = u at *
  have h58 := lastidx_any u 58 (by omega) wc
  have h93 := lastidx_any u 93 (by omega) wc
  go_wp2_with fail
  refine h58.mono ?_
  rintro e w' ⟨rfl, rfl⟩
  go_wp2_with fail
  refine h93.mono ?_
  rintro e w' ⟨rfl, rfl⟩
  clear h58 h93
  have hle := portHT_le u
  have HP : Hid (∀ k, lastB 58 u = some k → k < u.length ∧ portHT u = if optI (lastB 93 u) < k then (u.take k, u.drop (k + 1)) else (u, [])) := Lib.hid (by
    intro k hk
    refine ⟨?_, by unfold portHT; rw [hk]⟩
    rcases lastB_spec 58 u with ⟨h, _⟩ | ⟨k', h, h2, _⟩
    · rw [h] at hk; cases hk
    · rw [h] at hk; cases hk; exact h2)
  have HN : Hid (lastB 58 u = none → portHT u = (u, [])) := Lib.hid (fun h => by unfold portHT; rw [h])
  have hge := optI_ge (lastB 93 u)
  have HYY : Hid (v = (portOk (portHT u).2 && hostS (portHT u).1)) := HY
  clear HY
  generalize portHT u = ht at *
  generalize lastB 58 u = p at *
  generalize lastB 93 u = q at *
  obtain ⟨hh, pt⟩ := ht
  go_upto_if 34 with fail
  go_cut [4, 5] (fun s4 s5 wx => s4 = .string ⟨hh.toArray⟩ ∧ s5 = .string ⟨pt.toArray⟩ ∧ Below wc.heap.size wc wx)
  case first =>
    cases p with
    | none =>
      have hx := HN.out rfl
      have e0 : decide (optI q < optI none) = false := decide_eq_false (by show ¬ optI q < -1; omega)
      have HX := Lib.hid hx
      rw [e0]
      clear HN HP hx e0
      go_wp2_with fail
      go_meet
      exact ⟨by rw [(Prod.mk.inj HX.out).1], by rw [(Prod.mk.inj HX.out).2], Below.refl _ _⟩
    | some k =>
      obtain ⟨hk, hx⟩ := HP.out k rfl
      have eo : optI (some k) = (k : Int) := rfl
      by_cases hq : optI q < k
      · rw [if_pos hq] at hx
        have HX := Lib.hid hx
        have e0 : decide (optI q < optI (some k)) = true := decide_eq_true hq
        rw [e0, eo]
        clear HN HP hx e0 eo
        go_wp2_with fail
        go_region
        all_goals
          go_wp2_with fail
          go_meet
          exact ⟨by rw [(Prod.mk.inj HX.out).1], by rw [(Prod.mk.inj HX.out).2], (Below.refl _ _).drew⟩
      · rw [if_neg hq] at hx
        have HX := Lib.hid hx
        have e0 : decide (optI q < optI (some k)) = false := decide_eq_false hq
        rw [e0]
        clear HN HP hx e0
        go_wp2_with fail
        go_meet
        exact ⟨by rw [(Prod.mk.inj HX.out).1], by rw [(Prod.mk.inj HX.out).2], Below.refl _ _⟩
  case rest =>
  obtain ⟨rfl, rfl, hb2⟩ := hcut
  have hb3 := below_trans hb1 hb2
  clear HP HN
  have hG' := hG.below hb3
  have hE' := hE.below hb3
  have hU' := hU.below hb3
  have hh0 := fun w h1 h2 h3 => host_any hh (by omega) w h1 h2 h3
  obtain ⟨hle1, hle2⟩ := hle
  by_cases hp0 : pt = []
  · subst hp0
    have HZ : Hid (v = hostS hh) := Lib.hid (by rw [HYY.out]; rfl)
    clear HYY
    go_wp2_with fail
    refine (hh0 _ hG' hE' hU').mono ?_
    rintro e w1 ⟨rfl, hb⟩
    go_wp2_with fail
    go_ret
    exact ⟨ret_bool HZ.out.symm, below_trans hb3 hb⟩
  · have hemp : pt.isEmpty = false := by simp [hp0]
    have hat := atoi_any pt (by omega) wc hE'
    have hok := port_ok pt hp0
    have hno := port_no pt hp0
    have hdg := fun w => digs_any pt (by omega) w
    generalize portOk pt = z at *
    generalize digsB pt = d at *
    have HO := Lib.hid hok
    have HN := Lib.hid hno
    clear hok hno hp0
    go_wp2_with fail
    refine hat.mono ?_
    rintro e w2 ⟨hb4, ⟨n, hn, rfl⟩ | ⟨hn, n, N, rfl⟩⟩
    · have HU : Hid (z = (d && decide (n ≤ 65535))) := Lib.hid (HO.out n hn)
      have hb5 := below_trans hb3 hb4
      clear hn hat HO HN
      go_wp2_with fail
      refine (hdg w2).mono ?_
      rintro e w3 ⟨rfl, hb6⟩
      have hb7 := below_trans hb5 hb6
      have hh1 := hh0 w3 (hG.below hb7) (hE.below hb7) (hU.below hb7)
      clear hdg hh0
      cases d
      · have HZ : Hid (v = false) := Lib.hid (by rw [HYY.out, HU.out]; rfl)
        go_wp2_with fail
        go_ret
        exact ⟨ret_bool HZ.out.symm, hb7⟩
      · by_cases h6 : n ≤ 65535
        · have HZ : Hid (v = hostS hh) := Lib.hid (by rw [HYY.out, HU.out, decide_eq_true h6]; rfl)
          go_wp2_with fail
          refine hh1.mono ?_
          rintro e w4 ⟨rfl, hb⟩
          go_wp2_with fail
          go_ret
          exact ⟨ret_bool HZ.out.symm, below_trans hb7 hb⟩
        · have HZ : Hid (v = false) := Lib.hid (by rw [HYY.out, HU.out, decide_eq_false h6]; rfl)
          go_wp2_with fail
          go_ret
          exact ⟨ret_bool HZ.out.symm, hb7⟩
    · have HZ : Hid (v = false) := Lib.hid (by rw [HYY.out, HN.out hn]; rfl)
      have hb5 := below_trans hb3 hb4
      clear hn hat HO HN
      go_wp2_with fail
      refine (hdg w2).mono ?_
      rintro e w3 ⟨rfl, hb6⟩
      have hb7 := below_trans hb5 hb6
      clear hdg hh0
      cases d
      · go_wp2_with fail
        go_ret
        exact ⟨ret_bool HZ.out.symm, hb7⟩
      · go_wp2_with fail
        go_ret
        exact ⟨ret_bool HZ.out.symm, hb7⟩
end Go.Proofs.YtoghjhaagallkaaGreatDoor.link
