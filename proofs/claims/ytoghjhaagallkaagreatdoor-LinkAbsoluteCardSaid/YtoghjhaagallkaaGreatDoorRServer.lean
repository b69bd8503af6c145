/- The contract of the reference's Server. -/
import Derived.Test.YtoghjhaagallkaaGreatDoorRHost
import Derived.Test.YtoghjhaagallkaaGreatDoorRLast
import Derived.Test.YtoghjhaagallkaaGreatDoorServer
namespace Go.Proofs.YtoghjhaagallkaaGreatDoor.link
open Go.ChangeShapes Go.WideShapes Go.ChangeAt Go.RowKit Go.Lib Go.Proofs.YtoghjhaagallkaaGreatDoor.str

theorem first_has (c : UInt8) (l : List UInt8) (k : Nat) (hk : k < l.length) (h : l[k]? = some c) : hasB (l.take k) c = !(decide (firstN c l = k)) := by
  unfold firstN
  rcases cut1_spec c l with ⟨_, e, hn⟩ | ⟨_, _, _, hn⟩
  · generalize (cut1 c l).1 = a at *
    generalize (cut1 c l).2.1 = b at *
    subst e
    rw [hasB_contains]
    by_cases g : a.length = k
    · rw [decide_eq_true g, ← g, List.take_left]
      simpa using hn
    · rw [decide_eq_false g]
      have hlt : a.length < k := by
        apply Nat.lt_of_not_le; intro hle
        rw [List.getElem?_append_left (by omega)] at h
        exact hn (List.mem_of_getElem? h)
      have : c ∈ (a ++ c :: b).take k := by
        rw [List.take_append, List.mem_append]
        right
        rw [show k - a.length = (k - a.length - 1) + 1 from by omega, List.take_succ_cons]
        exact List.mem_cons_self
      simpa using this
  · exact absurd (List.mem_of_getElem? h) hn

theorem portOk_pos (p : List UInt8) (hp : 0 < p.length) : portOk p = (digsB p && decide (valN 0 p ≤ 65535)) := by
  unfold portOk
  have : (p == []) = false := by cases p with | nil => simp at hp | cons a b => rfl
  rw [this, Bool.false_or]

set_option maxHeartbeats 3200000 in
set_option maxRecDepth 100000 in
theorem rserver_any (l : List UInt8) (hl : l.length ≤ 1000000) (w : World) :
    Calls Tryz.prog 19 #[.string ⟨l.toArray⟩] w fun e w' => e = .returned (.bool (serverS l)) ∧ Below w.heap.size w w' := by
  obtain ⟨v, hv⟩ : ∃ v, v = serverS l := ⟨_, rfl⟩
  rw [← hv]
  unfold serverS at hv
  have h64 := rlast_any l 64 (by omega) w
  have h1st := rfirst_any l 64 (by omega) w
  have hfh := first_has 64 l
  have hsp := lastB_spec 64 l
  generalize firstN 64 l = fn at *
  generalize lastB 64 l = o at *
  have HV := Lib.hid hv
  have HSP := Lib.hid hsp
  have HFH := Lib.hid hfh
  clear hv hsp hfh
  go_enter Tryz.func19, Tryz.ntmps19
  go_wp2_with fail
  refine h64.mono ?_
  rintro e w' ⟨rfl, rfl⟩
  clear h64
  go_upto_region 2 with fail
  go_cut [9] (fun s9 wx => s9 = .bool (decide (0 ≤ optI o)) ∧ wx = w)
  case first =>
    go_wp2_with fail
    go_meet
    exact ⟨rfl, rfl⟩
  case rest =>
  obtain ⟨rfl, rfl⟩ := hcut
  go_upto_if 9 with fail
  go_cut [0] (fun s0 wx => s0 = .string ⟨(restO l o).toArray⟩ ∧ Hid (v = portS (restO l o)) ∧ wx = wc)
  case first =>
    cases o with
    | none =>
      have e0 : decide (0 ≤ optI none) = false := rfl
      have HY : Hid (v = portS l) := Lib.hid HV.out
      rw [e0]
      go_wp2_with fail
      go_meet
      exact ⟨rfl, HY, rfl⟩
    | some k =>
      have hkk : k < l.length ∧ l[k]? = some 64 := by
        rcases HSP.out with ⟨h, _⟩ | ⟨k', h, h2, h3, _⟩
        · cases h
        · cases h; exact ⟨h2, h3⟩
      obtain ⟨hk, hk64⟩ := hkk
      have e0 : decide (0 ≤ optI (some k)) = true := decide_eq_true (by show (0 : Int) ≤ k; omega)
      have hx : v = (!(hasB (l.take k) 64 || !fineS (l.take k)) && portS (l.drop (k + 1))) := HV.out
      rw [HFH.out k hk hk64] at hx
      have hf := rfine_any (l.take k) (by simp; omega) wc
      have eo : optI (some k) = (k : Int) := rfl
      rw [e0]
      clear HV HSP HFH hk64
      rw [eo]
      generalize fineS (l.take k) = q at *
      have HX := Lib.hid hx
      clear hx eo e0
      cases q
      · have HY : Hid (v = false) := Lib.hid (by rw [HX.out]; simp)
        go_wp2_with fail
        refine hf.mono ?_
        rintro e w1 ⟨rfl, rfl⟩
        clear hf
        go_wp2_with fail
        go_ret
        exact ⟨ret_bool HY.out.symm, Below.refl _ _⟩
      · by_cases hfn : fn = k
        · have HY : Hid (v = portS (l.drop (k + 1))) := Lib.hid (by rw [HX.out, decide_eq_true hfn]; simp)
          have HFN := Lib.hid hfn
          subst hfn
          go_wp2_with fail
          refine hf.mono ?_
          rintro e w1 ⟨rfl, rfl⟩
          clear hf
          go_wp2_with fail
          refine h1st.mono ?_
          rintro e w1 ⟨rfl, rfl⟩
          clear h1st
          go_wp2_with fail
          go_meet
          exact ⟨rfl, HY, rfl⟩
        · have HY : Hid (v = false) := Lib.hid (by rw [HX.out, decide_eq_false hfn]; simp)
          have hne : ((fn : Int) != k) = true := by simp; omega
          clear hfn
          go_wp2_with fail
          refine hf.mono ?_
          rintro e w1 ⟨rfl, rfl⟩
          clear hf
          go_wp2_with fail
          refine h1st.mono ?_
          rintro e w1 ⟨rfl, rfl⟩
          clear h1st
          go_wp2_with fail
          go_ret
          exact ⟨ret_bool HY.out.symm, Below.refl _ _⟩
  case rest =>
  obtain ⟨rfl, HY, rfl⟩ := hcut
  have hrl := restO_le l o
  clear HSP HV h1st HFH
  generalize restO l o = u at *
  have h58 := rlast_any u 58 (by omega) wc
  have h93 := rlast_any u 93 (by omega) wc
  go_wp2_with fail
  refine h58.mono ?_
  rintro e w' ⟨rfl, rfl⟩
  go_wp2_with fail
  refine h93.mono ?_
  rintro e w' ⟨rfl, rfl⟩
  clear h58 h93
  have hle := portHT_le u
  have HP : Hid (∀ k, lastB 58 u = some k → k < u.length ∧ portHT u = if optI (lastB 93 u) < k then (u.take k, u.drop (k + 1)) else (u, [])) := Lib.hid (by
    intro k hk
    refine ⟨?_, by unfold portHT; rw [hk]⟩
    rcases lastB_spec 58 u with ⟨h, _⟩ | ⟨k', h, h2, _⟩
    · rw [h] at hk; cases hk
    · rw [h] at hk; cases hk; exact h2)
  have HN : Hid (lastB 58 u = none → portHT u = (u, [])) := Lib.hid (fun h => by unfold portHT; rw [h])
  have hge := optI_ge (lastB 93 u)
  have HYY : Hid (v = (portOk (portHT u).2 && hostS (portHT u).1)) := HY
  clear HY
  generalize portHT u = ht at *
  generalize lastB 58 u = p at *
  generalize lastB 93 u = q at *
  obtain ⟨hh, pt⟩ := ht
  go_upto_if 30 with fail
  go_cut [0] (fun s0 wx => s0 = .string ⟨hh.toArray⟩ ∧ Hid (v = hostS hh) ∧ wx = wc)
  case first =>
    cases p with
    | none =>
      have hx := HN.out rfl
      have e0 : decide (optI q < optI none) = false := decide_eq_false (by show ¬ optI q < -1; omega)
      have HX := Lib.hid hx
      have HY : Hid (v = hostS hh) := Lib.hid (by rw [HYY.out, (Prod.mk.inj hx).2]; rfl)
      rw [e0]
      clear HN HP hx e0
      go_wp2_with fail
      go_meet
      exact ⟨by rw [(Prod.mk.inj HX.out).1], HY, rfl⟩
    | some k =>
      obtain ⟨hk, hx⟩ := HP.out k rfl
      have eo : optI (some k) = (k : Int) := rfl
      by_cases hq : optI q < k
      · rw [if_pos hq] at hx
        have HX1 := Lib.hid (Prod.mk.inj hx).1
        have hx2 := (Prod.mk.inj hx).2
        have hy := HYY.out
        rw [hx2] at hy
        have e0 : decide (optI q < optI (some k)) = true := decide_eq_true hq
        rw [e0, eo]
        have hpl : (u.drop (k + 1)).length = u.length - (k + 1) := by simp
        clear HN HP hx e0 eo hx2 HYY
        by_cases hp0 : k + 1 < u.length
        · rw [portOk_pos _ (by omega)] at hy
          have hdg := rdigs_any (u.drop (k + 1)) (by omega) wc
          have hvl := fun h => rvalue_any (u.drop (k + 1)) (by omega) h wc
          have hda : digsB (u.drop (k + 1)) = true → digsA (u.drop (k + 1)) = true := by unfold digsB; intro g; rw [Bool.and_eq_true] at g; exact g.2
          generalize digsB (u.drop (k + 1)) = d at *
          have hpos : 0 < u.length - (k + 1) := by omega
          clear hpl
          cases d
          · have HY : Hid (v = false) := Lib.hid hy
            clear hy hvl hda
            go_wp2_with fail
            refine hdg.mono ?_
            rintro e w1 ⟨rfl, rfl⟩
            clear hdg
            go_wp2_with fail
            go_ret
            exact ⟨ret_bool HY.out.symm, Below.refl _ _⟩
          · have hvl' := hvl (hda rfl)
            clear hvl hda
            generalize valN 0 (u.drop (k + 1)) = n at *
            by_cases h6 : n ≤ 65535
            · have HY : Hid (v = hostS hh) := Lib.hid (by rw [hy, decide_eq_true h6]; rfl)
              clear hy
              go_wp2_with fail
              refine hdg.mono ?_
              rintro e w1 ⟨rfl, rfl⟩
              clear hdg
              go_wp2_with fail
              refine hvl'.mono ?_
              rintro e w1 ⟨rfl, rfl⟩
              clear hvl'
              go_wp2_with fail
              go_meet
              exact ⟨by rw [HX1.out], HY, rfl⟩
            · have HY : Hid (v = false) := Lib.hid (by rw [hy, decide_eq_false h6]; rfl)
              clear hy
              go_wp2_with fail
              refine hdg.mono ?_
              rintro e w1 ⟨rfl, rfl⟩
              clear hdg
              go_wp2_with fail
              refine hvl'.mono ?_
              rintro e w1 ⟨rfl, rfl⟩
              clear hvl'
              go_wp2_with fail
              go_ret
              exact ⟨ret_bool HY.out.symm, Below.refl _ _⟩
        · have hz : u.drop (k + 1) = [] := List.drop_eq_nil_of_le (by omega)
          rw [hz] at hy
          have HY : Hid (v = hostS hh) := Lib.hid (by rw [hy]; rfl)
          have hneg : ¬ 0 < u.length - (k + 1) := by omega
          clear hy hz hpl
          go_wp2_with fail
          go_meet
          exact ⟨by rw [HX1.out], HY, rfl⟩
      · rw [if_neg hq] at hx
        have HX := Lib.hid hx
        have HY : Hid (v = hostS hh) := Lib.hid (by rw [HYY.out, (Prod.mk.inj hx).2]; rfl)
        have e0 : decide (optI q < optI (some k)) = false := decide_eq_false hq
        rw [e0]
        clear HN HP hx e0
        go_wp2_with fail
        go_meet
        exact ⟨by rw [(Prod.mk.inj HX.out).1], HY, rfl⟩
  case rest =>
  obtain ⟨rfl, HZ, rfl⟩ := hcut
  clear HP HN HYY
  have hh0 := rhost_any hh (by omega) wc
  go_wp2_with fail
  refine hh0.mono ?_
  rintro e w1 ⟨rfl, hb⟩
  go_wp2_with fail
  go_ret
  exact ⟨ret_bool HZ.out.symm, hb⟩
end Go.Proofs.YtoghjhaagallkaaGreatDoor.link
