/- The contracts of the reference's parse and Parse: the walks. -/
import Derived.Test.YtbaloklcpfjmeaaGreatDoorRParseW
namespace Go.Proofs.YtbaloklcpfjmeaaGreatDoor.mom
open Go.ChangeShapes Go.WideShapes Go.ChangeAt Go.RowKit Go.Lib Go.Proofs.YtbaloklcpfjmeaaGreatDoor.num Go.Proofs.YtbaloklcpfjmeaaGreatDoor.cal Go.Proofs.YtbaloklcpfjmeaaGreatDoor.days

theorem parseR1 (l : List UInt8) : parseR 1 l = dayR l := by unfold parseR; rw [if_pos rfl]
theorem parseR2 (l : List UInt8) : parseR 2 l = monthR l := by unfold parseR; rw [if_neg (by decide), if_pos rfl]
theorem parseR3 (l : List UInt8) : parseR 3 l = weekR l := by unfold parseR; rw [if_neg (by decide), if_neg (by decide), if_pos rfl]
theorem parseR4 (l : List UInt8) : parseR 4 l = clockR l := by unfold parseR; rw [if_neg (by decide), if_neg (by decide), if_neg (by decide), if_pos rfl]
theorem parseR5 (l : List UInt8) : parseR 5 l = localR l := by unfold parseR; rw [if_neg (by decide), if_neg (by decide), if_neg (by decide), if_neg (by decide)]

set_option maxHeartbeats 1600000 in
set_option maxRecDepth 100000 in
theorem rparse1 (l : List UInt8) (hl : l.length ≤ 1000000000) (w : World) :
    Calls Tryz.prog 15 #[.int .i64 1, .string ⟨l.toArray⟩] w fun e w' => Tells (dayR l) e ∧ Below w.heap.size w w' := by
  have hy := ryear2_any l hl w
  have hd := fun w => rday_any l hl w
  generalize dayR l = v at *
  generalize (yearR l).1 = y at *
  generalize (yearR l).2 = n at *
  go_enter Tryz.func15, Tryz.ntmps15
  go_wp2_with fail
  refine hy.mono ?_
  rintro e w1 ⟨rfl, hB⟩
  go_wp2_with fail
  refine (hd _).mono ?_
  rintro e w2 ⟨⟨k, b, rfl, hT, hk1, hk2⟩, hB2⟩
  have HT := Lib.hid hT
  clear hT hd hy
  go_wp2_with fail
  go_ret2
  exact ⟨⟨k, b, rfl, HT.out, hk1, hk2⟩, below_trans hB hB2⟩

set_option maxHeartbeats 1600000 in
set_option maxRecDepth 100000 in
theorem rparse4 (l : List UInt8) (hl : l.length ≤ 1000000000) (w : World) :
    Calls Tryz.prog 15 #[.int .i64 4, .string ⟨l.toArray⟩] w fun e w' => Tells (clockR l) e ∧ Below w.heap.size w w' := by
  have hy := ryear2_any l hl w
  have hd := fun w => rclock_any l hl w
  generalize clockR l = v at *
  generalize (yearR l).1 = y at *
  generalize (yearR l).2 = n at *
  go_enter Tryz.func15, Tryz.ntmps15
  go_wp2_with fail
  refine hy.mono ?_
  rintro e w1 ⟨rfl, hB⟩
  go_wp2_with fail
  refine (hd _).mono ?_
  rintro e w2 ⟨⟨k, b, rfl, hT, hk1, hk2⟩, hB2⟩
  have HT := Lib.hid hT
  clear hT hd hy
  go_wp2_with fail
  go_ret2
  exact ⟨⟨k, b, rfl, HT.out, hk1, hk2⟩, below_trans hB hB2⟩

set_option maxHeartbeats 3200000 in
set_option maxRecDepth 100000 in
theorem rparse2 (l : List UInt8) (hl : l.length ≤ 1000000000) (w : World) :
    Calls Tryz.prog 15 #[.int .i64 2, .string ⟨l.toArray⟩] w fun e w' => Tells (monthR l) e ∧ Below w.heap.size w w' := by
  have hy := ryear2_any l hl w
  obtain ⟨b1, b2⟩ := yearR_bound l
  obtain ⟨v, hv⟩ : ∃ v, v = monthR l := ⟨_, rfl⟩
  rw [← hv]
  rw [monthR_is l _ _ _ _ rfl rfl rfl rfl] at hv
  generalize (yearR l).1 = y at *
  generalize (yearR l).2 = n at *
  have ha := fun w => rat_any l n n [45] rfl hl (by decide) (by omega) w
  rw [atR_one] at ha
  have t1 := fun w => rtwo_any l (n + 1) (n + 1) rfl hl (by omega) w
  obtain ⟨p1, p2⟩ := twoR_bound l (n + 1)
  generalize twoR l (n + 1) = m at *
  generalize signR l n 45 = s at *
  have HV := Lib.hid hv
  clear hv
  go_enter Tryz.func15, Tryz.ntmps15
  go_wp2_with fail
  refine hy.mono ?_
  rintro e w1 ⟨rfl, hB⟩
  go_wp2_with fail
  refine (t1 _).mono ?_
  rintro e w2 ⟨rfl, hB2⟩
  have hB' := below_trans hB hB2
  clear hB hB2 hy t1
  by_cases n0 : (0 : Int) < n
  · by_cases n3 : l.length = n + 3
    · have n3' : ((l.length : Int) == (n : Int) + 3) = true := by simp; omega
      have HV1 : Hid (v = if s = true ∧ 1 ≤ m ∧ m ≤ 12 then some (((y : Int) - 1970) * 12 + m - 1) else none) := Lib.hid (by
        rw [HV.out]
        by_cases g : s = true ∧ 1 ≤ m ∧ m ≤ 12
        · rw [if_pos ⟨⟨by omega, n3⟩, g⟩, if_pos g]
        · rw [if_neg (fun k => g k.2), if_neg g])
      clear HV n3
      go_wp2_with fail
      refine (ha _).mono ?_
      rintro e w3 ⟨rfl, rfl⟩
      clear ha
      cases s
      · have HN : Hid (v = none) := Lib.hid (by rw [HV1.out, if_neg (fun k => by cases k.1)])
        go_wp2_with fail
        go_ret2
        exact ⟨⟨_, false, rfl, HN.out, by omega, by omega⟩, hB'⟩
      · by_cases m1 : 1 ≤ m
        · by_cases m2 : m ≤ 12
          · have HN : Hid (v = some (((y : Int) - 1970) * 12 + m - 1)) := Lib.hid (by rw [HV1.out, if_pos ⟨rfl, m1, m2⟩])
            go_wp2_with fail
            go_ret2
            exact ⟨tells_ib (n := ((y : Int) - 1970) * 12 + m - 1) (b := true) HN.out (by omega) (by first | rfl | (simp; omega)) (by omega) (by omega), hB'⟩
          · have HN : Hid (v = none) := Lib.hid (by rw [HV1.out, if_neg (fun k => m2 k.2.2)])
            go_wp2_with fail
            go_ret2
            exact ⟨tells_ib (n := ((y : Int) - 1970) * 12 + m - 1) (b := false) HN.out (by omega) (by first | rfl | (simp; omega)) (by omega) (by omega), hB'⟩
        · have HN : Hid (v = none) := Lib.hid (by rw [HV1.out, if_neg (fun k => m1 k.2.1)])
          go_wp2_with fail
          go_ret2
          exact ⟨tells_ib (n := ((y : Int) - 1970) * 12 + m - 1) (b := false) HN.out (by omega) (by first | rfl | (simp; omega)) (by omega) (by omega), hB'⟩
    · have n3' : ((l.length : Int) == (n : Int) + 3) = false := by simp; omega
      have HN : Hid (v = none) := Lib.hid (by rw [HV.out, if_neg (fun k => n3 k.1.2)])
      clear n3
      go_wp2_with fail
      go_ret2
      exact ⟨tells_ib (n := ((y : Int) - 1970) * 12 + m - 1) (b := false) HN.out (by omega) (by first | rfl | (simp; omega)) (by omega) (by omega), hB'⟩
  · have HN : Hid (v = none) := Lib.hid (by rw [HV.out, if_neg (fun k => n0 (by omega))])
    go_wp2_with fail
    go_ret2
    exact ⟨tells_ib (n := ((y : Int) - 1970) * 12 + m - 1) (b := false) HN.out (by omega) (by first | rfl | (simp; omega)) (by omega) (by omega), hB'⟩

set_option maxHeartbeats 3200000 in
set_option maxRecDepth 100000 in
theorem rparse3 (l : List UInt8) (hl : l.length ≤ 1000000000) (w : World) :
    Calls Tryz.prog 15 #[.int .i64 3, .string ⟨l.toArray⟩] w fun e w' => Tells (weekR l) e ∧ Below w.heap.size w w' := by
  have hy := ryear2_any l hl w
  obtain ⟨b1, b2⟩ := yearR_bound l
  obtain ⟨v, hv⟩ : ∃ v, v = weekR l := ⟨_, rfl⟩
  rw [← hv]
  rw [weekR_is l _ _ _ _ rfl rfl rfl rfl] at hv
  generalize (yearR l).1 = y at *
  generalize (yearR l).2 = n at *
  have ha := fun w => rat_any l n n [45, 87] rfl hl (by decide) (by omega) w
  have t1 := fun w => rtwo_any l (n + 2) (n + 2) rfl hl (by omega) w
  obtain ⟨p1, p2⟩ := twoR_bound l (n + 2)
  generalize twoR l (n + 2) = m at *
  generalize atR l n [45, 87] = s at *
  have hM := fun w => rmonday_any y m ⟨by omega, by omega⟩ ⟨by omega, by omega⟩ w
  obtain ⟨q1, q2, q3⟩ := monE_bound y m
  generalize (monE y m).1 = k at *
  generalize (monE y m).2 = er at *
  have HV := Lib.hid hv
  clear hv
  go_enter Tryz.func15, Tryz.ntmps15
  go_wp2_with fail
  refine hy.mono ?_
  rintro e w1 ⟨rfl, hB⟩
  clear hy
  by_cases n0 : n = 0
  · have n0' : ((n : Int) == 0) = true := by simp; omega
    have HN : Hid (v = none) := Lib.hid (by rw [HV.out, if_neg (fun k => k.1 n0)])
    clear n0
    go_wp2_with fail
    go_ret2
    exact ⟨tells_no HN.out, hB⟩
  have n0' : ((n : Int) == 0) = false := by simp; omega
  by_cases n4 : l.length = n + 4
  · have n4' : ((l.length : Int) != (n : Int) + 4) = false := by simp; omega
    have HV1 : Hid (v = if s = true then (if er = 0 then some (k * 86400000) else none) else none) := Lib.hid (by
      rw [HV.out]
      by_cases g : s = true
      · rw [if_pos ⟨n0, n4, g⟩, if_pos g]
      · rw [if_neg (fun k => g k.2.2), if_neg g])
    clear HV n4 n0
    go_wp2_with fail
    refine (ha _).mono ?_
    rintro e w3 ⟨rfl, rfl⟩
    clear ha
    cases s
    · have HN : Hid (v = none) := Lib.hid (by rw [HV1.out, if_neg (by decide)])
      go_wp2_with fail
      go_ret2
      exact ⟨tells_no HN.out, hB⟩
    · have HV2 := Lib.hid (HV1.out.trans (if_pos rfl))
      clear HV1
      go_wp2_with fail
      refine (t1 _).mono ?_
      rintro e w2 ⟨rfl, hB2⟩
      have hB' := below_trans hB hB2
      clear hB hB2 t1
      go_wp2_with fail
      refine (hM _).mono ?_
      rintro e w3 ⟨rfl, rfl⟩
      clear hM
      rcases q3 with rfl | rfl
      · have HN := Lib.hid (HV2.out.trans (if_pos rfl))
        go_wp2_with fail
        go_ret2
        exact ⟨tells_yes HN.out (by omega) (by omega) (by omega), hB'⟩
      · have HN := Lib.hid (HV2.out.trans (if_neg (by decide)))
        go_wp2_with fail
        go_ret2
        exact ⟨tells_ib (n := k * 86400000) (b := false) HN.out (by omega) rfl (by omega) (by omega), hB'⟩
  · have n4' : ((l.length : Int) != (n : Int) + 4) = true := by simp; omega
    have HN : Hid (v = none) := Lib.hid (by rw [HV.out, if_neg (fun k => n4 k.2.1)])
    clear n4 n0
    go_wp2_with fail
    go_ret2
    exact ⟨tells_no HN.out, hB⟩

def TellsU (o : Option Int) (e : Ending) : Prop := ∃ (n : Int) (b : Bool), e = .returned (.tuple #[.int .i64 n, .bool b]) ∧ o = (if b then some n else none)
theorem Tells.u {o : Option Int} {e : Ending} (h : Tells o e) : TellsU o e := h.elim fun n h => h.elim fun b h => ⟨n, b, h.1, h.2.1⟩

theorem mid_yes (c : UInt8) (h : isMid c = true) : ((c.toNat : Int) == 84) = true ∨ (((c.toNat : Int) == 84) = false ∧ ((c.toNat : Int) == 32) = true) := by
  rcases (mid_iff c).1 h with rfl | rfl
  · right; exact ⟨rfl, rfl⟩
  · left; rfl
theorem mid_no (c : UInt8) (h : isMid c = false) : ((c.toNat : Int) == 84) = false ∧ ((c.toNat : Int) == 32) = false := by
  have g : ¬ (c = 32 ∨ c = 84) := fun k => by have := (mid_iff c).2 k; rw [h] at this; cases this
  constructor
  · cases q : ((c.toNat : Int) == 84)
    · rfl
    · exact absurd (Or.inr (UInt8.toNat_inj.1 (by have := eq_of_beq q; show c.toNat = 84; omega))) g
  · cases q : ((c.toNat : Int) == 32)
    · rfl
    · exact absurd (Or.inl (UInt8.toNat_inj.1 (by have := eq_of_beq q; show c.toNat = 32; omega))) g

set_option maxHeartbeats 3200000 in
set_option maxRecDepth 100000 in
theorem rparse5 (l : List UInt8) (hl : l.length ≤ 1000000000) (w : World) :
    Calls Tryz.prog 15 #[.int .i64 5, .string ⟨l.toArray⟩] w fun e w' => TellsU (localR l) e ∧ Below w.heap.size w w' := by
  have hy := ryear2_any l hl w
  obtain ⟨v, hv⟩ : ∃ v, v = localR l := ⟨_, rfl⟩
  rw [← hv]
  have HV := Lib.hid hv
  clear hv
  generalize (yearR l).1 = y at *
  generalize (yearR l).2 = n at *
  go_enter Tryz.func15, Tryz.ntmps15
  go_wp2_with fail
  refine hy.mono ?_
  rintro e w1 ⟨rfl, hB⟩
  clear hy
  go_wp2_with fail
  go_loopw [11] (fun s11 wr => ∃ (k : Nat), s11 = .int .i64 k ∧ k ≤ l.length ∧ Hid (noMid l k) ∧ Below w.heap.size w wr) (fun s11 _ => (1000000001 - intOf s11).toNat)
  case atStart => exact ⟨0, rfl, by omega, Lib.hid (by unfold noMid; rfl), hB⟩
  case round =>
    clear hB
    obtain ⟨k, rfl, hk, hn, hB⟩ := hrel
    by_cases hn' : k < l.length
    · obtain ⟨c, h1, h2⟩ := at_byte l k hn'
      have hcn := c.toNat_lt
      have e1 : l[k] = c := by
        rw [List.getElem?_eq_getElem hn'] at h1
        exact Option.some.inj h1
      have hT := fun w => rday_any (l.take k) (by simp; omega) w
      have hD := fun w => rclock_any (l.drop (k + 1)) (by simp; omega) w
      cases hm : isMid c with
      | true =>
        have HX : Hid (v = match dayR (l.take k), clockR (l.drop (k + 1)) with | some d, some t => some (d + t) | _, _ => none) := Lib.hid (by rw [HV.out]; exact noMid_at l k hn' hn.out (by rw [e1]; exact hm))
        generalize dayR (l.take k) = o1 at *
        generalize clockR (l.drop (k + 1)) = o2 at *
        have hmm := mid_yes c hm
        clear hn e1 h1 hm HV
        rcases hmm with m1 | ⟨m1, m2⟩
        all_goals
          go_wp2_with fail
          refine (hT _).mono ?_
          rintro e w2 ⟨⟨d, b, rfl, hx, d1, d2⟩, hB2⟩
          go_wp2_with fail
          refine (hD _).mono ?_
          rintro e w3 ⟨⟨t, bt, rfl, hx2, t1, t2⟩, hB3⟩
          have HY : Hid (v = if (b && bt) then some (d + t) else none) := Lib.hid (by
            rw [HX.out, hx, hx2]
            cases b <;> cases bt <;> rfl)
          clear hx hx2 HX hT hD
          have hBB := below_trans (below_trans hB hB2) hB3
          clear hB hB2 hB3
          cases b
          · go_wp2_with fail
            go_ret2
            exact ⟨⟨_, false, rfl, HY.out⟩, hBB⟩
          · go_wp2_with fail
            go_ret2
            exact ⟨⟨d + t, bt, by congr 3, HY.out⟩, hBB⟩
      | false =>
        have HX : Hid (noMid l (k + 1)) := Lib.hid (noMid_next l k hn' hn.out (by rw [e1]; exact hm))
        obtain ⟨m1, m2⟩ := mid_no c hm
        clear hn e1 h1 hm hT hD
        go_wp2_with fail
        go_roundw
        case rel => exact ⟨k + 1, rfl, by omega, HX, hB⟩
        case measure => simp [intOf]; omega
    · have ek : k = l.length := by omega
      have HN : Hid (v = none) := Lib.hid (by rw [HV.out]; exact noMid_end l (by rw [← ek]; exact hn.out))
      clear ek hn
      go_wp2_with fail
      go_ret2
      exact ⟨(tells_no HN.out).u, hB⟩

theorem rparse_any (kind : Int) (h1 : 1 ≤ kind) (h2 : kind ≤ 5) (l : List UInt8) (hl : l.length ≤ 1000000000) (w : World) :
    Calls Tryz.prog 15 #[.int .i64 kind, .string ⟨l.toArray⟩] w fun e w' => TellsU (parseR kind l) e ∧ Below w.heap.size w w' := by
  have hk : kind = 1 ∨ kind = 2 ∨ kind = 3 ∨ kind = 4 ∨ kind = 5 := by omega
  rcases hk with rfl | rfl | rfl | rfl | rfl
  · rw [parseR1]; exact (rparse1 l hl w).mono fun _ _ h => ⟨h.1.u, h.2⟩
  · rw [parseR2]; exact (rparse2 l hl w).mono fun _ _ h => ⟨h.1.u, h.2⟩
  · rw [parseR3]; exact (rparse3 l hl w).mono fun _ _ h => ⟨h.1.u, h.2⟩
  · rw [parseR4]; exact (rparse4 l hl w).mono fun _ _ h => ⟨h.1.u, h.2⟩
  · rw [parseR5]; exact rparse5 l hl w

set_option maxHeartbeats 1600000 in
set_option maxRecDepth 100000 in
/-- the reference's Parse answers what the program's does -/
theorem rParse_any (kind : Int) (hk : int64 kind) (l : List UInt8) (hl : l.length ≤ 1000000000) (w : World) :
    Calls Tryz.prog 7 #[.int .i64 kind, .string ⟨l.toArray⟩] w fun e w' => e = .returned (.tuple #[.int .i64 (parseM kind l).1, .int .i64 (parseM kind l).2]) ∧ Below w.heap.size w w' := by
  obtain ⟨v, hv⟩ : ∃ v, v = parseM kind l := ⟨_, rfl⟩
  rw [← hv]
  unfold parseM at hv
  obtain ⟨k1, k2⟩ := hk
  by_cases h1 : kind < 1
  · rw [if_pos (Or.inl h1)] at hv
    have HV := Lib.hid hv
    clear hv
    go_enter Tryz.func7, Tryz.ntmps7
    go_wp2_with fail
    go_ret2
    exact ⟨rret_ii (by rw [HV.out]) (by rw [HV.out]), Below.refl _ _⟩
  by_cases h2 : 5 < kind
  · rw [if_pos (Or.inr h2)] at hv
    have HV := Lib.hid hv
    clear hv
    go_enter Tryz.func7, Tryz.ntmps7
    go_wp2_with fail
    go_ret2
    exact ⟨rret_ii (by rw [HV.out]) (by rw [HV.out]), Below.refl _ _⟩
  rw [if_neg (by omega), ← parseR_eq kind l (by omega) (by omega)] at hv
  have hp := rparse_any kind (by omega) (by omega) l hl w
  generalize parseR kind l = o at *
  have HV := Lib.hid hv
  clear hv
  go_enter Tryz.func7, Tryz.ntmps7
  go_wp2_with fail
  refine hp.mono ?_
  rintro e w2 ⟨⟨k, b, rfl, hT⟩, hB⟩
  cases b
  · have HN : Hid (v = (0, 1)) := Lib.hid (by rw [HV.out, hT]; rfl)
    clear hT hp
    go_wp2_with fail
    go_ret2
    exact ⟨rret_ii (by rw [HN.out]) (by rw [HN.out]), hB⟩
  · have HN : Hid (v = (k, 0)) := Lib.hid (by rw [HV.out, hT]; rfl)
    clear hT hp
    go_wp2_with fail
    go_ret2
    exact ⟨rret_ii (by rw [HN.out]) (by rw [HN.out]), hB⟩
end Go.Proofs.YtbaloklcpfjmeaaGreatDoor.mom
