/- The contracts of the reference's count, Right, Has. -/
import Derived.Test.YtoajgfhcongocaaGreatDoorGb
import Derived.Test.YtoajgfhcongocaaGreatDoorGa
namespace Go.Proofs.YtoajgfhcongocaaGreatDoor.doc
open Go.ChangeShapes Go.WideShapes Go.ChangeAt Go.RowKit Go.Lib Go.Proofs.YtoajgfhcongocaaGreatDoor.atr

theorem dec_not {p q : Prop} [Decidable p] [Decidable q] (h : p ↔ ¬ q) : decide p = !decide q := by rw [← decide_not]; exact decide_eq_decide.2 h
theorem count_take (ks : List Int) (j : Nat) (h : j < ks.length) (x : Int) : (ks.take (j + 1)).count x = (ks.take j).count x + if ks[j] = x then 1 else 0 := by
  rw [List.take_succ_eq_append_getElem h, List.count_append, List.count_singleton]
  by_cases e : ks[j] = x <;> simp [e]
theorem IntsAt.cellAt {w : World} {b off cap n : Nat} {ks : List Int} (h : IntsAt w (.slice (some ⟨b, off, none⟩) n cap) ks) (j : Nat) (hj : j < ks.length) : w.cell? ⟨b, off + j, none⟩ = some (.int .i64 ks[j]) := by
  rcases h with ⟨h0, _⟩ | ⟨b', off', cap', e, _, _, h⟩
  · omega
  · cases e
    exact h j _ (ints_get ks j hj)
theorem IntsAt.addr {w : World} {v : Value} {ks : List Int} (h : IntsAt w v ks) (h0 : 0 < ks.length) : ∃ b off cap, v = .slice (some ⟨b, off, none⟩) ks.length cap ∧ b < w.heap.size := by
  rcases h with ⟨h1, _⟩ | ⟨b', off', cap', e, _, h2, _⟩
  · omega
  · exact ⟨_, _, _, e, h2⟩
set_option maxHeartbeats 1600000 in
set_option maxRecDepth 100000 in
theorem count_any (v : Value) (ks : List Int) (x : Int) (hl : ks.length ≤ 17592186044416) (w : World) (hK : IntsAt w v ks) :
    Calls Tryz.prog 67 #[v, .int .i64 x] w fun e w' => e = .returned (.int .i64 ((ks.count x : Nat) : Int)) ∧ w = w' := by
  obtain ⟨oa, cap, rfl⟩ := RowAt.lenN hK
  obtain ⟨res, hres⟩ : ∃ r, r = ks.count x := ⟨_, rfl⟩
  rw [← hres]
  have HR := Lib.hid hres
  have HK := Lib.hid hK
  clear hres hK
  go_enter Tryz.func67, Tryz.ntmps67
  go_wp2_with fail
  go_loopw [5, 6] (fun s5 s6 wr => ∃ m c : Nat, s5 = .int .i64 (c : Int) ∧ s6 = .int .i64 (m : Int) ∧ m ≤ ks.length ∧ c ≤ m ∧ Hid (c = (ks.take m).count x) ∧ w = wr) (fun _ s6 _ => ks.length - (RowKit.intOf s6).toNat)
  case atStart => exact ⟨0, 0, rfl, rfl, by omega, by omega, Lib.hid rfl, rfl⟩
  case round =>
    obtain ⟨m, c, rfl, rfl, hm, hcm, hc, rfl⟩ := hrel
    by_cases hlt : m < ks.length
    · obtain ⟨b, off, cap', e, hb⟩ := IntsAt.addr HK.out (by omega)
      cases e
      have c0 := IntsAt.cellAt HK.out m hlt
      have HT := Lib.hid (count_take ks m hlt x)
      by_cases g : ks[m] = x
      · have ge : (ks[m] == x) = true := by simp [g]
        have HN : Hid (c + 1 = (ks.take (m + 1)).count x) := Lib.hid (by rw [HT.out, if_pos g, ← hc.out])
        generalize ks[m] = y at *
        clear g HT
        go_wp2_with fail
        go_roundw
        case rel => exact ⟨m + 1, c + 1, by go_num, by go_num, by omega, by omega, HN, by first | rfl | trivial⟩
        case measure => simp [RowKit.intOf]; omega
      · have ge : (ks[m] == x) = false := by simp [g]
        have HN : Hid (c = (ks.take (m + 1)).count x) := Lib.hid (by rw [HT.out, if_neg g, ← hc.out]; rfl)
        generalize ks[m] = y at *
        clear g HT
        go_wp2_with fail
        go_roundw
        case rel => exact ⟨m + 1, c, by go_num, by go_num, by omega, by omega, HN, by first | rfl | trivial⟩
        case measure => simp [RowKit.intOf]; omega
    · obtain rfl : m = ks.length := by omega
      have HN : Hid (c = res) := Lib.hid (by rw [hc.out, HR.out, List.take_length])
      go_wp2_with fail
      go_ret
      exact ⟨Go.Proofs.YtoajgfhcongocaaGreatDoor.link.ret_int (by rw [HN.out]), rfl⟩

/-! ### plain -/
theorem nodesB_no (l : List Nd) (i : Nat) (hi : i < l.length) (h : nodeB l i = false) : rightB l = false := by
  rw [← Bool.not_eq_true]
  intro g
  unfold rightB at g
  rw [Bool.and_eq_true, Bool.and_eq_true] at g
  have := List.all_eq_true.1 g.1.2 i (List.mem_range.2 hi)
  rw [h] at this; cases this
theorem climbsB_no (l : List Nd) (i : Nat) (hi : i < l.length) (h : 0 ≤ climb l (l.length + 1) i) : rightB l = false := by
  rw [← Bool.not_eq_true]
  intro g
  unfold rightB at g
  rw [Bool.and_eq_true] at g
  have := List.all_eq_true.1 g.2 i (List.mem_range.2 hi)
  have := of_decide_eq_true this
  omega
theorem rightB_yes (l : List Nd) (hh : headB l = true) (hn : ∀ i : Nat, i < l.length → nodeB l i = true) (hc : ∀ i : Nat, i < l.length → climb l (l.length + 1) i < 0) : rightB l = true := by
  unfold rightB
  rw [hh, Bool.true_and, Bool.and_eq_true]
  exact ⟨List.all_eq_true.2 (fun i hi => hn i (List.mem_range.1 hi)), List.all_eq_true.2 (fun i hi => decide_eq_true (hc i (List.mem_range.1 hi)))⟩
theorem headB_no (l : List Nd) (h : headB l = false) : rightB l = false := by unfold rightB; rw [h]; rfl
theorem kidsB_no (l : List Nd) (i : Int) (m : Nat) (hm : m < (nd l i).kids.length) (h : kidB l i (nd l i).kids[m] = false) : kidsB l i = false := by
  rw [← Bool.not_eq_true]
  intro g
  have := List.all_eq_true.1 g _ (List.getElem_mem hm)
  rw [h] at this; cases this
theorem kidsB_yes (l : List Nd) (i : Int) (h : ∀ m (hm : m < (nd l i).kids.length), kidB l i (nd l i).kids[m] = true) : kidsB l i = true := by
  unfold kidsB
  rw [List.all_eq_true]
  intro c hc
  obtain ⟨m, hm, rfl⟩ := List.getElem_of_mem hc
  exact h m hm
theorem climb_step (l : List Nd) (n : Nat) (k : Int) : climb l (n + 1) k = if k < 0 then k else climb l n (nd l k).parent := rfl
theorem climb_neg (l : List Nd) : ∀ n (k : Int), k < 0 → climb l n k = k := by
  intro n
  cases n with
  | zero => intro k _; rfl
  | succ n => intro k h; rw [climb_step, if_pos h]

set_option maxHeartbeats 6400000 in
set_option maxRecDepth 100000 in
theorem rright_any (v : Value) (l : List Nd) (hL : LFine l) (w : World) (hA : NodesAt w v l) :
    Calls Tryz.prog 48 #[v] w fun e w' => e = .returned (.bool (rightB l)) ∧ Below w.heap.size w w' := by
  have HN0 := Lib.hid (headB_no l)
  have HNo := Lib.hid (nodesB_no l)
  have HCl := Lib.hid (climbsB_no l)
  have HYes := Lib.hid (rightB_yes l)
  obtain ⟨res, hres⟩ : ∃ r, r = rightB l := ⟨_, rfl⟩
  rw [← hres] at HN0 HNo HCl HYes ⊢
  clear hres
  have hlen := hL.len
  by_cases h1 : 1 ≤ l.length
  case neg =>
    have HX : Hid (res = false) := Lib.hid (HN0.out (by unfold headB; rw [decide_eq_false h1]; rfl))
    have h0 : ((l.length : Int)) < 1 := by omega
    obtain ⟨oa, cap, rfl⟩ := NodesAt.lenN hA
    clear hA
    go_enter Tryz.func48, Tryz.ntmps48
    go_wp2_with fail
    go_ret
    exact ⟨Go.Proofs.YtoajgfhcongocaaGreatDoor.link.ret_bool HX.out.symm, Below.refl _ _⟩
  obtain ⟨b, off, cap, rfl, hb, hAt⟩ := NodesAt.at hA (by omega)
  have hNd := Lib.hid (fun w' (h : Below w.heap.size w w') (k : Int) (k0 : 0 ≤ k) (k1 : k < (l.length : Int)) => (hAt k k0 k1).elim fun va h1 => h1.elim fun vk h2 => (⟨va, vk, h2.below h⟩ : ∃ va vk, NodeAt w' b (off + k.toNat * 5) (nd l k) va vk))
  obtain ⟨va0, vk0, hn0⟩ := hAt 0 (by omega) (by omega)
  have hN0 := hL.nd 0 (by omega) (by omega)
  clear hA hAt
  by_cases hh : headB l = true
  case neg =>
    have hh : headB l = false := by simpa using hh
    have HX : Hid (res = false) := Lib.hid (HN0.out hh)
    have hc0 := hn0.c0
    have hc3 := hn0.c3
    rw [show (0 : Int).toNat * 5 = 0 from rfl, Nat.add_zero] at hc0 hc3
    have HH := Lib.hid hh
    unfold headB at HH
    generalize nd l 0 = n at *
    obtain ⟨nm, tx, a, p, ks⟩ := n
    dsimp only at hc0 hc3 HH
    clear hn0 hN0 HN0 HNo HCl HYes hh
    have h1' : (1 : Int) ≤ (l.length : Int) := by omega
    by_cases h4 : l.length ≤ 400
    case neg =>
      have h4' : (400 : Int) < (l.length : Int) := by omega
      clear hc0 hc3
      go_enter Tryz.func48, Tryz.ntmps48
      go_wp2_with fail
      go_ret
      exact ⟨Go.Proofs.YtoajgfhcongocaaGreatDoor.link.ret_bool HX.out.symm, Below.refl _ _⟩
    have h4' : (l.length : Int) ≤ 400 := by omega
    cases nm with
    | nil =>
      go_enter Tryz.func48, Tryz.ntmps48
      go_wp2_with fail
      go_ret
      exact ⟨Go.Proofs.YtoajgfhcongocaaGreatDoor.link.ret_bool HX.out.symm, Below.refl _ _⟩
    | cons c0 cr =>
      have hp : ¬ p = -1 := by
        intro e
        have := HH.out
        rw [e, decide_eq_true h1, decide_eq_true h4] at this
        cases this
      have hpb : (p != -1) = true := by simpa using hp
      have hcl : ((((c0 :: cr).length : Nat) : Int) == 0) = false := by simp; omega
      go_enter Tryz.func48, Tryz.ntmps48
      go_wp2_with fail
      go_ret
      exact ⟨Go.Proofs.YtoajgfhcongocaaGreatDoor.link.ret_bool HX.out.symm, Below.refl _ _⟩
  have hd : l.length ≤ 400 ∧ (nd l 0).name ≠ [] ∧ (nd l 0).parent = -1 := by
    unfold headB at hh
    simp only [Bool.and_eq_true, decide_eq_true_eq, Bool.not_eq_true', List.isEmpty_eq_false_iff] at hh
    exact ⟨hh.1.1.2, hh.1.2, hh.2⟩
  have HYes := Lib.hid (HYes.out hh)
  have hc0 := hn0.c0
  have hc3 := hn0.c3
  rw [show (0 : Int).toNat * 5 = 0 from rfl, Nat.add_zero] at hc0 hc3
  obtain ⟨h4, hne, hp⟩ := hd
  rw [hp] at hc3
  obtain ⟨c0, cr, hcc⟩ : ∃ c r, (nd l 0).name = c :: r := by
    cases h : (nd l 0).name with
    | nil => exact absurd h hne
    | cons c r => exact ⟨c, r, rfl⟩
  rw [hcc] at hc0
  have h1' : (1 : Int) ≤ (l.length : Int) := by omega
  have h4' : (l.length : Int) ≤ 400 := by omega
  have hcl : ((cr.length : Int) + 1 == 0) = false := by simp; omega
  clear hn0 hN0 HN0 hh hne hp hcc
  go_enter Tryz.func48, Tryz.ntmps48
  go_wp2_with fail
  clear hc0 hc3 hcl
  go_loopw [3] (fun s3 wr => ∃ i : Nat, s3 = .int .i64 i ∧ i ≤ l.length ∧ Hid (∀ j : Nat, j < i → nodeB l j = true) ∧ Below w.heap.size w wr) (fun s _ => l.length - (RowKit.intOf s).toNat)
  case atStart => exact ⟨0, rfl, by omega, Lib.hid (fun j hj => absurd hj (Nat.not_lt_zero _)), Below.refl _ _⟩
  case round =>
    obtain ⟨i, rfl, hi, hg, hbw⟩ := hrel
    by_cases hlt : i < l.length
    · obtain ⟨va, vk, hn⟩ := hNd.out wr hbw i (by omega) (by omega)
      have hfn := hL.nd i (by omega) (by omega)
      rw [Int.toNat_natCast] at hn
      have HNi := Lib.hid (HNo.out i hlt)
      have HB : Hid (nodeB l i = (aloneP (nd l i) && rangeB l i && onceB l i && kidsB l i)) := Lib.hid rfl
      have HR1 : Hid (rangeB l i = (decide (-1 ≤ (nd l i).parent) && decide ((nd l i).parent < (l.length : Int)))) := Lib.hid rfl
      have HO1 : Hid (onceB l i = (decide ((nd l i).parent < 0) || (nd l (nd l i).parent).kids.count (i : Int) == 1)) := Lib.hid rfl
      have HK1 := Lib.hid (kidsB_yes l i)
      have HK2 := Lib.hid (kidsB_no l i)
      obtain ⟨n, hnn⟩ : ∃ n, n = nd l i := ⟨_, rfl⟩
      rw [← hnn] at hn hfn HB HR1 HO1 HK1 HK2
      have HD := Lib.hid hnn
      clear hnn
      obtain ⟨nm, tx, a, p, ks⟩ := n
      have ha := fun w h1 h2 => alone_any ⟨nm, tx, a, p, ks⟩ va vk hfn w h1 h2
      unfold nodeV at ha
      dsimp only at ha HB HR1 HO1 HK1 HK2
      obtain ⟨d0, d1, d2, d3, d4, hat, hks, _⟩ := hn
      have hkl : ks.length ≤ 17592186044416 := hfn.kids
      have hkw := Lib.hid hfn.kid
      have hpw := wf_range hfn.par
      dsimp only at d0 d1 d2 d3 d4 hat hks hpw hkw
      generalize aloneP ⟨nm, tx, a, p, ks⟩ = qa at *
      clear hfn
      obtain ⟨ka, kc, rfl⟩ := RowAt.lenN hks
      go_upto_region 7 with fail
      go_cut [59] (fun s59 wx => ∃ q, s59 = .bool q ∧ Hid (q = !(qa && decide (-1 ≤ p) && decide (p < (l.length : Int)))) ∧ Below wr.heap.size wr wx)
      case first =>
        cases qa
        · go_wp2_with fail
          refine (ha _ hat hks).mono ?_
          rintro e w' ⟨rfl, hb'⟩
          go_wp2_with fail
          go_meet
          exact ⟨_, rfl, Lib.hid rfl, hb'⟩
        · by_cases g1 : p < -1
          · go_wp2_with fail
            refine (ha _ hat hks).mono ?_
            rintro e w' ⟨rfl, hb'⟩
            go_wp2_with fail
            go_meet
            exact ⟨_, rfl, Lib.hid (by rw [decide_eq_false (by omega : ¬ -1 ≤ p)]; rfl), hb'⟩
          · go_wp2_with fail
            refine (ha _ hat hks).mono ?_
            rintro e w' ⟨rfl, hb'⟩
            go_wp2_with fail
            go_meet
            exact ⟨_, rfl, Lib.hid (by rw [decide_eq_true (by omega : -1 ≤ p), Bool.true_and, Bool.true_and, decide_eq_false (by omega : ¬ p < -1), Bool.false_or]; exact dec_not (by omega)), hb'⟩
      case rest =>
      obtain ⟨q, rfl, hq, hbc⟩ := hcut
      have hbw2 := below_trans hbw hbc
      cases q
      case true =>
        have HX : Hid (res = false) := Lib.hid (HNi.out (by
          rw [HB.out, HR1.out]
          have := hq.out
          revert this
          rw [← Bool.and_assoc]
          generalize (qa && decide (-1 ≤ p) && decide (p < (l.length : Int))) = z
          intro h; cases z
          · rfl
          · cases h))
        go_wp2_with fail
        go_ret
        exact ⟨Go.Proofs.YtoajgfhcongocaaGreatDoor.link.ret_bool HX.out.symm, hbw2⟩
      have hqq : qa = true ∧ -1 ≤ p ∧ p < (l.length : Int) := by
        have := hq.out
        revert this
        cases qa <;> simp
      obtain ⟨rfl, hp1, hp2⟩ := hqq
      have HB : Hid (nodeB l i = (onceB l i && kidsB l i)) := Lib.hid (by
        rw [HB.out, HR1.out, decide_eq_true hp1, decide_eq_true hp2]; rfl)
      clear ha hq HR1 d0 d1 d2 d3
      have d4 := cell_below hbc d4
      have hks := IntsAt.below hks hbc
      clear hat
      have hNc := Lib.hid (fun k k0 k1 => hNd.out wc hbw2 k k0 k1)
      go_upto_region 9 with fail
      go_cut [71] (fun s71 wx => ∃ q, s71 = .bool q ∧ Hid (q = !onceB l i) ∧ wx = wc)
      case first =>
        by_cases g : p < 0
        · have HO2 : Hid (onceB l i = true) := Lib.hid (by rw [HO1.out, decide_eq_true g]; rfl)
          go_wp2_with fail
          go_meet
          exact ⟨_, rfl, Lib.hid (by rw [HO2.out]; rfl), rfl⟩
        · have HO2 : Hid (onceB l i = ((nd l p).kids.count (i : Int) == 1)) := Lib.hid (by rw [HO1.out, decide_eq_false g]; rfl)
          obtain ⟨pn, rfl⟩ : ∃ pn : Nat, p = (pn : Int) := ⟨p.toNat, by omega⟩
          obtain ⟨vap, vkp, hnp⟩ := hNc.out pn (by omega) hp2
          rw [Int.toNat_natCast] at hnp
          have hfp := hL.nd pn (by omega) hp2
          have e4 := hnp.c4
          have hcnt := count_any vkp (nd l (pn : Int)).kids i hfp.kids wc hnp.kids
          generalize (nd l (pn : Int)).kids.count (i : Int) = c at *
          clear hnp hfp
          by_cases gc : c = 1
          · have gcb : (((c : Nat) : Int) != 1) = false := by simp [gc]
            go_wp2_with fail
            refine hcnt.mono ?_
            rintro e w' ⟨rfl, rfl⟩
            go_wp2_with fail
            go_meet
            exact ⟨_, rfl, Lib.hid (by rw [HO2.out, gc]; rfl), rfl⟩
          · have gcb : (((c : Nat) : Int) != 1) = true := by simp; omega
            go_wp2_with fail
            refine hcnt.mono ?_
            rintro e w' ⟨rfl, rfl⟩
            go_wp2_with fail
            go_meet
            exact ⟨_, rfl, Lib.hid (by rw [HO2.out]; simp [gc]), rfl⟩
      case rest =>
      obtain ⟨q, rfl, hq, rfl⟩ := hcut
      cases q
      case true =>
        have HX : Hid (res = false) := Lib.hid (HNi.out (by
          rw [HB.out]
          have := hq.out
          revert this
          generalize onceB l i = z
          intro h; cases z
          · rfl
          · cases h))
        go_wp2_with fail
        go_ret
        exact ⟨Go.Proofs.YtoajgfhcongocaaGreatDoor.link.ret_bool HX.out.symm, hbw2⟩
      have HB : Hid (nodeB l i = kidsB l i) := Lib.hid (by
        rw [HB.out]
        have := hq.out
        revert this
        generalize onceB l i = z
        intro h; cases z
        · cases h
        · rfl)
      clear hq HO1
      have HKS := Lib.hid hks
      clear hks hpw hp1 hp2
      go_wp2_with fail
      go_loopw [5] (fun s5 wr => ∃ m : Nat, s5 = .int .i64 m ∧ m ≤ ks.length ∧ Hid (∀ j (hj : j < ks.length), j < m → kidB l i ks[j] = true) ∧ wr = wc) (fun s _ => ks.length - (RowKit.intOf s).toNat)
      case atStart => exact ⟨0, rfl, by omega, Lib.hid (fun j _ hj => absurd hj (Nat.not_lt_zero _)), rfl⟩
      case round =>
        obtain ⟨m, rfl, hm, hk, rfl⟩ := hrel
        by_cases hml : m < ks.length
        · obtain ⟨kb, ko, kcap, e, hkb⟩ := IntsAt.addr HKS.out (by omega)
          cases e
          have e0 := IntsAt.cellAt HKS.out m hml
          have HN2 := Lib.hid (HK2.out m hml)
          have hcw := wf_range (hkw.out ks[m] (List.getElem_mem hml))
          have HKB : Hid (kidB l i ks[m] = (decide (0 ≤ ks[m]) && decide (ks[m] < (l.length : Int)) && decide ((nd l ks[m]).parent = (i : Int)))) := Lib.hid rfl
          have HKM : Hid (kidB l i ks[m] = true → ∀ j (hj : j < ks.length), j < m + 1 → kidB l i ks[j] = true) := Lib.hid (fun h j hj hjm => by
            rcases Nat.lt_or_ge j m with g | g
            · exact hk.out j hj g
            · have : j = m := by omega
              subst this; exact h)
          generalize ks[m] = c at *
          by_cases g1 : c < 0
          · have HX : Hid (res = false) := Lib.hid (HNi.out (by rw [HB.out]; exact HN2.out (by rw [HKB.out, decide_eq_false (by omega : ¬ 0 ≤ c)]; rfl)))
            go_wp2_with fail
            go_ret
            exact ⟨Go.Proofs.YtoajgfhcongocaaGreatDoor.link.ret_bool HX.out.symm, hbw2⟩
          by_cases g2 : (l.length : Int) ≤ c
          · have HX : Hid (res = false) := Lib.hid (HNi.out (by rw [HB.out]; exact HN2.out (by rw [HKB.out, decide_eq_false (by omega : ¬ c < (l.length : Int)), Bool.and_false, Bool.false_and])))
            go_wp2_with fail
            go_ret
            exact ⟨Go.Proofs.YtoajgfhcongocaaGreatDoor.link.ret_bool HX.out.symm, hbw2⟩
          obtain ⟨cn, rfl⟩ : ∃ cn : Nat, c = (cn : Int) := ⟨c.toNat, by omega⟩
          obtain ⟨vac, vkc, hnc⟩ := hNc.out cn (by omega) (by omega)
          rw [Int.toNat_natCast] at hnc
          have e3 := hnc.c3
          clear hnc
          by_cases g3 : (nd l (cn : Int)).parent = (i : Int)
          · have gb : ((nd l (cn : Int)).parent != (i : Int)) = false := by simp [g3]
            have HT : Hid (∀ j (hj : j < ks.length), j < m + 1 → kidB l i ks[j] = true) := Lib.hid (HKM.out (by rw [HKB.out, decide_eq_true (by omega : (0 : Int) ≤ (cn : Int)), decide_eq_true (by omega : (cn : Int) < (l.length : Int)), decide_eq_true g3]; rfl))
            generalize (nd l (cn : Int)).parent = pc at *
            clear g3
            go_wp2_with fail
            go_roundw
            case rel => exact ⟨m + 1, by go_num, by omega, HT, by first | rfl | trivial⟩
            case measure => simp [RowKit.intOf]; omega
          · have gb : ((nd l (cn : Int)).parent != (i : Int)) = true := by simpa using g3
            have HX : Hid (res = false) := Lib.hid (HNi.out (by rw [HB.out]; exact HN2.out (by rw [HKB.out, decide_eq_false g3, Bool.and_false])))
            generalize (nd l (cn : Int)).parent = pc at *
            clear g3
            go_wp2_with fail
            go_ret
            exact ⟨Go.Proofs.YtoajgfhcongocaaGreatDoor.link.ret_bool HX.out.symm, hbw2⟩
        · obtain rfl : m = ks.length := by omega
          have HT : Hid (∀ j : Nat, j < i + 1 → nodeB l j = true) := Lib.hid (fun j hj => by
            rcases Nat.lt_or_ge j i with g | g
            · exact hg.out j g
            · have : j = i := by omega
              subst this; rw [HB.out]; exact HK1.out (fun j hj => hk.out j hj hj))
          go_wp2_with fail
          go_roundw
          case rel => exact ⟨i + 1, by go_num, by omega, HT, hbw2⟩
          case measure => simp [RowKit.intOf]; omega
    · obtain rfl : i = l.length := by omega
      have hNc := Lib.hid (fun k k0 k1 => hNd.out wr hbw k k0 k1)
      have HG := hg
      have HPar : Hid (∀ k : Int, 0 ≤ k → k < (l.length : Int) → -1 ≤ (nd l k).parent ∧ (nd l k).parent < (l.length : Int)) := Lib.hid (fun k k0 k1 => by
        have := HG.out k.toNat (by omega)
        rw [show ((k.toNat : Nat) : Int) = k from by omega] at this
        unfold nodeB rangeB at this
        simp only [Bool.and_eq_true, decide_eq_true_eq] at this
        exact this.1.1.2)
      clear hg HNo hNd hi hlt
      go_wp2_with fail
      go_loopw [7] (fun s7 wx => ∃ i : Nat, s7 = .int .i64 i ∧ i ≤ l.length ∧ Hid (∀ j : Nat, j < i → climb l (l.length + 1) j < 0) ∧ wx = wr) (fun s _ => l.length - (RowKit.intOf s).toNat)
      case atStart => exact ⟨0, rfl, by omega, Lib.hid (fun j hj => absurd hj (Nat.not_lt_zero _)), rfl⟩
      case round =>
        obtain ⟨i, rfl, hi, hc, rfl⟩ := hrel
        by_cases hlt : i < l.length
        · have HCi := Lib.hid (HCl.out i hlt)
          go_wp2_with fail
          go_loopw [8, 9] (fun s8 s9 wx => ∃ (k : Int) (n : Nat), s8 = .int .i64 k ∧ s9 = .int .i64 n ∧ -1 ≤ k ∧ k < (l.length : Int) ∧ n ≤ l.length + 1 ∧ Hid (climb l (l.length + 1 - n) k = climb l (l.length + 1) i) ∧ wx = wr) (fun _ s9 _ => 402 - (RowKit.intOf s9).toNat)
          case atStart => exact ⟨i, 0, rfl, rfl, by omega, by omega, by omega, Lib.hid rfl, rfl⟩
          case round =>
            obtain ⟨k, n, rfl, rfl, hk1, hk2, hn, hcl, rfl⟩ := hrel
            by_cases g1 : k < 0
            · have HT : Hid (∀ j : Nat, j < i + 1 → climb l (l.length + 1) j < 0) := Lib.hid (fun j hj => by
                rcases Nat.lt_or_ge j i with g | g
                · exact hc.out j g
                · have : j = i := by omega
                  subst this; rw [← hcl.out, climb_neg l _ k g1]; exact g1)
              go_wp2_with fail
              go_roundw
              case rel => exact ⟨i + 1, by go_num, by omega, HT, by first | rfl | trivial⟩
              case measure => simp [RowKit.intOf]; omega
            by_cases g2 : n ≤ l.length
            · obtain ⟨kn, rfl⟩ : ∃ kn : Nat, k = (kn : Int) := ⟨k.toNat, by omega⟩
              obtain ⟨vac, vkc, hnc⟩ := hNc.out kn (by omega) (by omega)
              rw [Int.toNat_natCast] at hnc
              have e3 := hnc.c3
              have hpp := HPar.out kn (by omega) (by omega)
              have HT : Hid (climb l (l.length + 1 - (n + 1)) (nd l (kn : Int)).parent = climb l (l.length + 1) i) := Lib.hid (by
                have e := climb_step l (l.length + 1 - (n + 1)) (kn : Int)
                rw [if_neg (by omega), show l.length + 1 - (n + 1) + 1 = l.length + 1 - n from by omega] at e
                rw [← e]; exact hcl.out)
              generalize (nd l (kn : Int)).parent = pc at *
              clear hnc
              go_wp2_with fail
              go_roundw
              case rel => exact ⟨pc, n + 1, rfl, by go_num, hpp.1, hpp.2, by omega, HT, by first | rfl | trivial⟩
              case measure => simp [RowKit.intOf]; omega
            · obtain rfl : n = l.length + 1 := by omega
              have HX : Hid (res = false) := Lib.hid (HCi.out (by
                have := hcl.out
                rw [Nat.sub_self] at this
                rw [← this]
                show 0 ≤ k
                omega))
              go_wp2_with fail
              go_ret
              exact ⟨Go.Proofs.YtoajgfhcongocaaGreatDoor.link.ret_bool HX.out.symm, hbw⟩
        · obtain rfl : i = l.length := by omega
          have HX : Hid (res = true) := Lib.hid (HYes.out HG.out hc.out)
          go_wp2_with fail
          go_ret
          exact ⟨Go.Proofs.YtoajgfhcongocaaGreatDoor.link.ret_bool HX.out.symm, hbw⟩

set_option maxHeartbeats 800000 in
theorem rhas_any (v : Value) (l : List Nd) (k : Int) (hL : LFine l) (w : World) (hA : NodesAt w v l) :
    Calls Tryz.prog 49 #[v, .int .i64 k] w fun e w' => e = .returned (.bool (decide (0 ≤ k) && decide (k < (l.length : Int)) && rightB l)) ∧ Below w.heap.size w w' := by
  have hr := rright_any v l hL w hA
  obtain ⟨oa, cap, rfl⟩ := NodesAt.lenN hA
  generalize rightB l = r at *
  have hlen := hL.len
  clear hA hL
  by_cases g1 : 0 ≤ k
  · by_cases g2 : k < (l.length : Int)
    · go_enter Tryz.func49, Tryz.ntmps49
      go_wp2_with fail
      refine hr.mono ?_
      rintro e w' ⟨rfl, hb⟩
      go_wp2_with fail
      go_ret
      exact ⟨Go.Proofs.YtoajgfhcongocaaGreatDoor.link.ret_bool (by rw [decide_eq_true (by omega : 0 ≤ k), decide_eq_true (by omega : k < (l.length : Int))]; rfl), hb⟩
    · go_enter Tryz.func49, Tryz.ntmps49
      go_wp2_with fail
      go_ret
      exact ⟨Go.Proofs.YtoajgfhcongocaaGreatDoor.link.ret_bool (by rw [decide_eq_false (by omega : ¬ k < (l.length : Int))]; simp), Below.refl _ _⟩
  · go_enter Tryz.func49, Tryz.ntmps49
    go_wp2_with fail
    go_ret
    exact ⟨Go.Proofs.YtoajgfhcongocaaGreatDoor.link.ret_bool (by rw [decide_eq_false (by omega : ¬ 0 ≤ k)]; rfl), Below.refl _ _⟩
end Go.Proofs.YtoajgfhcongocaaGreatDoor.doc
