/- The contract of tree.Right, tree.has. -/
import Derived.Test.YtoajgfhcongocaaGreatDoorZRRight
import Derived.Test.YtoajgfhcongocaaGreatDoorGb
namespace Go.Proofs.YtoajgfhcongocaaGreatDoor.doc
open Go.ChangeShapes Go.WideShapes Go.ChangeAt Go.RowKit Go.Lib Go.Proofs.YtoajgfhcongocaaGreatDoor.atr

/-- the marks of those that were met -/
def upV (n : Nat) (seen : List Int) : List Value := (List.range n).map (fun c : Nat => Value.bool (decide ((c : Int) ∈ seen)))
theorem upV_len (n : Nat) (seen : List Int) : (upV n seen).length = n := by unfold upV; simp
theorem upV_at (n : Nat) (seen : List Int) (c : Nat) (h : c < n) : (upV n seen)[c]? = some (.bool (decide ((c : Int) ∈ seen))) := by
  unfold upV; rw [List.getElem?_map, List.getElem?_range h]; rfl
theorem upV_nil (n : Nat) : upV n [] = List.replicate n (.bool false) := by
  apply List.ext_getElem?
  intro j
  rw [List.getElem?_replicate]
  by_cases h : j < n
  · rw [upV_at n [] j h, if_pos h]; simp
  · rw [List.getElem?_eq_none (by rw [upV_len]; omega), if_neg h]
theorem upV_set (n : Nat) (seen : List Int) (c : Nat) (h : c < n) : (upV n seen).set c (.bool true) = upV n (seen ++ [(c : Int)]) := by
  apply List.ext_getElem?
  intro j
  rw [List.getElem?_set]
  by_cases hj : j < n
  · rw [upV_at n (seen ++ [(c : Int)]) j hj]
    by_cases e : c = j
    · subst e
      rw [if_pos rfl, if_pos (by rw [upV_len]; exact h)]
      rw [decide_eq_true (by simp)]
    · rw [if_neg e, upV_at n seen j hj]
      congr 2
      exact decide_eq_decide.2 (by simp; omega)
  · by_cases e : c = j
    · omega
    · rw [if_neg e, List.getElem?_eq_none (by rw [upV_len]; omega), List.getElem?_eq_none (by rw [upV_len]; omega)]
theorem ownsRow_below {w w' : World} {base : Nat} {e : TypeId} {size : Nat} {v : Value} {n : Nat} {xs : List Value} (h : w.ownsRow base e size v n xs) (hb : Below w.heap.size w w') : w'.ownsRow base e size v n xs := by
  refine ⟨h.1, ?_⟩
  rcases h.2 with h | ⟨g', cap', cur, e1, e2, e3, e4⟩
  · exact .inl h
  · refine .inr ⟨g', cap', cur, e1, e2, ?_, e4⟩
    have hlt : g' < w.heap.size := by
      apply Nat.lt_of_not_le; intro k
      rw [Array.getElem?_eq_none k] at e3; cases e3
    rw [hb.block g' hlt]; exact e3
theorem parTo_le (l : List Nd) (i : Nat) : (parTo l i).length ≤ i := by
  unfold parTo
  rw [List.length_map]
  exact Nat.le_trans (List.length_filter_le _ _) (by simp)
theorem seen_le (l : List Nd) (seen : List Int) (hn : seen.Nodup) (hr : ∀ x ∈ seen, 0 ≤ x ∧ x < (l.length : Int)) : seen.length ≤ l.length := by
  have := nodup_len seen ((List.range l.length).map (fun j : Nat => (j : Int))) hn (fun x hx => by
    obtain ⟨h1, h2⟩ := hr x hx
    exact List.mem_map.2 ⟨x.toNat, List.mem_range.2 (by omega), by omega⟩)
  simpa using this
/-- what is so of the first nodes -/
structure Om (l : List Nd) (i : Nat) : Prop where
  fine : KidsFine l i
  nodup : (kidsTo l i).Nodup
  alone : ∀ j : Nat, j < i → aloneP (nd l j) = true ∧ rangeB l j = true
/-- .. and of the first children of the next one -/
structure Im (l : List Nd) (i m : Nat) : Prop where
  kid : ∀ j (hj : j < (nd l i).kids.length), j < m → kidB l i (nd l i).kids[j] = true
  nodup : (kidsTo l i ++ (nd l i).kids.take m).Nodup
theorem Om.zero (l : List Nd) : Om l 0 := ⟨fun j hj => absurd hj (Nat.not_lt_zero _), by unfold kidsTo; simp, fun j hj => absurd hj (Nat.not_lt_zero _)⟩
theorem Om.inner {l : List Nd} {i : Nat} (h : Om l i) : Im l i 0 := ⟨fun j _ hj => absurd hj (Nat.not_lt_zero _), by simpa using h.nodup⟩
theorem Om.next {l : List Nd} {i : Nat} (h : Om l i) (ha : aloneP (nd l i) = true) (hr : rangeB l i = true) (hi : Im l i (nd l i).kids.length) : Om l (i + 1) := by
  refine ⟨fun j hj => ?_, ?_, fun j hj => ?_⟩
  · rcases Nat.lt_or_ge j i with g | g
    · exact h.fine j g
    · have : j = i := by omega
      subst this; exact kidsB_yes l j (fun m hm => hi.kid m hm hm)
  · rw [kidsTo_succ]
    have := hi.nodup
    rwa [List.take_length] at this
  · rcases Nat.lt_or_ge j i with g | g
    · exact h.alone j g
    · have : j = i := by omega
      subst this; exact ⟨ha, hr⟩
theorem Im.seen {l : List Nd} {i m : Nat} (h : Om l i) (hi : Im l i m) (_hil : i < l.length) : (kidsTo l i ++ (nd l i).kids.take m).length ≤ l.length := by
  refine seen_le l _ hi.nodup (fun x hx => ?_)
  rcases List.mem_append.1 hx with hx | hx
  · obtain ⟨j, hj, hx⟩ := (mem_kidsTo l i x).1 hx
    obtain ⟨a, b, _⟩ := kidsB_mem l j x (h.fine j hj) hx
    exact ⟨a, b⟩
  · obtain ⟨j, hj, rfl⟩ := List.getElem_of_mem hx
    have hj2 : j < m ∧ j < (nd l i).kids.length := by rw [List.length_take] at hj; omega
    rw [List.getElem_take]
    obtain ⟨a, b, _⟩ := kid_of l i _ (hi.kid j hj2.2 hj2.1)
    exact ⟨a, b⟩
theorem Im.next {l : List Nd} {i m : Nat} (hi : Im l i m) (hm : m < (nd l i).kids.length) (hk : kidB l i (nd l i).kids[m] = true) (hs : (nd l i).kids[m] ∉ kidsTo l i ++ (nd l i).kids.take m) : Im l i (m + 1) := by
  refine ⟨fun j hj hjm => ?_, ?_⟩
  · rcases Nat.lt_or_ge j m with g | g
    · exact hi.kid j hj g
    · have : j = m := by omega
      subst this; exact hk
  · rw [List.take_succ_eq_append_getElem hm, ← List.append_assoc, List.nodup_append]
    refine ⟨hi.nodup, by simp, ?_⟩
    intro x hx y hy e
    rw [List.mem_singleton] at hy
    subst hy
    subst e
    exact hs hx
theorem take_snoc (l : List Nd) (i m : Nat) (hm : m < (nd l i).kids.length) : kidsTo l i ++ (nd l i).kids.take (m + 1) = (kidsTo l i ++ (nd l i).kids.take m) ++ [(nd l i).kids[m]] := by
  rw [List.take_succ_eq_append_getElem hm, List.append_assoc]
theorem twice_no (l : List Nd) (i m : Nat) (hi : i < l.length) (h : Om l i) (hm : m < (nd l i).kids.length) (hs : (nd l i).kids[m] ∈ kidsTo l i ++ (nd l i).kids.take m) : rightB l = false := by
  have := met_twice l i m hi hm h.fine _ (List.getElem?_eq_getElem hm) (List.mem_append.1 hs)
  unfold rightB
  rw [this, Bool.and_false, Bool.false_and]
theorem met_no (l : List Nd) (h : Om l l.length) (hne : (parTo l l.length).length ≠ (kidsTo l l.length).length) : rightB l = false := by
  rw [← Bool.not_eq_true]
  intro g
  refine hne ((met_all l h.fine h.nodup (fun i hi => (h.alone i hi).2)).2 (fun i hi => ?_))
  unfold rightB at g
  rw [Bool.and_eq_true, Bool.and_eq_true] at g
  have := List.all_eq_true.1 g.1.2 i (List.mem_range.2 hi)
  unfold nodeB at this
  simp only [Bool.and_eq_true] at this
  exact this.1.2
theorem met_yes (l : List Nd) (h : Om l l.length) (he : (parTo l l.length).length = (kidsTo l l.length).length) : ∀ i : Nat, i < l.length → nodeB l i = true := by
  have ho := (met_all l h.fine h.nodup (fun i hi => (h.alone i hi).2)).1 he
  intro i hi
  unfold nodeB
  rw [(h.alone i hi).1, (h.alone i hi).2, ho i hi, h.fine i hi]; rfl
theorem kids_take0 (l : List Nd) (i : Nat) : kidsTo l i ++ (nd l i).kids.take 0 = kidsTo l i := by simp
theorem infoB : (Tryz.prog.info? 4).map (fun i => (i.zero, i.size, i.bytes)) = some (some (.bool false), 1, 1) := by kernel_rfl

set_option maxHeartbeats 6400000 in
set_option maxRecDepth 100000 in
theorem right_any (v : Value) (l : List Nd) (hL : LFine l) (w : World) (hA : NodesAt w v l) :
    Calls Tryz.prog 54 #[v] w fun e w' => e = .returned (.bool (rightB l)) ∧ Below w.heap.size w w' := by
  have HN0 := Lib.hid (headB_no l)
  have HNo := Lib.hid (nodesB_no l)
  have HCl := Lib.hid (climbsB_no l)
  have HYes := Lib.hid (rightB_yes l)
  obtain ⟨res, hres⟩ : ∃ r, r = rightB l := ⟨_, rfl⟩
  have HRes : Hid (rightB l = false → res = false) := Lib.hid (fun h => hres.trans h)
  rw [← hres] at HN0 HNo HCl HYes ⊢
  clear hres
  have hlen := hL.len
  by_cases h1 : 1 ≤ l.length
  case neg =>
    have HX : Hid (res = false) := Lib.hid (HN0.out (by unfold headB; rw [decide_eq_false h1]; rfl))
    obtain ⟨oa, cap, rfl⟩ := NodesAt.lenN hA
    obtain rfl : l = [] := List.length_eq_zero_iff.1 (by omega)
    clear hA
    go_enter Tryz.func54, Tryz.ntmps54
    go_wp2_with fail
    go_ret
    exact ⟨Go.Proofs.YtoajgfhcongocaaGreatDoor.link.ret_bool HX.out.symm, Below.refl _ _⟩
  have hz : ((l.length : Int) == 0) = false := by simp; exact fun e => by rw [e] at h1; simp at h1
  have hln : ¬ l = [] := fun e => by rw [e] at h1; simp at h1
  obtain ⟨b, off, cap, rfl, hb, hAt⟩ := NodesAt.at hA (by omega)
  have hNd := Lib.hid (fun w' (h : Below w.heap.size w w') (k : Int) (k0 : 0 ≤ k) (k1 : k < (l.length : Int)) => (hAt k k0 k1).elim fun va h1 => h1.elim fun vk h2 => (⟨va, vk, h2.below h⟩ : ∃ va vk, NodeAt w' b (off + k.toNat * 5) (nd l k) va vk))
  obtain ⟨va0, vk0, hn0⟩ := hAt 0 (by omega) (by omega)
  have hN0 := hL.nd 0 (by omega) (by omega)
  clear hA hAt
  by_cases hh : headB l = true
  case neg =>
    have hh : headB l = false := by simpa using hh
    have HX : Hid (res = false) := Lib.hid (HN0.out hh)
    have hc0 := hn0.c0
    have hc3 := hn0.c3
    rw [show (0 : Int).toNat * 5 = 0 from rfl, Nat.add_zero] at hc0 hc3
    have HH := Lib.hid hh
    unfold headB at HH
    generalize nd l 0 = n at *
    obtain ⟨nm, tx, a, p, ks⟩ := n
    dsimp only at hc0 hc3 HH
    clear hn0 hN0 HN0 HNo HCl HYes hh
    have h1' : (1 : Int) ≤ (l.length : Int) := by omega
    by_cases h4 : l.length ≤ 400
    case neg =>
      have h4' : (400 : Int) < (l.length : Int) := by omega
      clear hc0 hc3
      go_enter Tryz.func54, Tryz.ntmps54
      go_wp2_with fail
      go_ret
      exact ⟨Go.Proofs.YtoajgfhcongocaaGreatDoor.link.ret_bool HX.out.symm, Below.refl _ _⟩
    have h4' : (l.length : Int) ≤ 400 := by omega
    cases nm with
    | nil =>
      go_enter Tryz.func54, Tryz.ntmps54
      go_wp2_with fail
      go_ret
      exact ⟨Go.Proofs.YtoajgfhcongocaaGreatDoor.link.ret_bool HX.out.symm, Below.refl _ _⟩
    | cons c0 cr =>
      have hp : ¬ p = -1 := by
        intro e
        have := HH.out
        rw [e, decide_eq_true h1, decide_eq_true h4] at this
        cases this
      have hpb : (p != -1) = true := by simpa using hp
      have hcl : ((((c0 :: cr).length : Nat) : Int) == 0) = false := by simp; omega
      go_enter Tryz.func54, Tryz.ntmps54
      go_wp2_with fail
      go_ret
      exact ⟨Go.Proofs.YtoajgfhcongocaaGreatDoor.link.ret_bool HX.out.symm, Below.refl _ _⟩
  have hd : l.length ≤ 400 ∧ (nd l 0).name ≠ [] ∧ (nd l 0).parent = -1 := by
    unfold headB at hh
    simp only [Bool.and_eq_true, decide_eq_true_eq, Bool.not_eq_true', List.isEmpty_eq_false_iff] at hh
    exact ⟨hh.1.1.2, hh.1.2, hh.2⟩
  have HYes := Lib.hid (HYes.out hh)
  have hc0 := hn0.c0
  have hc3 := hn0.c3
  rw [show (0 : Int).toNat * 5 = 0 from rfl, Nat.add_zero] at hc0 hc3
  obtain ⟨h4, hne, hp⟩ := hd
  rw [hp] at hc3
  obtain ⟨c0, cr, hcc⟩ : ∃ c r, (nd l 0).name = c :: r := by
    cases h : (nd l 0).name with
    | nil => exact absurd h hne
    | cons c r => exact ⟨c, r, rfl⟩
  rw [hcc] at hc0
  have h1' : (1 : Int) ≤ (l.length : Int) := by omega
  have h4' : (l.length : Int) ≤ 400 := by omega
  have hce : (c0 :: cr).isEmpty = false := rfl
  clear hn0 hN0 HN0 hh hne hp hcc
  go_enter Tryz.func54, Tryz.ntmps54
  obtain ⟨i0, hi0, hz0, hz1, hz2⟩ := info_parts infoB
  obtain ⟨w1, hmk, hown, hgrow⟩ := run_make_full (P := Tryz.prog) w w.heap.size 83 4 i0 (.bool false) 1 Tryz.underlying83 hi0 hz0 hz1 .i64 .i64 l.length (by rw [hz2]; omega) (by unfold maxLen; omega) (Nat.le_refl _)
  rw [show (madeCells (Value.bool false).cells (l.length * 1)).toList = upV l.length [] from by rw [upV_nil, Nat.mul_one]; exact toList_madeCells_one _ _] at hown
  have hb1 : Below w.heap.size w w1 := ((Below.refl _ w).grown hgrow (Nat.le_refl _) (fun k hk => by cases hk))
  obtain ⟨G, hG⟩ : ∃ G, G = w.heap.size := ⟨_, rfl⟩
  have HG0 : Hid (w.heap.size ≤ G) := Lib.hid (by omega)
  rw [← hG] at hmk
  have hown : w1.ownsRow w.heap.size 4 1 (.slice (some ⟨G, 0, none⟩) l.length l.length) l.length (upV l.length []) := by rw [hG]; exact hown
  have HOW := Lib.hid hown
  clear hi0 hz0 hz1 hz2 hgrow hown hG
  go_wp2_with fail
  clear hc0 hc3 hce hmk
  go_loopw [3, 39] (fun s3 s39 wr => ∃ i : Nat, s39 = .int .i64 i ∧ i ≤ l.length ∧ Hid (Om l i) ∧ (∃ m : Int, s3 = .int .i64 m ∧ Hid (m = ((parTo l i).length : Int) - ((kidsTo l i).length : Int))) ∧ Hid (wr.ownsRow w.heap.size 4 1 (.slice (some ⟨G, 0, none⟩) l.length l.length) l.length (upV l.length (kidsTo l i))) ∧ Below w.heap.size w wr) (fun _ s39 _ => l.length - (RowKit.intOf s39).toNat)
  case atStart => exact ⟨0, rfl, by omega, Lib.hid (Om.zero l), ⟨0, rfl, Lib.hid (by simp [parTo, kidsTo])⟩, Lib.hid (by simpa [kidsTo] using HOW.out), hb1⟩
  case round =>
    obtain ⟨i, rfl, hi, hom, ⟨mt, rfl, hmt⟩, hown, hbw⟩ := hrel
    by_cases hlt : i < l.length
    · obtain ⟨va, vk, hn⟩ := hNd.out w (Below.refl _ _) i (by omega) (by omega)
      have hfn := hL.nd i (by omega) (by omega)
      rw [Int.toNat_natCast] at hn
      have HKW := Lib.hid (fun w' (h : Below w.heap.size w w') => IntsAt.below hn.kids h)
      have hn := hn.below hbw
      have HNi := Lib.hid (HNo.out i hlt)
      have HB : Hid (nodeB l i = (aloneP (nd l i) && rangeB l i && onceB l i && kidsB l i)) := Lib.hid rfl
      have HR1 : Hid (rangeB l i = (decide (-1 ≤ (nd l i).parent) && decide ((nd l i).parent < (l.length : Int)))) := Lib.hid rfl
      have HPS := Lib.hid (parTo_succ l i)
      have HPL := Lib.hid (parTo_le l i)
      have HKS0 : Hid (kidsTo l (i + 1) = kidsTo l i ++ (nd l i).kids) := Lib.hid (kidsTo_succ l i)
      have HK2 := Lib.hid (kidsB_no l i)
      have HI0 := Lib.hid hom.out.inner
      have HTW := Lib.hid (fun m => twice_no l i m hlt hom.out)
      have HTS := Lib.hid (fun m => take_snoc l i m)
      have HIN := Lib.hid (fun m (h : Im l i m) => h.next)
      have HSE := Lib.hid (fun m (h : Im l i m) => h.seen hom.out hlt)
      have HON := Lib.hid (fun ha hr h => hom.out.next (i := i) ha hr h)
      obtain ⟨n, hnn⟩ : ∃ n, n = nd l i := ⟨_, rfl⟩
      rw [← hnn] at hn hfn HKW HB HR1 HPS HKS0 HK2 HTW HTS HIN HSE HON
      have HD := Lib.hid hnn
      clear hnn
      obtain ⟨nm, tx, a, p, ks⟩ := n
      have ha := fun w h1 h2 h3 => one_any ⟨nm, tx, a, p, ks⟩ va vk hfn w h1 h2 h3
      unfold nodeV at ha
      dsimp only at ha HB HR1 HPS HKS0 HK2 HTW HTS HIN HSE
      obtain ⟨d0, d1, d2, d3, d4, hat, hks, hcap⟩ := hn
      have hkl : ks.length ≤ 17592186044416 := hfn.kids
      have hkw := Lib.hid hfn.kid
      have hpw := wf_range hfn.par
      dsimp only at d0 d1 d2 d3 d4 hat hks hpw hkw HKW
      obtain ⟨qa, hqa⟩ : ∃ q, q = aloneP ⟨nm, tx, a, p, ks⟩ := ⟨_, rfl⟩
      rw [← hqa] at ha HB HON
      have HQA := Lib.hid hqa
      clear hfn hqa
      obtain ⟨ka, kc, rfl⟩ := RowAt.lenN hks
      obtain ⟨aa, ac, rfl⟩ := AttrsAt.lenN hat
      obtain ⟨W2, hW2⟩ : ∃ W2, W2 = wr.alloc (.cells #[.string ⟨nm.toArray⟩, .string ⟨tx.toArray⟩, .slice aa a.length ac, .int .i64 p, .slice ka ks.length kc] 43) := ⟨_, rfl⟩
      have hlow2 : Below wr.heap.size wr W2 := by rw [hW2]; exact (Below.refl _ _).alloc (Nat.le_refl _) _
      have f3 : W2.cell? ⟨wr.heap.size, 3, none⟩ = some (.int .i64 p) := by rw [hW2, World.cell?_alloc_new]; rfl
      have f4 : W2.cell? ⟨wr.heap.size, 4, none⟩ = some (.slice ka ks.length kc) := by rw [hW2, World.cell?_alloc_new]; rfl
      go_upto_region 8 with fail
      rw [← hW2]
      go_cut [58] (fun s58 wx => ∃ q, s58 = .bool q ∧ Hid (q = !(qa && decide (-1 ≤ p) && decide (p < (l.length : Int)))) ∧ Below W2.heap.size W2 wx)
      case first =>
        have HAt := Lib.hid (hat.below hlow2)
        have HKt := Lib.hid (IntsAt.below hks hlow2)
        have f0 : W2.cell? ⟨wr.heap.size, 0, none⟩ = some (.string ⟨nm.toArray⟩) := by rw [hW2, World.cell?_alloc_new]; rfl
        have f1 : W2.cell? ⟨wr.heap.size, 1, none⟩ = some (.string ⟨tx.toArray⟩) := by rw [hW2, World.cell?_alloc_new]; rfl
        have f2 : W2.cell? ⟨wr.heap.size, 2, none⟩ = some (.slice aa a.length ac) := by rw [hW2, World.cell?_alloc_new]; rfl
        have hsz : wr.heap.size < W2.heap.size := lt_of_cell f0
        clear hW2 d0 d1 d2 d3 d4 hat hks
        cases qa
        · go_wp2_with fail
          refine (ha _ HAt.out HKt.out hcap).mono ?_
          rintro e w' ⟨rfl, hb'⟩
          go_wp2_with fail
          go_meet
          exact ⟨_, rfl, Lib.hid rfl, hb'⟩
        · by_cases g1 : p < -1
          · go_wp2_with fail
            refine (ha _ HAt.out HKt.out hcap).mono ?_
            rintro e w' ⟨rfl, hb'⟩
            have f3' := cell_below hb' f3
            go_wp2_with fail
            go_meet
            exact ⟨_, rfl, Lib.hid (by rw [decide_eq_false (by omega : ¬ -1 ≤ p)]; rfl), hb'⟩
          · go_wp2_with fail
            refine (ha _ HAt.out HKt.out hcap).mono ?_
            rintro e w' ⟨rfl, hb'⟩
            have f3' := cell_below hb' f3
            go_wp2_with fail
            go_meet
            exact ⟨_, rfl, Lib.hid (by rw [decide_eq_true (by omega : -1 ≤ p), Bool.true_and, Bool.true_and, decide_eq_false (by omega : ¬ p < -1), Bool.false_or]; exact dec_not (by omega)), hb'⟩
      case rest =>
      obtain ⟨q, rfl, hq, hbc⟩ := hcut
      have hbw2 := below_trans hbw (below_trans hlow2 hbc)
      cases q
      case true =>
        have HX : Hid (res = false) := Lib.hid (HNi.out (by
          rw [HB.out, HR1.out]
          have := hq.out
          revert this
          rw [← Bool.and_assoc]
          generalize (qa && decide (-1 ≤ p) && decide (p < (l.length : Int))) = z
          intro h; cases z
          · rfl
          · cases h))
        go_wp2_with fail
        go_ret
        exact ⟨Go.Proofs.YtoajgfhcongocaaGreatDoor.link.ret_bool HX.out.symm, hbw2⟩
      have hqq : qa = true ∧ -1 ≤ p ∧ p < (l.length : Int) := by
        have := hq.out
        revert this
        cases qa <;> simp
      obtain ⟨rfl, hp1, hp2⟩ := hqq
      have HRg : Hid (rangeB l i = true) := Lib.hid (by rw [HR1.out, decide_eq_true hp1, decide_eq_true hp2]; rfl)
      have HB : Hid (kidsB l i = false → nodeB l i = false) := Lib.hid (fun h => by rw [HB.out, h, Bool.and_false])
      have HON2 : Hid (Im l i ks.length → Om l (i + 1)) := Lib.hid (fun h => HON.out rfl HRg.out h)
      clear HON
      have f3 := cell_below hbc f3
      have f4 := cell_below hbc f4
      have HOW2 := Lib.hid (ownsRow_below hown.out (below_trans hlow2 hbc))
      have HNc := Lib.hid (fun k k0 k1 => hNd.out wc hbw2 k k0 k1)
      have hpl := HPL.out
      have hk0 := Im.seen hom.out HI0.out hlt
      rw [kids_take0] at hk0
      obtain ⟨P0, hP0⟩ : ∃ P0, P0 = (parTo l i).length := ⟨_, rfl⟩
      obtain ⟨K0, hK0⟩ : ∃ K0, K0 = (kidsTo l i).length := ⟨_, rfl⟩
      obtain ⟨P1, hP1⟩ : ∃ P1, P1 = (parTo l (i + 1)).length := ⟨_, rfl⟩
      have HP1 := Lib.hid hP1
      have HPS := HPS.out
      rw [← hP0] at hpl hmt HPS
      rw [← hP1] at HPS
      rw [← hK0] at hmt hk0
      have HK0 := Lib.hid hK0
      have hmt' := hmt.out
      clear hP0 hK0 hP1 ha hq HR1 d0 d1 d2 d3 d4 hat hks hcap hW2 hlow2 hmt hown
      go_upto_if 61 with fail
      go_cut [3] (fun s3 wx => ∃ m : Int, s3 = .int .i64 m ∧ Hid (m = (P1 : Int) - K0) ∧ wx = wc)
      case first =>
        by_cases g : 0 ≤ p
        · rw [if_pos g] at HPS
          have HE : Hid (mt + 1 = (P1 : Int) - K0) := Lib.hid (by omega)
          have hwr : wrap64 (mt + 1) = mt + 1 := by unfold wrap64; omega
          clear HPS hmt'
          go_wp2_with fail
          go_meet
          exact ⟨mt + 1, by first | rfl | rw [hwr], HE, rfl⟩
        · rw [if_neg g] at HPS
          have HE : Hid (mt = (P1 : Int) - K0) := Lib.hid (by omega)
          clear HPS hmt'
          go_wp2_with fail
          go_meet
          exact ⟨_, rfl, HE, rfl⟩
      case rest =>
      obtain ⟨m1, rfl, hm1, rfl⟩ := hcut
      have hP1l : P1 ≤ i + 1 := by
        have := HP1.out
        rw [this]; exact parTo_le l (i + 1)
      clear HPS hmt' hpw hp1 hp2
      have HOW3 := HOW2
      clear HOW2
      go_wp2_with fail
      go_loopw [3, 67] (fun s3 s67 wr => ∃ (m : Nat) (mm : Int), s67 = .int .i64 m ∧ m ≤ ks.length ∧ s3 = .int .i64 mm ∧ Hid (mm = (P1 : Int) - K0 - m) ∧ Hid (Im l i m) ∧ Hid (wr.ownsRow w.heap.size 4 1 (.slice (some ⟨G, 0, none⟩) l.length l.length) l.length (upV l.length (kidsTo l i ++ ks.take m))) ∧ Below w.heap.size w wr) (fun _ s67 _ => ks.length - (RowKit.intOf s67).toNat)
      case atStart => exact ⟨0, m1, rfl, by omega, rfl, Lib.hid (by rw [hm1.out]; omega), HI0, Lib.hid (by simpa using HOW3.out), hbw2⟩
      case round =>
        obtain ⟨m, mm, rfl, hm, rfl, hmm, him, hown, hbr⟩ := hrel
        clear HOW3 hm1 f3 f4 HNc
        have HKS := Lib.hid (HKW.out _ hbr)
        by_cases hml : m < ks.length
        · obtain ⟨kb, ko, kcap, e, hkb⟩ := IntsAt.addr HKS.out (by omega)
          cases e
          have e0 := IntsAt.cellAt HKS.out m hml
          have HN2 := Lib.hid (HK2.out m hml)
          have hcw := wf_range (hkw.out ks[m] (List.getElem_mem hml))
          have HKB : Hid (kidB l i ks[m] = (decide (0 ≤ ks[m]) && decide (ks[m] < (l.length : Int)) && decide ((nd l ks[m]).parent = (i : Int)))) := Lib.hid rfl
          have HTWm := Lib.hid (HTW.out m hml)
          have HTSm := Lib.hid (HTS.out m hml)
          have HINm := Lib.hid (HIN.out m him.out hml)
          have hse := HSE.out m him.out
          rw [List.length_append, ← HK0.out, List.length_take, Nat.min_eq_left (Nat.le_of_lt hml)] at hse
          obtain ⟨seen, hseen⟩ : ∃ seen, seen = kidsTo l i ++ ks.take m := ⟨_, rfl⟩
          rw [← hseen] at hown HTWm HTSm HINm
          generalize ks[m] = c at *
          clear hseen
          by_cases g1 : c < 0
          · have HX : Hid (res = false) := Lib.hid (HNi.out (HB.out (HN2.out (by rw [HKB.out, decide_eq_false (by omega : ¬ 0 ≤ c)]; rfl))))
            go_wp2_with fail
            go_ret
            exact ⟨Go.Proofs.YtoajgfhcongocaaGreatDoor.link.ret_bool HX.out.symm, hbr⟩
          by_cases g2 : (l.length : Int) ≤ c
          · have HX : Hid (res = false) := Lib.hid (HNi.out (HB.out (HN2.out (by rw [HKB.out, decide_eq_false (by omega : ¬ c < (l.length : Int)), Bool.and_false, Bool.false_and]))))
            go_wp2_with fail
            go_ret
            exact ⟨Go.Proofs.YtoajgfhcongocaaGreatDoor.link.ret_bool HX.out.symm, hbr⟩
          obtain ⟨cn, rfl⟩ : ∃ cn : Nat, c = (cn : Int) := ⟨c.toNat, by omega⟩
          have hcn : cn < l.length := by omega
          have e1 := hown.out.cellAt cn (by omega)
          rw [upV_at _ _ cn hcn] at e1
          have efr := hown.out.frozenAt cn
          by_cases gs : (cn : Int) ∈ seen
          · have HX : Hid (res = false) := Lib.hid (HRes.out (HTWm.out gs))
            rw [decide_eq_true gs] at e1
            clear gs
            go_wp2_with fail
            go_ret
            exact ⟨Go.Proofs.YtoajgfhcongocaaGreatDoor.link.ret_bool HX.out.symm, hbr⟩
          obtain ⟨vac, vkc, hnc⟩ := hNd.out _ hbr cn (by omega) (by omega)
          rw [Int.toNat_natCast] at hnc
          have e3 := hnc.c3
          clear hnc
          rw [decide_eq_false gs] at e1
          have HGS := Lib.hid gs
          clear gs
          by_cases g3 : (nd l (cn : Int)).parent = (i : Int)
          · have gb : ((nd l (cn : Int)).parent != (i : Int)) = false := by simp [g3]
            have HT : Hid (Im l i (m + 1)) := Lib.hid (HINm.out (by rw [HKB.out, decide_eq_true (by omega : (0 : Int) ≤ (cn : Int)), decide_eq_true (by omega : (cn : Int) < (l.length : Int)), decide_eq_true g3]; rfl) HGS.out)
            generalize (nd l (cn : Int)).parent = pc at *
            have HST0 := (hown.out.stored cn (.bool true)).1
            rw [upV_set _ _ cn hcn, ← HTSm.out] at HST0
            have HST := Lib.hid HST0
            have hbs := hbr.setCell (p := ⟨G, cn, none⟩) HG0.out (.bool true)
            have hmm' := hmm.out
            have HE : Hid (mm - 1 = (P1 : Int) - K0 - ((m + 1 : Nat) : Int)) := Lib.hid (by omega)
            have hwr : wrap64 (mm - 1) = mm - 1 := by unfold wrap64; omega
            clear g3 hmm' hse HST0
            go_wp2_with fail
            go_roundw
            case rel => exact ⟨m + 1, mm - 1, by go_num, by omega, by first | rfl | rw [hwr], HE, HT, HST, hbs⟩
            case measure => simp [RowKit.intOf]; omega
          · have gb : ((nd l (cn : Int)).parent != (i : Int)) = true := by simpa using g3
            have HX : Hid (res = false) := Lib.hid (HNi.out (HB.out (HN2.out (by rw [HKB.out, decide_eq_false g3, Bool.and_false]))))
            generalize (nd l (cn : Int)).parent = pc at *
            clear g3
            go_wp2_with fail
            go_ret
            exact ⟨Go.Proofs.YtoajgfhcongocaaGreatDoor.link.ret_bool HX.out.symm, hbr⟩
        · obtain rfl : m = ks.length := by omega
          have HT : Hid (Om l (i + 1)) := Lib.hid (HON2.out him.out)
          have HO1 := hown.out
          rw [List.take_length, ← HKS0.out] at HO1
          have HO2 := Lib.hid HO1
          have HE : Hid (mm = ((parTo l (i + 1)).length : Int) - ((kidsTo l (i + 1)).length : Int)) := Lib.hid (by
            rw [hmm.out, ← HP1.out, HKS0.out, List.length_append, ← HK0.out]; omega)
          clear HO1
          go_wp2_with fail
          go_roundw
          case rel => exact ⟨i + 1, by go_num, by omega, HT, ⟨mm, rfl, HE⟩, HO2, hbr⟩
          case measure => simp [RowKit.intOf]; omega
    · obtain rfl : i = l.length := by omega
      have hNc := Lib.hid (fun k k0 k1 => hNd.out wr hbw k k0 k1)
      have HPar : Hid (∀ k : Int, 0 ≤ k → k < (l.length : Int) → -1 ≤ (nd l k).parent ∧ (nd l k).parent < (l.length : Int)) := Lib.hid (fun k k0 k1 => by
        have := (hom.out.alone k.toNat (by omega)).2
        rw [show ((k.toNat : Nat) : Int) = k from by omega] at this
        unfold rangeB at this
        simp only [Bool.and_eq_true, decide_eq_true_eq] at this
        exact this)
      clear hown hNd HOW HNo hi hlt
      by_cases gm : mt = 0
      case neg =>
        have gb : (mt != 0) = true := by simpa using gm
        have HX : Hid (res = false) := Lib.hid (HRes.out (met_no l hom.out (by have := hmt.out; omega)))
        clear gm
        go_wp2_with fail
        go_ret
        exact ⟨Go.Proofs.YtoajgfhcongocaaGreatDoor.link.ret_bool HX.out.symm, hbw⟩
      have HAll := Lib.hid (met_yes l hom.out (by have := hmt.out; omega))
      subst gm
      go_wp2_with fail
      go_loopw [105] (fun s105 wx => ∃ i : Nat, s105 = .int .i64 i ∧ i ≤ l.length ∧ Hid (∀ j : Nat, j < i → climb l (l.length + 1) j < 0) ∧ wx = wr) (fun s _ => l.length - (RowKit.intOf s).toNat)
      case atStart => exact ⟨0, rfl, by omega, Lib.hid (fun j hj => absurd hj (Nat.not_lt_zero _)), rfl⟩
      case round =>
        obtain ⟨i, rfl, hi, hc, rfl⟩ := hrel
        by_cases hlt : i < l.length
        · have HCi := Lib.hid (HCl.out i hlt)
          go_wp2_with fail
          go_loopw [10, 11] (fun s10 s11 wx => ∃ (k : Int) (n : Nat), s10 = .int .i64 k ∧ s11 = .int .i64 n ∧ -1 ≤ k ∧ k < (l.length : Int) ∧ n ≤ l.length + 1 ∧ Hid (climb l (l.length + 1 - n) k = climb l (l.length + 1) i) ∧ wx = wr) (fun _ s11 _ => 402 - (RowKit.intOf s11).toNat)
          case atStart => exact ⟨i, 0, rfl, rfl, by omega, by omega, by omega, Lib.hid rfl, rfl⟩
          case round =>
            obtain ⟨k, n, rfl, rfl, hk1, hk2, hn, hcl, rfl⟩ := hrel
            by_cases g1 : k < 0
            · have HT : Hid (∀ j : Nat, j < i + 1 → climb l (l.length + 1) j < 0) := Lib.hid (fun j hj => by
                rcases Nat.lt_or_ge j i with g | g
                · exact hc.out j g
                · have : j = i := by omega
                  subst this; rw [← hcl.out, climb_neg l _ k g1]; exact g1)
              go_wp2_with fail
              go_roundw
              case rel => exact ⟨i + 1, by go_num, by omega, HT, by first | rfl | trivial⟩
              case measure => simp [RowKit.intOf]; omega
            by_cases g2 : n ≤ l.length
            · obtain ⟨kn, rfl⟩ : ∃ kn : Nat, k = (kn : Int) := ⟨k.toNat, by omega⟩
              obtain ⟨vac, vkc, hnc⟩ := hNc.out kn (by omega) (by omega)
              rw [Int.toNat_natCast] at hnc
              have e3 := hnc.c3
              have hpp := HPar.out kn (by omega) (by omega)
              have HT : Hid (climb l (l.length + 1 - (n + 1)) (nd l (kn : Int)).parent = climb l (l.length + 1) i) := Lib.hid (by
                have e := climb_step l (l.length + 1 - (n + 1)) (kn : Int)
                rw [if_neg (by omega), show l.length + 1 - (n + 1) + 1 = l.length + 1 - n from by omega] at e
                rw [← e]; exact hcl.out)
              generalize (nd l (kn : Int)).parent = pc at *
              clear hnc
              go_wp2_with fail
              go_roundw
              case rel => exact ⟨pc, n + 1, rfl, by go_num, hpp.1, hpp.2, by omega, HT, by first | rfl | trivial⟩
              case measure => simp [RowKit.intOf]; omega
            · obtain rfl : n = l.length + 1 := by omega
              have HX : Hid (res = false) := Lib.hid (HCi.out (by
                have := hcl.out
                rw [Nat.sub_self] at this
                rw [← this]
                show 0 ≤ k
                omega))
              go_wp2_with fail
              go_ret
              exact ⟨Go.Proofs.YtoajgfhcongocaaGreatDoor.link.ret_bool HX.out.symm, hbw⟩
        · obtain rfl : i = l.length := by omega
          have HX : Hid (res = true) := Lib.hid (HYes.out HAll.out hc.out)
          go_wp2_with fail
          go_ret
          exact ⟨Go.Proofs.YtoajgfhcongocaaGreatDoor.link.ret_bool HX.out.symm, hbw⟩

set_option maxHeartbeats 800000 in
theorem thas_any (v : Value) (l : List Nd) (k : Int) (hL : LFine l) (w : World) (hA : NodesAt w v l) :
    Calls Tryz.prog 89 #[v, .int .i64 k] w fun e w' => e = .returned (.bool (decide (0 ≤ k) && decide (k < (l.length : Int)) && rightB l)) ∧ Below w.heap.size w w' := by
  have hr := right_any v l hL w hA
  obtain ⟨oa, cap, rfl⟩ := NodesAt.lenN hA
  generalize rightB l = r at *
  have hlen := hL.len
  clear hA hL
  by_cases g1 : 0 ≤ k
  · by_cases g2 : k < (l.length : Int)
    · go_enter Tryz.func89, Tryz.ntmps89
      go_wp2_with fail
      refine hr.mono ?_
      rintro e w' ⟨rfl, hb⟩
      go_wp2_with fail
      go_ret
      exact ⟨Go.Proofs.YtoajgfhcongocaaGreatDoor.link.ret_bool (by rw [decide_eq_true (by omega : 0 ≤ k), decide_eq_true (by omega : k < (l.length : Int))]; rfl), hb⟩
    · go_enter Tryz.func89, Tryz.ntmps89
      go_wp2_with fail
      go_ret
      exact ⟨Go.Proofs.YtoajgfhcongocaaGreatDoor.link.ret_bool (by rw [decide_eq_false (by omega : ¬ k < (l.length : Int))]; simp), Below.refl _ _⟩
  · go_enter Tryz.func89, Tryz.ntmps89
    go_wp2_with fail
    go_ret
    exact ⟨Go.Proofs.YtoajgfhcongocaaGreatDoor.link.ret_bool (by rw [decide_eq_false (by omega : ¬ 0 ≤ k)]; rfl), Below.refl _ _⟩
end Go.Proofs.YtoajgfhcongocaaGreatDoor.doc
