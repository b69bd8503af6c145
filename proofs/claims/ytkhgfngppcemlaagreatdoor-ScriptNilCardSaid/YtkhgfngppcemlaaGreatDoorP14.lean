/- The contracts of tree.find, tree.one, and of the reference's alone. The contracts of the reference's count, Right, Has. The contract of tree.Right, tree.has. The contracts of kinds.attr, types, Of. The contract of kinds.Of. -/
import Derived.BigQuiet
import Derived.ChangeAlike
import Derived.Deep.CutBlock
import Derived.Deep.DeepCutAuto
import Derived.Deep.MidRow
import Derived.Deep.RegionHeld3
import Derived.Deep.SlicePairs
import Derived.Deep.Slices
import Derived.Laws.BytesArg
import Derived.Laws.IdiomStrings
import Derived.Laws.OwnMore
import Derived.Lib.Hide
import Derived.Lib.ItoaMem
import Derived.OpenShut
import Derived.ProofKit
import Derived.RegionTactic
import Derived.Shelf.SlicesQ.IndexFunc
import Derived.WalkKit
import Derived.WalkSmall
import Derived.WalkSpells
import Derived.WideKeyArgs
import Derived.Test.YtkhgfngppcemlaaGreatDoorRows
import Derived.Test.YtkhgfngppcemlaaGreatDoorShelf
import Derived.Test.YtkhgfngppcemlaaGreatDoorP0
import Derived.Test.YtkhgfngppcemlaaGreatDoorP1
import Derived.Test.YtkhgfngppcemlaaGreatDoorP6
import Derived.Test.YtkhgfngppcemlaaGreatDoorP7
import Derived.Test.YtkhgfngppcemlaaGreatDoorP8
import Derived.Test.YtkhgfngppcemlaaGreatDoorP9
import Derived.Test.YtkhgfngppcemlaaGreatDoorP10
import Derived.Test.YtkhgfngppcemlaaGreatDoorP11
import Derived.Test.YtkhgfngppcemlaaGreatDoorP12
import Derived.Test.YtkhgfngppcemlaaGreatDoorP13
namespace Go.Proofs.YtkhgfngppcemlaaGreatDoor.doc
open Go.ChangeShapes Go.WideShapes Go.ChangeAt Go.RowKit Go.Lib Go.Proofs.YtkhgfngppcemlaaGreatDoor.atr

set_option maxHeartbeats 800000 in
theorem tfind_any (v : Value) (l : List Attr) (nm : List UInt8) (hl : l.length ≤ 140737488355328) (w : World) (hA : AttrsAt w v l) :
    Calls Tryz.prog 254 #[v, .string ⟨nm.toArray⟩] w fun e w' => e = .returned (.int .i64 (fint nm l)) ∧ Below w.heap.size w w' := by
  have eg : ∀ args w, (callFunc 346 args).run Tryz.prog w = .ok (.enter 346 args) w := enters_of Tryz.func346 (by kernel_rfl) rfl
  have hB1 : Below w.heap.size w (w.alloc (.cells #[.string ⟨nm.toArray⟩] 9)) := (Below.refl _ _).alloc (Nat.le_refl _) _
  have hI := idxfN_any 346 #[.pointer (some ⟨w.heap.size, 0, none⟩)] eg nm v l hl (w.alloc (.cells #[.string ⟨nm.toArray⟩] 9)) (hA.below hB1)
    (pred_tfind nm w.heap.size _ (by simp) (by simp))
  generalize fint nm l = r at *
  clear hA
  go_enter Tryz.func254, Tryz.ntmps254
  go_wp2_with fail
  refine hI.mono ?_
  rintro e w' ⟨rfl, hb'⟩
  clear hI
  go_wp2_with fail
  go_ret
  exact ⟨rfl, below_trans hB1 hb'⟩

theorem fidx_le (a : List Attr) (i : Nat) (h : i < a.length) : fidx (a[i]).1 a ≤ i := by
  rcases find_ways (a[i]).1 a with ⟨k, hk, h1, h2, h3, _⟩ | ⟨_, h2, _⟩
  · rw [h1]
    apply Nat.le_of_not_lt; intro g
    exact h3 i g rfl
  · exact absurd rfl (h2 i h)
theorem fint_take (a : List Attr) (i : Nat) (h : i < a.length) : (0 ≤ fint (a[i]).1 (a.take i)) ↔ fidx (a[i]).1 a ≠ i := by
  have hle := fidx_le a i h
  rcases find_ways (a[i]).1 a with ⟨k, hk, h1, h2, h3, _⟩ | ⟨_, h2, _⟩
  · rw [h1]
    rcases fint_ways (a[i]).1 (a.take i) with ⟨m, hm, g1, g2, g3, _⟩ | ⟨g1, g2, _⟩
    · rw [g1]
      have hm' : m < i := by simp at hm; omega
      have g2' : (a[m]'(by omega)).1 = (a[i]).1 := by rw [← g2]; simp
      constructor
      · intro _ e
        subst e
        exact h3 m hm' g2'
      · intro _; omega
    · rw [g1]
      constructor
      · intro h; omega
      · intro e
        have hki : k < i := by omega
        refine absurd h2 ?_
        have := g2 k (by simp; omega)
        simpa using this
  · exact absurd rfl (h2 i h)
theorem atA_at (a : List Attr) (i : Nat) (h : i < a.length) : atA a i = a[i] := by
  unfold atA
  rw [List.getD_eq_getElem?_getD, List.getElem?_eq_getElem h]; rfl
theorem attrsOk_of (a : List Attr) (h : ∀ i, i < a.length → attrB1 a i = true) : attrsOk a = true := by
  unfold attrsOk
  rw [List.all_eq_true]
  intro i hi
  exact h i (List.mem_range.1 hi)
theorem attrsOk_no (a : List Attr) (i : Nat) (hi : i < a.length) (h : attrB1 a i = false) : attrsOk a = false := by
  rw [← Bool.not_eq_true]
  intro g
  unfold attrsOk at g
  have := List.all_eq_true.1 g i (List.mem_range.2 hi)
  rw [h] at this; cases this
theorem attrB1_eq (a : List Attr) (i : Nat) (h : i < a.length) : attrB1 a i = (namedP (a[i]).1 && decide ((a[i]).2.length ≤ 4000) && decide (fint (a[i]).1 (a.take i) < 0)) := by
  unfold attrB1
  rw [atA_at a i h]
  congr 1
  rw [Bool.eq_iff_iff, beq_iff_eq, decide_eq_true_eq]
  have := fint_take a i h
  omega
theorem alone_text (tx : List UInt8) (a : List Attr) (p : Int) (ks : List Int) : aloneP ⟨[], tx, a, p, ks⟩ = (((a.length : Int) == 0) && ((ks.length : Int) == 0) && decide ((tx.length : Int) ≤ 4000)) := by
  unfold aloneP
  rw [if_pos rfl]
  have e1 : a.isEmpty = ((a.length : Int) == 0) := by cases a <;> simp; omega
  have e2 : ks.isEmpty = ((ks.length : Int) == 0) := by cases ks <;> simp; omega
  rw [e1, e2]
  congr 1
  exact decide_eq_decide.2 (by dsimp only; omega)
theorem alone_elem (nm tx : List UInt8) (a : List Attr) (p : Int) (ks : List Int) (h : nm ≠ []) : aloneP ⟨nm, tx, a, p, ks⟩ = (namedP nm && ((tx.length : Int) == 0) && decide ((a.length : Int) ≤ 40) && attrsOk a) := by
  unfold aloneP
  rw [if_neg h]
  have e1 : tx.isEmpty = ((tx.length : Int) == 0) := by cases tx <;> simp; omega
  dsimp only
  rw [e1]
  congr 2
  exact decide_eq_decide.2 (by omega)
theorem AttrsAt.lenN {w : World} {v : Value} {l : List Attr} (h : AttrsAt w v l) : ∃ oa cap, v = .slice oa l.length cap := by
  rcases h with ⟨rfl, oa, cap, rfl⟩ | ⟨b, off, cap, rfl, _⟩
  · exact ⟨_, _, rfl⟩
  · exact ⟨_, _, rfl⟩
theorem AttrsAt.take {w : World} {b off : Nat} {l : List Attr} (hb : b < w.heap.size) (h : RowA w b off l) (i : Nat) (hi : i < l.length) (c : Nat) : AttrsAt w (.slice (some ⟨b, off, none⟩) i c) (l.take i) := by
  have hlen : (l.take i).length = i := by simp; omega
  rcases Nat.eq_zero_or_pos i with h0 | h0
  · subst h0; exact .inl ⟨rfl, _, _, rfl⟩
  · refine .inr ⟨b, off, c, by rw [hlen], by omega, hb, fun j hj => ?_⟩
    obtain ⟨h1, h2⟩ := h j (by omega)
    rw [List.getElem_take]
    exact ⟨h1, h2⟩

/-- three cells, and what was there at first -/
theorem h3_below {w0 w1 w2 : World} {p q r : Addr} {x y z : Value} (hp : p.block < w1.heap.size) (hq : q.block < w1.heap.size) (hr : r.block < w1.heap.size) (hb : Below w1.heap.size w1 w2) (h : w1.cell? p = some x ∧ w1.cell? q = some y ∧ w1.cell? r = some z ∧ Below w0.heap.size w0 w1) :
    w2.cell? p = some x ∧ w2.cell? q = some y ∧ w2.cell? r = some z ∧ Below w0.heap.size w0 w2 :=
  ⟨(hb.cell hp).trans h.1, (hb.cell hq).trans h.2.1, (hb.cell hr).trans h.2.2.1, below_trans h.2.2.2 hb⟩
theorem cellA_lt {w : World} {p : Addr} {v : Value} (h : w.cell? p = some v) : p.block < w.heap.size := by
  apply Nat.lt_of_not_le; intro g
  simp [World.cell?, Array.getElem?_eq_none g] at h
theorem h3_low {w0 w1 w2 : World} {p q r : Addr} {x y z : Value} (hb : Below w1.heap.size w1 w2) (h : w1.cell? p = some x ∧ w1.cell? q = some y ∧ w1.cell? r = some z ∧ Below w0.heap.size w0 w1) :
    w2.cell? p = some x ∧ w2.cell? q = some y ∧ w2.cell? r = some z ∧ Below w0.heap.size w0 w2 := h3_below (cellA_lt h.1) (cellA_lt h.2.1) (cellA_lt h.2.2.1) hb h
theorem h3_drew {w0 w1 : World} {p q r : Addr} {x y z : Value} (h : w1.cell? p = some x ∧ w1.cell? q = some y ∧ w1.cell? r = some z ∧ Below w0.heap.size w0 w1) :
    w1.drew.cell? p = some x ∧ w1.drew.cell? q = some y ∧ w1.drew.cell? r = some z ∧ Below w0.heap.size w0 w1.drew := ⟨h.1, h.2.1, h.2.2.1, h.2.2.2.drew⟩
set_option maxHeartbeats 3200000 in
set_option maxRecDepth 100000 in
theorem one_any (n : Nd) (va vk : Value) (hN : NFine n) (w : World) (hA : AttrsAt w va n.attrs) (hK : IntsAt w vk n.kids) (hC : CapOk va) :
    Calls Tryz.prog 227 #[nodeV n va vk] w fun e w' => e = .returned (.bool (aloneP n)) ∧ Below w.heap.size w w' := by
  obtain ⟨nm, tx, a, p, ks⟩ := n
  obtain ⟨n1, n2, n3, n4, n5, n6, n7⟩ := hN
  dsimp only at n1 n2 n3 n4 n5 n6 n7 hA hK
  obtain ⟨ka, kc, rfl⟩ := RowAt.lenN hK
  unfold nodeV
  dsimp only
  cases nm with
  | nil =>
    have HR := Lib.hid (alone_text tx a p ks)
    generalize aloneP ⟨[], tx, a, p, ks⟩ = res at *
    obtain ⟨aa, ac, rfl⟩ := AttrsAt.lenN hA
    clear hA hK n6 n7 n5 hC
    go_enter Tryz.func227, Tryz.ntmps227
    by_cases g1 : ((a.length : Int) == 0) = true
    · by_cases g2 : ((ks.length : Int) == 0) = true
      · go_wp2_with fail
        go_ret
        exact ⟨Go.Proofs.YtkhgfngppcemlaaGreatDoor.link.ret_bool (by rw [HR.out, g1, g2]; rfl), (Below.refl _ _).alloc (Nat.le_refl _) _⟩
      · have g2 : ((ks.length : Int) == 0) = false := by simpa using g2
        go_wp2_with fail
        go_ret
        exact ⟨Go.Proofs.YtkhgfngppcemlaaGreatDoor.link.ret_bool (by rw [HR.out, g1, g2]; rfl), (Below.refl _ _).alloc (Nat.le_refl _) _⟩
    · have g1 : ((a.length : Int) == 0) = false := by simpa using g1
      go_wp2_with fail
      go_ret
      exact ⟨Go.Proofs.YtkhgfngppcemlaaGreatDoor.link.ret_bool (by rw [HR.out, g1]; rfl), (Below.refl _ _).alloc (Nat.le_refl _) _⟩
  | cons c0 cr =>
    have HR := Lib.hid (alone_elem (c0 :: cr) tx a p ks (by simp))
    generalize aloneP ⟨c0 :: cr, tx, a, p, ks⟩ = res at *
    have hnm := fun w => named_any (c0 :: cr) n1 w
    obtain ⟨q1, hq1⟩ : ∃ q, q = namedP (c0 :: cr) := ⟨_, rfl⟩
    rw [← hq1] at hnm HR
    clear hq1
    have hB1 : Below w.heap.size w (w.alloc (.cells #[.string ⟨(c0 :: cr).toArray⟩, .string ⟨tx.toArray⟩, va, .int .i64 p, .slice ka ks.length kc] 84)) := (Below.refl _ _).alloc (Nat.le_refl _) _
    obtain ⟨aa, ac, rfl⟩ := AttrsAt.lenN hA
    have hcap := hC aa a.length ac rfl
    clear hC
    have HB1 := Lib.hid hB1
    have hA1 := Lib.hid (hA.below hB1)
    clear hA hK hB1
    go_enter Tryz.func227, Tryz.ntmps227
    go_upto_region 3 with fail
    go_cut [38] (fun s38 wx => ∃ q, s38 = .bool q ∧ Hid (q = !(q1 && ((tx.length : Int) == 0) && decide ((a.length : Int) ≤ 40))) ∧ wx = w.alloc (.cells #[.string ⟨(c0 :: cr).toArray⟩, .string ⟨tx.toArray⟩, .slice aa a.length ac, .int .i64 p, .slice ka ks.length kc] 84))
    case first =>
      cases q1
      · go_wp2_with fail
        refine (hnm _).mono ?_
        rintro e w' ⟨rfl, rfl⟩
        go_wp2_with fail
        go_meet
        exact ⟨_, rfl, Lib.hid rfl, rfl⟩
      · cases tx with
        | cons x1 x2 =>
          go_wp2_with fail
          refine (hnm _).mono ?_
          rintro e w' ⟨rfl, rfl⟩
          go_wp2_with fail
          go_meet
          exact ⟨_, rfl, Lib.hid (by simp; omega), rfl⟩
        | nil =>
          go_wp2_with fail
          refine (hnm _).mono ?_
          rintro e w' ⟨rfl, rfl⟩
          go_wp2_with fail
          go_meet
          exact ⟨_, rfl, Lib.hid (by simp; rw [← decide_not]; exact decide_eq_decide.2 (by omega)), rfl⟩
    case rest =>
    obtain ⟨q, rfl, hq, rfl⟩ := hcut
    cases q
    case true =>
      have HX : Hid (res = false) := Lib.hid (by
        rw [HR.out]
        have := hq.out
        revert this
        generalize (q1 && ((tx.length : Int) == 0) && decide ((a.length : Int) ≤ 40)) = z
        intro h; cases z
        · rfl
        · cases h)
      go_wp2_with fail
      go_ret
      exact ⟨Go.Proofs.YtkhgfngppcemlaaGreatDoor.link.ret_bool HX.out.symm, HB1.out⟩
    have HX : Hid (res = attrsOk a) := Lib.hid (by
      rw [HR.out]
      have := hq.out
      revert this
      generalize (q1 && ((tx.length : Int) == 0) && decide ((a.length : Int) ≤ 40)) = z
      intro h; cases z
      · cases h
      · rfl)
    clear hq HR hnm
    obtain ⟨w1, hw1⟩ : ∃ w1, w1 = w.alloc (.cells #[.string ⟨(c0 :: cr).toArray⟩, .string ⟨tx.toArray⟩, .slice aa a.length ac, .int .i64 p, .slice ka ks.length kc] 84) := ⟨_, rfl⟩
    have hK1 := Blk.fresh w [.string ⟨(c0 :: cr).toArray⟩, .string ⟨tx.toArray⟩, .slice aa a.length ac, .int .i64 p, .slice ka ks.length kc] 84
    have hK1 : Blk (w.alloc (.cells #[.string ⟨(c0 :: cr).toArray⟩, .string ⟨tx.toArray⟩, .slice aa a.length ac, .int .i64 p, .slice ka ks.length kc] 84)) w.heap.size [.string ⟨(c0 :: cr).toArray⟩, .string ⟨tx.toArray⟩, .slice aa a.length ac, .int .i64 p, .slice ka ks.length kc] := hK1
    rw [← hw1] at hK1 HB1 hA1 ⊢
    have hlt1 := hK1.lt
    have c2 : w1.cell? ⟨w.heap.size, 2, none⟩ = some (.slice aa a.length ac) := hK1.cell 2
    clear hw1 n2 n4 n7
    have HBW := Lib.hid (fun w' (h : Below w1.heap.size w1 w') => below_trans HB1.out h)
    obtain ⟨B, hB⟩ : ∃ B, B = w.heap.size := ⟨_, rfl⟩
    rw [← hB] at c2 hlt1 ⊢
    clear HB1
    clear hB hK1
    go_wp2_with fail
    go_loopw [42] (fun s42 wr => ∃ k : Nat, s42 = .int .i64 k ∧ k ≤ a.length ∧ Hid (∀ j, j < k → attrB1 a j = true) ∧ Below w1.heap.size w1 wr) (fun s _ => a.length - (RowKit.intOf s).toNat)
    case atStart => exact ⟨0, rfl, by omega, Lib.hid (fun j hj => absurd hj (Nat.not_lt_zero _)), Below.refl _ _⟩
    case round =>
      obtain ⟨k, rfl, hk, hg, hbw⟩ := hrel
      have c2r := cell_below hbw c2
      by_cases hlt : k < a.length
      · rcases hA1.out with ⟨e, _⟩ | ⟨b, off, cap, e, h0, hb, hR⟩
        · rw [e] at hlt; exact absurd hlt (Nat.not_lt_zero _)
        cases e
        obtain ⟨d1, d2⟩ := hR k hlt
        have d1 := cell_below hbw d1
        have d2 := cell_below hbw d2
        have HE := Lib.hid (attrB1_eq a k hlt)
        have HNo : Hid (attrB1 a k = false → res = false) := Lib.hid (fun h => by rw [HX.out]; exact attrsOk_no a k hlt h)
        have hsz := n5 a[k] (List.getElem_mem hlt)
        have hnk := fun w => named_any (a[k]).1 hsz.1 w
        have hfk := fun w h => tfind_any (.slice (some ⟨b, off, none⟩) k ac) (a.take k) (a[k]).1 (by simp; omega) w h
        have hT := Lib.hid (fun w' (h : Below w1.heap.size w1 w') => AttrsAt.take (Nat.lt_of_lt_of_le hb h.size) (fun j hj => ⟨(h.cell (p := ⟨b, off + j * 2, none⟩) hb).trans (hR j hj).1, (h.cell (p := ⟨b, off + j * 2 + 1, none⟩) hb).trans (hR j hj).2⟩) k hlt ac)
        have hble : B < wr.heap.size := Nat.lt_of_lt_of_le hlt1 hbw.size
        have hbne : b ≠ wr.heap.size := by have := hbw.size; omega
        obtain ⟨z, hz⟩ : ∃ z, z = attrB1 a k := ⟨_, rfl⟩
        rw [← hz] at HE HNo
        have HZD := Lib.hid hz
        clear hz
        generalize fint (a[k]).1 (a.take k) = fi at *
        generalize namedP (a[k]).1 = qn at *
        generalize (a[k]).1 = x at *
        generalize (a[k]).2 = y at *
        clear hR
        go_upto_region 8 with fail
        go_cut [66] (fun s66 wx => ∃ q, s66 = .bool q ∧ Hid (q = !z) ∧ Below w1.heap.size w1 wx)
        case first =>
          have hh : (wr.alloc (.cells #[.string ⟨x.toArray⟩, .string ⟨y.toArray⟩] 130)).cell? ⟨B, 2, none⟩ = some (.slice (some ⟨b, off, none⟩) a.length ac) ∧ (wr.alloc (.cells #[.string ⟨x.toArray⟩, .string ⟨y.toArray⟩] 130)).cell? ⟨wr.heap.size, 0, none⟩ = some (.string ⟨x.toArray⟩) ∧ (wr.alloc (.cells #[.string ⟨x.toArray⟩, .string ⟨y.toArray⟩] 130)).cell? ⟨wr.heap.size, 1, none⟩ = some (.string ⟨y.toArray⟩) ∧ Below w1.heap.size w1 (wr.alloc (.cells #[.string ⟨x.toArray⟩, .string ⟨y.toArray⟩] 130)) :=
            ⟨cell_below ((Below.refl _ _).alloc (Nat.le_refl _) _) c2r, by rw [World.cell?_alloc_new]; rfl, by rw [World.cell?_alloc_new]; rfl, hbw.alloc hbw.size _⟩
          clear c2r d1 d2 hbw hA1 c2
          have gE : decide (y.length ≤ 4000) = decide ((y.length : Int) ≤ 4000) := decide_eq_decide.2 (by omega)
          have gF : decide (fi < 0) = !decide (0 ≤ fi) := by rw [← decide_not]; exact decide_eq_decide.2 (by omega)
          have HE2 : Hid (z = (qn && decide ((y.length : Int) ≤ 4000) && !decide (0 ≤ fi))) := Lib.hid (by rw [← gE, ← gF]; exact HE.out)
          clear gE gF HE
          have hnq : ∀ w, Calls Tryz.prog 235 #[.string ⟨x.toArray⟩] w fun e w' => e = .returned (.bool qn) ∧ w' = w := fun w => (hnk w).mono fun _ _ h => ⟨h.1, h.2.symm⟩
          cases qn
          · have c0 := hh.1
            have c1 := hh.2.1
            have c3 := hh.2.2.1
            have lowh := Lib.hid hh.2.2.2
            clear hh hnk hfk
            go_quiet (first | (go_at_call 235; refine Calls.quiet_of_same (hnq _)))
            go_wp2_with fail
            go_meet
            exact ⟨_, rfl, Lib.hid (by rw [HE2.out]; rfl), by first | exact below_drewN lowh.out _ | exact lowh.out⟩
          by_cases gy : (y.length : Int) ≤ 4000
          · have gy2 : decide (4000 < (y.length : Int)) = false := decide_eq_false (by omega)
            have hkc : (k : Int) ≤ (ac : Int) := by omega
            clear hnq
            go_region_held3 (fun w' => w'.cell? ⟨B, 2, none⟩ = some (.slice (some ⟨b, off, none⟩) a.length ac) ∧ w'.cell? ⟨wr.heap.size, 0, none⟩ = some (.string ⟨x.toArray⟩) ∧ w'.cell? ⟨wr.heap.size, 1, none⟩ = some (.string ⟨y.toArray⟩) ∧ Below w1.heap.size w1 w')
              (first | assumption | exact h3_drew hh | exact h3_low (by assumption) (h3_drew hh) | exact h3_low (by assumption) hh)
              (first | (go_at_call 235; refine (hnk _).mono ?_; rintro e w6 ⟨rfl, rfl⟩) | (go_at_call 254; refine (hfk _ (hT.out _ (And.right (And.right (And.right (by assumption)))))).mono ?_; rintro e w7 ⟨rfl, hb7⟩))
            all_goals
              go_wp2_with fail
              go_meet
              exact ⟨_, rfl, Lib.hid (by rw [HE2.out, decide_eq_true gy]; simp), And.right (And.right (And.right (by assumption)))⟩
          · have gy2 : decide (4000 < (y.length : Int)) = true := decide_eq_true (by omega)
            have c0 := hh.1
            have c1 := hh.2.1
            have c3 := hh.2.2.1
            have lowh := Lib.hid hh.2.2.2
            clear hh hnk hfk
            go_quiet (first | (go_at_call 235; refine Calls.quiet_of_same (hnq _)))
            go_wp2_with fail
            go_meet
            exact ⟨_, rfl, Lib.hid (by rw [HE2.out, decide_eq_false (by omega : ¬ (y.length : Int) ≤ 4000)]; rfl), by first | exact below_drewN lowh.out _ | exact lowh.out⟩
        case rest =>
        obtain ⟨q, rfl, hq, hbc⟩ := hcut
        cases q
        · have HZ : Hid (z = true) := Lib.hid (by have := hq.out; cases z; cases this; rfl)
          go_wp2_with fail
          go_roundw
          case rel => exact ⟨k + 1, by go_num, by omega, Lib.hid (fun j hj => by
            rcases Nat.lt_or_ge j k with g | g
            · exact hg.out j g
            · have : j = k := by omega
              subst this; exact HZD.out ▸ HZ.out), hbc⟩
          case measure => simp [RowKit.intOf]; omega
        · have HZ : Hid (res = false) := Lib.hid (HNo.out (by have := hq.out; cases z; rfl; cases this))
          go_wp2_with fail
          go_ret
          exact ⟨Go.Proofs.YtkhgfngppcemlaaGreatDoor.link.ret_bool HZ.out.symm, HBW.out _ hbc⟩
      · obtain rfl : k = a.length := by omega
        have HZ : Hid (res = true) := Lib.hid (by rw [HX.out]; exact attrsOk_of a hg.out)
        go_wp2_with fail
        go_ret
        exact ⟨Go.Proofs.YtkhgfngppcemlaaGreatDoor.link.ret_bool HZ.out.symm, HBW.out _ hbw⟩
end Go.Proofs.YtkhgfngppcemlaaGreatDoor.doc
namespace Go.Proofs.YtkhgfngppcemlaaGreatDoor.doc
open Go.ChangeShapes Go.WideShapes Go.ChangeAt Go.RowKit Go.Lib Go.Proofs.YtkhgfngppcemlaaGreatDoor.atr

theorem dec_not {p q : Prop} [Decidable p] [Decidable q] (h : p ↔ ¬ q) : decide p = !decide q := by rw [← decide_not]; exact decide_eq_decide.2 h
theorem IntsAt.cellAt {w : World} {b off cap n : Nat} {ks : List Int} (h : IntsAt w (.slice (some ⟨b, off, none⟩) n cap) ks) (j : Nat) (hj : j < ks.length) : w.cell? ⟨b, off + j, none⟩ = some (.int .i64 ks[j]) := by
  rcases h with ⟨h0, _⟩ | ⟨b', off', cap', e, _, _, h⟩
  · omega
  · cases e
    exact h j _ (ints_get ks j hj)
theorem IntsAt.addr {w : World} {v : Value} {ks : List Int} (h : IntsAt w v ks) (h0 : 0 < ks.length) : ∃ b off cap, v = .slice (some ⟨b, off, none⟩) ks.length cap ∧ b < w.heap.size := by
  rcases h with ⟨h1, _⟩ | ⟨b', off', cap', e, _, h2, _⟩
  · omega
  · exact ⟨_, _, _, e, h2⟩
theorem nodesB_no (l : List Nd) (i : Nat) (hi : i < l.length) (h : nodeB l i = false) : rightB l = false := by
  rw [← Bool.not_eq_true]
  intro g
  unfold rightB at g
  rw [Bool.and_eq_true, Bool.and_eq_true] at g
  have := List.all_eq_true.1 g.1.2 i (List.mem_range.2 hi)
  rw [h] at this; cases this
theorem climbsB_no (l : List Nd) (i : Nat) (hi : i < l.length) (h : 0 ≤ climb l (l.length + 1) i) : rightB l = false := by
  rw [← Bool.not_eq_true]
  intro g
  unfold rightB at g
  rw [Bool.and_eq_true] at g
  have := List.all_eq_true.1 g.2 i (List.mem_range.2 hi)
  have := of_decide_eq_true this
  omega
theorem rightB_yes (l : List Nd) (hh : headB l = true) (hn : ∀ i : Nat, i < l.length → nodeB l i = true) (hc : ∀ i : Nat, i < l.length → climb l (l.length + 1) i < 0) : rightB l = true := by
  unfold rightB
  rw [hh, Bool.true_and, Bool.and_eq_true]
  exact ⟨List.all_eq_true.2 (fun i hi => hn i (List.mem_range.1 hi)), List.all_eq_true.2 (fun i hi => decide_eq_true (hc i (List.mem_range.1 hi)))⟩
theorem headB_no (l : List Nd) (h : headB l = false) : rightB l = false := by unfold rightB; rw [h]; rfl
theorem kidsB_no (l : List Nd) (i : Int) (m : Nat) (hm : m < (nd l i).kids.length) (h : kidB l i (nd l i).kids[m] = false) : kidsB l i = false := by
  rw [← Bool.not_eq_true]
  intro g
  have := List.all_eq_true.1 g _ (List.getElem_mem hm)
  rw [h] at this; cases this
theorem kidsB_yes (l : List Nd) (i : Int) (h : ∀ m (hm : m < (nd l i).kids.length), kidB l i (nd l i).kids[m] = true) : kidsB l i = true := by
  unfold kidsB
  rw [List.all_eq_true]
  intro c hc
  obtain ⟨m, hm, rfl⟩ := List.getElem_of_mem hc
  exact h m hm
theorem climb_step (l : List Nd) (n : Nat) (k : Int) : climb l (n + 1) k = if k < 0 then k else climb l n (nd l k).parent := rfl
theorem climb_neg (l : List Nd) : ∀ n (k : Int), k < 0 → climb l n k = k := by
  intro n
  cases n with
  | zero => intro k _; rfl
  | succ n => intro k h; rw [climb_step, if_pos h]

end Go.Proofs.YtkhgfngppcemlaaGreatDoor.doc
namespace Go.Proofs.YtkhgfngppcemlaaGreatDoor.doc
open Go.ChangeShapes Go.WideShapes Go.ChangeAt Go.RowKit Go.Lib Go.Proofs.YtkhgfngppcemlaaGreatDoor.atr

/-- the marks of those that were met -/
def upV (n : Nat) (seen : List Int) : List Value := (List.range n).map (fun c : Nat => Value.bool (decide ((c : Int) ∈ seen)))
theorem upV_len (n : Nat) (seen : List Int) : (upV n seen).length = n := by unfold upV; simp
theorem upV_at (n : Nat) (seen : List Int) (c : Nat) (h : c < n) : (upV n seen)[c]? = some (.bool (decide ((c : Int) ∈ seen))) := by
  unfold upV; rw [List.getElem?_map, List.getElem?_range h]; rfl
theorem upV_nil (n : Nat) : upV n [] = List.replicate n (.bool false) := by
  apply List.ext_getElem?
  intro j
  rw [List.getElem?_replicate]
  by_cases h : j < n
  · rw [upV_at n [] j h, if_pos h]; simp
  · rw [List.getElem?_eq_none (by rw [upV_len]; omega), if_neg h]
theorem upV_set (n : Nat) (seen : List Int) (c : Nat) (h : c < n) : (upV n seen).set c (.bool true) = upV n (seen ++ [(c : Int)]) := by
  apply List.ext_getElem?
  intro j
  rw [List.getElem?_set]
  by_cases hj : j < n
  · rw [upV_at n (seen ++ [(c : Int)]) j hj]
    by_cases e : c = j
    · subst e
      rw [if_pos rfl, if_pos (by rw [upV_len]; exact h)]
      rw [decide_eq_true (by simp)]
    · rw [if_neg e, upV_at n seen j hj]
      congr 2
      exact decide_eq_decide.2 (by simp; omega)
  · by_cases e : c = j
    · omega
    · rw [if_neg e, List.getElem?_eq_none (by rw [upV_len]; omega), List.getElem?_eq_none (by rw [upV_len]; omega)]
theorem ownsRow_below {w w' : World} {base : Nat} {e : TypeId} {size : Nat} {v : Value} {n : Nat} {xs : List Value} (h : w.ownsRow base e size v n xs) (hb : Below w.heap.size w w') : w'.ownsRow base e size v n xs := by
  refine ⟨h.1, ?_⟩
  rcases h.2 with h | ⟨g', cap', cur, e1, e2, e3, e4⟩
  · exact .inl h
  · refine .inr ⟨g', cap', cur, e1, e2, ?_, e4⟩
    have hlt : g' < w.heap.size := by
      apply Nat.lt_of_not_le; intro k
      rw [Array.getElem?_eq_none k] at e3; cases e3
    rw [hb.block g' hlt]; exact e3
theorem parTo_le (l : List Nd) (i : Nat) : (parTo l i).length ≤ i := by
  unfold parTo
  rw [List.length_map]
  exact Nat.le_trans (List.length_filter_le _ _) (by simp)
theorem seen_le (l : List Nd) (seen : List Int) (hn : seen.Nodup) (hr : ∀ x ∈ seen, 0 ≤ x ∧ x < (l.length : Int)) : seen.length ≤ l.length := by
  have := nodup_len seen ((List.range l.length).map (fun j : Nat => (j : Int))) hn (fun x hx => by
    obtain ⟨h1, h2⟩ := hr x hx
    exact List.mem_map.2 ⟨x.toNat, List.mem_range.2 (by omega), by omega⟩)
  simpa using this
/-- what is so of the first nodes -/
structure Om (l : List Nd) (i : Nat) : Prop where
  fine : KidsFine l i
  nodup : (kidsTo l i).Nodup
  alone : ∀ j : Nat, j < i → aloneP (nd l j) = true ∧ rangeB l j = true
/-- .. and of the first children of the next one -/
structure Im (l : List Nd) (i m : Nat) : Prop where
  kid : ∀ j (hj : j < (nd l i).kids.length), j < m → kidB l i (nd l i).kids[j] = true
  nodup : (kidsTo l i ++ (nd l i).kids.take m).Nodup
theorem Om.zero (l : List Nd) : Om l 0 := ⟨fun j hj => absurd hj (Nat.not_lt_zero _), by unfold kidsTo; simp, fun j hj => absurd hj (Nat.not_lt_zero _)⟩
theorem Om.inner {l : List Nd} {i : Nat} (h : Om l i) : Im l i 0 := ⟨fun j _ hj => absurd hj (Nat.not_lt_zero _), by simpa using h.nodup⟩
theorem Om.next {l : List Nd} {i : Nat} (h : Om l i) (ha : aloneP (nd l i) = true) (hr : rangeB l i = true) (hi : Im l i (nd l i).kids.length) : Om l (i + 1) := by
  refine ⟨fun j hj => ?_, ?_, fun j hj => ?_⟩
  · rcases Nat.lt_or_ge j i with g | g
    · exact h.fine j g
    · have : j = i := by omega
      subst this; exact kidsB_yes l j (fun m hm => hi.kid m hm hm)
  · rw [kidsTo_succ]
    have := hi.nodup
    rwa [List.take_length] at this
  · rcases Nat.lt_or_ge j i with g | g
    · exact h.alone j g
    · have : j = i := by omega
      subst this; exact ⟨ha, hr⟩
theorem Im.seen {l : List Nd} {i m : Nat} (h : Om l i) (hi : Im l i m) (_hil : i < l.length) : (kidsTo l i ++ (nd l i).kids.take m).length ≤ l.length := by
  refine seen_le l _ hi.nodup (fun x hx => ?_)
  rcases List.mem_append.1 hx with hx | hx
  · obtain ⟨j, hj, hx⟩ := (mem_kidsTo l i x).1 hx
    obtain ⟨a, b, _⟩ := kidsB_mem l j x (h.fine j hj) hx
    exact ⟨a, b⟩
  · obtain ⟨j, hj, rfl⟩ := List.getElem_of_mem hx
    have hj2 : j < m ∧ j < (nd l i).kids.length := by rw [List.length_take] at hj; omega
    rw [List.getElem_take]
    obtain ⟨a, b, _⟩ := kid_of l i _ (hi.kid j hj2.2 hj2.1)
    exact ⟨a, b⟩
theorem Im.next {l : List Nd} {i m : Nat} (hi : Im l i m) (hm : m < (nd l i).kids.length) (hk : kidB l i (nd l i).kids[m] = true) (hs : (nd l i).kids[m] ∉ kidsTo l i ++ (nd l i).kids.take m) : Im l i (m + 1) := by
  refine ⟨fun j hj hjm => ?_, ?_⟩
  · rcases Nat.lt_or_ge j m with g | g
    · exact hi.kid j hj g
    · have : j = m := by omega
      subst this; exact hk
  · rw [List.take_succ_eq_append_getElem hm, ← List.append_assoc, List.nodup_append]
    refine ⟨hi.nodup, by simp, ?_⟩
    intro x hx y hy e
    rw [List.mem_singleton] at hy
    subst hy
    subst e
    exact hs hx
theorem take_snoc (l : List Nd) (i m : Nat) (hm : m < (nd l i).kids.length) : kidsTo l i ++ (nd l i).kids.take (m + 1) = (kidsTo l i ++ (nd l i).kids.take m) ++ [(nd l i).kids[m]] := by
  rw [List.take_succ_eq_append_getElem hm, List.append_assoc]
theorem twice_no (l : List Nd) (i m : Nat) (hi : i < l.length) (h : Om l i) (hm : m < (nd l i).kids.length) (hs : (nd l i).kids[m] ∈ kidsTo l i ++ (nd l i).kids.take m) : rightB l = false := by
  have := met_twice l i m hi hm h.fine _ (List.getElem?_eq_getElem hm) (List.mem_append.1 hs)
  unfold rightB
  rw [this, Bool.and_false, Bool.false_and]
theorem met_no (l : List Nd) (h : Om l l.length) (hne : (parTo l l.length).length ≠ (kidsTo l l.length).length) : rightB l = false := by
  rw [← Bool.not_eq_true]
  intro g
  refine hne ((met_all l h.fine h.nodup (fun i hi => (h.alone i hi).2)).2 (fun i hi => ?_))
  unfold rightB at g
  rw [Bool.and_eq_true, Bool.and_eq_true] at g
  have := List.all_eq_true.1 g.1.2 i (List.mem_range.2 hi)
  unfold nodeB at this
  simp only [Bool.and_eq_true] at this
  exact this.1.2
theorem met_yes (l : List Nd) (h : Om l l.length) (he : (parTo l l.length).length = (kidsTo l l.length).length) : ∀ i : Nat, i < l.length → nodeB l i = true := by
  have ho := (met_all l h.fine h.nodup (fun i hi => (h.alone i hi).2)).1 he
  intro i hi
  unfold nodeB
  rw [(h.alone i hi).1, (h.alone i hi).2, ho i hi, h.fine i hi]; rfl
theorem kids_take0 (l : List Nd) (i : Nat) : kidsTo l i ++ (nd l i).kids.take 0 = kidsTo l i := by simp
theorem infoB : (Tryz.prog.info? 4).map (fun i => (i.zero, i.size, i.bytes)) = some (some (.bool false), 1, 1) := by kernel_rfl

set_option maxHeartbeats 6400000 in
set_option maxRecDepth 100000 in
theorem right_any (v : Value) (l : List Nd) (hL : LFine l) (w : World) (hA : NodesAt w v l) :
    Calls Tryz.prog 129 #[v] w fun e w' => e = .returned (.bool (rightB l)) ∧ Below w.heap.size w w' := by
  have HN0 := Lib.hid (headB_no l)
  have HNo := Lib.hid (nodesB_no l)
  have HCl := Lib.hid (climbsB_no l)
  have HYes := Lib.hid (rightB_yes l)
  obtain ⟨res, hres⟩ : ∃ r, r = rightB l := ⟨_, rfl⟩
  have HRes : Hid (rightB l = false → res = false) := Lib.hid (fun h => hres.trans h)
  rw [← hres] at HN0 HNo HCl HYes ⊢
  clear hres
  have hlen := hL.len
  by_cases h1 : 1 ≤ l.length
  case neg =>
    have HX : Hid (res = false) := Lib.hid (HN0.out (by unfold headB; rw [decide_eq_false h1]; rfl))
    obtain ⟨oa, cap, rfl⟩ := NodesAt.lenN hA
    obtain rfl : l = [] := List.length_eq_zero_iff.1 (by omega)
    clear hA
    go_enter Tryz.func129, Tryz.ntmps129
    go_wp2_with fail
    go_ret
    exact ⟨Go.Proofs.YtkhgfngppcemlaaGreatDoor.link.ret_bool HX.out.symm, Below.refl _ _⟩
  have hz : ((l.length : Int) == 0) = false := by simp; exact fun e => by rw [e] at h1; simp at h1
  have hln : ¬ l = [] := fun e => by rw [e] at h1; simp at h1
  obtain ⟨b, off, cap, rfl, hb, hAt⟩ := NodesAt.at hA (by omega)
  have hNd := Lib.hid (fun w' (h : Below w.heap.size w w') (k : Int) (k0 : 0 ≤ k) (k1 : k < (l.length : Int)) => (hAt k k0 k1).elim fun va h1 => h1.elim fun vk h2 => (⟨va, vk, h2.below h⟩ : ∃ va vk, NodeAt w' b (off + k.toNat * 5) (nd l k) va vk))
  obtain ⟨va0, vk0, hn0⟩ := hAt 0 (by omega) (by omega)
  have hN0 := hL.nd 0 (by omega) (by omega)
  clear hA hAt
  by_cases hh : headB l = true
  case neg =>
    have hh : headB l = false := by simpa using hh
    have HX : Hid (res = false) := Lib.hid (HN0.out hh)
    have hc0 := hn0.c0
    have hc3 := hn0.c3
    rw [show (0 : Int).toNat * 5 = 0 from rfl, Nat.add_zero] at hc0 hc3
    have HH := Lib.hid hh
    unfold headB at HH
    generalize nd l 0 = n at *
    obtain ⟨nm, tx, a, p, ks⟩ := n
    dsimp only at hc0 hc3 HH
    clear hn0 hN0 HN0 HNo HCl HYes hh
    have h1' : (1 : Int) ≤ (l.length : Int) := by omega
    by_cases h4 : l.length ≤ 400
    case neg =>
      have h4' : (400 : Int) < (l.length : Int) := by omega
      clear hc0 hc3
      go_enter Tryz.func129, Tryz.ntmps129
      go_wp2_with fail
      go_ret
      exact ⟨Go.Proofs.YtkhgfngppcemlaaGreatDoor.link.ret_bool HX.out.symm, Below.refl _ _⟩
    have h4' : (l.length : Int) ≤ 400 := by omega
    cases nm with
    | nil =>
      go_enter Tryz.func129, Tryz.ntmps129
      go_wp2_with fail
      go_ret
      exact ⟨Go.Proofs.YtkhgfngppcemlaaGreatDoor.link.ret_bool HX.out.symm, Below.refl _ _⟩
    | cons c0 cr =>
      have hp : ¬ p = -1 := by
        intro e
        have := HH.out
        rw [e, decide_eq_true h1, decide_eq_true h4] at this
        cases this
      have hpb : (p != -1) = true := by simpa using hp
      have hcl : ((((c0 :: cr).length : Nat) : Int) == 0) = false := by simp; omega
      go_enter Tryz.func129, Tryz.ntmps129
      go_wp2_with fail
      go_ret
      exact ⟨Go.Proofs.YtkhgfngppcemlaaGreatDoor.link.ret_bool HX.out.symm, Below.refl _ _⟩
  have hd : l.length ≤ 400 ∧ (nd l 0).name ≠ [] ∧ (nd l 0).parent = -1 := by
    unfold headB at hh
    simp only [Bool.and_eq_true, decide_eq_true_eq, Bool.not_eq_true', List.isEmpty_eq_false_iff] at hh
    exact ⟨hh.1.1.2, hh.1.2, hh.2⟩
  have HYes := Lib.hid (HYes.out hh)
  have hc0 := hn0.c0
  have hc3 := hn0.c3
  rw [show (0 : Int).toNat * 5 = 0 from rfl, Nat.add_zero] at hc0 hc3
  obtain ⟨h4, hne, hp⟩ := hd
  rw [hp] at hc3
  obtain ⟨c0, cr, hcc⟩ : ∃ c r, (nd l 0).name = c :: r := by
    cases h : (nd l 0).name with
    | nil => exact absurd h hne
    | cons c r => exact ⟨c, r, rfl⟩
  rw [hcc] at hc0
  have h1' : (1 : Int) ≤ (l.length : Int) := by omega
  have h4' : (l.length : Int) ≤ 400 := by omega
  have hce : (c0 :: cr).isEmpty = false := rfl
  clear hn0 hN0 HN0 hh hne hp hcc
  go_enter Tryz.func129, Tryz.ntmps129
  obtain ⟨i0, hi0, hz0, hz1, hz2⟩ := info_parts infoB
  obtain ⟨w1, hmk, hown, hgrow⟩ := run_make_full (P := Tryz.prog) w w.heap.size 211 4 i0 (.bool false) 1 Tryz.underlying211 hi0 hz0 hz1 .i64 .i64 l.length (by rw [hz2]; omega) (by unfold maxLen; omega) (Nat.le_refl _)
  rw [show (madeCells (Value.bool false).cells (l.length * 1)).toList = upV l.length [] from by rw [upV_nil, Nat.mul_one]; exact toList_madeCells_one _ _] at hown
  have hb1 : Below w.heap.size w w1 := ((Below.refl _ w).grown hgrow (Nat.le_refl _) (fun k hk => by cases hk))
  obtain ⟨G, hG⟩ : ∃ G, G = w.heap.size := ⟨_, rfl⟩
  have HG0 : Hid (w.heap.size ≤ G) := Lib.hid (by omega)
  rw [← hG] at hmk
  have hown : w1.ownsRow w.heap.size 4 1 (.slice (some ⟨G, 0, none⟩) l.length l.length) l.length (upV l.length []) := by rw [hG]; exact hown
  have HOW := Lib.hid hown
  clear hi0 hz0 hz1 hz2 hgrow hown hG
  go_wp2_with fail
  clear hc0 hc3 hce hmk
  go_loopw [3, 39] (fun s3 s39 wr => ∃ i : Nat, s39 = .int .i64 i ∧ i ≤ l.length ∧ Hid (Om l i) ∧ (∃ m : Int, s3 = .int .i64 m ∧ Hid (m = ((parTo l i).length : Int) - ((kidsTo l i).length : Int))) ∧ Hid (wr.ownsRow w.heap.size 4 1 (.slice (some ⟨G, 0, none⟩) l.length l.length) l.length (upV l.length (kidsTo l i))) ∧ Below w.heap.size w wr) (fun _ s39 _ => l.length - (RowKit.intOf s39).toNat)
  case atStart => exact ⟨0, rfl, by omega, Lib.hid (Om.zero l), ⟨0, rfl, Lib.hid (by simp [parTo, kidsTo])⟩, Lib.hid (by simpa [kidsTo] using HOW.out), hb1⟩
  case round =>
    obtain ⟨i, rfl, hi, hom, ⟨mt, rfl, hmt⟩, hown, hbw⟩ := hrel
    by_cases hlt : i < l.length
    · obtain ⟨va, vk, hn⟩ := hNd.out w (Below.refl _ _) i (by omega) (by omega)
      have hfn := hL.nd i (by omega) (by omega)
      rw [Int.toNat_natCast] at hn
      have HKW := Lib.hid (fun w' (h : Below w.heap.size w w') => IntsAt.below hn.kids h)
      have hn := hn.below hbw
      have HNi := Lib.hid (HNo.out i hlt)
      have HB : Hid (nodeB l i = (aloneP (nd l i) && rangeB l i && onceB l i && kidsB l i)) := Lib.hid rfl
      have HR1 : Hid (rangeB l i = (decide (-1 ≤ (nd l i).parent) && decide ((nd l i).parent < (l.length : Int)))) := Lib.hid rfl
      have HPS := Lib.hid (parTo_succ l i)
      have HPL := Lib.hid (parTo_le l i)
      have HKS0 : Hid (kidsTo l (i + 1) = kidsTo l i ++ (nd l i).kids) := Lib.hid (kidsTo_succ l i)
      have HK2 := Lib.hid (kidsB_no l i)
      have HI0 := Lib.hid hom.out.inner
      have HTW := Lib.hid (fun m => twice_no l i m hlt hom.out)
      have HTS := Lib.hid (fun m => take_snoc l i m)
      have HIN := Lib.hid (fun m (h : Im l i m) => h.next)
      have HSE := Lib.hid (fun m (h : Im l i m) => h.seen hom.out hlt)
      have HON := Lib.hid (fun ha hr h => hom.out.next (i := i) ha hr h)
      obtain ⟨n, hnn⟩ : ∃ n, n = nd l i := ⟨_, rfl⟩
      rw [← hnn] at hn hfn HKW HB HR1 HPS HKS0 HK2 HTW HTS HIN HSE HON
      have HD := Lib.hid hnn
      clear hnn
      obtain ⟨nm, tx, a, p, ks⟩ := n
      have ha := fun w h1 h2 h3 => one_any ⟨nm, tx, a, p, ks⟩ va vk hfn w h1 h2 h3
      unfold nodeV at ha
      dsimp only at ha HB HR1 HPS HKS0 HK2 HTW HTS HIN HSE
      obtain ⟨d0, d1, d2, d3, d4, hat, hks, hcap⟩ := hn
      have hkl : ks.length ≤ 17592186044416 := hfn.kids
      have hkw := Lib.hid hfn.kid
      have hpw := wf_range hfn.par
      dsimp only at d0 d1 d2 d3 d4 hat hks hpw hkw HKW
      obtain ⟨qa, hqa⟩ : ∃ q, q = aloneP ⟨nm, tx, a, p, ks⟩ := ⟨_, rfl⟩
      rw [← hqa] at ha HB HON
      have HQA := Lib.hid hqa
      clear hfn hqa
      obtain ⟨ka, kc, rfl⟩ := RowAt.lenN hks
      obtain ⟨aa, ac, rfl⟩ := AttrsAt.lenN hat
      obtain ⟨W2, hW2⟩ : ∃ W2, W2 = wr.alloc (.cells #[.string ⟨nm.toArray⟩, .string ⟨tx.toArray⟩, .slice aa a.length ac, .int .i64 p, .slice ka ks.length kc] 84) := ⟨_, rfl⟩
      have hlow2 : Below wr.heap.size wr W2 := by rw [hW2]; exact (Below.refl _ _).alloc (Nat.le_refl _) _
      have f3 : W2.cell? ⟨wr.heap.size, 3, none⟩ = some (.int .i64 p) := by rw [hW2, World.cell?_alloc_new]; rfl
      have f4 : W2.cell? ⟨wr.heap.size, 4, none⟩ = some (.slice ka ks.length kc) := by rw [hW2, World.cell?_alloc_new]; rfl
      go_upto_region 8 with fail
      rw [← hW2]
      go_cut [58] (fun s58 wx => ∃ q, s58 = .bool q ∧ Hid (q = !(qa && decide (-1 ≤ p) && decide (p < (l.length : Int)))) ∧ Below W2.heap.size W2 wx)
      case first =>
        have HAt := Lib.hid (hat.below hlow2)
        have HKt := Lib.hid (IntsAt.below hks hlow2)
        have f0 : W2.cell? ⟨wr.heap.size, 0, none⟩ = some (.string ⟨nm.toArray⟩) := by rw [hW2, World.cell?_alloc_new]; rfl
        have f1 : W2.cell? ⟨wr.heap.size, 1, none⟩ = some (.string ⟨tx.toArray⟩) := by rw [hW2, World.cell?_alloc_new]; rfl
        have f2 : W2.cell? ⟨wr.heap.size, 2, none⟩ = some (.slice aa a.length ac) := by rw [hW2, World.cell?_alloc_new]; rfl
        have hsz : wr.heap.size < W2.heap.size := lt_of_cell f0
        clear hW2 d0 d1 d2 d3 d4 hat hks
        cases qa
        · go_wp2_with fail
          refine (ha _ HAt.out HKt.out hcap).mono ?_
          rintro e w' ⟨rfl, hb'⟩
          go_wp2_with fail
          go_meet
          exact ⟨_, rfl, Lib.hid rfl, hb'⟩
        · by_cases g1 : p < -1
          · go_wp2_with fail
            refine (ha _ HAt.out HKt.out hcap).mono ?_
            rintro e w' ⟨rfl, hb'⟩
            have f3' := cell_below hb' f3
            go_wp2_with fail
            go_meet
            exact ⟨_, rfl, Lib.hid (by rw [decide_eq_false (by omega : ¬ -1 ≤ p)]; rfl), hb'⟩
          · go_wp2_with fail
            refine (ha _ HAt.out HKt.out hcap).mono ?_
            rintro e w' ⟨rfl, hb'⟩
            have f3' := cell_below hb' f3
            go_wp2_with fail
            go_meet
            exact ⟨_, rfl, Lib.hid (by rw [decide_eq_true (by omega : -1 ≤ p), Bool.true_and, Bool.true_and, decide_eq_false (by omega : ¬ p < -1), Bool.false_or]; exact dec_not (by omega)), hb'⟩
      case rest =>
      obtain ⟨q, rfl, hq, hbc⟩ := hcut
      have hbw2 := below_trans hbw (below_trans hlow2 hbc)
      cases q
      case true =>
        have HX : Hid (res = false) := Lib.hid (HNi.out (by
          rw [HB.out, HR1.out]
          have := hq.out
          revert this
          rw [← Bool.and_assoc]
          generalize (qa && decide (-1 ≤ p) && decide (p < (l.length : Int))) = z
          intro h; cases z
          · rfl
          · cases h))
        go_wp2_with fail
        go_ret
        exact ⟨Go.Proofs.YtkhgfngppcemlaaGreatDoor.link.ret_bool HX.out.symm, hbw2⟩
      have hqq : qa = true ∧ -1 ≤ p ∧ p < (l.length : Int) := by
        have := hq.out
        revert this
        cases qa <;> simp
      obtain ⟨rfl, hp1, hp2⟩ := hqq
      have HRg : Hid (rangeB l i = true) := Lib.hid (by rw [HR1.out, decide_eq_true hp1, decide_eq_true hp2]; rfl)
      have HB : Hid (kidsB l i = false → nodeB l i = false) := Lib.hid (fun h => by rw [HB.out, h, Bool.and_false])
      have HON2 : Hid (Im l i ks.length → Om l (i + 1)) := Lib.hid (fun h => HON.out rfl HRg.out h)
      clear HON
      have f3 := cell_below hbc f3
      have f4 := cell_below hbc f4
      have HOW2 := Lib.hid (ownsRow_below hown.out (below_trans hlow2 hbc))
      have HNc := Lib.hid (fun k k0 k1 => hNd.out wc hbw2 k k0 k1)
      have hpl := HPL.out
      have hk0 := Im.seen hom.out HI0.out hlt
      rw [kids_take0] at hk0
      obtain ⟨P0, hP0⟩ : ∃ P0, P0 = (parTo l i).length := ⟨_, rfl⟩
      obtain ⟨K0, hK0⟩ : ∃ K0, K0 = (kidsTo l i).length := ⟨_, rfl⟩
      obtain ⟨P1, hP1⟩ : ∃ P1, P1 = (parTo l (i + 1)).length := ⟨_, rfl⟩
      have HP1 := Lib.hid hP1
      have HPS := HPS.out
      rw [← hP0] at hpl hmt HPS
      rw [← hP1] at HPS
      rw [← hK0] at hmt hk0
      have HK0 := Lib.hid hK0
      have hmt' := hmt.out
      clear hP0 hK0 hP1 ha hq HR1 d0 d1 d2 d3 d4 hat hks hcap hW2 hlow2 hmt hown
      go_upto_if 61 with fail
      go_cut [3] (fun s3 wx => ∃ m : Int, s3 = .int .i64 m ∧ Hid (m = (P1 : Int) - K0) ∧ wx = wc)
      case first =>
        by_cases g : 0 ≤ p
        · rw [if_pos g] at HPS
          have HE : Hid (mt + 1 = (P1 : Int) - K0) := Lib.hid (by omega)
          have hwr : wrap64 (mt + 1) = mt + 1 := by unfold wrap64; omega
          clear HPS hmt'
          go_wp2_with fail
          go_meet
          exact ⟨mt + 1, by first | rfl | rw [hwr], HE, rfl⟩
        · rw [if_neg g] at HPS
          have HE : Hid (mt = (P1 : Int) - K0) := Lib.hid (by omega)
          clear HPS hmt'
          go_wp2_with fail
          go_meet
          exact ⟨_, rfl, HE, rfl⟩
      case rest =>
      obtain ⟨m1, rfl, hm1, rfl⟩ := hcut
      have hP1l : P1 ≤ i + 1 := by
        have := HP1.out
        rw [this]; exact parTo_le l (i + 1)
      clear HPS hmt' hpw hp1 hp2
      have HOW3 := HOW2
      clear HOW2
      go_wp2_with fail
      go_loopw [3, 67] (fun s3 s67 wr => ∃ (m : Nat) (mm : Int), s67 = .int .i64 m ∧ m ≤ ks.length ∧ s3 = .int .i64 mm ∧ Hid (mm = (P1 : Int) - K0 - m) ∧ Hid (Im l i m) ∧ Hid (wr.ownsRow w.heap.size 4 1 (.slice (some ⟨G, 0, none⟩) l.length l.length) l.length (upV l.length (kidsTo l i ++ ks.take m))) ∧ Below w.heap.size w wr) (fun _ s67 _ => ks.length - (RowKit.intOf s67).toNat)
      case atStart => exact ⟨0, m1, rfl, by omega, rfl, Lib.hid (by rw [hm1.out]; omega), HI0, Lib.hid (by simpa using HOW3.out), hbw2⟩
      case round =>
        obtain ⟨m, mm, rfl, hm, rfl, hmm, him, hown, hbr⟩ := hrel
        clear HOW3 hm1 f3 f4 HNc
        have HKS := Lib.hid (HKW.out _ hbr)
        by_cases hml : m < ks.length
        · obtain ⟨kb, ko, kcap, e, hkb⟩ := IntsAt.addr HKS.out (by omega)
          cases e
          have e0 := IntsAt.cellAt HKS.out m hml
          have HN2 := Lib.hid (HK2.out m hml)
          have hcw := wf_range (hkw.out ks[m] (List.getElem_mem hml))
          have HKB : Hid (kidB l i ks[m] = (decide (0 ≤ ks[m]) && decide (ks[m] < (l.length : Int)) && decide ((nd l ks[m]).parent = (i : Int)))) := Lib.hid rfl
          have HTWm := Lib.hid (HTW.out m hml)
          have HTSm := Lib.hid (HTS.out m hml)
          have HINm := Lib.hid (HIN.out m him.out hml)
          have hse := HSE.out m him.out
          rw [List.length_append, ← HK0.out, List.length_take, Nat.min_eq_left (Nat.le_of_lt hml)] at hse
          obtain ⟨seen, hseen⟩ : ∃ seen, seen = kidsTo l i ++ ks.take m := ⟨_, rfl⟩
          rw [← hseen] at hown HTWm HTSm HINm
          generalize ks[m] = c at *
          clear hseen
          by_cases g1 : c < 0
          · have HX : Hid (res = false) := Lib.hid (HNi.out (HB.out (HN2.out (by rw [HKB.out, decide_eq_false (by omega : ¬ 0 ≤ c)]; rfl))))
            go_wp2_with fail
            go_ret
            exact ⟨Go.Proofs.YtkhgfngppcemlaaGreatDoor.link.ret_bool HX.out.symm, hbr⟩
          by_cases g2 : (l.length : Int) ≤ c
          · have HX : Hid (res = false) := Lib.hid (HNi.out (HB.out (HN2.out (by rw [HKB.out, decide_eq_false (by omega : ¬ c < (l.length : Int)), Bool.and_false, Bool.false_and]))))
            go_wp2_with fail
            go_ret
            exact ⟨Go.Proofs.YtkhgfngppcemlaaGreatDoor.link.ret_bool HX.out.symm, hbr⟩
          obtain ⟨cn, rfl⟩ : ∃ cn : Nat, c = (cn : Int) := ⟨c.toNat, by omega⟩
          have hcn : cn < l.length := by omega
          have e1 := hown.out.cellAt cn (by omega)
          rw [upV_at _ _ cn hcn] at e1
          have efr := hown.out.frozenAt cn
          by_cases gs : (cn : Int) ∈ seen
          · have HX : Hid (res = false) := Lib.hid (HRes.out (HTWm.out gs))
            rw [decide_eq_true gs] at e1
            clear gs
            go_wp2_with fail
            go_ret
            exact ⟨Go.Proofs.YtkhgfngppcemlaaGreatDoor.link.ret_bool HX.out.symm, hbr⟩
          obtain ⟨vac, vkc, hnc⟩ := hNd.out _ hbr cn (by omega) (by omega)
          rw [Int.toNat_natCast] at hnc
          have e3 := hnc.c3
          clear hnc
          rw [decide_eq_false gs] at e1
          have HGS := Lib.hid gs
          clear gs
          by_cases g3 : (nd l (cn : Int)).parent = (i : Int)
          · have gb : ((nd l (cn : Int)).parent != (i : Int)) = false := by simp [g3]
            have HT : Hid (Im l i (m + 1)) := Lib.hid (HINm.out (by rw [HKB.out, decide_eq_true (by omega : (0 : Int) ≤ (cn : Int)), decide_eq_true (by omega : (cn : Int) < (l.length : Int)), decide_eq_true g3]; rfl) HGS.out)
            generalize (nd l (cn : Int)).parent = pc at *
            have HST0 := (hown.out.stored cn (.bool true)).1
            rw [upV_set _ _ cn hcn, ← HTSm.out] at HST0
            have HST := Lib.hid HST0
            have hbs := hbr.setCell (p := ⟨G, cn, none⟩) HG0.out (.bool true)
            have hmm' := hmm.out
            have HE : Hid (mm - 1 = (P1 : Int) - K0 - ((m + 1 : Nat) : Int)) := Lib.hid (by omega)
            have hwr : wrap64 (mm - 1) = mm - 1 := by unfold wrap64; omega
            clear g3 hmm' hse HST0
            go_wp2_with fail
            go_roundw
            case rel => exact ⟨m + 1, mm - 1, by go_num, by omega, by first | rfl | rw [hwr], HE, HT, HST, hbs⟩
            case measure => simp [RowKit.intOf]; omega
          · have gb : ((nd l (cn : Int)).parent != (i : Int)) = true := by simpa using g3
            have HX : Hid (res = false) := Lib.hid (HNi.out (HB.out (HN2.out (by rw [HKB.out, decide_eq_false g3, Bool.and_false]))))
            generalize (nd l (cn : Int)).parent = pc at *
            clear g3
            go_wp2_with fail
            go_ret
            exact ⟨Go.Proofs.YtkhgfngppcemlaaGreatDoor.link.ret_bool HX.out.symm, hbr⟩
        · obtain rfl : m = ks.length := by omega
          have HT : Hid (Om l (i + 1)) := Lib.hid (HON2.out him.out)
          have HO1 := hown.out
          rw [List.take_length, ← HKS0.out] at HO1
          have HO2 := Lib.hid HO1
          have HE : Hid (mm = ((parTo l (i + 1)).length : Int) - ((kidsTo l (i + 1)).length : Int)) := Lib.hid (by
            rw [hmm.out, ← HP1.out, HKS0.out, List.length_append, ← HK0.out]; omega)
          clear HO1
          go_wp2_with fail
          go_roundw
          case rel => exact ⟨i + 1, by go_num, by omega, HT, ⟨mm, rfl, HE⟩, HO2, hbr⟩
          case measure => simp [RowKit.intOf]; omega
    · obtain rfl : i = l.length := by omega
      have hNc := Lib.hid (fun k k0 k1 => hNd.out wr hbw k k0 k1)
      have HPar : Hid (∀ k : Int, 0 ≤ k → k < (l.length : Int) → -1 ≤ (nd l k).parent ∧ (nd l k).parent < (l.length : Int)) := Lib.hid (fun k k0 k1 => by
        have := (hom.out.alone k.toNat (by omega)).2
        rw [show ((k.toNat : Nat) : Int) = k from by omega] at this
        unfold rangeB at this
        simp only [Bool.and_eq_true, decide_eq_true_eq] at this
        exact this)
      clear hown hNd HOW HNo hi hlt
      by_cases gm : mt = 0
      case neg =>
        have gb : (mt != 0) = true := by simpa using gm
        have HX : Hid (res = false) := Lib.hid (HRes.out (met_no l hom.out (by have := hmt.out; omega)))
        clear gm
        go_wp2_with fail
        go_ret
        exact ⟨Go.Proofs.YtkhgfngppcemlaaGreatDoor.link.ret_bool HX.out.symm, hbw⟩
      have HAll := Lib.hid (met_yes l hom.out (by have := hmt.out; omega))
      subst gm
      go_wp2_with fail
      go_loopw [105] (fun s105 wx => ∃ i : Nat, s105 = .int .i64 i ∧ i ≤ l.length ∧ Hid (∀ j : Nat, j < i → climb l (l.length + 1) j < 0) ∧ wx = wr) (fun s _ => l.length - (RowKit.intOf s).toNat)
      case atStart => exact ⟨0, rfl, by omega, Lib.hid (fun j hj => absurd hj (Nat.not_lt_zero _)), rfl⟩
      case round =>
        obtain ⟨i, rfl, hi, hc, rfl⟩ := hrel
        by_cases hlt : i < l.length
        · have HCi := Lib.hid (HCl.out i hlt)
          go_wp2_with fail
          go_loopw [10, 11] (fun s10 s11 wx => ∃ (k : Int) (n : Nat), s10 = .int .i64 k ∧ s11 = .int .i64 n ∧ -1 ≤ k ∧ k < (l.length : Int) ∧ n ≤ l.length + 1 ∧ Hid (climb l (l.length + 1 - n) k = climb l (l.length + 1) i) ∧ wx = wr) (fun _ s11 _ => 402 - (RowKit.intOf s11).toNat)
          case atStart => exact ⟨i, 0, rfl, rfl, by omega, by omega, by omega, Lib.hid rfl, rfl⟩
          case round =>
            obtain ⟨k, n, rfl, rfl, hk1, hk2, hn, hcl, rfl⟩ := hrel
            by_cases g1 : k < 0
            · have HT : Hid (∀ j : Nat, j < i + 1 → climb l (l.length + 1) j < 0) := Lib.hid (fun j hj => by
                rcases Nat.lt_or_ge j i with g | g
                · exact hc.out j g
                · have : j = i := by omega
                  subst this; rw [← hcl.out, climb_neg l _ k g1]; exact g1)
              go_wp2_with fail
              go_roundw
              case rel => exact ⟨i + 1, by go_num, by omega, HT, by first | rfl | trivial⟩
              case measure => simp [RowKit.intOf]; omega
            by_cases g2 : n ≤ l.length
            · obtain ⟨kn, rfl⟩ : ∃ kn : Nat, k = (kn : Int) := ⟨k.toNat, by omega⟩
              obtain ⟨vac, vkc, hnc⟩ := hNc.out kn (by omega) (by omega)
              rw [Int.toNat_natCast] at hnc
              have e3 := hnc.c3
              have hpp := HPar.out kn (by omega) (by omega)
              have HT : Hid (climb l (l.length + 1 - (n + 1)) (nd l (kn : Int)).parent = climb l (l.length + 1) i) := Lib.hid (by
                have e := climb_step l (l.length + 1 - (n + 1)) (kn : Int)
                rw [if_neg (by omega), show l.length + 1 - (n + 1) + 1 = l.length + 1 - n from by omega] at e
                rw [← e]; exact hcl.out)
              generalize (nd l (kn : Int)).parent = pc at *
              clear hnc
              go_wp2_with fail
              go_roundw
              case rel => exact ⟨pc, n + 1, rfl, by go_num, hpp.1, hpp.2, by omega, HT, by first | rfl | trivial⟩
              case measure => simp [RowKit.intOf]; omega
            · obtain rfl : n = l.length + 1 := by omega
              have HX : Hid (res = false) := Lib.hid (HCi.out (by
                have := hcl.out
                rw [Nat.sub_self] at this
                rw [← this]
                show 0 ≤ k
                omega))
              go_wp2_with fail
              go_ret
              exact ⟨Go.Proofs.YtkhgfngppcemlaaGreatDoor.link.ret_bool HX.out.symm, hbw⟩
        · obtain rfl : i = l.length := by omega
          have HX : Hid (res = true) := Lib.hid (HYes.out HAll.out hc.out)
          go_wp2_with fail
          go_ret
          exact ⟨Go.Proofs.YtkhgfngppcemlaaGreatDoor.link.ret_bool HX.out.symm, hbw⟩

end Go.Proofs.YtkhgfngppcemlaaGreatDoor.doc
namespace Go.Proofs.YtkhgfngppcemlaaGreatDoor.doc
open Go.ChangeShapes Go.WideShapes Go.ChangeAt Go.RowKit Go.Lib Go.Proofs.YtkhgfngppcemlaaGreatDoor.atr Go.Proofs.YtkhgfngppcemlaaGreatDoor.link

def typesV : Value := .agg #[.string ⟨#[104, 105, 100, 100, 101, 110]⟩, .string ⟨#[116, 101, 120, 116]⟩, .string ⟨#[115, 101, 97, 114, 99, 104]⟩, .string ⟨#[116, 101, 108]⟩, .string ⟨#[117, 114, 108]⟩, .string ⟨#[101, 109, 97, 105, 108]⟩, .string ⟨#[112, 97, 115, 115, 119, 111, 114, 100]⟩, .string ⟨#[100, 97, 116, 101]⟩, .string ⟨#[109, 111, 110, 116, 104]⟩, .string ⟨#[119, 101, 101, 107]⟩, .string ⟨#[116, 105, 109, 101]⟩, .string ⟨#[100, 97, 116, 101, 116, 105, 109, 101, 45, 108, 111, 99, 97, 108]⟩, .string ⟨#[110, 117, 109, 98, 101, 114]⟩, .string ⟨#[114, 97, 110, 103, 101]⟩, .string ⟨#[99, 111, 108, 111, 114]⟩, .string ⟨#[99, 104, 101, 99, 107, 98, 111, 120]⟩, .string ⟨#[114, 97, 100, 105, 111]⟩, .string ⟨#[102, 105, 108, 101]⟩, .string ⟨#[115, 117, 98, 109, 105, 116]⟩, .string ⟨#[105, 109, 97, 103, 101]⟩, .string ⟨#[114, 101, 115, 101, 116]⟩, .string ⟨#[98, 117, 116, 116, 111, 110]⟩]
def elemsV : Value := .agg #[.string ⟨#[111, 117, 116, 112, 117, 116]⟩, .string ⟨#[102, 105, 101, 108, 100, 115, 101, 116]⟩, .string ⟨#[102, 111, 114, 109]⟩, .string ⟨#[108, 97, 98, 101, 108]⟩, .string ⟨#[111, 112, 116, 105, 111, 110]⟩, .string ⟨#[111, 112, 116, 103, 114, 111, 117, 112]⟩, .string ⟨#[108, 101, 103, 101, 110, 100]⟩, .string ⟨#[100, 97, 116, 97, 108, 105, 115, 116]⟩]

theorem types_i0 (w : World) : (Instr.index 200 typesV (.int .i64 (0 : Nat))).run Tryz.prog w = .ok (.string ⟨(typeNames[0]'(by decide)).toArray⟩) w := by kernel_rfl
theorem types_i1 (w : World) : (Instr.index 200 typesV (.int .i64 (1 : Nat))).run Tryz.prog w = .ok (.string ⟨(typeNames[1]'(by decide)).toArray⟩) w := by kernel_rfl
theorem types_i2 (w : World) : (Instr.index 200 typesV (.int .i64 (2 : Nat))).run Tryz.prog w = .ok (.string ⟨(typeNames[2]'(by decide)).toArray⟩) w := by kernel_rfl
theorem types_i3 (w : World) : (Instr.index 200 typesV (.int .i64 (3 : Nat))).run Tryz.prog w = .ok (.string ⟨(typeNames[3]'(by decide)).toArray⟩) w := by kernel_rfl
theorem types_i4 (w : World) : (Instr.index 200 typesV (.int .i64 (4 : Nat))).run Tryz.prog w = .ok (.string ⟨(typeNames[4]'(by decide)).toArray⟩) w := by kernel_rfl
theorem types_i5 (w : World) : (Instr.index 200 typesV (.int .i64 (5 : Nat))).run Tryz.prog w = .ok (.string ⟨(typeNames[5]'(by decide)).toArray⟩) w := by kernel_rfl
theorem types_i6 (w : World) : (Instr.index 200 typesV (.int .i64 (6 : Nat))).run Tryz.prog w = .ok (.string ⟨(typeNames[6]'(by decide)).toArray⟩) w := by kernel_rfl
theorem types_i7 (w : World) : (Instr.index 200 typesV (.int .i64 (7 : Nat))).run Tryz.prog w = .ok (.string ⟨(typeNames[7]'(by decide)).toArray⟩) w := by kernel_rfl
theorem types_i8 (w : World) : (Instr.index 200 typesV (.int .i64 (8 : Nat))).run Tryz.prog w = .ok (.string ⟨(typeNames[8]'(by decide)).toArray⟩) w := by kernel_rfl
theorem types_i9 (w : World) : (Instr.index 200 typesV (.int .i64 (9 : Nat))).run Tryz.prog w = .ok (.string ⟨(typeNames[9]'(by decide)).toArray⟩) w := by kernel_rfl
theorem types_i10 (w : World) : (Instr.index 200 typesV (.int .i64 (10 : Nat))).run Tryz.prog w = .ok (.string ⟨(typeNames[10]'(by decide)).toArray⟩) w := by kernel_rfl
theorem types_i11 (w : World) : (Instr.index 200 typesV (.int .i64 (11 : Nat))).run Tryz.prog w = .ok (.string ⟨(typeNames[11]'(by decide)).toArray⟩) w := by kernel_rfl
theorem types_i12 (w : World) : (Instr.index 200 typesV (.int .i64 (12 : Nat))).run Tryz.prog w = .ok (.string ⟨(typeNames[12]'(by decide)).toArray⟩) w := by kernel_rfl
theorem types_i13 (w : World) : (Instr.index 200 typesV (.int .i64 (13 : Nat))).run Tryz.prog w = .ok (.string ⟨(typeNames[13]'(by decide)).toArray⟩) w := by kernel_rfl
theorem types_i14 (w : World) : (Instr.index 200 typesV (.int .i64 (14 : Nat))).run Tryz.prog w = .ok (.string ⟨(typeNames[14]'(by decide)).toArray⟩) w := by kernel_rfl
theorem types_i15 (w : World) : (Instr.index 200 typesV (.int .i64 (15 : Nat))).run Tryz.prog w = .ok (.string ⟨(typeNames[15]'(by decide)).toArray⟩) w := by kernel_rfl
theorem types_i16 (w : World) : (Instr.index 200 typesV (.int .i64 (16 : Nat))).run Tryz.prog w = .ok (.string ⟨(typeNames[16]'(by decide)).toArray⟩) w := by kernel_rfl
theorem types_i17 (w : World) : (Instr.index 200 typesV (.int .i64 (17 : Nat))).run Tryz.prog w = .ok (.string ⟨(typeNames[17]'(by decide)).toArray⟩) w := by kernel_rfl
theorem types_i18 (w : World) : (Instr.index 200 typesV (.int .i64 (18 : Nat))).run Tryz.prog w = .ok (.string ⟨(typeNames[18]'(by decide)).toArray⟩) w := by kernel_rfl
theorem types_i19 (w : World) : (Instr.index 200 typesV (.int .i64 (19 : Nat))).run Tryz.prog w = .ok (.string ⟨(typeNames[19]'(by decide)).toArray⟩) w := by kernel_rfl
theorem types_i20 (w : World) : (Instr.index 200 typesV (.int .i64 (20 : Nat))).run Tryz.prog w = .ok (.string ⟨(typeNames[20]'(by decide)).toArray⟩) w := by kernel_rfl
theorem types_i21 (w : World) : (Instr.index 200 typesV (.int .i64 (21 : Nat))).run Tryz.prog w = .ok (.string ⟨(typeNames[21]'(by decide)).toArray⟩) w := by kernel_rfl
theorem types_ix (k : Nat) (h : k < 22) (w : World) : (Instr.index 200 typesV (.int .i64 (k : Int))).run Tryz.prog w = .ok (.string ⟨(typeNames[k]'(by have : typeNames.length = 22 := rfl; omega)).toArray⟩) w := by
  match k, h with
  | 0, _ => exact types_i0 w
  | 1, _ => exact types_i1 w
  | 2, _ => exact types_i2 w
  | 3, _ => exact types_i3 w
  | 4, _ => exact types_i4 w
  | 5, _ => exact types_i5 w
  | 6, _ => exact types_i6 w
  | 7, _ => exact types_i7 w
  | 8, _ => exact types_i8 w
  | 9, _ => exact types_i9 w
  | 10, _ => exact types_i10 w
  | 11, _ => exact types_i11 w
  | 12, _ => exact types_i12 w
  | 13, _ => exact types_i13 w
  | 14, _ => exact types_i14 w
  | 15, _ => exact types_i15 w
  | 16, _ => exact types_i16 w
  | 17, _ => exact types_i17 w
  | 18, _ => exact types_i18 w
  | 19, _ => exact types_i19 w
  | 20, _ => exact types_i20 w
  | 21, _ => exact types_i21 w
  | k + 22, h => exact absurd h (by omega)
theorem elems_i0 (w : World) : (Instr.index 202 elemsV (.int .i64 (0 : Nat))).run Tryz.prog w = .ok (.string ⟨(elemNames[0]'(by decide)).toArray⟩) w := by kernel_rfl
theorem elems_i1 (w : World) : (Instr.index 202 elemsV (.int .i64 (1 : Nat))).run Tryz.prog w = .ok (.string ⟨(elemNames[1]'(by decide)).toArray⟩) w := by kernel_rfl
theorem elems_i2 (w : World) : (Instr.index 202 elemsV (.int .i64 (2 : Nat))).run Tryz.prog w = .ok (.string ⟨(elemNames[2]'(by decide)).toArray⟩) w := by kernel_rfl
theorem elems_i3 (w : World) : (Instr.index 202 elemsV (.int .i64 (3 : Nat))).run Tryz.prog w = .ok (.string ⟨(elemNames[3]'(by decide)).toArray⟩) w := by kernel_rfl
theorem elems_i4 (w : World) : (Instr.index 202 elemsV (.int .i64 (4 : Nat))).run Tryz.prog w = .ok (.string ⟨(elemNames[4]'(by decide)).toArray⟩) w := by kernel_rfl
theorem elems_i5 (w : World) : (Instr.index 202 elemsV (.int .i64 (5 : Nat))).run Tryz.prog w = .ok (.string ⟨(elemNames[5]'(by decide)).toArray⟩) w := by kernel_rfl
theorem elems_i6 (w : World) : (Instr.index 202 elemsV (.int .i64 (6 : Nat))).run Tryz.prog w = .ok (.string ⟨(elemNames[6]'(by decide)).toArray⟩) w := by kernel_rfl
theorem elems_i7 (w : World) : (Instr.index 202 elemsV (.int .i64 (7 : Nat))).run Tryz.prog w = .ok (.string ⟨(elemNames[7]'(by decide)).toArray⟩) w := by kernel_rfl
theorem elems_ix (k : Nat) (h : k < 8) (w : World) : (Instr.index 202 elemsV (.int .i64 (k : Int))).run Tryz.prog w = .ok (.string ⟨(elemNames[k]'(by have : elemNames.length = 8 := rfl; omega)).toArray⟩) w := by
  match k, h with
  | 0, _ => exact elems_i0 w
  | 1, _ => exact elems_i1 w
  | 2, _ => exact elems_i2 w
  | 3, _ => exact elems_i3 w
  | 4, _ => exact elems_i4 w
  | 5, _ => exact elems_i5 w
  | 6, _ => exact elems_i6 w
  | 7, _ => exact elems_i7 w
  | k + 8, h => exact absurd h (by omega)
theorem place_at (s : List UInt8) : ∀ (l : List (List UInt8)) (k : Nat) (h : k < l.length), (∀ j (hj : j < k), l[j] ≠ s) → l[k] = s → placeL s l = k := by
  intro l
  induction l with
  | nil => intro k h; exact absurd h (Nat.not_lt_zero _)
  | cons x r ih =>
    intro k h hn e
    cases k with
    | zero =>
      have e : x = s := e
      unfold placeL; rw [if_pos e]
    | succ k =>
      have h0 : x ≠ s := hn 0 (Nat.succ_pos _)
      unfold placeL; rw [if_neg h0, ih k (by simpa using h) (fun j hj => hn (j + 1) (by omega)) e]
theorem place_no (s : List UInt8) : ∀ (l : List (List UInt8)), (∀ j (hj : j < l.length), l[j] ≠ s) → placeL s l = l.length := by
  intro l
  induction l with
  | nil => intro _; rfl
  | cons x r ih =>
    intro hn
    have h0 : x ≠ s := hn 0 (Nat.succ_pos _)
    unfold placeL; rw [if_neg h0, ih (fun j hj => hn (j + 1) (by simpa using hj))]; rfl
theorem find_mem (nm : List UInt8) (l : List Attr) (s : List UInt8) (h : fval nm l = some s) : ∃ a ∈ l, a.2 = s := by
  induction l with
  | nil => cases h
  | cons a r ih =>
    unfold fval at h
    split at h
    · exact ⟨a, List.mem_cons_self, Option.some.inj h⟩
    · obtain ⟨b, hb, e⟩ := ih h
      exact ⟨b, List.mem_cons_of_mem _ hb, e⟩

def typesC : List Value := typeNames.map (fun s => .string ⟨s.toArray⟩)
theorem typesC_is : Value.agg typesC.toArray = typesV := by rfl
theorem typesC_one : ∀ v ∈ typesC, v.oneCell' = true := by
  intro v hv
  obtain ⟨s, _, rfl⟩ := List.mem_map.1 hv
  rfl
theorem there_fresh (w : World) (cs : Array Value) (T : TypeId) (n : Nat) (h : n ≤ cs.size) : (w.alloc (.cells cs T)).there w.heap.size 0 n := fun j hj => by
  rw [Nat.zero_add]
  refine ⟨?_, ?_⟩
  · rw [World.cell?_alloc_new, Array.getElem?_eq_getElem (by omega)]; rfl
  · simp
theorem setCells_below {w0 : World} {b : Nat} (hb : w0.heap.size ≤ b) : ∀ (vs : List Value) (o : Nat) (w : World), Below w0.heap.size w0 w → Below w0.heap.size w0 (w.setCells b o vs)
  | [], _, _, h => h
  | v :: r, o, _, h => setCells_below hb r (o + 1) _ (h.setCell (p := ⟨b, o, none⟩) hb v)
set_option maxHeartbeats 1600000 in
set_option maxRecDepth 100000 in
theorem types_any (w : World) : Calls Tryz.prog 205 #[] w fun e w' => e = .returned typesV ∧ Below w.heap.size w w' := by
  have hlen : typesC.length = 22 := rfl
  have hu : Tryz.prog.underlying 200 = some (.array 22 9) := by kernel_rfl
  have hsz : (Tryz.prog.info? 200).map (·.size) = some 22 := by kernel_rfl
  go_enter Tryz.func205, Tryz.ntmps205
  go_wp2_with (refine wpList_store_mid rfl 200 _ _ rfl w.heap.size 0 typesC.toArray rfl rfl ?s1 ?s2 ?s3 ?s4)
  case s1 => exact there_fresh w _ _ _ (by decide)
  case s2 => rw [hsz]; rfl
  case s3 => exact all_oneCell_toArray typesC_one
  case s4 =>
  have hr := World.rangeAt_setCells_same _ w.heap.size 0 typesC (there_fresh w #[.string ⟨#[]⟩, .string ⟨#[]⟩, .string ⟨#[]⟩, .string ⟨#[]⟩, .string ⟨#[]⟩, .string ⟨#[]⟩, .string ⟨#[]⟩, .string ⟨#[]⟩, .string ⟨#[]⟩, .string ⟨#[]⟩, .string ⟨#[]⟩, .string ⟨#[]⟩, .string ⟨#[]⟩, .string ⟨#[]⟩, .string ⟨#[]⟩, .string ⟨#[]⟩, .string ⟨#[]⟩, .string ⟨#[]⟩, .string ⟨#[]⟩, .string ⟨#[]⟩, .string ⟨#[]⟩, .string ⟨#[]⟩] 200 22 (Nat.le_refl _))
  have hload := run_loadVar_mid (P := Tryz.prog) _ w.heap.size 0 200 typesC _ hr hu rfl (by rw [hsz]; rfl)
  rw [typesC_is] at hload
  refine bodyPost_ret (v := typesV) ?_ rfl ⟨rfl, setCells_below (Nat.le_refl _) _ _ _ ((Below.refl _ w).alloc (Nat.le_refl _) _)⟩
  generalize (World.setCells _ _ _ _) = W at hload
  rw [rcell1 (p := 0) (ty := 200) rfl, show (asAddr _).run Tryz.prog W = .ok ⟨w.heap.size, 0, none⟩ W from rfl, Result.andThen_ok]
  exact hload

set_option maxHeartbeats 1600000 in
set_option maxRecDepth 100000 in
theorem kattr_any (n : Nd) (va vk : Value) (nm : List UInt8) (hn : n.attrs.length ≤ 140737488355328) (w : World) (hA : AttrsAt w va n.attrs) (hK : IntsAt w vk n.kids) :
    Calls Tryz.prog 204 #[nodeV n va vk, .string ⟨nm.toArray⟩] w fun e w' => e = .returned (.string ⟨((fval nm n.attrs).getD []).toArray⟩) ∧ Below w.heap.size w w' := by
  obtain ⟨nme, tx, a, p, ks⟩ := n
  dsimp only at hn hA hK
  obtain ⟨ka, kc, rfl⟩ := RowAt.lenN hK
  obtain ⟨aa, ac, rfl⟩ := AttrsAt.lenN hA
  unfold nodeV
  dsimp only
  obtain ⟨w1, hw1⟩ : ∃ w1, w1 = (w.alloc (.cells #[.string ⟨nme.toArray⟩, .string ⟨tx.toArray⟩, .slice aa a.length ac, .int .i64 p, .slice ka ks.length kc] 84)).alloc (.cells #[.string ⟨nm.toArray⟩] 9) := ⟨_, rfl⟩
  have hB1 : Below w.heap.size w w1 := by rw [hw1]; exact ((Below.refl _ w).alloc (Nat.le_refl _) _).alloc (by simp) _
  have eg : ∀ args w, (callFunc 295 args).run Tryz.prog w = .ok (.enter 295 args) w := enters_of Tryz.func295 (by kernel_rfl) rfl
  have f2 : w1.cell? ⟨w.heap.size, 2, none⟩ = some (.slice aa a.length ac) := by
    rw [hw1, World.cell?_alloc_lt _ _ _ (by simp), World.cell?_alloc_new]; rfl
  have f0 : w1.cell? ⟨w.heap.size + 1, 0, none⟩ = some (.string ⟨nm.toArray⟩) := by
    have := World.cell?_alloc_new (w.alloc (.cells #[.string ⟨nme.toArray⟩, .string ⟨tx.toArray⟩, .slice aa a.length ac, .int .i64 p, .slice ka ks.length kc] 84)) #[.string ⟨nm.toArray⟩] 9 0
    rw [World.size_alloc] at this
    rw [hw1, this]; rfl
  have hI := idxfN_any 295 #[.pointer (some ⟨w.heap.size + 1, 0, none⟩)] eg nm _ a hn w1 (hA.below hB1)
    (pred_kattr nm (w.heap.size + 1) _ (lt_of_cell f0) f0)
  have hw := fint_ways nm a
  have HA := Lib.hid hA
  have HI := Lib.hid hI
  clear hA hI eg f0
  obtain ⟨s, hs⟩ : ∃ s, s = (fval nm a).getD [] := ⟨_, rfl⟩
  rw [← hs]
  have HS := Lib.hid hs
  clear hs
  rcases hw with ⟨k, hk, h1, h2, h3, h4⟩ | ⟨h1, h2, h3⟩
  · have hI := HI.out
    rw [h1] at hI
    have HX : Hid (s = a[k].2) := Lib.hid (by rw [HS.out, h4]; rfl)
    clear h1 h2 h3 h4 HI
    rcases HA.out with ⟨rfl, _⟩ | ⟨b, off, cap, e, h0, hb, hR⟩
    · exact absurd hk (Nat.not_lt_zero _)
    cases e
    have HC : Hid (∀ w', Below w.heap.size w w' → w'.cell? ⟨b, off + k * 2 + 1, none⟩ = some (.string ⟨(a[k].2).toArray⟩)) := Lib.hid (fun w' h => (h.cell (p := ⟨b, off + k * 2 + 1, none⟩) hb).trans (hR k hk).2)
    generalize a[k].2 = y at *
    obtain rfl := HX.out
    clear hR HS HX
    go_enter Tryz.func204, Tryz.ntmps204
    go_wp2_with fail
    rw [← hw1]
    refine hI.mono ?_
    rintro e w' ⟨rfl, hb'⟩
    clear hI
    have hBB := below_trans hB1 hb'
    have hc := HC.out w' hBB
    have hf2 := cell_below hb' f2
    clear HC
    go_wp2_with fail
    go_ret
    exact ⟨rfl, hBB⟩
  · have hI := HI.out
    rw [h1] at hI
    have HX : Hid (s = []) := Lib.hid (by rw [HS.out, h3]; rfl)
    obtain rfl := HX.out
    clear h1 h2 h3 HI HA HS HX
    go_enter Tryz.func204, Tryz.ntmps204
    go_wp2_with fail
    rw [← hw1]
    refine hI.mono ?_
    rintro e w' ⟨rfl, hb'⟩
    clear hI
    go_wp2_with fail
    go_ret
    exact ⟨rfl, below_trans hB1 hb'⟩
end Go.Proofs.YtkhgfngppcemlaaGreatDoor.doc
namespace Go.Proofs.YtkhgfngppcemlaaGreatDoor.doc
open Go.ChangeShapes Go.WideShapes Go.ChangeAt Go.RowKit Go.Lib Go.Proofs.YtkhgfngppcemlaaGreatDoor.atr Go.Proofs.YtkhgfngppcemlaaGreatDoor.link

theorem typeT_len (a : List Attr) (ha : ∀ x ∈ a, x.1.length ≤ 140737488355328 ∧ x.2.length ≤ 140737488355328) : ((fval nType a).getD []).length ≤ 140737488355328 := by
  cases h : fval nType a with
  | none => simp
  | some s =>
    obtain ⟨x, hx, rfl⟩ := find_mem nType a s h
    exact (ha x hx).2
theorem kind_in_at (a : List Attr) (i : Nat) (hi : i < 22) (hn : ∀ j (hj : j < i), typeNames[j]'(by have : typeNames.length = 22 := rfl; omega) ≠ typeT a) (e : typeNames[i]'(by have : typeNames.length = 22 := rfl; omega) = typeT a) : kindP nInput a = (i : Int) + 1 := by
  have := place_at (typeT a) typeNames i (by have : typeNames.length = 22 := rfl; omega) hn e
  unfold kindP
  rw [if_pos rfl, this, if_pos hi]
theorem kind_in_no (a : List Attr) (hn : ∀ j (hj : j < 22), typeNames[j]'(by have : typeNames.length = 22 := rfl; omega) ≠ typeT a) : kindP nInput a = 2 := by
  have := place_no (typeT a) typeNames hn
  unfold kindP
  rw [if_pos rfl, this, if_neg (by decide)]
theorem kind_el_at (nm : List UInt8) (a : List Attr) (i : Nat) (hi : i < 8) (e : elemNames[i]'(by have : elemNames.length = 8 := rfl; omega) = nm) : kindP nm a = 28 + (i : Int) := by
  rw [(kind_elem nm a i (by have : elemNames.length = 8 := rfl; omega)).2 e.symm]; omega
theorem kind_el_no (nm : List UInt8) (a : List Attr) (h1 : nm ≠ nInput) (h2 : nm ≠ nButton) (h3 : nm ≠ nSelect) (h4 : nm ≠ nTextarea) (hn : ∀ j (hj : j < 8), elemNames[j]'(by have : elemNames.length = 8 := rfl; omega) ≠ nm) : kindP nm a = 0 := by
  rw [kind_rest nm a h1 h2 h3 h4, place_no nm elemNames hn, if_neg (by decide)]

set_option maxHeartbeats 3200000 in
set_option maxRecDepth 100000 in
theorem of_any (n : Nd) (va vk : Value) (hN : NFine n) (w : World) (hA : AttrsAt w va n.attrs) (hK : IntsAt w vk n.kids) :
    Calls Tryz.prog 121 #[nodeV n va vk] w fun e w' => e = .returned (.int .i64 (kindP n.name n.attrs)) ∧ Below w.heap.size w w' := by
  have hat := fun w h1 h2 => kattr_any n va vk nType hN.attrs w h1 h2
  have hlow := fun w => tlowerN_any ((fval nType n.attrs).getD []) (typeT_len n.attrs hN.an) w
  have eT : lowS ((fval nType n.attrs).getD []) = typeT n.attrs := rfl
  rw [eT] at hlow
  clear eT hN
  obtain ⟨nme, tx, a, p, ks⟩ := n
  dsimp only at hA hK hat hlow ⊢
  obtain ⟨ka, kc, rfl⟩ := RowAt.lenN hK
  obtain ⟨aa, ac, rfl⟩ := AttrsAt.lenN hA
  unfold nodeV at hat ⊢
  dsimp only at hat ⊢
  generalize (fval nType a).getD [] = s0 at *
  obtain ⟨w1, hw1⟩ : ∃ w1, w1 = w.alloc (.cells #[.string ⟨nme.toArray⟩, .string ⟨tx.toArray⟩, .slice aa a.length ac, .int .i64 p, .slice ka ks.length kc] 84) := ⟨_, rfl⟩
  have hB1 : Below w.heap.size w w1 := by rw [hw1]; exact (Below.refl _ w).alloc (Nat.le_refl _) _
  have f0 : w1.cell? ⟨w.heap.size, 0, none⟩ = some (.string ⟨nme.toArray⟩) := by rw [hw1, World.cell?_alloc_new]; rfl
  have f1 : w1.cell? ⟨w.heap.size, 1, none⟩ = some (.string ⟨tx.toArray⟩) := by rw [hw1, World.cell?_alloc_new]; rfl
  have f2 : w1.cell? ⟨w.heap.size, 2, none⟩ = some (.slice aa a.length ac) := by rw [hw1, World.cell?_alloc_new]; rfl
  have f3 : w1.cell? ⟨w.heap.size, 3, none⟩ = some (.int .i64 p) := by rw [hw1, World.cell?_alloc_new]; rfl
  have f4 : w1.cell? ⟨w.heap.size, 4, none⟩ = some (.slice ka ks.length kc) := by rw [hw1, World.cell?_alloc_new]; rfl
  have hA1 := hA.below hB1
  have hK1 := IntsAt.below hK hB1
  clear hA hK
  have HIa := Lib.hid (kind_in_at a)
  have HIn := Lib.hid (kind_in_no a)
  have HBu : Hid (kindP nButton a = if typeT a = nReset then 26 else if typeT a = nButton then 27 else 25) := Lib.hid (by unfold kindP; rw [if_neg (by decide), if_pos rfl])
  generalize typeT a = kd at *
  obtain ⟨res, hres⟩ : ∃ r, r = kindP nme a := ⟨_, rfl⟩
  have HR := Lib.hid hres
  rw [← hres]
  clear hres
  go_enter Tryz.func121, Tryz.ntmps121
  go_wp2_with fail
  rw [← hw1]
  clear hw1
  go_wp2_with fail
  refine (hat _ hA1 hK1).mono ?_
  rintro e w2 ⟨rfl, hb2⟩
  go_wp2_with fail
  refine (hlow _).mono ?_
  rintro e w3 ⟨rfl, hb3⟩
  have g0 := cell_below (below_trans hb2 hb3) f0
  have hB3 := below_trans hB1 (below_trans hb2 hb3)
  clear f0 f1 f2 f3 f4 hat hlow hb2 hb3 hA1 hK1 hB1
  have q1 := lst_eq nme [105, 110, 112, 117, 116]
  have q2 := lst_eq nme [98, 117, 116, 116, 111, 110]
  have q3 := lst_eq nme [115, 101, 108, 101, 99, 116]
  have q4 := lst_eq nme [116, 101, 120, 116, 97, 114, 101, 97]
  by_cases h1 : nme = nInput
  · subst h1
    replace g0 : w3.cell? ⟨w.heap.size, 0, none⟩ = some (.string ⟨#[105, 110, 112, 117, 116]⟩) := g0
    clear q1 q2 q3 q4 HBu
    go_wp2_with fail
    refine (types_any _).mono ?_
    rintro e w4 ⟨rfl, hb4⟩
    have hB4 := below_trans hB3 hb4
    clear g0 hb4
    go_wp2_with fail
    go_loopw [16] (fun s16 wr => ∃ i : Nat, s16 = .int .i64 i ∧ i ≤ 22 ∧ Hid (∀ j (hj : j < i) (h : j < 22), typeNames[j]'(by have : typeNames.length = 22 := rfl; omega) ≠ kd) ∧ wr = w4) (fun s _ => 22 - (RowKit.intOf s).toNat)
    case atStart => exact ⟨0, rfl, by omega, Lib.hid (fun j hj => absurd hj (Nat.not_lt_zero _)), rfl⟩
    case round =>
      obtain ⟨i, rfl, hi, hn, rfl⟩ := hrel
      by_cases hlt : i < 22
      · have hix := fun w => types_ix i hlt w
        have he := lst_eq (typeNames[i]'(by have : typeNames.length = 22 := rfl; omega)) kd
        by_cases hq : typeNames[i]'(by have : typeNames.length = 22 := rfl; omega) = kd
        · have HX : Hid (res = (i : Int) + 1) := Lib.hid (by rw [HR.out]; exact HIa.out i hlt (fun j hj => hn.out j hj (by omega)) hq)
          rw [decide_eq_true hq] at he
          generalize typeNames[i]'(by have : typeNames.length = 22 := rfl; omega) = x at *
          clear hq hn
          go_wp2_with fail
          go_ret
          exact ⟨ret_int (by rw [HX.out]), hB4⟩
        · have HN : Hid (∀ j (hj : j < i + 1) (h : j < 22), typeNames[j]'(by have : typeNames.length = 22 := rfl; omega) ≠ kd) := Lib.hid (fun j hj h => by
            rcases Nat.lt_or_ge j i with g | g
            · exact hn.out j g h
            · have : j = i := by omega
              subst this; exact hq)
          rw [decide_eq_false hq] at he
          generalize typeNames[i]'(by have : typeNames.length = 22 := rfl; omega) = x at *
          clear hq hn
          go_wp2_with fail
          go_roundw
          case rel => exact ⟨i + 1, by go_num, by omega, HN, by first | rfl | trivial⟩
          case measure => simp [RowKit.intOf]; omega
      · have HX : Hid (res = 2) := Lib.hid (by rw [HR.out]; exact HIn.out (fun j hj => hn.out j (by omega) hj))
        clear hn
        go_wp2_with fail
        go_ret
        exact ⟨ret_int (by rw [HX.out]), hB4⟩
  replace q1 : (nme == [105, 110, 112, 117, 116]) = false := by rw [q1]; exact decide_eq_false h1
  by_cases h2 : nme = nButton
  · subst h2
    replace g0 : w3.cell? ⟨w.heap.size, 0, none⟩ = some (.string ⟨#[98, 117, 116, 116, 111, 110]⟩) := g0
    have k1 := lst_eq kd [114, 101, 115, 101, 116]
    have k2 := lst_eq kd [98, 117, 116, 116, 111, 110]
    clear q1 q2 q3 q4 HIa HIn
    by_cases r1 : kd = nReset
    · have HX : Hid (res = 26) := Lib.hid (by rw [HR.out, HBu.out, if_pos r1])
      replace k1 : (kd == [114, 101, 115, 101, 116]) = true := by rw [k1]; exact decide_eq_true r1
      clear r1 k2
      go_wp2_with fail
      go_ret
      exact ⟨ret_int (by rw [HX.out]), hB3⟩
    replace k1 : (kd == [114, 101, 115, 101, 116]) = false := by rw [k1]; exact decide_eq_false r1
    by_cases r2 : kd = nButton
    · have HX : Hid (res = 27) := Lib.hid (by rw [HR.out, HBu.out, if_neg r1, if_pos r2])
      replace k2 : (kd == [98, 117, 116, 116, 111, 110]) = true := by rw [k2]; exact decide_eq_true r2
      clear r1 r2
      go_wp2_with fail
      go_ret
      exact ⟨ret_int (by rw [HX.out]), hB3⟩
    · have HX : Hid (res = 25) := Lib.hid (by rw [HR.out, HBu.out, if_neg r1, if_neg r2])
      replace k2 : (kd == [98, 117, 116, 116, 111, 110]) = false := by rw [k2]; exact decide_eq_false r2
      clear r1 r2
      go_wp2_with fail
      go_ret
      exact ⟨ret_int (by rw [HX.out]), hB3⟩
  replace q2 : (nme == [98, 117, 116, 116, 111, 110]) = false := by rw [q2]; exact decide_eq_false h2
  by_cases h3 : nme = nSelect
  · have HX : Hid (res = 23) := Lib.hid (by rw [HR.out, h3, kind_select])
    replace q3 : (nme == [115, 101, 108, 101, 99, 116]) = true := by rw [q3]; exact decide_eq_true h3
    clear h1 h2 h3
    go_wp2_with fail
    go_ret
    exact ⟨ret_int (by rw [HX.out]), hB3⟩
  replace q3 : (nme == [115, 101, 108, 101, 99, 116]) = false := by rw [q3]; exact decide_eq_false h3
  by_cases h4 : nme = nTextarea
  · have HX : Hid (res = 24) := Lib.hid (by rw [HR.out, h4, kind_area])
    replace q4 : (nme == [116, 101, 120, 116, 97, 114, 101, 97]) = true := by rw [q4]; exact decide_eq_true h4
    clear h1 h2 h4
    go_wp2_with fail
    go_ret
    exact ⟨ret_int (by rw [HX.out]), hB3⟩
  replace q4 : (nme == [116, 101, 120, 116, 97, 114, 101, 97]) = false := by rw [q4]; exact decide_eq_false h4
  have HEa := Lib.hid (kind_el_at nme a)
  have HEn := Lib.hid (kind_el_no nme a h1 h2 h3 h4)
  clear h1 h2 h3 h4 HIa HIn HBu
  go_wp2_with fail
  clear q1 q2 q3 q4
  go_loopw [38] (fun s38 wr => ∃ i : Nat, s38 = .int .i64 i ∧ i ≤ 8 ∧ Hid (∀ j (hj : j < i) (h : j < 8), elemNames[j]'(by have : elemNames.length = 8 := rfl; omega) ≠ nme) ∧ wr = w3) (fun s _ => 8 - (RowKit.intOf s).toNat)
  case atStart => exact ⟨0, rfl, by omega, Lib.hid (fun j hj => absurd hj (Nat.not_lt_zero _)), rfl⟩
  case round =>
    obtain ⟨i, rfl, hi, hn, rfl⟩ := hrel
    by_cases hlt : i < 8
    · have hix := fun w => elems_ix i hlt w
      unfold elemsV at hix
      have he := lst_eq (elemNames[i]'(by have : elemNames.length = 8 := rfl; omega)) nme
      by_cases hq : elemNames[i]'(by have : elemNames.length = 8 := rfl; omega) = nme
      · have HX : Hid (res = 28 + (i : Int)) := Lib.hid (by rw [HR.out]; exact HEa.out i hlt hq)
        rw [decide_eq_true hq] at he
        generalize elemNames[i]'(by have : elemNames.length = 8 := rfl; omega) = x at *
        clear hq hn
        go_wp2_with fail
        go_ret
        exact ⟨ret_int (by rw [HX.out]), hB3⟩
      · have HN : Hid (∀ j (hj : j < i + 1) (h : j < 8), elemNames[j]'(by have : elemNames.length = 8 := rfl; omega) ≠ nme) := Lib.hid (fun j hj h => by
          rcases Nat.lt_or_ge j i with g | g
          · exact hn.out j g h
          · have : j = i := by omega
            subst this; exact hq)
        rw [decide_eq_false hq] at he
        generalize elemNames[i]'(by have : elemNames.length = 8 := rfl; omega) = x at *
        clear hq hn
        go_wp2_with fail
        go_roundw
        case rel => exact ⟨i + 1, by go_num, by omega, HN, by first | rfl | trivial⟩
        case measure => simp [RowKit.intOf]; omega
    · have HX : Hid (res = 0) := Lib.hid (by rw [HR.out]; exact HEn.out (fun j hj => hn.out j (by omega) hj))
      clear hn
      go_wp2_with fail
      go_ret
      exact ⟨ret_int (by rw [HX.out]), hB3⟩
end Go.Proofs.YtkhgfngppcemlaaGreatDoor.doc
