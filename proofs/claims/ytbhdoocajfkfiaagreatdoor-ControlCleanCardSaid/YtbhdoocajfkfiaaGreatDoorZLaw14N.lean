/- law14: the walk of ControlClean. -/
import Derived.Test.YtbhdoocajfkfiaaGreatDoorZOuts
import Derived.Deep.RegionHeld3
namespace Go.Proofs.YtbhdoocajfkfiaaGreatDoor.ctl
open Go.ChangeShapes Go.WideShapes Go.ChangeAt Go.RowKit Go.Lib Go.Proofs.YtbhdoocajfkfiaaGreatDoor.num Go.Proofs.YtbhdoocajfkfiaaGreatDoor.mom Go.Proofs.YtbhdoocajfkfiaaGreatDoor.fits Go.Proofs.YtbhdoocajfkfiaaGreatDoor.atr Go.Proofs.YtbhdoocajfkfiaaGreatDoor.link Go.Proofs.YtbhdoocajfkfiaaGreatDoor.stp Go.Proofs.YtbhdoocajfkfiaaGreatDoor.cln

theorem alloc2_cell (w : World) (o1 : Obj) (c : Array Value) (T : TypeId) (j : Nat) : ((w.alloc o1).alloc (.cells c T)).cell? ⟨w.heap.size + 1, j, none⟩ = c[j]? := by
  have h := World.cell?_alloc_new (w.alloc o1) c T j
  rw [show (w.alloc o1).heap.size = w.heap.size + 1 from by simp] at h
  exact h
set_option maxHeartbeats 6400000 in
set_option maxRecDepth 100000 in
theorem clean_walk (kind : Int) (hk : i64 kind) (v : List UInt8) (d t ch dc m s ds : Bool) (cu : List UInt8) (f : Value) (fs : List Ent) (hbig : fs.length * 72 ≤ 140737488355328) (__hnm : ∀ x ∈ fs, x.fname.length ≤ 1000000000000000) (va : Value) (l : List Attr) (x : List UInt8) (_hx : (⟨x.toArray⟩ : ByteArray).size ≤ maxLen) (k2 : Int) (_hk2 : i64 k2) (w : World) (hA : AttrsAt w va l) (hF : EntsAt w f fs) (hG : G w) (hE : GE w) :
    Calls Tryz.prog 8 #[itemV kind v d t ch dc m s ds cu f va, .string ⟨x.toArray⟩, .int .i64 k2] w fun e w' => e = .returned (.bool true) ∧ Below w.heap.size w w' := by
  clear _hx
  have hlb : fs.length ≤ 10000000000000 := by omega
  obtain ⟨fa, fc, rfl⟩ := RowAt.lenN hF
  have hL := fun w h => long14_any kind v d t ch dc m s ds cu (.slice fa fs.length fc) va l x w h
  have hW := fun w g k => wakes14_any w g k
  have hB : Below w.heap.size w (w.alloc (.cells #[.int .i64 kind, .string ⟨v.toArray⟩, .bool d, .bool t, .bool ch, .bool dc, .bool m, .bool s, .bool ds, .string ⟨cu.toArray⟩, .slice fa fs.length fc, va] 27)) := (Below.refl _ _).alloc (Nat.le_refl _) _
  have hh0 := h12_blk (Blk.fresh w [.int .i64 kind, .string ⟨v.toArray⟩, .bool d, .bool t, .bool ch, .bool dc, .bool m, .bool s, .bool ds, .string ⟨cu.toArray⟩, .slice fa fs.length fc, va] 27) hB
  unfold itemV at hL ⊢
  go_enter Tryz.func8, Tryz.ntmps8
  go_wp2_with fail
  refine (hW _ (hG.below hB) (hE.below hB)).mono ?_
  rintro e w1 ⟨rfl, hb1⟩
  have hh1 := h12_below hb1 hh0
  have HH1 := hh1
  obtain ⟨c0, c1, c2, c3, c4, c5, c6, c7, c8, c9, c10, c11, hlow⟩ := HH1
  have lt1 := lt_of_cell c0
  have ne1 : ¬ w.heap.size = w1.heap.size := by omega
  have nf1 : ¬ w1.heap.size = w.heap.size := by omega
  clear hW
  go_wp2_with fail
  refine (hL _ (hA.below (h12_last hh1))).mono ?_
  rintro e w2 ⟨⟨b, rfl, hS⟩, hb2⟩
  have hh2 := h12_below hb2 hh1
  have HH2 := hh2
  clear c0 c1 c2 c3 c4 c5 c6 c7 c8 c9 c10 c11 hlow
  obtain ⟨c0, c1, c2, c3, c4, c5, c6, c7, c8, c9, c10, c11, hlow⟩ := HH2
  have lt2 := lt_of_cell c0
  have ne2 : ¬ w.heap.size = w2.heap.size := by omega
  have nf2 : ¬ w2.heap.size = w.heap.size := by omega
  clear hL
  cases b
  case true =>
    go_wp2_with fail
    go_ret
    exact ⟨rfl, h12_last hh2⟩
  have hSh := hS rfl
  have hfine := hSh.fine
  have hvl := hSh.value
  have hxl := hSh.text
  have heach := hSh.each
  clear hS hb1 hb2 hh0 hB hSh
  have low2 := Lib.hid (h12_last hh2)
  have hA2 := hA.below low2.out
  have hF2 := EntsAt.below hF low2.out
  have hG2 := hG.below low2.out
  have hE2 := hE.below low2.out
  have hh := And.intro c0 (And.intro c1 (And.intro c2 (And.intro c3 (And.intro c4 (And.intro c5 (And.intro c6 (And.intro c7 (And.intro c8 (And.intro c9 (And.intro c10 (And.intro c11 (Below.refl w2.heap.size w2))))))))))))
  have HH := Lib.hid hh
  clear hh hh2 hh1 hA hF hG hE
  have hx6 : x.length ≤ 1000000 := by omega
  by_cases g24 : kind = 24
  · subst g24
    go_wp2_with fail
    go_ret
    exact ⟨rfl, low2.out⟩
  by_cases g28 : kind = 28
  · subst g28
    go_wp2_with fail
    go_ret
    exact ⟨rfl, low2.out⟩
  have q24 : (kind == 24) = false := by simp [g24]
  have q28 : (kind == 28) = false := by simp [g28]
  have gs := Lib.hid (good_start kind g24 g28 l x (fun a ha => by have := heach a ha; omega))
  have h1 := fun w h3 h4 h5 => Start_any kind va l hfine x hx6 w h3 h4 h5
  have h2 := fun w h3 h4 h5 => Reset_any kind ⟨v, d, t, ch, dc, m, s, ds, cu, fs⟩ (.slice fa fs.length fc) ⟨_, _, _, rfl⟩ va l hfine x hx6 w h3 h4 h5
  unfold resetO at h2
  dsimp only at h2
  have hy6 := Lib.hid hx6
  generalize startV kind l x = y0 at *
  generalize startC kind l = y1 at *
  generalize startS kind l = y2 at *
  dsimp only [cV, ctlV] at h1 h2
  go_upto_region 5 with fail
  go_cut [7] (fun s7 wx => Outs w2.heap.size 2 kind l wx s7 ∧ Below w2.heap.size w2 wx)
  case first =>
    have hh := HH.out
    clear HH
    go_region_held3 (fun w' => w'.cell? ⟨w.heap.size, 0, none⟩ = some (.int .i64 kind) ∧ w'.cell? ⟨w.heap.size, 1, none⟩ = some (.string ⟨v.toArray⟩) ∧ w'.cell? ⟨w.heap.size, 2, none⟩ = some (.bool d) ∧ w'.cell? ⟨w.heap.size, 3, none⟩ = some (.bool t) ∧ w'.cell? ⟨w.heap.size, 4, none⟩ = some (.bool ch) ∧ w'.cell? ⟨w.heap.size, 5, none⟩ = some (.bool dc) ∧ w'.cell? ⟨w.heap.size, 6, none⟩ = some (.bool m) ∧ w'.cell? ⟨w.heap.size, 7, none⟩ = some (.bool s) ∧ w'.cell? ⟨w.heap.size, 8, none⟩ = some (.bool ds) ∧ w'.cell? ⟨w.heap.size, 9, none⟩ = some (.string ⟨cu.toArray⟩) ∧ w'.cell? ⟨w.heap.size, 10, none⟩ = some (.slice fa fs.length fc) ∧ w'.cell? ⟨w.heap.size, 11, none⟩ = some (va) ∧ Below w2.heap.size w2 w')
      (first | assumption | exact h12_drew hh | exact h12_below (by assumption) (h12_drew hh) | exact h12_below (by assumption) hh | exact h12_below (by assumption) (h12_below (by assumption) (h12_drew hh)) | exact h12_below (by assumption) (h12_below (by assumption) hh) | (refine h12_below ((Below.refl _ _).alloc (Nat.le_refl _) _) ?_; first | exact h12_below (by assumption) (h12_below (by assumption) (h12_drew hh)) | exact h12_below (by assumption) (h12_below (by assumption) hh)))
      (first | (go_at_call 18; refine (h1 _ (hA2.below (h12_last (by assumption))) (hG2.below (h12_last (by assumption))) (hE2.below (h12_last (by assumption)))).mono ?_; rintro e w6 ⟨rfl, hb6⟩; dsimp only [cV, ctlV]) | (go_at_call 24; refine (h2 _ (hA2.below (h12_last (by assumption))) (hG2.below (h12_last (by assumption))) (hE2.below (h12_last (by assumption)))).mono ?_; rintro e w7 ⟨f7, rfl, hf7, hb7⟩; obtain ⟨oa7, n7, cap7, rfl⟩ := hf7.isSl; dsimp only [cV, ctlV]))
    all_goals
      go_wp2_with fail
      go_meet
      exact ⟨Outs.two (by have k1 := hb6.size; have k2 := hb7.size; first | omega | (simp at k1 k2; omega)) y0 y0 [.bool false, .bool false, .bool y1, .bool false, .bool false, .bool y2, .bool false, .string ⟨#[]⟩, .slice none 0 0] [.bool false, .bool false, .bool y1, .bool false, .bool m, .bool y2, .bool false, .string ⟨cu.toArray⟩, .slice oa7 n7 cap7] rfl rfl gs.out gs.out _ rfl, h12_last (by assumption)⟩
  case rest =>
  have hh := HH.out
  clear HH
  obtain ⟨hO, hbc⟩ := hcut
  obtain ⟨g, n, cap, _, rfl, _⟩ := id hO
  have HO := Lib.hid hO
  have HH0 := Lib.hid hh
  have hh3 := h12_below hbc hh
  have HH3 := hh3
  clear c0 c1 c2 c3 c4 c5 c6 c7 c8 c9 c10 c11 hlow hh h1 h2 hO gs
  obtain ⟨c0, c1, c2, c3, c4, c5, c6, c7, c8, c9, c10, c11, hlow⟩ := HH3
  have hw := fun w h1 h2 h3 h4 => Write_any kind hk ⟨v, d, t, ch, dc, m, s, ds, cu, fs⟩ (.slice fa fs.length fc) hbig va l hfine x w h1 h2 h3 h4
  have gw := Lib.hid (good_write kind g24 ⟨v, d, t, ch, dc, m, s, ds, cu, fs⟩ l x)
  generalize writeO kind ⟨v, d, t, ch, dc, m, s, ds, cu, fs⟩ l x = r at *
  obtain ⟨⟨v1, d1, t1, ch1, dc1, m1, s1, ds1, cu1, fs1⟩, bb, er⟩ := r
  dsimp only at gw
  dsimp only [cV, ctlV] at hw
  go_wp2_with fail
  refine (hw _ (hA2.below (h12_last hh3)) (EntsAt.below hF2 (h12_last hh3)) (hG2.below (h12_last hh3)) (hE2.below (h12_last hh3))).mono ?_
  rintro e w4 ⟨f4, rfl, hf4, _, hb4⟩
  obtain ⟨oa4, n4, cap4, rfl⟩ := hf4.isSl
  dsimp only [cV, ctlV]
  clear hw hf4
  have HO := Lib.hid (HO.out.low hb4)
  have hh4 := h12_below hb4 hh3
  have HH4 := hh4
  clear c0 c1 c2 c3 c4 c5 c6 c7 c8 c9 c10 c11 hlow hh3
  obtain ⟨c0, c1, c2, c3, c4, c5, c6, c7, c8, c9, c10, c11, hlow⟩ := HH4
  have lt4 := lt_of_cell c0
  have ne4 : ¬ w.heap.size = w4.heap.size := by omega
  have nf4 : ¬ w4.heap.size = w.heap.size := by omega
  have hb4a := hh4.2.2.2.2.2.2.2.2.2.2.2.2
  go_upto_region 7 with fail
  go_cut [68] (fun s68 wx => ∃ q, s68 = .bool q ∧ Hid (q = (er == 0 && d1 && !d)) ∧ wx = w4.alloc (.cells #[.string ⟨v1.toArray⟩, .bool d1, .bool t1, .bool ch1, .bool dc1, .bool m1, .bool s1, .bool ds1, .string ⟨cu1.toArray⟩, .slice oa4 n4 cap4] 24))
  case first =>
    by_cases z : er = 0
    · subst z
      cases d1 <;> cases d <;> (go_wp2_with fail; go_meet; exact ⟨_, rfl, Lib.hid rfl, rfl⟩)
    · have z1 : (er == 0) = false := by simp [z]
      go_wp2_with fail
      go_meet
      exact ⟨_, rfl, Lib.hid (by rw [z1]; rfl), rfl⟩
  case rest =>
  obtain ⟨q, rfl, hq, rfl⟩ := hcut
  have hbA : Below w4.heap.size w4 (w4.alloc (.cells #[.string ⟨v1.toArray⟩, .bool d1, .bool t1, .bool ch1, .bool dc1, .bool m1, .bool s1, .bool ds1, .string ⟨cu1.toArray⟩, .slice oa4 n4 cap4] 24)) := (Below.refl _ _).alloc (Nat.le_refl _) _
  go_upto_if 68 with fail
  go_cut [7] (fun s7 wx => Outs w2.heap.size 3 kind l wx s7 ∧ Below w2.heap.size w2 wx)
  case first =>
    cases q
    · go_wp2_with fail
      go_meet
      exact ⟨(HO.out.low hbA).more, below_trans hb4a hbA⟩
    · have gv : Hid (GoodV kind l v1) := Lib.hid (by
        have z := hq.out.symm
        simp only [Bool.and_eq_true, beq_iff_eq, Bool.not_eq_true'] at z
        exact gw.out z.1.1 z.1.2 z.2)
      obtain ⟨_, _, _, xs, e0, hn, hown, hx⟩ := HO.out
      cases e0
      have hx := Lib.hid hx
      have hlen := hown.1
      obtain ⟨i0, hi, hz0, hz1, hz2⟩ := info_parts infoC
      go_wp2_with (at_builtin; refine wpList_append_own _ rfl _ _ 43 rfl w2.heap.size 24 i0 _ 10 64 Tryz.underlying43 hi hz0 hz1 hz2 rfl (by decide) _ n xs rfl ((hown.alloc _).alloc _) _ 1 1 (encC v1 d1 t1 ch1 dc1 m1 s1 ds1 cu1 (.slice oa4 n4 cap4)) rfl rfl ?qc2 ?qc3 ?qc4 ?qc5 ?qc6 ?_)
      case qc2 =>
        intro j u hj
        (try rw [Lib.add_plain])
        (try rw [Nat.zero_add])
        first | exact hj | (rw [alloc2_cell, ← Array.getElem?_toList]; exact hj)
      case qc3 =>
        intro u hu
        simp only [encC, List.mem_cons, List.not_mem_nil, or_false] at hu
        rcases hu with rfl | rfl | rfl | rfl | rfl | rfl | rfl | rfl | rfl | rfl <;> rfl
      case qc4 => unfold maxLen; omega
      case qc5 => omega
      case qc6 => have := hb4a.size; simp; omega
      intro v' w' hown' hgrow _
      go_wp2_with fail
      go_meet
      exact ⟨Outs.add hn hown' hlen hx.out gv.out, Below.grown ((below_trans hb4a hbA).alloc (by have := hb4a.size; simp; omega) _) hgrow (by have := hb4a.size; simp; omega) (fun k hk => (hown.lt k hk).1)⟩
  case rest =>
  obtain ⟨hO, hbc2⟩ := hcut
  obtain ⟨g, n, cap, _, rfl, _⟩ := id hO
  clear HO gw hq hb4a hbA hh4 c0 c1 c2 c3 c4 c5 c6 c7 c8 c9 c10 c11 hlow
  have HO := Lib.hid hO
  have hh5 := h12_below hbc2 HH0.out
  have HH5 := hh5
  clear hO
  obtain ⟨c0, c1, c2, c3, c4, c5, c6, c7, c8, c9, c10, c11, hlow⟩ := HH5
  have b5 := Lib.hid hbc2
  go_upto_region 9 with fail
  go_cut [80] (fun s80 wx => ∃ q, s80 = .bool q ∧ Hid (q = true ↔ 2 ≤ kind ∧ kind ≤ 15) ∧ wx = wc)
  case first =>
    by_cases z : 2 ≤ kind
    · by_cases z2 : kind ≤ 15
      · go_wp2_with fail
        go_meet
        exact ⟨_, rfl, Lib.hid ⟨fun _ => ⟨z, z2⟩, fun _ => rfl⟩, rfl⟩
      · go_wp2_with fail
        go_meet
        exact ⟨_, rfl, Lib.hid ⟨fun h => (by cases h), fun h => (by omega)⟩, rfl⟩
    · go_wp2_with fail
      go_meet
      exact ⟨_, rfl, Lib.hid ⟨fun h => (by cases h), fun h => (by omega)⟩, rfl⟩
  case rest =>
  obtain ⟨q, rfl, hq, rfl⟩ := hcut
  have hr := fun h w h1 h2 h3 h4 => retype_any k2 kind h ⟨v, d, t, ch, dc, m, s, ds, cu, fs⟩ (.slice fa fs.length fc) hbig va l hfine (fun a ha => by have := heach a ha; omega) (by dsimp only; omega) w h1 h2 h3 h4
  go_upto_if 80 with fail
  go_cut [7] (fun s7 wx => Outs w2.heap.size 4 kind l wx s7 ∧ Below w2.heap.size w2 wx)
  case first =>
    cases q
    · clear hr
      go_wp2_with fail
      go_meet
      exact ⟨HO.out.more, b5.out⟩
    · have hr := hr (hq.out.1 rfl)
      dsimp only [cV, ctlV] at hr
      go_wp2_with fail
      refine (hr _ (hA2.below b5.out) (EntsAt.below hF2 b5.out) (hG2.below b5.out) (hE2.below b5.out)).mono ?_
      rintro e w6 ⟨⟨v2, d2, t2, ch2, dc2, m2, s2, ds2, cu2, fs2⟩, gz, gl, f6, rfl, hf6, hb6⟩
      obtain ⟨oa6, n6, cap6, rfl⟩ := hf6.isSl
      dsimp only at gz gl
      dsimp only [cV, ctlV]
      have gv : Hid (GoodV kind l v2) := Lib.hid ⟨gz, gl⟩
      have HO := Lib.hid (HO.out.low hb6)
      have hb6a := below_trans b5.out hb6
      clear hr hf6 gz gl hb6 hh5 c0 c1 c2 c3 c4 c5 c6 c7 c8 c9 c10 c11 hlow
      obtain ⟨_, _, _, xs, e0, hn, hown, hx⟩ := HO.out
      cases e0
      have hx := Lib.hid hx
      have hlen := hown.1
      obtain ⟨i0, hi, hz0, hz1, hz2⟩ := info_parts infoC
      go_wp2_with (at_builtin; refine wpList_append_own _ rfl _ _ 43 rfl w2.heap.size 24 i0 _ 10 64 Tryz.underlying43 hi hz0 hz1 hz2 rfl (by decide) _ n xs rfl ((hown.alloc _).alloc _) _ 1 1 (encC v2 d2 t2 ch2 dc2 m2 s2 ds2 cu2 (.slice oa6 n6 cap6)) rfl rfl ?qc2 ?qc3 ?qc4 ?qc5 ?qc6 ?_)
      case qc2 =>
        intro j u hj
        (try rw [Lib.add_plain])
        (try rw [Nat.zero_add])
        first | exact hj | (rw [alloc2_cell, ← Array.getElem?_toList]; exact hj)
      case qc3 =>
        intro u hu
        simp only [encC, List.mem_cons, List.not_mem_nil, or_false] at hu
        rcases hu with rfl | rfl | rfl | rfl | rfl | rfl | rfl | rfl | rfl | rfl <;> rfl
      case qc4 => unfold maxLen; omega
      case qc5 => omega
      case qc6 => have := hb6a.size; simp; omega
      intro v' w' hown' hgrow _
      go_wp2_with fail
      go_meet
      exact ⟨Outs.add hn hown' hlen hx.out gv.out, Below.grown ((hb6a.alloc hb6a.size _).alloc (by have := hb6a.size; simp; omega) _) hgrow (by have := hb6a.size; simp; omega) (fun k hk => (hown.lt k hk).1)⟩
  case rest =>
  obtain ⟨hO, hbc3⟩ := hcut
  obtain ⟨g, n, cap, _, rfl, _⟩ := id hO
  clear HO hq hr b5 hh5 c0 c1 c2 c3 c4 c5 c6 c7 c8 c9 c10 c11 hlow
  have HOC := Lib.hid hO.cell
  have hn4 := hO.cell.1
  have hh6 := h12_below hbc3 HH0.out
  have HH6 := hh6
  clear hO
  obtain ⟨c0, c1, c2, c3, c4, c5, c6, c7, c8, c9, c10, c11, hlow⟩ := HH6
  have b6 := Lib.hid hbc3
  have lt6 := lt_of_cell c0
  go_wp2_with fail
  go_loopw [99] (fun s99 wr => ∃ k : Nat, s99 = .int .i64 k ∧ k ≤ n ∧ Below wc.heap.size wc wr) (fun s99 _ => (5 - RowKit.intOf s99).toNat)
  case atStart => exact ⟨0, rfl, by omega, Below.refl _ _⟩
  case round =>
    obtain ⟨k, rfl, hk9, hbw⟩ := hrel
    by_cases hlt : k < n
    · obtain ⟨sv, cs, gv⟩ := HOC.out.2.2.2 k hlt
      have cs := cell_below hbw cs
      have hh7 := h12_below hbw hh6
      have hr := fun w h => rval_any kind hk va l hfine sv gv.2 w h
      rw [gv.1] at hr
      clear gv
      have HB := Lib.hid hbw
      clear hh6 hbw c0 c1 c2 c3 c4 c5 c6 c7 c8 c9 c10 c11 hlow
      have HH7 := hh7
      obtain ⟨c0, c1, c2, c3, c4, c5, c6, c7, c8, c9, c10, c11, hlow⟩ := HH7
      have HH := Lib.hid hh7
      have HC := Lib.hid cs
      clear hh7
      go_upto_region 15 with fail
      have hh7 := HH.out
      have cs := HC.out
      clear HH HC
      go_region_held3 (fun w' => w'.cell? ⟨g, k * 10, none⟩ = some (.string ⟨sv.toArray⟩) ∧ w'.cell? ⟨w.heap.size, 0, none⟩ = some (.int .i64 kind) ∧ w'.cell? ⟨w.heap.size, 1, none⟩ = some (.string ⟨v.toArray⟩) ∧ w'.cell? ⟨w.heap.size, 2, none⟩ = some (.bool d) ∧ w'.cell? ⟨w.heap.size, 3, none⟩ = some (.bool t) ∧ w'.cell? ⟨w.heap.size, 4, none⟩ = some (.bool ch) ∧ w'.cell? ⟨w.heap.size, 5, none⟩ = some (.bool dc) ∧ w'.cell? ⟨w.heap.size, 6, none⟩ = some (.bool m) ∧ w'.cell? ⟨w.heap.size, 7, none⟩ = some (.bool s) ∧ w'.cell? ⟨w.heap.size, 8, none⟩ = some (.bool ds) ∧ w'.cell? ⟨w.heap.size, 9, none⟩ = some (.string ⟨cu.toArray⟩) ∧ w'.cell? ⟨w.heap.size, 10, none⟩ = some (.slice fa fs.length fc) ∧ w'.cell? ⟨w.heap.size, 11, none⟩ = some (va) ∧ Below w2.heap.size w2 w')
        (first | assumption | exact ⟨cs, h12_drew hh7⟩ | exact ⟨cs, hh7⟩ | exact ⟨cell_below hb8 cs, h12_below hb8 (h12_drew hh7)⟩ | exact ⟨cell_below hb8 cs, h12_below hb8 hh7⟩)
        (first | (go_at_call 31; refine (hr _ (hA2.below (h12_last (And.right (by assumption))))).mono ?_; rintro e w8 ⟨rfl, hb8⟩))
      all_goals
        go_wp2_with fail
        go_roundw
        case rel => exact ⟨k + 1, rfl, by omega, by first | exact below_trans HB.out hb8 | exact below_trans HB.out.drew hb8⟩
        case measure => simp [RowKit.intOf]; omega
    · go_wp2_with fail
      go_ret
      exact ⟨rfl, below_trans low2.out (below_trans b6.out hbw)⟩
end Go.Proofs.YtbhdoocajfkfiaaGreatDoor.ctl
