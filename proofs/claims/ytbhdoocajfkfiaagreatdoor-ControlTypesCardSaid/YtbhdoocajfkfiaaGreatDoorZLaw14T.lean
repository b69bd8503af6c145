/- law14: the walk of ControlTypes. -/
import Derived.Test.YtbhdoocajfkfiaaGreatDoorMs
import Derived.Test.YtbhdoocajfkfiaaGreatDoorMp
import Derived.Test.YtbhdoocajfkfiaaGreatDoorZChangeW
import Derived.Test.YtbhdoocajfkfiaaGreatDoorZRChangeW
import Derived.Test.YtbhdoocajfkfiaaGreatDoorMo
import Derived.Deep.RegionHeld3
namespace Go.Proofs.YtbhdoocajfkfiaaGreatDoor.ctl
open Go.ChangeShapes Go.WideShapes Go.ChangeAt Go.RowKit Go.Lib Go.Proofs.YtbhdoocajfkfiaaGreatDoor.num Go.Proofs.YtbhdoocajfkfiaaGreatDoor.mom Go.Proofs.YtbhdoocajfkfiaaGreatDoor.fits Go.Proofs.YtbhdoocajfkfiaaGreatDoor.atr Go.Proofs.YtbhdoocajfkfiaaGreatDoor.link Go.Proofs.YtbhdoocajfkfiaaGreatDoor.stp Go.Proofs.YtbhdoocajfkfiaaGreatDoor.cln

set_option maxHeartbeats 6400000 in
set_option maxRecDepth 100000 in
theorem types_no (kind : Int) (hk : i64 kind) (v : List UInt8) (d t ch dc m s ds : Bool) (cu : List UInt8) (f : Value) (fs : List Ent) (hbig : fs.length * 72 ≤ 140737488355328) (_hnm : ∀ x ∈ fs, x.fname.length ≤ 1000000000000000) (va : Value) (l : List Attr) (x : List UInt8) (her : (typeO kind ⟨v, d, t, ch, dc, m, s, ds, cu, fs⟩ l x).2 ≠ 0) (w : World) (hA : AttrsAt w va l) (hF : EntsAt w f fs) (hG : G w) (hE : GE w) :
    Calls Tryz.prog 6 #[itemV kind v d t ch dc m s ds cu f va, .string ⟨x.toArray⟩] w fun e w' => e = .returned (.bool true) ∧ Below w.heap.size w w' := by
  have hlb : fs.length ≤ 10000000000000 := by omega
  obtain ⟨fa, fc, rfl⟩ := RowAt.lenN hF
  have hL := fun w h => long14_any kind v d t ch dc m s ds cu (.slice fa fs.length fc) va l x w h
  have hW := fun w g k => wakes14_any w g k
  have hB : Below w.heap.size w (w.alloc (.cells #[.int .i64 kind, .string ⟨v.toArray⟩, .bool d, .bool t, .bool ch, .bool dc, .bool m, .bool s, .bool ds, .string ⟨cu.toArray⟩, .slice fa fs.length fc, va] 27)) := (Below.refl _ _).alloc (Nat.le_refl _) _
  have hh0 := h12_blk (Blk.fresh w [.int .i64 kind, .string ⟨v.toArray⟩, .bool d, .bool t, .bool ch, .bool dc, .bool m, .bool s, .bool ds, .string ⟨cu.toArray⟩, .slice fa fs.length fc, va] 27) hB
  unfold itemV at hL ⊢
  go_enter Tryz.func6, Tryz.ntmps6
  go_wp2_with fail
  refine (hW _ (hG.below hB) (hE.below hB)).mono ?_
  rintro e w1 ⟨rfl, hb1⟩
  have hh1 := h12_below hb1 hh0
  have HH1 := hh1
  obtain ⟨c0, c1, c2, c3, c4, c5, c6, c7, c8, c9, c10, c11, hlow⟩ := HH1
  have lt1 := lt_of_cell c0
  have ne1 : ¬ w.heap.size = w1.heap.size := by omega
  have nf1 : ¬ w1.heap.size = w.heap.size := by omega
  clear hW
  go_wp2_with fail
  refine (hL _ (hA.below (h12_last hh1))).mono ?_
  rintro e w2 ⟨⟨b, rfl, hS⟩, hb2⟩
  have hh2 := h12_below hb2 hh1
  have HH2 := hh2
  clear c0 c1 c2 c3 c4 c5 c6 c7 c8 c9 c10 c11 hlow
  obtain ⟨c0, c1, c2, c3, c4, c5, c6, c7, c8, c9, c10, c11, hlow⟩ := HH2
  have lt2 := lt_of_cell c0
  have ne2 : ¬ w.heap.size = w2.heap.size := by omega
  have nf2 : ¬ w2.heap.size = w.heap.size := by omega
  clear hL
  cases b
  case true =>
    go_wp2_with fail
    go_ret
    exact ⟨rfl, h12_last hh2⟩
  have hSh := hS rfl
  have hfine := hSh.fine
  have hvl := hSh.value
  have hxl := hSh.text
  have heach := hSh.each
  clear hS hb1 hb2 hh0 hB hSh
  have hw1 := fun w h1 h2 h3 h4 => Type_any kind hk ⟨v, d, t, ch, dc, m, s, ds, cu, fs⟩ (.slice fa fs.length fc) hbig va l hfine x w h1 h2 h3 h4
  have hw2 := fun w h1 h2 h3 h4 => rType_any kind hk ⟨v, d, t, ch, dc, m, s, ds, cu, fs⟩ (.slice fa fs.length fc) hbig va l hfine x w h1 h2 h3 h4
  have hfl := type_files kind ⟨v, d, t, ch, dc, m, s, ds, cu, fs⟩ l x
  dsimp only at hfl
  have her0 := her
  generalize typeO kind ⟨v, d, t, ch, dc, m, s, ds, cu, fs⟩ l x = r at *
  obtain ⟨⟨v1, d1, t1, ch1, dc1, m1, s1, ds1, cu1, fs1⟩, er⟩ := r
  dsimp only [cV, ctlV] at hw1 hw2 hfl her her0
  have e0 : (er == 0) = false := by simpa using her
  have e1 : (er != 0) = true := by simpa using her
  clear her her0
  have hsm := fun fa fb w => same_any v1 d1 t1 ch1 dc1 m1 s1 ds1 cu1 fa fb fs1 (Nat.le_trans hfl hlb) w
  unfold ctlV at hsm
  clear hfine hvl hxl heach hfl hlb hbig
  go_wp2_with fail
  refine (hw1 _ (hA.below (h12_last hh2)) (EntsAt.below hF (h12_last hh2)) (hG.below (h12_last hh2)) (hE.below (h12_last hh2))).mono ?_
  rintro e w3 ⟨f3, rfl, hf3, hb3⟩
  obtain ⟨oa3, n3, cap3, rfl⟩ := hf3.isSl
  dsimp only [cV, ctlV]
  clear hw1
  have hh3 := h12_below hb3 hh2
  have HH3 := hh3
  clear c0 c1 c2 c3 c4 c5 c6 c7 c8 c9 c10 c11 hlow
  obtain ⟨c0, c1, c2, c3, c4, c5, c6, c7, c8, c9, c10, c11, hlow⟩ := HH3
  have lt3 := lt_of_cell c0
  have ne3 : ¬ w.heap.size = w3.heap.size := by omega
  have nf3 : ¬ w3.heap.size = w.heap.size := by omega
  have hb3a : Below w3.heap.size w3 (w3.alloc (.cells #[.string ⟨v1.toArray⟩, .bool d1, .bool t1, .bool ch1, .bool dc1, .bool m1, .bool s1, .bool ds1, .string ⟨cu1.toArray⟩, .slice oa3 n3 cap3] 24)) := (Below.refl _ _).alloc (Nat.le_refl _) _
  have hK3 := Blk.fresh w3 [.string ⟨v1.toArray⟩, .bool d1, .bool t1, .bool ch1, .bool dc1, .bool m1, .bool s1, .bool ds1, .string ⟨cu1.toArray⟩, .slice oa3 n3 cap3] 24
  have hlow3 := below_trans (h12_last hh3) hb3a
  go_wp2_with fail
  refine (hw2 _ (hA.below hlow3) (EntsAt.below hF hlow3) (hG.below hlow3) (hE.below hlow3)).mono ?_
  rintro e w4 ⟨f4, rfl, hf4, hb4⟩
  obtain ⟨oa4, n4, cap4, rfl⟩ := hf4.isSl
  dsimp only [cV, ctlV]
  clear hw2
  have hlow4 := below_trans hlow3 hb4
  have hK4 := hK3.kept hb4
  obtain ⟨k0, k1, k2, k3, k4, k5, k6, k7, k8, k9, _⟩ := hK4.ten
  have ltk : w3.heap.size < w4.heap.size := lt_of_cell k0
  have nek : ¬ w3.heap.size = w4.heap.size := by omega
  have nfk : ¬ w4.heap.size = w3.heap.size := by omega
  have hf34 : EntsAt w4 (.slice oa3 n3 cap3) fs1 := EntsAt.below hf3 (below_trans hb3a hb4)
  have hh4 := h12_below (below_trans hb3a hb4) hh3
  clear hb3a hK3 hlow3 hb4 hh3 hh2 hh1
  clear c0 c1 c2 c3 c4 c5 c6 c7 c8 c9 c10 c11 hlow
  go_wp2_with fail
  have hb4a : Below w4.heap.size w4 (w4.alloc (.cells #[.string ⟨v1.toArray⟩, .bool d1, .bool t1, .bool ch1, .bool dc1, .bool m1, .bool s1, .bool ds1, .string ⟨cu1.toArray⟩, .slice oa4 n4 cap4] 24)) := (Below.refl _ _).alloc (Nat.le_refl _) _
  refine (hsm _ _ _ (EntsAt.below hf34 hb4a) (EntsAt.below hf4 hb4a)).mono ?_
  rintro e w5 ⟨rfl, hb5⟩
  go_wp2_with fail
  go_ret
  exact ⟨rfl, below_trans (below_trans hlow4 hb4a) hb5⟩
set_option maxHeartbeats 6400000 in
set_option maxRecDepth 100000 in
theorem types_yes (kind : Int) (hk : i64 kind) (v : List UInt8) (d t ch dc m s ds : Bool) (cu : List UInt8) (f : Value) (fs : List Ent) (hbig : fs.length * 72 ≤ 140737488355328) (_hnm : ∀ x ∈ fs, x.fname.length ≤ 1000000000000000) (va : Value) (l : List Attr) (x : List UInt8) (hlong : ¬ 4000 < x.length) (hty : modeP kind = 1 ∧ kind ≠ 28) (w : World) (hA : AttrsAt w va l) (hF : EntsAt w f fs) (hG : G w) (hE : GE w) :
    Calls Tryz.prog 6 #[itemV kind v d t ch dc m s ds cu f va, .string ⟨x.toArray⟩] w fun e w' => e = .returned (.bool true) ∧ Below w.heap.size w w' := by
  have hlb : fs.length ≤ 10000000000000 := by omega
  obtain ⟨fa, fc, rfl⟩ := RowAt.lenN hF
  have hL := fun w h => long14_any kind v d t ch dc m s ds cu (.slice fa fs.length fc) va l x w h
  have hW := fun w g k => wakes14_any w g k
  have hB : Below w.heap.size w (w.alloc (.cells #[.int .i64 kind, .string ⟨v.toArray⟩, .bool d, .bool t, .bool ch, .bool dc, .bool m, .bool s, .bool ds, .string ⟨cu.toArray⟩, .slice fa fs.length fc, va] 27)) := (Below.refl _ _).alloc (Nat.le_refl _) _
  have hh0 := h12_blk (Blk.fresh w [.int .i64 kind, .string ⟨v.toArray⟩, .bool d, .bool t, .bool ch, .bool dc, .bool m, .bool s, .bool ds, .string ⟨cu.toArray⟩, .slice fa fs.length fc, va] 27) hB
  unfold itemV at hL ⊢
  go_enter Tryz.func6, Tryz.ntmps6
  go_wp2_with fail
  refine (hW _ (hG.below hB) (hE.below hB)).mono ?_
  rintro e w1 ⟨rfl, hb1⟩
  have hh1 := h12_below hb1 hh0
  have HH1 := hh1
  obtain ⟨c0, c1, c2, c3, c4, c5, c6, c7, c8, c9, c10, c11, hlow⟩ := HH1
  have lt1 := lt_of_cell c0
  have ne1 : ¬ w.heap.size = w1.heap.size := by omega
  have nf1 : ¬ w1.heap.size = w.heap.size := by omega
  clear hW
  go_wp2_with fail
  refine (hL _ (hA.below (h12_last hh1))).mono ?_
  rintro e w2 ⟨⟨b, rfl, hS⟩, hb2⟩
  have hh2 := h12_below hb2 hh1
  have HH2 := hh2
  clear c0 c1 c2 c3 c4 c5 c6 c7 c8 c9 c10 c11 hlow
  obtain ⟨c0, c1, c2, c3, c4, c5, c6, c7, c8, c9, c10, c11, hlow⟩ := HH2
  have lt2 := lt_of_cell c0
  have ne2 : ¬ w.heap.size = w2.heap.size := by omega
  have nf2 : ¬ w2.heap.size = w.heap.size := by omega
  clear hL
  cases b
  case true =>
    go_wp2_with fail
    go_ret
    exact ⟨rfl, h12_last hh2⟩
  have hSh := hS rfl
  have hfine := hSh.fine
  have hvl := hSh.value
  have hxl := hSh.text
  have heach := hSh.each
  clear hS hb1 hb2 hh0 hB hSh
  have hw1 := fun w h1 h2 h3 h4 => Type_any kind hk ⟨v, d, t, ch, dc, m, s, ds, cu, fs⟩ (.slice fa fs.length fc) hbig va l hfine x w h1 h2 h3 h4
  have hw2 := fun w h1 h2 h3 h4 => rType_any kind hk ⟨v, d, t, ch, dc, m, s, ds, cu, fs⟩ (.slice fa fs.length fc) hbig va l hfine x w h1 h2 h3 h4
  have hfl := type_files kind ⟨v, d, t, ch, dc, m, s, ds, cu, fs⟩ l x
  dsimp only at hfl
  have hw3 := fun w h1 h2 h3 h4 => Write_any kind hk ⟨v, d, t, ch, dc, m, s, ds, cu, fs⟩ (.slice fa fs.length fc) hbig va l hfine x w h1 h2 h3 h4
  rw [type_yes kind _ l x hlong hty] at hw1 hw2 hfl
  rw [write_1 kind _ l x hlong hty.1] at hw3
  dsimp only at hw1 hw2 hw3 hfl
  generalize cleanedP kind l x = y at *
  dsimp only [cV, ctlV] at hw1 hw2 hw3
  have hsm := fun fa fb w => same_any y true true ch dc m s ds cu fa fb fs hlb w
  clear hlong hty
  unfold ctlV at hsm
  clear hfine hvl hxl heach hfl hlb hbig
  go_wp2_with fail
  refine (hw1 _ (hA.below (h12_last hh2)) (EntsAt.below hF (h12_last hh2)) (hG.below (h12_last hh2)) (hE.below (h12_last hh2))).mono ?_
  rintro e w3 ⟨f3, rfl, hf3, hb3⟩
  obtain ⟨oa3, n3, cap3, rfl⟩ := hf3.isSl
  dsimp only [cV, ctlV]
  clear hw1
  have hh3 := h12_below hb3 hh2
  have HH3 := hh3
  clear c0 c1 c2 c3 c4 c5 c6 c7 c8 c9 c10 c11 hlow
  obtain ⟨c0, c1, c2, c3, c4, c5, c6, c7, c8, c9, c10, c11, hlow⟩ := HH3
  have lt3 := lt_of_cell c0
  have ne3 : ¬ w.heap.size = w3.heap.size := by omega
  have nf3 : ¬ w3.heap.size = w.heap.size := by omega
  have hb3a : Below w3.heap.size w3 (w3.alloc (.cells #[.string ⟨y.toArray⟩, .bool true, .bool true, .bool ch, .bool dc, .bool m, .bool s, .bool ds, .string ⟨cu.toArray⟩, .slice oa3 n3 cap3] 24)) := (Below.refl _ _).alloc (Nat.le_refl _) _
  have hK3 := Blk.fresh w3 [.string ⟨y.toArray⟩, .bool true, .bool true, .bool ch, .bool dc, .bool m, .bool s, .bool ds, .string ⟨cu.toArray⟩, .slice oa3 n3 cap3] 24
  have hlow3 := below_trans (h12_last hh3) hb3a
  go_wp2_with fail
  refine (hw2 _ (hA.below hlow3) (EntsAt.below hF hlow3) (hG.below hlow3) (hE.below hlow3)).mono ?_
  rintro e w4 ⟨f4, rfl, hf4, hb4⟩
  obtain ⟨oa4, n4, cap4, rfl⟩ := hf4.isSl
  dsimp only [cV, ctlV]
  clear hw2
  have hlow4 := below_trans hlow3 hb4
  have hK4 := hK3.kept hb4
  obtain ⟨k0, k1, k2, k3, k4, k5, k6, k7, k8, k9, _⟩ := hK4.ten
  have ltk : w3.heap.size < w4.heap.size := lt_of_cell k0
  have nek : ¬ w3.heap.size = w4.heap.size := by omega
  have nfk : ¬ w4.heap.size = w3.heap.size := by omega
  have hf34 : EntsAt w4 (.slice oa3 n3 cap3) fs := EntsAt.below hf3 (below_trans hb3a hb4)
  have hh4 := h12_below (below_trans hb3a hb4) hh3
  clear hb3a hK3 hlow3 hb4 hh3 hh2 hh1
  clear c0 c1 c2 c3 c4 c5 c6 c7 c8 c9 c10 c11 hlow
  go_wp2_with fail
  have hb4a : Below w4.heap.size w4 (w4.alloc (.cells #[.string ⟨y.toArray⟩, .bool true, .bool true, .bool ch, .bool dc, .bool m, .bool s, .bool ds, .string ⟨cu.toArray⟩, .slice oa4 n4 cap4] 24)) := (Below.refl _ _).alloc (Nat.le_refl _) _
  refine (hsm _ _ _ (EntsAt.below hf34 hb4a) (EntsAt.below hf4 hb4a)).mono ?_
  rintro e w5 ⟨rfl, hb5⟩
  have hh5 := h12_below (below_trans hb4a hb5) hh4
  have hK5 := (hK4.below hb4a hK4.lt).kept hb5
  have hf35 : EntsAt w5 (.slice oa3 n3 cap3) fs := EntsAt.below hf34 (below_trans hb4a hb5)
  obtain ⟨c0, c1, c2, c3, c4, c5, c6, c7, c8, c9, c10, c11, hlow⟩ := hh5
  clear k0 k1 k2 k3 k4 k5 k6 k7 k8 k9 ltk nek nfk
  have lt5 := lt_of_cell c0
  have ne5 : ¬ w.heap.size = w5.heap.size := by omega
  have nf5 : ¬ w5.heap.size = w.heap.size := by omega
  clear hb5 hb4a hK4 hh4 hf34 hf4 hf3 hlow4
  go_wp2_with fail
  refine (hw3 _ (hA.below hlow) (EntsAt.below hF hlow) (hG.below hlow) (hE.below hlow)).mono ?_
  rintro e w6 ⟨f6, rfl, hf6, _, hb6⟩
  obtain ⟨oa6, n6, cap6, rfl⟩ := hf6.isSl
  dsimp only [cV, ctlV]
  have hlow6 := below_trans hlow hb6
  have hK6 := hK5.kept hb6
  have hf36 : EntsAt w6 (.slice oa3 n3 cap3) fs := EntsAt.below hf35 hb6
  obtain ⟨k0, k1, k2, k3, k4, k5, k6, k7, k8, k9, _⟩ := hK6.ten
  have ltk : w3.heap.size < w6.heap.size := lt_of_cell k0
  have nek : ¬ w3.heap.size = w6.heap.size := by omega
  have nfk : ¬ w6.heap.size = w3.heap.size := by omega
  clear hw3 hb6 hf35 hK5 hK6
  clear c0 c1 c2 c3 c4 c5 c6 c7 c8 c9 c10 c11 hlow
  go_wp2_with fail
  have hb6a : Below w6.heap.size w6 (w6.alloc (.cells #[.string ⟨y.toArray⟩, .bool true, .bool true, .bool ch, .bool dc, .bool m, .bool s, .bool ds, .string ⟨cu.toArray⟩, .slice oa6 n6 cap6] 24)) := (Below.refl _ _).alloc (Nat.le_refl _) _
  refine (hsm _ _ _ (EntsAt.below hf36 hb6a) (EntsAt.below hf6 hb6a)).mono ?_
  rintro e w7 ⟨rfl, hb7⟩
  go_wp2_with fail
  go_ret
  exact ⟨rfl, below_trans (below_trans hlow6 hb6a) hb7⟩
theorem types_walk (kind : Int) (hk : i64 kind) (v : List UInt8) (d t ch dc m s ds : Bool) (cu : List UInt8) (f : Value) (fs : List Ent) (hbig : fs.length * 72 ≤ 140737488355328) (hnm : ∀ x ∈ fs, x.fname.length ≤ 1000000000000000) (va : Value) (l : List Attr) (x : List UInt8) (_hx : (⟨x.toArray⟩ : ByteArray).size ≤ maxLen) (w : World) (hA : AttrsAt w va l) (hF : EntsAt w f fs) (hG : G w) (hE : GE w) :
    Calls Tryz.prog 6 #[itemV kind v d t ch dc m s ds cu f va, .string ⟨x.toArray⟩] w fun e w' => e = .returned (.bool true) ∧ Below w.heap.size w w' := by
  by_cases hlong : 4000 < x.length
  · exact types_no kind hk v d t ch dc m s ds cu f fs hbig hnm va l x (by rw [type_long kind _ l x hlong]; decide) w hA hF hG hE
  · by_cases hty : modeP kind = 1 ∧ kind ≠ 28
    · exact types_yes kind hk v d t ch dc m s ds cu f fs hbig hnm va l x hlong hty w hA hF hG hE
    · exact types_no kind hk v d t ch dc m s ds cu f fs hbig hnm va l x (by rw [type_no kind _ l x hlong hty]; decide) w hA hF hG hE

end Go.Proofs.YtbhdoocajfkfiaaGreatDoor.ctl
