/- law14: the walks of the laws. -/
import Derived.Test.YtbhdoocajfkfiaaGreatDoorMs
import Derived.Test.YtbhdoocajfkfiaaGreatDoorMp
import Derived.Test.YtbhdoocajfkfiaaGreatDoorZChangeW
import Derived.Test.YtbhdoocajfkfiaaGreatDoorZRChangeW
import Derived.Test.YtbhdoocajfkfiaaGreatDoorMo
import Derived.Deep.RegionHeld3
namespace Go.Proofs.YtbhdoocajfkfiaaGreatDoor.ctl
open Go.ChangeShapes Go.WideShapes Go.ChangeAt Go.RowKit Go.Lib Go.Proofs.YtbhdoocajfkfiaaGreatDoor.num Go.Proofs.YtbhdoocajfkfiaaGreatDoor.mom Go.Proofs.YtbhdoocajfkfiaaGreatDoor.fits Go.Proofs.YtbhdoocajfkfiaaGreatDoor.atr Go.Proofs.YtbhdoocajfkfiaaGreatDoor.link Go.Proofs.YtbhdoocajfkfiaaGreatDoor.stp Go.Proofs.YtbhdoocajfkfiaaGreatDoor.cln

set_option maxHeartbeats 6400000 in
set_option maxRecDepth 100000 in
theorem writes_walk (kind : Int) (hk : i64 kind) (v : List UInt8) (d t ch dc m s ds : Bool) (cu : List UInt8) (f : Value) (fs : List Ent) (hbig : fs.length * 72 ≤ 140737488355328) (_hnm : ∀ x ∈ fs, x.fname.length ≤ 1000000000000000) (va : Value) (l : List Attr) (x : List UInt8) (_hx : (⟨x.toArray⟩ : ByteArray).size ≤ maxLen) (w : World) (hA : AttrsAt w va l) (hF : EntsAt w f fs) (hG : G w) (hE : GE w) :
    Calls Tryz.prog 4 #[itemV kind v d t ch dc m s ds cu f va, .string ⟨x.toArray⟩] w fun e w' => e = .returned (.bool true) ∧ Below w.heap.size w w' := by
  clear _hx
  have hlb : fs.length ≤ 10000000000000 := by omega
  obtain ⟨fa, fc, rfl⟩ := RowAt.lenN hF
  have hL := fun w h => long14_any kind v d t ch dc m s ds cu (.slice fa fs.length fc) va l x w h
  have hW := fun w g k => wakes14_any w g k
  have hB : Below w.heap.size w (w.alloc (.cells #[.int .i64 kind, .string ⟨v.toArray⟩, .bool d, .bool t, .bool ch, .bool dc, .bool m, .bool s, .bool ds, .string ⟨cu.toArray⟩, .slice fa fs.length fc, va] 27)) := (Below.refl _ _).alloc (Nat.le_refl _) _
  have hh0 := h12_blk (Blk.fresh w [.int .i64 kind, .string ⟨v.toArray⟩, .bool d, .bool t, .bool ch, .bool dc, .bool m, .bool s, .bool ds, .string ⟨cu.toArray⟩, .slice fa fs.length fc, va] 27) hB
  unfold itemV at hL ⊢
  go_enter Tryz.func4, Tryz.ntmps4
  go_wp2_with fail
  refine (hW _ (hG.below hB) (hE.below hB)).mono ?_
  rintro e w1 ⟨rfl, hb1⟩
  have hh1 := h12_below hb1 hh0
  have HH1 := hh1
  obtain ⟨c0, c1, c2, c3, c4, c5, c6, c7, c8, c9, c10, c11, hlow⟩ := HH1
  have lt1 := lt_of_cell c0
  have ne1 : ¬ w.heap.size = w1.heap.size := by omega
  have nf1 : ¬ w1.heap.size = w.heap.size := by omega
  clear hW
  go_wp2_with fail
  refine (hL _ (hA.below (h12_last hh1))).mono ?_
  rintro e w2 ⟨⟨b, rfl, hS⟩, hb2⟩
  have hh2 := h12_below hb2 hh1
  have HH2 := hh2
  clear c0 c1 c2 c3 c4 c5 c6 c7 c8 c9 c10 c11 hlow
  obtain ⟨c0, c1, c2, c3, c4, c5, c6, c7, c8, c9, c10, c11, hlow⟩ := HH2
  have lt2 := lt_of_cell c0
  have ne2 : ¬ w.heap.size = w2.heap.size := by omega
  have nf2 : ¬ w2.heap.size = w.heap.size := by omega
  clear hL
  cases b
  case true =>
    go_wp2_with fail
    go_ret
    exact ⟨rfl, h12_last hh2⟩
  have hSh := hS rfl
  have hfine := hSh.fine
  have hvl := hSh.value
  have hxl := hSh.text
  have heach := hSh.each
  clear hS hb1 hb2 hh0 hB hSh
  have hw1 := fun w h1 h2 h3 h4 => Write_any kind hk ⟨v, d, t, ch, dc, m, s, ds, cu, fs⟩ (.slice fa fs.length fc) hbig va l hfine x w h1 h2 h3 h4
  have hw2 := fun w h1 h2 h3 h4 => rWrite_any kind hk ⟨v, d, t, ch, dc, m, s, ds, cu, fs⟩ (.slice fa fs.length fc) hbig va l hfine x w h1 h2 h3 h4
  have hfl := write_files kind ⟨v, d, t, ch, dc, m, s, ds, cu, fs⟩ l x
  dsimp only at hfl
  generalize writeO kind ⟨v, d, t, ch, dc, m, s, ds, cu, fs⟩ l x = r at *
  obtain ⟨⟨v1, d1, t1, ch1, dc1, m1, s1, ds1, cu1, fs1⟩, bb, er⟩ := r
  dsimp only [cV, ctlV] at hw1 hw2 hfl
  have hsm := fun fa fb w => same_any v1 d1 t1 ch1 dc1 m1 s1 ds1 cu1 fa fb fs1 (Nat.le_trans hfl hlb) w
  unfold ctlV at hsm
  clear hfine hvl hxl heach hfl hlb hbig
  go_wp2_with fail
  refine (hw1 _ (hA.below (h12_last hh2)) (EntsAt.below hF (h12_last hh2)) (hG.below (h12_last hh2)) (hE.below (h12_last hh2))).mono ?_
  rintro e w3 ⟨f3, rfl, hf3, _, hb3⟩
  obtain ⟨oa3, n3, cap3, rfl⟩ := hf3.isSl
  dsimp only [cV, ctlV]
  clear hw1
  have hh3 := h12_below hb3 hh2
  have HH3 := hh3
  clear c0 c1 c2 c3 c4 c5 c6 c7 c8 c9 c10 c11 hlow
  obtain ⟨c0, c1, c2, c3, c4, c5, c6, c7, c8, c9, c10, c11, hlow⟩ := HH3
  have lt3 := lt_of_cell c0
  have ne3 : ¬ w.heap.size = w3.heap.size := by omega
  have nf3 : ¬ w3.heap.size = w.heap.size := by omega
  have hb3a : Below w3.heap.size w3 (w3.alloc (.cells #[.string ⟨v1.toArray⟩, .bool d1, .bool t1, .bool ch1, .bool dc1, .bool m1, .bool s1, .bool ds1, .string ⟨cu1.toArray⟩, .slice oa3 n3 cap3] 24)) := (Below.refl _ _).alloc (Nat.le_refl _) _
  have hK3 := Blk.fresh w3 [.string ⟨v1.toArray⟩, .bool d1, .bool t1, .bool ch1, .bool dc1, .bool m1, .bool s1, .bool ds1, .string ⟨cu1.toArray⟩, .slice oa3 n3 cap3] 24
  have hlow3 := below_trans (h12_last hh3) hb3a
  go_wp2_with fail
  refine (hw2 _ (hA.below hlow3) (EntsAt.below hF hlow3) (hG.below hlow3) (hE.below hlow3)).mono ?_
  rintro e w4 ⟨f4, rfl, hf4, hb4⟩
  obtain ⟨oa4, n4, cap4, rfl⟩ := hf4.isSl
  dsimp only [cV, ctlV]
  clear hw2
  have hlow4 := below_trans hlow3 hb4
  obtain ⟨k0, k1, k2, k3, k4, k5, k6, k7, k8, k9, _⟩ := (hK3.kept hb4).ten
  have ltk : w3.heap.size < w4.heap.size := lt_of_cell k0
  have nek : ¬ w3.heap.size = w4.heap.size := by omega
  have nfk : ¬ w4.heap.size = w3.heap.size := by omega
  have hf34 : EntsAt w4 (.slice oa3 n3 cap3) fs1 := EntsAt.below hf3 (below_trans hb3a hb4)
  clear hb3a hK3 hlow3 hb4 hh3 hh2 hh1 hA hF
  clear c0 c1 c2 c3 c4 c5 c6 c7 c8 c9 c10 c11 hlow
  go_wp2_with fail
  refine (hsm _ _ _ (EntsAt.below hf34 ((Below.refl _ _).alloc (Nat.le_refl _) _)) (EntsAt.below hf4 ((Below.refl _ _).alloc (Nat.le_refl _) _))).mono ?_
  rintro e w5 ⟨rfl, hb5⟩
  go_wp2_with fail
  go_ret
  exact ⟨rfl, below_trans (hlow4.alloc hlow4.size _) hb5⟩
end Go.Proofs.YtbhdoocajfkfiaaGreatDoor.ctl
