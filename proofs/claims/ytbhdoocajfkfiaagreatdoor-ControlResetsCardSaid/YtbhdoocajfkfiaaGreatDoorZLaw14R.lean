/- law14: the walk of ControlResets. -/
import Derived.Test.YtbhdoocajfkfiaaGreatDoorMs
import Derived.Test.YtbhdoocajfkfiaaGreatDoorMp
import Derived.Test.YtbhdoocajfkfiaaGreatDoorZChangeW
import Derived.Test.YtbhdoocajfkfiaaGreatDoorZRChangeW
import Derived.Test.YtbhdoocajfkfiaaGreatDoorMo
import Derived.Deep.RegionHeld3
namespace Go.Proofs.YtbhdoocajfkfiaaGreatDoor.ctl
open Go.ChangeShapes Go.WideShapes Go.ChangeAt Go.RowKit Go.Lib Go.Proofs.YtbhdoocajfkfiaaGreatDoor.num Go.Proofs.YtbhdoocajfkfiaaGreatDoor.mom Go.Proofs.YtbhdoocajfkfiaaGreatDoor.fits Go.Proofs.YtbhdoocajfkfiaaGreatDoor.atr Go.Proofs.YtbhdoocajfkfiaaGreatDoor.link Go.Proofs.YtbhdoocajfkfiaaGreatDoor.stp Go.Proofs.YtbhdoocajfkfiaaGreatDoor.cln

theorem h22_below {w0 w1 : World} {b b2 : Nat} {a0 a1 a2 a3 a4 a5 a6 a7 a8 a9 a10 a11 e0 e1 e2 e3 e4 e5 e6 e7 e8 e9 : Value} {w2 : World} (hb : Below w1.heap.size w1 w2) (h : w1.cell? ⟨b, 0, none⟩ = some a0 ∧ w1.cell? ⟨b, 1, none⟩ = some a1 ∧ w1.cell? ⟨b, 2, none⟩ = some a2 ∧ w1.cell? ⟨b, 3, none⟩ = some a3 ∧ w1.cell? ⟨b, 4, none⟩ = some a4 ∧ w1.cell? ⟨b, 5, none⟩ = some a5 ∧ w1.cell? ⟨b, 6, none⟩ = some a6 ∧ w1.cell? ⟨b, 7, none⟩ = some a7 ∧ w1.cell? ⟨b, 8, none⟩ = some a8 ∧ w1.cell? ⟨b, 9, none⟩ = some a9 ∧ w1.cell? ⟨b, 10, none⟩ = some a10 ∧ w1.cell? ⟨b, 11, none⟩ = some a11 ∧ w1.cell? ⟨b2, 0, none⟩ = some e0 ∧ w1.cell? ⟨b2, 1, none⟩ = some e1 ∧ w1.cell? ⟨b2, 2, none⟩ = some e2 ∧ w1.cell? ⟨b2, 3, none⟩ = some e3 ∧ w1.cell? ⟨b2, 4, none⟩ = some e4 ∧ w1.cell? ⟨b2, 5, none⟩ = some e5 ∧ w1.cell? ⟨b2, 6, none⟩ = some e6 ∧ w1.cell? ⟨b2, 7, none⟩ = some e7 ∧ w1.cell? ⟨b2, 8, none⟩ = some e8 ∧ w1.cell? ⟨b2, 9, none⟩ = some e9 ∧ Below w0.heap.size w0 w1) :
    w2.cell? ⟨b, 0, none⟩ = some a0 ∧ w2.cell? ⟨b, 1, none⟩ = some a1 ∧ w2.cell? ⟨b, 2, none⟩ = some a2 ∧ w2.cell? ⟨b, 3, none⟩ = some a3 ∧ w2.cell? ⟨b, 4, none⟩ = some a4 ∧ w2.cell? ⟨b, 5, none⟩ = some a5 ∧ w2.cell? ⟨b, 6, none⟩ = some a6 ∧ w2.cell? ⟨b, 7, none⟩ = some a7 ∧ w2.cell? ⟨b, 8, none⟩ = some a8 ∧ w2.cell? ⟨b, 9, none⟩ = some a9 ∧ w2.cell? ⟨b, 10, none⟩ = some a10 ∧ w2.cell? ⟨b, 11, none⟩ = some a11 ∧ w2.cell? ⟨b2, 0, none⟩ = some e0 ∧ w2.cell? ⟨b2, 1, none⟩ = some e1 ∧ w2.cell? ⟨b2, 2, none⟩ = some e2 ∧ w2.cell? ⟨b2, 3, none⟩ = some e3 ∧ w2.cell? ⟨b2, 4, none⟩ = some e4 ∧ w2.cell? ⟨b2, 5, none⟩ = some e5 ∧ w2.cell? ⟨b2, 6, none⟩ = some e6 ∧ w2.cell? ⟨b2, 7, none⟩ = some e7 ∧ w2.cell? ⟨b2, 8, none⟩ = some e8 ∧ w2.cell? ⟨b2, 9, none⟩ = some e9 ∧ Below w0.heap.size w0 w2 := by
  obtain ⟨h0, h1, h2, h3, h4, h5, h6, h7, h8, h9, h10, h11, h12, h13, h14, h15, h16, h17, h18, h19, h20, h21, hl⟩ := h
  exact ⟨cell_below hb h0, cell_below hb h1, cell_below hb h2, cell_below hb h3, cell_below hb h4, cell_below hb h5, cell_below hb h6, cell_below hb h7, cell_below hb h8, cell_below hb h9, cell_below hb h10, cell_below hb h11, cell_below hb h12, cell_below hb h13, cell_below hb h14, cell_below hb h15, cell_below hb h16, cell_below hb h17, cell_below hb h18, cell_below hb h19, cell_below hb h20, cell_below hb h21, below_trans hl hb⟩
theorem h22_drew {w0 w1 : World} {b b2 : Nat} {a0 a1 a2 a3 a4 a5 a6 a7 a8 a9 a10 a11 e0 e1 e2 e3 e4 e5 e6 e7 e8 e9 : Value} (h : w1.cell? ⟨b, 0, none⟩ = some a0 ∧ w1.cell? ⟨b, 1, none⟩ = some a1 ∧ w1.cell? ⟨b, 2, none⟩ = some a2 ∧ w1.cell? ⟨b, 3, none⟩ = some a3 ∧ w1.cell? ⟨b, 4, none⟩ = some a4 ∧ w1.cell? ⟨b, 5, none⟩ = some a5 ∧ w1.cell? ⟨b, 6, none⟩ = some a6 ∧ w1.cell? ⟨b, 7, none⟩ = some a7 ∧ w1.cell? ⟨b, 8, none⟩ = some a8 ∧ w1.cell? ⟨b, 9, none⟩ = some a9 ∧ w1.cell? ⟨b, 10, none⟩ = some a10 ∧ w1.cell? ⟨b, 11, none⟩ = some a11 ∧ w1.cell? ⟨b2, 0, none⟩ = some e0 ∧ w1.cell? ⟨b2, 1, none⟩ = some e1 ∧ w1.cell? ⟨b2, 2, none⟩ = some e2 ∧ w1.cell? ⟨b2, 3, none⟩ = some e3 ∧ w1.cell? ⟨b2, 4, none⟩ = some e4 ∧ w1.cell? ⟨b2, 5, none⟩ = some e5 ∧ w1.cell? ⟨b2, 6, none⟩ = some e6 ∧ w1.cell? ⟨b2, 7, none⟩ = some e7 ∧ w1.cell? ⟨b2, 8, none⟩ = some e8 ∧ w1.cell? ⟨b2, 9, none⟩ = some e9 ∧ Below w0.heap.size w0 w1) :
    w1.drew.cell? ⟨b, 0, none⟩ = some a0 ∧ w1.drew.cell? ⟨b, 1, none⟩ = some a1 ∧ w1.drew.cell? ⟨b, 2, none⟩ = some a2 ∧ w1.drew.cell? ⟨b, 3, none⟩ = some a3 ∧ w1.drew.cell? ⟨b, 4, none⟩ = some a4 ∧ w1.drew.cell? ⟨b, 5, none⟩ = some a5 ∧ w1.drew.cell? ⟨b, 6, none⟩ = some a6 ∧ w1.drew.cell? ⟨b, 7, none⟩ = some a7 ∧ w1.drew.cell? ⟨b, 8, none⟩ = some a8 ∧ w1.drew.cell? ⟨b, 9, none⟩ = some a9 ∧ w1.drew.cell? ⟨b, 10, none⟩ = some a10 ∧ w1.drew.cell? ⟨b, 11, none⟩ = some a11 ∧ w1.drew.cell? ⟨b2, 0, none⟩ = some e0 ∧ w1.drew.cell? ⟨b2, 1, none⟩ = some e1 ∧ w1.drew.cell? ⟨b2, 2, none⟩ = some e2 ∧ w1.drew.cell? ⟨b2, 3, none⟩ = some e3 ∧ w1.drew.cell? ⟨b2, 4, none⟩ = some e4 ∧ w1.drew.cell? ⟨b2, 5, none⟩ = some e5 ∧ w1.drew.cell? ⟨b2, 6, none⟩ = some e6 ∧ w1.drew.cell? ⟨b2, 7, none⟩ = some e7 ∧ w1.drew.cell? ⟨b2, 8, none⟩ = some e8 ∧ w1.drew.cell? ⟨b2, 9, none⟩ = some e9 ∧ Below w0.heap.size w0 w1.drew := by
  obtain ⟨h0, h1, h2, h3, h4, h5, h6, h7, h8, h9, h10, h11, h12, h13, h14, h15, h16, h17, h18, h19, h20, h21, hl⟩ := h
  exact ⟨h0, h1, h2, h3, h4, h5, h6, h7, h8, h9, h10, h11, h12, h13, h14, h15, h16, h17, h18, h19, h20, h21, hl.drew⟩
theorem h22_last {w0 w1 : World} {b b2 : Nat} {a0 a1 a2 a3 a4 a5 a6 a7 a8 a9 a10 a11 e0 e1 e2 e3 e4 e5 e6 e7 e8 e9 : Value} (h : w1.cell? ⟨b, 0, none⟩ = some a0 ∧ w1.cell? ⟨b, 1, none⟩ = some a1 ∧ w1.cell? ⟨b, 2, none⟩ = some a2 ∧ w1.cell? ⟨b, 3, none⟩ = some a3 ∧ w1.cell? ⟨b, 4, none⟩ = some a4 ∧ w1.cell? ⟨b, 5, none⟩ = some a5 ∧ w1.cell? ⟨b, 6, none⟩ = some a6 ∧ w1.cell? ⟨b, 7, none⟩ = some a7 ∧ w1.cell? ⟨b, 8, none⟩ = some a8 ∧ w1.cell? ⟨b, 9, none⟩ = some a9 ∧ w1.cell? ⟨b, 10, none⟩ = some a10 ∧ w1.cell? ⟨b, 11, none⟩ = some a11 ∧ w1.cell? ⟨b2, 0, none⟩ = some e0 ∧ w1.cell? ⟨b2, 1, none⟩ = some e1 ∧ w1.cell? ⟨b2, 2, none⟩ = some e2 ∧ w1.cell? ⟨b2, 3, none⟩ = some e3 ∧ w1.cell? ⟨b2, 4, none⟩ = some e4 ∧ w1.cell? ⟨b2, 5, none⟩ = some e5 ∧ w1.cell? ⟨b2, 6, none⟩ = some e6 ∧ w1.cell? ⟨b2, 7, none⟩ = some e7 ∧ w1.cell? ⟨b2, 8, none⟩ = some e8 ∧ w1.cell? ⟨b2, 9, none⟩ = some e9 ∧ Below w0.heap.size w0 w1) : Below w0.heap.size w0 w1 := by
  obtain ⟨_, _, _, _, _, _, _, _, _, _, _, _, _, _, _, _, _, _, _, _, _, _, hl⟩ := h
  exact hl
theorem h22_of {w0 w1 : World} {b b2 : Nat} {a0 a1 a2 a3 a4 a5 a6 a7 a8 a9 a10 a11 e0 e1 e2 e3 e4 e5 e6 e7 e8 e9 : Value} (h : w1.cell? ⟨b, 0, none⟩ = some a0 ∧ w1.cell? ⟨b, 1, none⟩ = some a1 ∧ w1.cell? ⟨b, 2, none⟩ = some a2 ∧ w1.cell? ⟨b, 3, none⟩ = some a3 ∧ w1.cell? ⟨b, 4, none⟩ = some a4 ∧ w1.cell? ⟨b, 5, none⟩ = some a5 ∧ w1.cell? ⟨b, 6, none⟩ = some a6 ∧ w1.cell? ⟨b, 7, none⟩ = some a7 ∧ w1.cell? ⟨b, 8, none⟩ = some a8 ∧ w1.cell? ⟨b, 9, none⟩ = some a9 ∧ w1.cell? ⟨b, 10, none⟩ = some a10 ∧ w1.cell? ⟨b, 11, none⟩ = some a11 ∧ Below w0.heap.size w0 w1) (k : Blk w1 b2 [e0, e1, e2, e3, e4, e5, e6, e7, e8, e9]) : w1.cell? ⟨b, 0, none⟩ = some a0 ∧ w1.cell? ⟨b, 1, none⟩ = some a1 ∧ w1.cell? ⟨b, 2, none⟩ = some a2 ∧ w1.cell? ⟨b, 3, none⟩ = some a3 ∧ w1.cell? ⟨b, 4, none⟩ = some a4 ∧ w1.cell? ⟨b, 5, none⟩ = some a5 ∧ w1.cell? ⟨b, 6, none⟩ = some a6 ∧ w1.cell? ⟨b, 7, none⟩ = some a7 ∧ w1.cell? ⟨b, 8, none⟩ = some a8 ∧ w1.cell? ⟨b, 9, none⟩ = some a9 ∧ w1.cell? ⟨b, 10, none⟩ = some a10 ∧ w1.cell? ⟨b, 11, none⟩ = some a11 ∧ w1.cell? ⟨b2, 0, none⟩ = some e0 ∧ w1.cell? ⟨b2, 1, none⟩ = some e1 ∧ w1.cell? ⟨b2, 2, none⟩ = some e2 ∧ w1.cell? ⟨b2, 3, none⟩ = some e3 ∧ w1.cell? ⟨b2, 4, none⟩ = some e4 ∧ w1.cell? ⟨b2, 5, none⟩ = some e5 ∧ w1.cell? ⟨b2, 6, none⟩ = some e6 ∧ w1.cell? ⟨b2, 7, none⟩ = some e7 ∧ w1.cell? ⟨b2, 8, none⟩ = some e8 ∧ w1.cell? ⟨b2, 9, none⟩ = some e9 ∧ Below w0.heap.size w0 w1 := by
  obtain ⟨h0, h1, h2, h3, h4, h5, h6, h7, h8, h9, h10, h11, hl⟩ := h
  exact ⟨h0, h1, h2, h3, h4, h5, h6, h7, h8, h9, h10, h11, k.cell 0, k.cell 1, k.cell 2, k.cell 3, k.cell 4, k.cell 5, k.cell 6, k.cell 7, k.cell 8, k.cell 9, hl⟩
theorem reset_again (kind : Int) (c : Ctl) (l : List Attr) (x : List UInt8) : resetO kind (resetO kind c l x) l x = resetO kind c l x := rfl
set_option maxHeartbeats 6400000 in
set_option maxRecDepth 100000 in
theorem resets_walk (kind : Int) (_hk : i64 kind) (v : List UInt8) (d t ch dc m s ds : Bool) (cu : List UInt8) (f : Value) (fs : List Ent) (hbig : fs.length * 72 ≤ 140737488355328) (_hnm : ∀ x ∈ fs, x.fname.length ≤ 1000000000000000) (va : Value) (l : List Attr) (x : List UInt8) (_hx : (⟨x.toArray⟩ : ByteArray).size ≤ maxLen) (w : World) (hA : AttrsAt w va l) (hF : EntsAt w f fs) (hG : G w) (hE : GE w) :
    Calls Tryz.prog 5 #[itemV kind v d t ch dc m s ds cu f va, .string ⟨x.toArray⟩] w fun e w' => e = .returned (.bool true) ∧ Below w.heap.size w w' := by
  clear _hx
  have hlb : fs.length ≤ 10000000000000 := by omega
  obtain ⟨fa, fc, rfl⟩ := RowAt.lenN hF
  have hL := fun w h => long14_any kind v d t ch dc m s ds cu (.slice fa fs.length fc) va l x w h
  have hW := fun w g k => wakes14_any w g k
  have hB : Below w.heap.size w (w.alloc (.cells #[.int .i64 kind, .string ⟨v.toArray⟩, .bool d, .bool t, .bool ch, .bool dc, .bool m, .bool s, .bool ds, .string ⟨cu.toArray⟩, .slice fa fs.length fc, va] 27)) := (Below.refl _ _).alloc (Nat.le_refl _) _
  have hh0 := h12_blk (Blk.fresh w [.int .i64 kind, .string ⟨v.toArray⟩, .bool d, .bool t, .bool ch, .bool dc, .bool m, .bool s, .bool ds, .string ⟨cu.toArray⟩, .slice fa fs.length fc, va] 27) hB
  unfold itemV at hL ⊢
  go_enter Tryz.func5, Tryz.ntmps5
  go_wp2_with fail
  refine (hW _ (hG.below hB) (hE.below hB)).mono ?_
  rintro e w1 ⟨rfl, hb1⟩
  have hh1 := h12_below hb1 hh0
  have HH1 := hh1
  obtain ⟨c0, c1, c2, c3, c4, c5, c6, c7, c8, c9, c10, c11, hlow⟩ := HH1
  have lt1 := lt_of_cell c0
  have ne1 : ¬ w.heap.size = w1.heap.size := by omega
  have nf1 : ¬ w1.heap.size = w.heap.size := by omega
  clear hW
  go_wp2_with fail
  refine (hL _ (hA.below (h12_last hh1))).mono ?_
  rintro e w2 ⟨⟨b, rfl, hS⟩, hb2⟩
  have hh2 := h12_below hb2 hh1
  have HH2 := hh2
  clear c0 c1 c2 c3 c4 c5 c6 c7 c8 c9 c10 c11 hlow
  obtain ⟨c0, c1, c2, c3, c4, c5, c6, c7, c8, c9, c10, c11, hlow⟩ := HH2
  have lt2 := lt_of_cell c0
  have ne2 : ¬ w.heap.size = w2.heap.size := by omega
  have nf2 : ¬ w2.heap.size = w.heap.size := by omega
  clear hL
  cases b
  case true =>
    go_wp2_with fail
    go_ret
    exact ⟨rfl, h12_last hh2⟩
  have hSh := hS rfl
  have hfine := hSh.fine
  have hvl := hSh.value
  have hxl := hSh.text
  have heach := hSh.each
  clear hS hb1 hb2 hh0 hB hSh
  have hx6 : x.length ≤ 1000000 := by omega
  have hw1 := fun w h1 h3 h4 => Reset_any kind ⟨v, d, t, ch, dc, m, s, ds, cu, fs⟩ (.slice fa fs.length fc) ⟨_, _, _, rfl⟩ va l hfine x hx6 w h1 h3 h4
  have hw2 := fun w h1 h3 h4 => rReset_any kind ⟨v, d, t, ch, dc, m, s, ds, cu, fs⟩ (.slice fa fs.length fc) ⟨_, _, _, rfl⟩ va l hfine x hx6 w h1 h3 h4
  have hw3 := fun f hf w h1 h3 h4 => Reset_any kind (resetO kind ⟨v, d, t, ch, dc, m, s, ds, cu, fs⟩ l x) f hf va l hfine x hx6 w h1 h3 h4
  have hfl : ([] : List Ent) = (resetO kind ⟨v, d, t, ch, dc, m, s, ds, cu, fs⟩ l x).files := rfl
  generalize hr : resetO kind ⟨v, d, t, ch, dc, m, s, ds, cu, fs⟩ l x = r at *
  rw [show resetO kind r l x = r from by rw [← hr]; rfl] at hw3
  clear hr
  obtain ⟨v1, d1, t1, ch1, dc1, m1, s1, ds1, cu1, fs1⟩ := r
  dsimp only at hfl
  subst hfl
  dsimp only [cV, ctlV] at hw1 hw2 hw3
  have hsm := fun fa fb w => same_any v1 d1 t1 ch1 dc1 m1 s1 ds1 cu1 fa fb [] (by decide) w
  unfold ctlV at hsm
  clear hfine hvl hxl heach hlb hbig hx6 _hnm
  go_wp2_with fail
  refine (hw1 _ (hA.below (h12_last hh2)) (hG.below (h12_last hh2)) (hE.below (h12_last hh2))).mono ?_
  rintro e w3 ⟨f3, rfl, hf3, hb3⟩
  obtain ⟨oa3, n3, cap3, rfl⟩ := hf3.isSl
  dsimp only [cV, ctlV]
  clear hw1
  have hh3 := h12_below hb3 hh2
  have HH3 := hh3
  clear c0 c1 c2 c3 c4 c5 c6 c7 c8 c9 c10 c11 hlow
  obtain ⟨c0, c1, c2, c3, c4, c5, c6, c7, c8, c9, c10, c11, hlow⟩ := HH3
  have lt3 := lt_of_cell c0
  have ne3 : ¬ w.heap.size = w3.heap.size := by omega
  have nf3 : ¬ w3.heap.size = w.heap.size := by omega
  have hb3a : Below w3.heap.size w3 (w3.alloc (.cells #[.string ⟨v1.toArray⟩, .bool d1, .bool t1, .bool ch1, .bool dc1, .bool m1, .bool s1, .bool ds1, .string ⟨cu1.toArray⟩, .slice oa3 n3 cap3] 24)) := (Below.refl _ _).alloc (Nat.le_refl _) _
  have hq := h22_of (h12_below hb3a hh3) (Blk.fresh w3 [.string ⟨v1.toArray⟩, .bool d1, .bool t1, .bool ch1, .bool dc1, .bool m1, .bool s1, .bool ds1, .string ⟨cu1.toArray⟩, .slice oa3 n3 cap3] 24)
  have hf3 : EntsAt (w3.alloc (.cells #[.string ⟨v1.toArray⟩, .bool d1, .bool t1, .bool ch1, .bool dc1, .bool m1, .bool s1, .bool ds1, .string ⟨cu1.toArray⟩, .slice oa3 n3 cap3] 24)) (.slice oa3 n3 cap3) [] := EntsAt.below hf3 hb3a
  have HQ := Lib.hid hq
  clear hq hb3a hh3 hh2 hh1
  go_wp2_with fail
  have hq := HQ.out
  clear HQ
  have hsz3 : w3.heap.size < (w3.alloc (.cells #[.string ⟨v1.toArray⟩, .bool d1, .bool t1, .bool ch1, .bool dc1, .bool m1, .bool s1, .bool ds1, .string ⟨cu1.toArray⟩, .slice oa3 n3 cap3] 24)).heap.size := by simp
  generalize w3.alloc (.cells #[.string ⟨v1.toArray⟩, .bool d1, .bool t1, .bool ch1, .bool dc1, .bool m1, .bool s1, .bool ds1, .string ⟨cu1.toArray⟩, .slice oa3 n3 cap3] 24) = w4 at *
  clear c0 c1 c2 c3 c4 c5 c6 c7 c8 c9 c10 c11 hlow
  clear lt3 ne3 nf3 lt2 ne2 nf2 lt1 ne1 nf1
  go_region_held3 (fun w' => w'.cell? ⟨w.heap.size, 0, none⟩ = some (.int .i64 kind) ∧ w'.cell? ⟨w.heap.size, 1, none⟩ = some (.string ⟨v.toArray⟩) ∧ w'.cell? ⟨w.heap.size, 2, none⟩ = some (.bool d) ∧ w'.cell? ⟨w.heap.size, 3, none⟩ = some (.bool t) ∧ w'.cell? ⟨w.heap.size, 4, none⟩ = some (.bool ch) ∧ w'.cell? ⟨w.heap.size, 5, none⟩ = some (.bool dc) ∧ w'.cell? ⟨w.heap.size, 6, none⟩ = some (.bool m) ∧ w'.cell? ⟨w.heap.size, 7, none⟩ = some (.bool s) ∧ w'.cell? ⟨w.heap.size, 8, none⟩ = some (.bool ds) ∧ w'.cell? ⟨w.heap.size, 9, none⟩ = some (.string ⟨cu.toArray⟩) ∧ w'.cell? ⟨w.heap.size, 10, none⟩ = some (.slice fa fs.length fc) ∧ w'.cell? ⟨w.heap.size, 11, none⟩ = some (va) ∧ w'.cell? ⟨w3.heap.size, 0, none⟩ = some (.string ⟨v1.toArray⟩) ∧ w'.cell? ⟨w3.heap.size, 1, none⟩ = some (.bool d1) ∧ w'.cell? ⟨w3.heap.size, 2, none⟩ = some (.bool t1) ∧ w'.cell? ⟨w3.heap.size, 3, none⟩ = some (.bool ch1) ∧ w'.cell? ⟨w3.heap.size, 4, none⟩ = some (.bool dc1) ∧ w'.cell? ⟨w3.heap.size, 5, none⟩ = some (.bool m1) ∧ w'.cell? ⟨w3.heap.size, 6, none⟩ = some (.bool s1) ∧ w'.cell? ⟨w3.heap.size, 7, none⟩ = some (.bool ds1) ∧ w'.cell? ⟨w3.heap.size, 8, none⟩ = some (.string ⟨cu1.toArray⟩) ∧ w'.cell? ⟨w3.heap.size, 9, none⟩ = some (.slice oa3 n3 cap3) ∧ Below w.heap.size w w')
    (first | assumption | exact h22_drew hq | (refine h22_below (by assumption) (by assumption)))
    (first | (go_at_call 25; refine (hw2 _ (hA.below (h22_last (by assumption))) (hG.below (h22_last (by assumption))) (hE.below (h22_last (by assumption)))).mono ?_; rintro e w8 ⟨f8, rfl, hf8, hb8⟩; obtain ⟨oa8, n8, cap8, rfl⟩ := hf8.isSl; dsimp only [cV, ctlV]) | (go_at_call 24; refine (hw3 (.slice oa3 n3 cap3) ⟨_, _, _, rfl⟩ _ (hA.below (h22_last (by assumption))) (hG.below (h22_last (by assumption))) (hE.below (h22_last (by assumption)))).mono ?_; rintro e w6 ⟨f6, rfl, hf6, hb6⟩; obtain ⟨oa6, n6, cap6, rfl⟩ := hf6.isSl; dsimp only [cV, ctlV]) | (go_at_call 17; ((refine (hsm _ _ _ (by first | exact hf6 | exact EntsAt.below (EntsAt.drew hf3) hb8 | exact EntsAt.below hf3 hb8) (by first | exact EntsAt.below (EntsAt.drew hf3) (below_trans hb8 (below_trans hb7 hb6)) | exact EntsAt.below hf3 (below_trans hb8 (below_trans hb7 hb6)) | exact hf8)).mono ?_); rintro e w7 ⟨rfl, hb7⟩)))
  all_goals
    go_wp2_with fail
    go_ret
    exact ⟨rfl, h22_last (by assumption)⟩
end Go.Proofs.YtbhdoocajfkfiaaGreatDoor.ctl
