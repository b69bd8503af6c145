/- The contracts of Write: the program's, the reference's. The contracts of Type, Changed, Reset: the program's, the reference's. The contracts of Reset: the program's, the reference's. The contract of Retype, of a kind of input's that has its own value: the program's. -/
import Derived.Test.YtbhdoocajfkfiaaGreatDoorMn
import Derived.Test.YtbhdoocajfkfiaaGreatDoorMd
import Derived.Test.YtbhdoocajfkfiaaGreatDoorMo
import Derived.Deep.DeepCutAuto
namespace Go.Proofs.YtbhdoocajfkfiaaGreatDoor.ctl
open Go.ChangeShapes Go.WideShapes Go.ChangeAt Go.RowKit Go.Lib Go.Proofs.YtbhdoocajfkfiaaGreatDoor.num Go.Proofs.YtbhdoocajfkfiaaGreatDoor.mom Go.Proofs.YtbhdoocajfkfiaaGreatDoor.fits Go.Proofs.YtbhdoocajfkfiaaGreatDoor.atr Go.Proofs.YtbhdoocajfkfiaaGreatDoor.link Go.Proofs.YtbhdoocajfkfiaaGreatDoor.stp Go.Proofs.YtbhdoocajfkfiaaGreatDoor.cln

set_option maxHeartbeats 3200000 in
set_option maxRecDepth 100000 in
theorem write_long_w (kind : Int) (v : List UInt8) (d t ch dc m s ds : Bool) (cu : List UInt8) (f : Value) (fs : List Ent) (_hbig : fs.length * 72 ≤ 140737488355328) (va : Value) (l : List Attr) (_hl : Fine l) (x : List UInt8) (hx : 4000 < x.length) (w : World) (_hA : AttrsAt w va l) (hF : EntsAt w f fs) (_hG : G w) (_hE : GE w) :
    Calls Tryz.prog 22 #[.int .i64 kind, ctlV v d t ch dc m s ds cu f, va, .string ⟨x.toArray⟩] w (RetCW zeroC false 2 w) := by
  have hxI : (4000 : Int) < x.length := by omega
  clear hx _hbig _hl _hA _hG _hE
  obtain ⟨fa, fc, rfl⟩ := RowAt.lenN hF
  unfold ctlV
  go_enter Tryz.func22, Tryz.ntmps22
  go_wp2_with fail
  have h0 := Two.start w [.string ⟨v.toArray⟩, .bool d, .bool t, .bool ch, .bool dc, .bool m, .bool s, .bool ds, .string ⟨cu.toArray⟩, .slice fa fs.length fc] [.string ⟨#[]⟩, .bool false, .bool false, .bool false, .bool false, .bool false, .bool false, .bool false, .string ⟨#[]⟩, .slice none 0 0] 24 24
  (try simp only [Exit.inBlock, Exit.then])
  refine bodyPost_ret (v := .tuple #[ctlV [] false false false false false false false [] (.slice none 0 0), .bool false, .int .i64 2]) (by rw [rcell3 rfl]; (try unfold ctlV); go_simp) rfl ⟨.slice none 0 0, rfl, EntsAt.nil _, FreshV.nil _, ?_⟩
  repeat refine Below.setCell ?_ (by first | exact Nat.le_refl _ | exact Nat.le_succ _) _
  exact h0.low
set_option maxHeartbeats 3200000 in
set_option maxRecDepth 100000 in
theorem rwrite_long_w (kind : Int) (v : List UInt8) (d t ch dc m s ds : Bool) (cu : List UInt8) (f : Value) (fs : List Ent) (_hbig : fs.length * 72 ≤ 140737488355328) (va : Value) (l : List Attr) (_hl : Fine l) (x : List UInt8) (hx : 4000 < x.length) (w : World) (_hA : AttrsAt w va l) (hF : EntsAt w f fs) (_hG : G w) (_hE : GE w) :
    Calls Tryz.prog 23 #[.int .i64 kind, ctlV v d t ch dc m s ds cu f, va, .string ⟨x.toArray⟩] w (RetCB zeroC false 2 w) := by
  have hm := fun w => rmode_any kind w
  generalize modeP kind = mm at *
  have hxI : (4000 : Int) < x.length := by omega
  clear hx _hbig _hl _hA _hG _hE
  obtain ⟨fa, fc, rfl⟩ := RowAt.lenN hF
  unfold ctlV
  go_enter Tryz.func23, Tryz.ntmps23
  go_wp2_with fail
  have h0 := Two.start w [.string ⟨v.toArray⟩, .bool d, .bool t, .bool ch, .bool dc, .bool m, .bool s, .bool ds, .string ⟨cu.toArray⟩, .slice fa fs.length fc] [.string ⟨#[]⟩, .bool false, .bool false, .bool false, .bool false, .bool false, .bool false, .bool false, .string ⟨#[]⟩, .slice none 0 0] 24 24
  refine (hm _).mono ?_
  rintro e w' ⟨rfl, rfl⟩
  go_wp2_with fail
  (try simp only [Exit.inBlock, Exit.then])
  refine bodyPost_ret (v := .tuple #[ctlV [] false false false false false false false [] (.slice none 0 0), .bool false, .int .i64 2]) (by rw [rcell3 rfl]; (try unfold ctlV); go_simp) rfl ⟨.slice none 0 0, rfl, EntsAt.nil _, ?_⟩
  repeat refine Below.setCell ?_ (by first | exact Nat.le_refl _ | exact Nat.le_succ _) _
  exact h0.low
set_option maxHeartbeats 3200000 in
set_option maxRecDepth 100000 in
theorem write1_w (kind : Int) (hmo : modeP kind = 1) (v : List UInt8) (d t ch dc m s ds : Bool) (cu : List UInt8) (f : Value) (fs : List Ent) (hbig : fs.length * 72 ≤ 140737488355328) (va : Value) (l : List Attr) (hl : Fine l) (x : List UInt8) (hx : x.length ≤ 4000) (w : World) (hA : AttrsAt w va l) (hF : EntsAt w f fs) (hG : G w) (hE : GE w) :
    Calls Tryz.prog 22 #[.int .i64 kind, ctlV v d t ch dc m s ds cu f, va, .string ⟨x.toArray⟩] w (RetCW ⟨cleanedP kind l x, true, false, ch, dc, m, s, ds, cu, fs⟩ false 0 w) := by
  have ho := fun w h => own_any v d t ch dc m s ds cu f fs hbig w h
  have hm := fun w => mode_anyB kind w
  rw [hmo] at hm
  have hc := fun w h g k => cleaned_any kind va l hl x (by omega) w h g k
  generalize cleanedP kind l x = y at *
  clear hmo hl
  have hxI : ¬ (4000 : Int) < x.length := by omega
  clear hx hbig
  obtain ⟨fa, fc, rfl⟩ := RowAt.lenN hF
  unfold ctlV
  go_enter Tryz.func22, Tryz.ntmps22
  go_wp2_with fail
  have h0 := Two.start w [.string ⟨v.toArray⟩, .bool d, .bool t, .bool ch, .bool dc, .bool m, .bool s, .bool ds, .string ⟨cu.toArray⟩, .slice fa fs.length fc] [.string ⟨#[]⟩, .bool false, .bool false, .bool false, .bool false, .bool false, .bool false, .bool false, .string ⟨#[]⟩, .slice none 0 0] 24 24
  refine (ho _ (hF.below h0.low)).mono ?_
  rintro e w1 ⟨oa, n, cap, rfl, hfe, hfr, hb1⟩
  unfold ctlV
  have h1 : TwoF w w1 [.string ⟨v.toArray⟩, .bool d, .bool t, .bool ch, .bool dc, .bool m, .bool s, .bool ds, .string ⟨cu.toArray⟩, .slice fa fs.length fc] [.string ⟨#[]⟩, .bool false, .bool false, .bool false, .bool false, .bool false, .bool false, .bool false, .string ⟨#[]⟩, .slice none 0 0] (.slice oa n cap) fs := ⟨h0.below hb1, hfe, fun k e => by have := hfr k e; simp at this; omega⟩
  have HF2 := Lib.hid hfe
  have HR2 := Lib.hid hfr
  clear hfe hfr
  obtain ⟨c0, c1, c2, c3, c4, c5, c6, c7, c8, c9, f0, f1, f2, f3, f4, f5, f6, f7, f8, f9, d0, d1, d2, d3, d4, d5, d6, d7, d8, d9, g0, g1, g2, g3, g4, g5, g6, g7, g8, g9⟩ := h1.two.facts
  go_wp2_with fail
  have h2 : TwoF w _ [.string ⟨v.toArray⟩, .bool d, .bool t, .bool ch, .bool dc, .bool m, .bool s, .bool ds, .string ⟨cu.toArray⟩, .slice oa n cap] [.string ⟨#[]⟩, .bool false, .bool false, .bool false, .bool false, .bool false, .bool false, .bool false, .string ⟨#[]⟩, .slice none 0 0] (.slice oa n cap) fs := ((((((((((h1).setP 0 (.string ⟨v.toArray⟩)).setP 1 (.bool d)).setP 2 (.bool t)).setP 3 (.bool ch)).setP 4 (.bool dc)).setP 5 (.bool m)).setP 6 (.bool s)).setP 7 (.bool ds)).setP 8 (.string ⟨cu.toArray⟩)).setP 9 (.slice oa n cap)
  refine (hm _).mono ?_
  rintro e w3 ⟨rfl, hb3⟩
  have h3 : TwoF w w3 [.string ⟨v.toArray⟩, .bool d, .bool t, .bool ch, .bool dc, .bool m, .bool s, .bool ds, .string ⟨cu.toArray⟩, .slice oa n cap] [.string ⟨#[]⟩, .bool false, .bool false, .bool false, .bool false, .bool false, .bool false, .bool false, .string ⟨#[]⟩, .slice none 0 0] (.slice oa n cap) fs := h2.below hb3
  clear c0 c1 c2 c3 c4 c5 c6 c7 c8 c9 f0 f1 f2 f3 f4 f5 f6 f7 f8 f9 d0 d1 d2 d3 d4 d5 d6 d7 d8 d9 g0 g1 g2 g3 g4 g5 g6 g7 g8 g9
  obtain ⟨c0, c1, c2, c3, c4, c5, c6, c7, c8, c9, f0, f1, f2, f3, f4, f5, f6, f7, f8, f9, d0, d1, d2, d3, d4, d5, d6, d7, d8, d9, g0, g1, g2, g3, g4, g5, g6, g7, g8, g9⟩ := h3.two.facts
  go_wp2_with fail
  refine (hc _ (hA.below h3.low) (hG.below h3.low) (hE.below h3.low)).mono ?_
  rintro e w4 ⟨rfl, hb4⟩
  have h4 : TwoF w w4 [.string ⟨v.toArray⟩, .bool d, .bool t, .bool ch, .bool dc, .bool m, .bool s, .bool ds, .string ⟨cu.toArray⟩, .slice oa n cap] [.string ⟨#[]⟩, .bool false, .bool false, .bool false, .bool false, .bool false, .bool false, .bool false, .string ⟨#[]⟩, .slice none 0 0] (.slice oa n cap) fs := h3.below hb4
  clear c0 c1 c2 c3 c4 c5 c6 c7 c8 c9 f0 f1 f2 f3 f4 f5 f6 f7 f8 f9 d0 d1 d2 d3 d4 d5 d6 d7 d8 d9 g0 g1 g2 g3 g4 g5 g6 g7 g8 g9
  obtain ⟨c0, c1, c2, c3, c4, c5, c6, c7, c8, c9, f0, f1, f2, f3, f4, f5, f6, f7, f8, f9, d0, d1, d2, d3, d4, d5, d6, d7, d8, d9, g0, g1, g2, g3, g4, g5, g6, g7, g8, g9⟩ := h4.two.facts
  go_wp2_with fail
  have h5 : TwoF w _ [.string ⟨y.toArray⟩, .bool true, .bool false, .bool ch, .bool dc, .bool m, .bool s, .bool ds, .string ⟨cu.toArray⟩, .slice oa n cap] [.string ⟨y.toArray⟩, .bool true, .bool false, .bool ch, .bool dc, .bool m, .bool s, .bool ds, .string ⟨cu.toArray⟩, .slice oa n cap] (.slice oa n cap) fs := (((((((((((((h4).setP 0 (.string ⟨y.toArray⟩)).setP 1 (.bool true)).setP 2 (.bool false)).setR 0 (.string ⟨y.toArray⟩)).setR 1 (.bool true)).setR 2 (.bool false)).setR 3 (.bool ch)).setR 4 (.bool dc)).setR 5 (.bool m)).setR 6 (.bool s)).setR 7 (.bool ds)).setR 8 (.string ⟨cu.toArray⟩)).setR 9 (.slice oa n cap)
  (try simp only [Exit.inBlock, Exit.then])
  refine bodyPost_ret (v := .tuple #[ctlV y true false ch dc m s ds cu (.slice oa n cap), .bool false, .int .i64 0]) (by rw [rcell3 rfl]; (try unfold ctlV); go_simp) rfl ⟨_, rfl, h5.ents, h5.fresh.two, h5.low⟩
set_option maxHeartbeats 3200000 in
set_option maxRecDepth 100000 in
theorem write3_w (kind : Int) (hmo : modeP kind = 3) (v : List UInt8) (d t ch dc m s ds : Bool) (cu : List UInt8) (f : Value) (fs : List Ent) (hbig : fs.length * 72 ≤ 140737488355328) (va : Value) (l : List Attr) (_hl : Fine l) (x : List UInt8) (hx : x.length ≤ 4000) (w : World) (_hA : AttrsAt w va l) (hF : EntsAt w f fs) (_hG : G w) (_hE : GE w) :
    Calls Tryz.prog 22 #[.int .i64 kind, ctlV v d t ch dc m s ds cu f, va, .string ⟨x.toArray⟩] w (RetCW ⟨v, d, t, ch, dc, m, s, ds, cu, fs⟩ true 0 w) := by
  have ho := fun w h => own_any v d t ch dc m s ds cu f fs hbig w h
  have hm := fun w => mode_anyB kind w
  rw [hmo] at hm
  clear hmo _hl
  have hxI : ¬ (4000 : Int) < x.length := by omega
  clear hx hbig
  obtain ⟨fa, fc, rfl⟩ := RowAt.lenN hF
  unfold ctlV
  go_enter Tryz.func22, Tryz.ntmps22
  go_wp2_with fail
  have h0 := Two.start w [.string ⟨v.toArray⟩, .bool d, .bool t, .bool ch, .bool dc, .bool m, .bool s, .bool ds, .string ⟨cu.toArray⟩, .slice fa fs.length fc] [.string ⟨#[]⟩, .bool false, .bool false, .bool false, .bool false, .bool false, .bool false, .bool false, .string ⟨#[]⟩, .slice none 0 0] 24 24
  refine (ho _ (hF.below h0.low)).mono ?_
  rintro e w1 ⟨oa, n, cap, rfl, hfe, hfr, hb1⟩
  unfold ctlV
  have h1 : TwoF w w1 [.string ⟨v.toArray⟩, .bool d, .bool t, .bool ch, .bool dc, .bool m, .bool s, .bool ds, .string ⟨cu.toArray⟩, .slice fa fs.length fc] [.string ⟨#[]⟩, .bool false, .bool false, .bool false, .bool false, .bool false, .bool false, .bool false, .string ⟨#[]⟩, .slice none 0 0] (.slice oa n cap) fs := ⟨h0.below hb1, hfe, fun k e => by have := hfr k e; simp at this; omega⟩
  have HF2 := Lib.hid hfe
  have HR2 := Lib.hid hfr
  clear hfe hfr
  obtain ⟨c0, c1, c2, c3, c4, c5, c6, c7, c8, c9, f0, f1, f2, f3, f4, f5, f6, f7, f8, f9, d0, d1, d2, d3, d4, d5, d6, d7, d8, d9, g0, g1, g2, g3, g4, g5, g6, g7, g8, g9⟩ := h1.two.facts
  go_wp2_with fail
  have h2 : TwoF w _ [.string ⟨v.toArray⟩, .bool d, .bool t, .bool ch, .bool dc, .bool m, .bool s, .bool ds, .string ⟨cu.toArray⟩, .slice oa n cap] [.string ⟨#[]⟩, .bool false, .bool false, .bool false, .bool false, .bool false, .bool false, .bool false, .string ⟨#[]⟩, .slice none 0 0] (.slice oa n cap) fs := ((((((((((h1).setP 0 (.string ⟨v.toArray⟩)).setP 1 (.bool d)).setP 2 (.bool t)).setP 3 (.bool ch)).setP 4 (.bool dc)).setP 5 (.bool m)).setP 6 (.bool s)).setP 7 (.bool ds)).setP 8 (.string ⟨cu.toArray⟩)).setP 9 (.slice oa n cap)
  refine (hm _).mono ?_
  rintro e w3 ⟨rfl, hb3⟩
  have h3 : TwoF w w3 [.string ⟨v.toArray⟩, .bool d, .bool t, .bool ch, .bool dc, .bool m, .bool s, .bool ds, .string ⟨cu.toArray⟩, .slice oa n cap] [.string ⟨#[]⟩, .bool false, .bool false, .bool false, .bool false, .bool false, .bool false, .bool false, .string ⟨#[]⟩, .slice none 0 0] (.slice oa n cap) fs := h2.below hb3
  clear c0 c1 c2 c3 c4 c5 c6 c7 c8 c9 f0 f1 f2 f3 f4 f5 f6 f7 f8 f9 d0 d1 d2 d3 d4 d5 d6 d7 d8 d9 g0 g1 g2 g3 g4 g5 g6 g7 g8 g9
  obtain ⟨c0, c1, c2, c3, c4, c5, c6, c7, c8, c9, f0, f1, f2, f3, f4, f5, f6, f7, f8, f9, d0, d1, d2, d3, d4, d5, d6, d7, d8, d9, g0, g1, g2, g3, g4, g5, g6, g7, g8, g9⟩ := h3.two.facts
  go_wp2_with fail
  have h4 : TwoF w _ [.string ⟨v.toArray⟩, .bool d, .bool t, .bool ch, .bool dc, .bool m, .bool s, .bool ds, .string ⟨cu.toArray⟩, .slice oa n cap] [.string ⟨v.toArray⟩, .bool d, .bool t, .bool ch, .bool dc, .bool m, .bool s, .bool ds, .string ⟨cu.toArray⟩, .slice oa n cap] (.slice oa n cap) fs := ((((((((((h3).setR 0 (.string ⟨v.toArray⟩)).setR 1 (.bool d)).setR 2 (.bool t)).setR 3 (.bool ch)).setR 4 (.bool dc)).setR 5 (.bool m)).setR 6 (.bool s)).setR 7 (.bool ds)).setR 8 (.string ⟨cu.toArray⟩)).setR 9 (.slice oa n cap)
  (try simp only [Exit.inBlock, Exit.then])
  refine bodyPost_ret (v := .tuple #[ctlV v d t ch dc m s ds cu (.slice oa n cap), .bool true, .int .i64 0]) (by rw [rcell3 rfl]; (try unfold ctlV); go_simp) rfl ⟨_, rfl, h4.ents, h4.fresh.two, h4.low⟩
set_option maxHeartbeats 3200000 in
set_option maxRecDepth 100000 in
theorem write2_w (kind : Int) (hmo : modeP kind = 2) (v : List UInt8) (d t ch dc m s ds : Bool) (cu : List UInt8) (f : Value) (fs : List Ent) (hbig : fs.length * 72 ≤ 140737488355328) (va : Value) (l : List Attr) (_hl : Fine l) (x : List UInt8) (hx : x.length ≤ 4000) (w : World) (_hA : AttrsAt w va l) (hF : EntsAt w f fs) (_hG : G w) (_hE : GE w) :
    Calls Tryz.prog 22 #[.int .i64 kind, ctlV v d t ch dc m s ds cu f, va, .string ⟨x.toArray⟩] w (RetCW ⟨v, d, t, ch, dc, m, s, ds, cu, fs⟩ true 0 w) := by
  have ho := fun w h => own_any v d t ch dc m s ds cu f fs hbig w h
  have hm := fun w => mode_anyB kind w
  rw [hmo] at hm
  clear hmo _hl
  have hxI : ¬ (4000 : Int) < x.length := by omega
  clear hx hbig
  obtain ⟨fa, fc, rfl⟩ := RowAt.lenN hF
  unfold ctlV
  go_enter Tryz.func22, Tryz.ntmps22
  go_wp2_with fail
  have h0 := Two.start w [.string ⟨v.toArray⟩, .bool d, .bool t, .bool ch, .bool dc, .bool m, .bool s, .bool ds, .string ⟨cu.toArray⟩, .slice fa fs.length fc] [.string ⟨#[]⟩, .bool false, .bool false, .bool false, .bool false, .bool false, .bool false, .bool false, .string ⟨#[]⟩, .slice none 0 0] 24 24
  refine (ho _ (hF.below h0.low)).mono ?_
  rintro e w1 ⟨oa, n, cap, rfl, hfe, hfr, hb1⟩
  unfold ctlV
  have h1 : TwoF w w1 [.string ⟨v.toArray⟩, .bool d, .bool t, .bool ch, .bool dc, .bool m, .bool s, .bool ds, .string ⟨cu.toArray⟩, .slice fa fs.length fc] [.string ⟨#[]⟩, .bool false, .bool false, .bool false, .bool false, .bool false, .bool false, .bool false, .string ⟨#[]⟩, .slice none 0 0] (.slice oa n cap) fs := ⟨h0.below hb1, hfe, fun k e => by have := hfr k e; simp at this; omega⟩
  have HF2 := Lib.hid hfe
  have HR2 := Lib.hid hfr
  clear hfe hfr
  obtain ⟨c0, c1, c2, c3, c4, c5, c6, c7, c8, c9, f0, f1, f2, f3, f4, f5, f6, f7, f8, f9, d0, d1, d2, d3, d4, d5, d6, d7, d8, d9, g0, g1, g2, g3, g4, g5, g6, g7, g8, g9⟩ := h1.two.facts
  go_wp2_with fail
  have h2 : TwoF w _ [.string ⟨v.toArray⟩, .bool d, .bool t, .bool ch, .bool dc, .bool m, .bool s, .bool ds, .string ⟨cu.toArray⟩, .slice oa n cap] [.string ⟨#[]⟩, .bool false, .bool false, .bool false, .bool false, .bool false, .bool false, .bool false, .string ⟨#[]⟩, .slice none 0 0] (.slice oa n cap) fs := ((((((((((h1).setP 0 (.string ⟨v.toArray⟩)).setP 1 (.bool d)).setP 2 (.bool t)).setP 3 (.bool ch)).setP 4 (.bool dc)).setP 5 (.bool m)).setP 6 (.bool s)).setP 7 (.bool ds)).setP 8 (.string ⟨cu.toArray⟩)).setP 9 (.slice oa n cap)
  refine (hm _).mono ?_
  rintro e w3 ⟨rfl, hb3⟩
  have h3 : TwoF w w3 [.string ⟨v.toArray⟩, .bool d, .bool t, .bool ch, .bool dc, .bool m, .bool s, .bool ds, .string ⟨cu.toArray⟩, .slice oa n cap] [.string ⟨#[]⟩, .bool false, .bool false, .bool false, .bool false, .bool false, .bool false, .bool false, .string ⟨#[]⟩, .slice none 0 0] (.slice oa n cap) fs := h2.below hb3
  clear c0 c1 c2 c3 c4 c5 c6 c7 c8 c9 f0 f1 f2 f3 f4 f5 f6 f7 f8 f9 d0 d1 d2 d3 d4 d5 d6 d7 d8 d9 g0 g1 g2 g3 g4 g5 g6 g7 g8 g9
  obtain ⟨c0, c1, c2, c3, c4, c5, c6, c7, c8, c9, f0, f1, f2, f3, f4, f5, f6, f7, f8, f9, d0, d1, d2, d3, d4, d5, d6, d7, d8, d9, g0, g1, g2, g3, g4, g5, g6, g7, g8, g9⟩ := h3.two.facts
  go_wp2_with fail
  have h4 : TwoF w _ [.string ⟨v.toArray⟩, .bool d, .bool t, .bool ch, .bool dc, .bool m, .bool s, .bool ds, .string ⟨cu.toArray⟩, .slice oa n cap] [.string ⟨v.toArray⟩, .bool d, .bool t, .bool ch, .bool dc, .bool m, .bool s, .bool ds, .string ⟨cu.toArray⟩, .slice oa n cap] (.slice oa n cap) fs := ((((((((((h3).setR 0 (.string ⟨v.toArray⟩)).setR 1 (.bool d)).setR 2 (.bool t)).setR 3 (.bool ch)).setR 4 (.bool dc)).setR 5 (.bool m)).setR 6 (.bool s)).setR 7 (.bool ds)).setR 8 (.string ⟨cu.toArray⟩)).setR 9 (.slice oa n cap)
  (try simp only [Exit.inBlock, Exit.then])
  refine bodyPost_ret (v := .tuple #[ctlV v d t ch dc m s ds cu (.slice oa n cap), .bool true, .int .i64 0]) (by rw [rcell3 rfl]; (try unfold ctlV); go_simp) rfl ⟨_, rfl, h4.ents, h4.fresh.two, h4.low⟩
set_option maxHeartbeats 3200000 in
set_option maxRecDepth 100000 in
theorem writeb_w (kind : Int) (hmo : modeP kind = 0) (hpu : pushB kind = true) (v : List UInt8) (d t ch dc m s ds : Bool) (cu : List UInt8) (f : Value) (fs : List Ent) (hbig : fs.length * 72 ≤ 140737488355328) (va : Value) (l : List Attr) (_hl : Fine l) (x : List UInt8) (hx : x.length ≤ 4000) (w : World) (_hA : AttrsAt w va l) (hF : EntsAt w f fs) (_hG : G w) (_hE : GE w) :
    Calls Tryz.prog 22 #[.int .i64 kind, ctlV v d t ch dc m s ds cu f, va, .string ⟨x.toArray⟩] w (RetCW ⟨v, d, t, ch, dc, m, s, ds, cu, fs⟩ true 0 w) := by
  have ho := fun w h => own_any v d t ch dc m s ds cu f fs hbig w h
  have hm := fun w => mode_anyB kind w
  rw [hmo] at hm
  have hp := fun w => button_any kind w
  rw [hpu] at hp
  clear hmo hpu _hl
  have hxI : ¬ (4000 : Int) < x.length := by omega
  clear hx hbig
  obtain ⟨fa, fc, rfl⟩ := RowAt.lenN hF
  unfold ctlV
  go_enter Tryz.func22, Tryz.ntmps22
  go_wp2_with fail
  have h0 := Two.start w [.string ⟨v.toArray⟩, .bool d, .bool t, .bool ch, .bool dc, .bool m, .bool s, .bool ds, .string ⟨cu.toArray⟩, .slice fa fs.length fc] [.string ⟨#[]⟩, .bool false, .bool false, .bool false, .bool false, .bool false, .bool false, .bool false, .string ⟨#[]⟩, .slice none 0 0] 24 24
  refine (ho _ (hF.below h0.low)).mono ?_
  rintro e w1 ⟨oa, n, cap, rfl, hfe, hfr, hb1⟩
  unfold ctlV
  have h1 : TwoF w w1 [.string ⟨v.toArray⟩, .bool d, .bool t, .bool ch, .bool dc, .bool m, .bool s, .bool ds, .string ⟨cu.toArray⟩, .slice fa fs.length fc] [.string ⟨#[]⟩, .bool false, .bool false, .bool false, .bool false, .bool false, .bool false, .bool false, .string ⟨#[]⟩, .slice none 0 0] (.slice oa n cap) fs := ⟨h0.below hb1, hfe, fun k e => by have := hfr k e; simp at this; omega⟩
  have HF2 := Lib.hid hfe
  have HR2 := Lib.hid hfr
  clear hfe hfr
  obtain ⟨c0, c1, c2, c3, c4, c5, c6, c7, c8, c9, f0, f1, f2, f3, f4, f5, f6, f7, f8, f9, d0, d1, d2, d3, d4, d5, d6, d7, d8, d9, g0, g1, g2, g3, g4, g5, g6, g7, g8, g9⟩ := h1.two.facts
  go_wp2_with fail
  have h2 : TwoF w _ [.string ⟨v.toArray⟩, .bool d, .bool t, .bool ch, .bool dc, .bool m, .bool s, .bool ds, .string ⟨cu.toArray⟩, .slice oa n cap] [.string ⟨#[]⟩, .bool false, .bool false, .bool false, .bool false, .bool false, .bool false, .bool false, .string ⟨#[]⟩, .slice none 0 0] (.slice oa n cap) fs := ((((((((((h1).setP 0 (.string ⟨v.toArray⟩)).setP 1 (.bool d)).setP 2 (.bool t)).setP 3 (.bool ch)).setP 4 (.bool dc)).setP 5 (.bool m)).setP 6 (.bool s)).setP 7 (.bool ds)).setP 8 (.string ⟨cu.toArray⟩)).setP 9 (.slice oa n cap)
  refine (hm _).mono ?_
  rintro e w3 ⟨rfl, hb3⟩
  have h3 : TwoF w w3 [.string ⟨v.toArray⟩, .bool d, .bool t, .bool ch, .bool dc, .bool m, .bool s, .bool ds, .string ⟨cu.toArray⟩, .slice oa n cap] [.string ⟨#[]⟩, .bool false, .bool false, .bool false, .bool false, .bool false, .bool false, .bool false, .string ⟨#[]⟩, .slice none 0 0] (.slice oa n cap) fs := h2.below hb3
  clear c0 c1 c2 c3 c4 c5 c6 c7 c8 c9 f0 f1 f2 f3 f4 f5 f6 f7 f8 f9 d0 d1 d2 d3 d4 d5 d6 d7 d8 d9 g0 g1 g2 g3 g4 g5 g6 g7 g8 g9
  obtain ⟨c0, c1, c2, c3, c4, c5, c6, c7, c8, c9, f0, f1, f2, f3, f4, f5, f6, f7, f8, f9, d0, d1, d2, d3, d4, d5, d6, d7, d8, d9, g0, g1, g2, g3, g4, g5, g6, g7, g8, g9⟩ := h3.two.facts
  go_wp2_with fail
  refine (hp _).mono ?_
  rintro e w' ⟨rfl, rfl⟩
  go_wp2_with fail
  have h4 : TwoF w _ [.string ⟨v.toArray⟩, .bool d, .bool t, .bool ch, .bool dc, .bool m, .bool s, .bool ds, .string ⟨cu.toArray⟩, .slice oa n cap] [.string ⟨v.toArray⟩, .bool d, .bool t, .bool ch, .bool dc, .bool m, .bool s, .bool ds, .string ⟨cu.toArray⟩, .slice oa n cap] (.slice oa n cap) fs := ((((((((((h3).setR 0 (.string ⟨v.toArray⟩)).setR 1 (.bool d)).setR 2 (.bool t)).setR 3 (.bool ch)).setR 4 (.bool dc)).setR 5 (.bool m)).setR 6 (.bool s)).setR 7 (.bool ds)).setR 8 (.string ⟨cu.toArray⟩)).setR 9 (.slice oa n cap)
  (try simp only [Exit.inBlock, Exit.then])
  refine bodyPost_ret (v := .tuple #[ctlV v d t ch dc m s ds cu (.slice oa n cap), .bool true, .int .i64 0]) (by rw [rcell3 rfl]; (try unfold ctlV); go_simp) rfl ⟨_, rfl, h4.ents, h4.fresh.two, h4.low⟩
set_option maxHeartbeats 3200000 in
set_option maxRecDepth 100000 in
theorem write0_w (kind : Int) (hmo : modeP kind = 0) (hpu : pushB kind = false) (v : List UInt8) (d t ch dc m s ds : Bool) (cu : List UInt8) (f : Value) (fs : List Ent) (hbig : fs.length * 72 ≤ 140737488355328) (va : Value) (l : List Attr) (_hl : Fine l) (x : List UInt8) (hx : x.length ≤ 4000) (w : World) (_hA : AttrsAt w va l) (hF : EntsAt w f fs) (_hG : G w) (_hE : GE w) :
    Calls Tryz.prog 22 #[.int .i64 kind, ctlV v d t ch dc m s ds cu f, va, .string ⟨x.toArray⟩] w (RetCW zeroC false 3 w) := by
  have ho := fun w h => own_any v d t ch dc m s ds cu f fs hbig w h
  have hm := fun w => mode_anyB kind w
  rw [hmo] at hm
  have hp := fun w => button_any kind w
  rw [hpu] at hp
  clear hmo hpu _hl
  have hxI : ¬ (4000 : Int) < x.length := by omega
  clear hx hbig
  obtain ⟨fa, fc, rfl⟩ := RowAt.lenN hF
  unfold ctlV
  go_enter Tryz.func22, Tryz.ntmps22
  go_wp2_with fail
  have h0 := Two.start w [.string ⟨v.toArray⟩, .bool d, .bool t, .bool ch, .bool dc, .bool m, .bool s, .bool ds, .string ⟨cu.toArray⟩, .slice fa fs.length fc] [.string ⟨#[]⟩, .bool false, .bool false, .bool false, .bool false, .bool false, .bool false, .bool false, .string ⟨#[]⟩, .slice none 0 0] 24 24
  refine (ho _ (hF.below h0.low)).mono ?_
  rintro e w1 ⟨oa, n, cap, rfl, hfe, hfr, hb1⟩
  unfold ctlV
  have h1 : TwoF w w1 [.string ⟨v.toArray⟩, .bool d, .bool t, .bool ch, .bool dc, .bool m, .bool s, .bool ds, .string ⟨cu.toArray⟩, .slice fa fs.length fc] [.string ⟨#[]⟩, .bool false, .bool false, .bool false, .bool false, .bool false, .bool false, .bool false, .string ⟨#[]⟩, .slice none 0 0] (.slice oa n cap) fs := ⟨h0.below hb1, hfe, fun k e => by have := hfr k e; simp at this; omega⟩
  have HF2 := Lib.hid hfe
  have HR2 := Lib.hid hfr
  clear hfe hfr
  obtain ⟨c0, c1, c2, c3, c4, c5, c6, c7, c8, c9, f0, f1, f2, f3, f4, f5, f6, f7, f8, f9, d0, d1, d2, d3, d4, d5, d6, d7, d8, d9, g0, g1, g2, g3, g4, g5, g6, g7, g8, g9⟩ := h1.two.facts
  go_wp2_with fail
  have h2 : TwoF w _ [.string ⟨v.toArray⟩, .bool d, .bool t, .bool ch, .bool dc, .bool m, .bool s, .bool ds, .string ⟨cu.toArray⟩, .slice oa n cap] [.string ⟨#[]⟩, .bool false, .bool false, .bool false, .bool false, .bool false, .bool false, .bool false, .string ⟨#[]⟩, .slice none 0 0] (.slice oa n cap) fs := ((((((((((h1).setP 0 (.string ⟨v.toArray⟩)).setP 1 (.bool d)).setP 2 (.bool t)).setP 3 (.bool ch)).setP 4 (.bool dc)).setP 5 (.bool m)).setP 6 (.bool s)).setP 7 (.bool ds)).setP 8 (.string ⟨cu.toArray⟩)).setP 9 (.slice oa n cap)
  refine (hm _).mono ?_
  rintro e w3 ⟨rfl, hb3⟩
  have h3 : TwoF w w3 [.string ⟨v.toArray⟩, .bool d, .bool t, .bool ch, .bool dc, .bool m, .bool s, .bool ds, .string ⟨cu.toArray⟩, .slice oa n cap] [.string ⟨#[]⟩, .bool false, .bool false, .bool false, .bool false, .bool false, .bool false, .bool false, .string ⟨#[]⟩, .slice none 0 0] (.slice oa n cap) fs := h2.below hb3
  clear c0 c1 c2 c3 c4 c5 c6 c7 c8 c9 f0 f1 f2 f3 f4 f5 f6 f7 f8 f9 d0 d1 d2 d3 d4 d5 d6 d7 d8 d9 g0 g1 g2 g3 g4 g5 g6 g7 g8 g9
  obtain ⟨c0, c1, c2, c3, c4, c5, c6, c7, c8, c9, f0, f1, f2, f3, f4, f5, f6, f7, f8, f9, d0, d1, d2, d3, d4, d5, d6, d7, d8, d9, g0, g1, g2, g3, g4, g5, g6, g7, g8, g9⟩ := h3.two.facts
  go_wp2_with fail
  refine (hp _).mono ?_
  rintro e w' ⟨rfl, rfl⟩
  go_wp2_with fail
  (try simp only [Exit.inBlock, Exit.then])
  refine bodyPost_ret (v := .tuple #[ctlV [] false false false false false false false [] (.slice none 0 0), .bool false, .int .i64 3]) (by rw [rcell3 rfl]; (try unfold ctlV); go_simp) rfl ⟨.slice none 0 0, rfl, EntsAt.nil _, FreshV.nil _, ?_⟩
  repeat refine Below.setCell ?_ (by first | exact Nat.le_refl _ | exact Nat.le_succ _) _
  exact h3.low
set_option maxHeartbeats 3200000 in
set_option maxRecDepth 100000 in
theorem write18_w (v : List UInt8) (d t ch dc m s ds : Bool) (cu : List UInt8) (f : Value) (fs : List Ent) (hbig : fs.length * 72 ≤ 140737488355328) (va : Value) (l : List Attr) (_hl : Fine l) (x : List UInt8) (hx : x.length ≤ 4000) (hne : x ≠ []) (w : World) (_hA : AttrsAt w va l) (hF : EntsAt w f fs) (_hG : G w) (_hE : GE w) :
    Calls Tryz.prog 22 #[.int .i64 18, ctlV v d t ch dc m s ds cu f, va, .string ⟨x.toArray⟩] w (RetCW zeroC false 8 w) := by
  have ho := fun w h => own_any v d t ch dc m s ds cu f fs hbig w h
  have hm := fun w => mode_anyB 18 w
  rw [mode_4] at hm
  have hp := fun w => button_any 18 w
  rw [push_no 18 (by decide)] at hp
  have he : (x == []) = false := by simpa using hne
  have hn : (x != []) = true := by simpa using hne
  clear hne _hl
  have hxI : ¬ (4000 : Int) < x.length := by omega
  clear hx hbig
  obtain ⟨fa, fc, rfl⟩ := RowAt.lenN hF
  unfold ctlV
  go_enter Tryz.func22, Tryz.ntmps22
  go_wp2_with fail
  have h0 := Two.start w [.string ⟨v.toArray⟩, .bool d, .bool t, .bool ch, .bool dc, .bool m, .bool s, .bool ds, .string ⟨cu.toArray⟩, .slice fa fs.length fc] [.string ⟨#[]⟩, .bool false, .bool false, .bool false, .bool false, .bool false, .bool false, .bool false, .string ⟨#[]⟩, .slice none 0 0] 24 24
  refine (ho _ (hF.below h0.low)).mono ?_
  rintro e w1 ⟨oa, n, cap, rfl, hfe, hfr, hb1⟩
  unfold ctlV
  have h1 : TwoF w w1 [.string ⟨v.toArray⟩, .bool d, .bool t, .bool ch, .bool dc, .bool m, .bool s, .bool ds, .string ⟨cu.toArray⟩, .slice fa fs.length fc] [.string ⟨#[]⟩, .bool false, .bool false, .bool false, .bool false, .bool false, .bool false, .bool false, .string ⟨#[]⟩, .slice none 0 0] (.slice oa n cap) fs := ⟨h0.below hb1, hfe, fun k e => by have := hfr k e; simp at this; omega⟩
  have HF2 := Lib.hid hfe
  have HR2 := Lib.hid hfr
  clear hfe hfr
  obtain ⟨c0, c1, c2, c3, c4, c5, c6, c7, c8, c9, f0, f1, f2, f3, f4, f5, f6, f7, f8, f9, d0, d1, d2, d3, d4, d5, d6, d7, d8, d9, g0, g1, g2, g3, g4, g5, g6, g7, g8, g9⟩ := h1.two.facts
  go_wp2_with fail
  have h2 : TwoF w _ [.string ⟨v.toArray⟩, .bool d, .bool t, .bool ch, .bool dc, .bool m, .bool s, .bool ds, .string ⟨cu.toArray⟩, .slice oa n cap] [.string ⟨#[]⟩, .bool false, .bool false, .bool false, .bool false, .bool false, .bool false, .bool false, .string ⟨#[]⟩, .slice none 0 0] (.slice oa n cap) fs := ((((((((((h1).setP 0 (.string ⟨v.toArray⟩)).setP 1 (.bool d)).setP 2 (.bool t)).setP 3 (.bool ch)).setP 4 (.bool dc)).setP 5 (.bool m)).setP 6 (.bool s)).setP 7 (.bool ds)).setP 8 (.string ⟨cu.toArray⟩)).setP 9 (.slice oa n cap)
  refine (hm _).mono ?_
  rintro e w3 ⟨rfl, hb3⟩
  have h3 : TwoF w w3 [.string ⟨v.toArray⟩, .bool d, .bool t, .bool ch, .bool dc, .bool m, .bool s, .bool ds, .string ⟨cu.toArray⟩, .slice oa n cap] [.string ⟨#[]⟩, .bool false, .bool false, .bool false, .bool false, .bool false, .bool false, .bool false, .string ⟨#[]⟩, .slice none 0 0] (.slice oa n cap) fs := h2.below hb3
  clear c0 c1 c2 c3 c4 c5 c6 c7 c8 c9 f0 f1 f2 f3 f4 f5 f6 f7 f8 f9 d0 d1 d2 d3 d4 d5 d6 d7 d8 d9 g0 g1 g2 g3 g4 g5 g6 g7 g8 g9
  obtain ⟨c0, c1, c2, c3, c4, c5, c6, c7, c8, c9, f0, f1, f2, f3, f4, f5, f6, f7, f8, f9, d0, d1, d2, d3, d4, d5, d6, d7, d8, d9, g0, g1, g2, g3, g4, g5, g6, g7, g8, g9⟩ := h3.two.facts
  go_wp2_with fail
  refine (hp _).mono ?_
  rintro e w' ⟨rfl, rfl⟩
  go_wp2_with fail
  (try simp only [Exit.inBlock, Exit.then])
  refine bodyPost_ret (v := .tuple #[ctlV [] false false false false false false false [] (.slice none 0 0), .bool false, .int .i64 8]) (by rw [rcell3 rfl]; (try unfold ctlV); go_simp) rfl ⟨.slice none 0 0, rfl, EntsAt.nil _, FreshV.nil _, ?_⟩
  repeat refine Below.setCell ?_ (by first | exact Nat.le_refl _ | exact Nat.le_succ _) _
  exact h3.low
set_option maxHeartbeats 3200000 in
set_option maxRecDepth 100000 in
theorem write18n_w (v : List UInt8) (d t ch dc m s ds : Bool) (cu : List UInt8) (f : Value) (fs : List Ent) (hbig : fs.length * 72 ≤ 140737488355328) (va : Value) (l : List Attr) (_hl : Fine l) (x : List UInt8) (hx : x = []) (w : World) (_hA : AttrsAt w va l) (hF : EntsAt w f fs) (_hG : G w) (_hE : GE w) :
    Calls Tryz.prog 22 #[.int .i64 18, ctlV v d t ch dc m s ds cu f, va, .string ⟨x.toArray⟩] w (RetCW ⟨v, d, t, ch, dc, m, s, ds, cu, []⟩ false 0 w) := by
  have ho := fun w h => own_any v d t ch dc m s ds cu f fs hbig w h
  have hm := fun w => mode_anyB 18 w
  rw [mode_4] at hm
  have hp := fun w => button_any 18 w
  rw [push_no 18 (by decide)] at hp
  have he : (x == []) = true := by simpa using hx
  have hn : (x != []) = false := by simpa using hx
  have hxI : ¬ (4000 : Int) < x.length := by rw [hx]; decide
  clear _hl hx hbig
  obtain ⟨fa, fc, rfl⟩ := RowAt.lenN hF
  unfold ctlV
  go_enter Tryz.func22, Tryz.ntmps22
  go_wp2_with fail
  have h0 := Two.start w [.string ⟨v.toArray⟩, .bool d, .bool t, .bool ch, .bool dc, .bool m, .bool s, .bool ds, .string ⟨cu.toArray⟩, .slice fa fs.length fc] [.string ⟨#[]⟩, .bool false, .bool false, .bool false, .bool false, .bool false, .bool false, .bool false, .string ⟨#[]⟩, .slice none 0 0] 24 24
  refine (ho _ (hF.below h0.low)).mono ?_
  rintro e w1 ⟨oa, n, cap, rfl, hfe, hfr, hb1⟩
  unfold ctlV
  have h1 : TwoF w w1 [.string ⟨v.toArray⟩, .bool d, .bool t, .bool ch, .bool dc, .bool m, .bool s, .bool ds, .string ⟨cu.toArray⟩, .slice fa fs.length fc] [.string ⟨#[]⟩, .bool false, .bool false, .bool false, .bool false, .bool false, .bool false, .bool false, .string ⟨#[]⟩, .slice none 0 0] (.slice oa n cap) fs := ⟨h0.below hb1, hfe, fun k e => by have := hfr k e; simp at this; omega⟩
  have HF2 := Lib.hid hfe
  have HR2 := Lib.hid hfr
  clear hfe hfr
  obtain ⟨c0, c1, c2, c3, c4, c5, c6, c7, c8, c9, f0, f1, f2, f3, f4, f5, f6, f7, f8, f9, d0, d1, d2, d3, d4, d5, d6, d7, d8, d9, g0, g1, g2, g3, g4, g5, g6, g7, g8, g9⟩ := h1.two.facts
  go_wp2_with fail
  have h2 : TwoF w _ [.string ⟨v.toArray⟩, .bool d, .bool t, .bool ch, .bool dc, .bool m, .bool s, .bool ds, .string ⟨cu.toArray⟩, .slice oa n cap] [.string ⟨#[]⟩, .bool false, .bool false, .bool false, .bool false, .bool false, .bool false, .bool false, .string ⟨#[]⟩, .slice none 0 0] (.slice oa n cap) fs := ((((((((((h1).setP 0 (.string ⟨v.toArray⟩)).setP 1 (.bool d)).setP 2 (.bool t)).setP 3 (.bool ch)).setP 4 (.bool dc)).setP 5 (.bool m)).setP 6 (.bool s)).setP 7 (.bool ds)).setP 8 (.string ⟨cu.toArray⟩)).setP 9 (.slice oa n cap)
  refine (hm _).mono ?_
  rintro e w3 ⟨rfl, hb3⟩
  have h3 : TwoF w w3 [.string ⟨v.toArray⟩, .bool d, .bool t, .bool ch, .bool dc, .bool m, .bool s, .bool ds, .string ⟨cu.toArray⟩, .slice oa n cap] [.string ⟨#[]⟩, .bool false, .bool false, .bool false, .bool false, .bool false, .bool false, .bool false, .string ⟨#[]⟩, .slice none 0 0] (.slice oa n cap) fs := h2.below hb3
  clear c0 c1 c2 c3 c4 c5 c6 c7 c8 c9 f0 f1 f2 f3 f4 f5 f6 f7 f8 f9 d0 d1 d2 d3 d4 d5 d6 d7 d8 d9 g0 g1 g2 g3 g4 g5 g6 g7 g8 g9
  obtain ⟨c0, c1, c2, c3, c4, c5, c6, c7, c8, c9, f0, f1, f2, f3, f4, f5, f6, f7, f8, f9, d0, d1, d2, d3, d4, d5, d6, d7, d8, d9, g0, g1, g2, g3, g4, g5, g6, g7, g8, g9⟩ := h3.two.facts
  go_wp2_with fail
  refine (hp _).mono ?_
  rintro e w' ⟨rfl, rfl⟩
  go_wp2_with fail
  have h4 : TwoF w _ [.string ⟨v.toArray⟩, .bool d, .bool t, .bool ch, .bool dc, .bool m, .bool s, .bool ds, .string ⟨cu.toArray⟩, .slice none 0 0] [.string ⟨v.toArray⟩, .bool d, .bool t, .bool ch, .bool dc, .bool m, .bool s, .bool ds, .string ⟨cu.toArray⟩, .slice none 0 0] (.slice oa n cap) fs := (((((((((((h3).setP 9 (.slice none 0 0)).setR 0 (.string ⟨v.toArray⟩)).setR 1 (.bool d)).setR 2 (.bool t)).setR 3 (.bool ch)).setR 4 (.bool dc)).setR 5 (.bool m)).setR 6 (.bool s)).setR 7 (.bool ds)).setR 8 (.string ⟨cu.toArray⟩)).setR 9 (.slice none 0 0)
  (try simp only [Exit.inBlock, Exit.then])
  refine bodyPost_ret (v := .tuple #[ctlV v d t ch dc m s ds cu (.slice none 0 0), .bool false, .int .i64 0]) (by rw [rcell3 rfl]; (try unfold ctlV); go_simp) rfl ⟨_, rfl, EntsAt.nil _, FreshV.nil _, h4.low⟩
theorem EntsAt.low {w w' : World} {v : Value} {fs : List Ent} (h : EntsAt w v fs) (hb : Below w.heap.size w w') : EntsAt w' v fs := h.below hb
set_option maxHeartbeats 3200000 in
set_option maxRecDepth 100000 in
theorem rwrite1_w (kind : Int) (hk : i64 kind) (hmo : modeP kind = 1) (v : List UInt8) (d t ch dc m s ds : Bool) (cu : List UInt8) (f : Value) (fs : List Ent) (_hbig : fs.length * 72 ≤ 140737488355328) (va : Value) (l : List Attr) (hl : Fine l) (x : List UInt8) (hx : x.length ≤ 4000) (w : World) (hA : AttrsAt w va l) (hF : EntsAt w f fs) (_hG : G w) (_hE : GE w) :
    Calls Tryz.prog 23 #[.int .i64 kind, ctlV v d t ch dc m s ds cu f, va, .string ⟨x.toArray⟩] w (RetCB ⟨cleanedP kind l x, true, false, ch, dc, m, s, ds, cu, fs⟩ false 0 w) := by
  have hm := fun w => rmode_anyB kind w
  rw [hmo] at hm
  have hc := fun w h => rcleaned_any kind hk va l hl x (by omega) w h
  generalize cleanedP kind l x = y at *
  clear hmo hl hk
  have hxI : ¬ (4000 : Int) < x.length := by omega
  clear hx _hbig
  obtain ⟨fa, fc, rfl⟩ := RowAt.lenN hF
  unfold ctlV
  go_enter Tryz.func23, Tryz.ntmps23
  go_wp2_with fail
  have h0 := Two.start w [.string ⟨v.toArray⟩, .bool d, .bool t, .bool ch, .bool dc, .bool m, .bool s, .bool ds, .string ⟨cu.toArray⟩, .slice fa fs.length fc] [.string ⟨#[]⟩, .bool false, .bool false, .bool false, .bool false, .bool false, .bool false, .bool false, .string ⟨#[]⟩, .slice none 0 0] 24 24
  refine (hm _).mono ?_
  rintro e w1 ⟨rfl, hb1⟩
  have h1 : Two w w1 [.string ⟨v.toArray⟩, .bool d, .bool t, .bool ch, .bool dc, .bool m, .bool s, .bool ds, .string ⟨cu.toArray⟩, .slice fa fs.length fc] [.string ⟨#[]⟩, .bool false, .bool false, .bool false, .bool false, .bool false, .bool false, .bool false, .string ⟨#[]⟩, .slice none 0 0] := h0.below hb1
  obtain ⟨c0, c1, c2, c3, c4, c5, c6, c7, c8, c9, f0, f1, f2, f3, f4, f5, f6, f7, f8, f9, d0, d1, d2, d3, d4, d5, d6, d7, d8, d9, g0, g1, g2, g3, g4, g5, g6, g7, g8, g9⟩ := h1.facts
  go_wp2_with fail
  refine (hc _ (hA.below h1.low)).mono ?_
  rintro e w2 ⟨rfl, hb2⟩
  have h2 : Two w w2 [.string ⟨v.toArray⟩, .bool d, .bool t, .bool ch, .bool dc, .bool m, .bool s, .bool ds, .string ⟨cu.toArray⟩, .slice fa fs.length fc] [.string ⟨#[]⟩, .bool false, .bool false, .bool false, .bool false, .bool false, .bool false, .bool false, .string ⟨#[]⟩, .slice none 0 0] := h1.below hb2
  clear c0 c1 c2 c3 c4 c5 c6 c7 c8 c9 f0 f1 f2 f3 f4 f5 f6 f7 f8 f9 d0 d1 d2 d3 d4 d5 d6 d7 d8 d9 g0 g1 g2 g3 g4 g5 g6 g7 g8 g9
  obtain ⟨c0, c1, c2, c3, c4, c5, c6, c7, c8, c9, f0, f1, f2, f3, f4, f5, f6, f7, f8, f9, d0, d1, d2, d3, d4, d5, d6, d7, d8, d9, g0, g1, g2, g3, g4, g5, g6, g7, g8, g9⟩ := h2.facts
  go_wp2_with fail
  have h3 : Two w _ [.string ⟨y.toArray⟩, .bool true, .bool false, .bool ch, .bool dc, .bool m, .bool s, .bool ds, .string ⟨cu.toArray⟩, .slice fa fs.length fc] [.string ⟨y.toArray⟩, .bool true, .bool false, .bool ch, .bool dc, .bool m, .bool s, .bool ds, .string ⟨cu.toArray⟩, .slice fa fs.length fc] := (((((((((((((h2).setP 0 (.string ⟨y.toArray⟩)).setP 1 (.bool true)).setP 2 (.bool false)).setR 0 (.string ⟨y.toArray⟩)).setR 1 (.bool true)).setR 2 (.bool false)).setR 3 (.bool ch)).setR 4 (.bool dc)).setR 5 (.bool m)).setR 6 (.bool s)).setR 7 (.bool ds)).setR 8 (.string ⟨cu.toArray⟩)).setR 9 (.slice fa fs.length fc)
  (try simp only [Exit.inBlock, Exit.then])
  refine bodyPost_ret (v := .tuple #[ctlV y true false ch dc m s ds cu (.slice fa fs.length fc), .bool false, .int .i64 0]) (by rw [rcell3 rfl]; (try unfold ctlV); go_simp) rfl ⟨_, rfl, EntsAt.below hF h3.low, h3.low⟩
set_option maxHeartbeats 3200000 in
set_option maxRecDepth 100000 in
theorem rwrite3_w (kind : Int) (hmo : modeP kind = 3) (v : List UInt8) (d t ch dc m s ds : Bool) (cu : List UInt8) (f : Value) (fs : List Ent) (_hbig : fs.length * 72 ≤ 140737488355328) (va : Value) (l : List Attr) (_hl : Fine l) (x : List UInt8) (hx : x.length ≤ 4000) (w : World) (_hA : AttrsAt w va l) (hF : EntsAt w f fs) (_hG : G w) (_hE : GE w) :
    Calls Tryz.prog 23 #[.int .i64 kind, ctlV v d t ch dc m s ds cu f, va, .string ⟨x.toArray⟩] w (RetCB ⟨v, d, t, ch, dc, m, s, ds, cu, fs⟩ true 0 w) := by
  have hm := fun w => rmode_anyB kind w
  rw [hmo] at hm
  clear hmo _hl
  have hxI : ¬ (4000 : Int) < x.length := by omega
  clear hx _hbig
  obtain ⟨fa, fc, rfl⟩ := RowAt.lenN hF
  unfold ctlV
  go_enter Tryz.func23, Tryz.ntmps23
  go_wp2_with fail
  have h0 := Two.start w [.string ⟨v.toArray⟩, .bool d, .bool t, .bool ch, .bool dc, .bool m, .bool s, .bool ds, .string ⟨cu.toArray⟩, .slice fa fs.length fc] [.string ⟨#[]⟩, .bool false, .bool false, .bool false, .bool false, .bool false, .bool false, .bool false, .string ⟨#[]⟩, .slice none 0 0] 24 24
  refine (hm _).mono ?_
  rintro e w1 ⟨rfl, hb1⟩
  have h1 : Two w w1 [.string ⟨v.toArray⟩, .bool d, .bool t, .bool ch, .bool dc, .bool m, .bool s, .bool ds, .string ⟨cu.toArray⟩, .slice fa fs.length fc] [.string ⟨#[]⟩, .bool false, .bool false, .bool false, .bool false, .bool false, .bool false, .bool false, .string ⟨#[]⟩, .slice none 0 0] := h0.below hb1
  obtain ⟨c0, c1, c2, c3, c4, c5, c6, c7, c8, c9, f0, f1, f2, f3, f4, f5, f6, f7, f8, f9, d0, d1, d2, d3, d4, d5, d6, d7, d8, d9, g0, g1, g2, g3, g4, g5, g6, g7, g8, g9⟩ := h1.facts
  go_wp2_with fail
  have h2 : Two w _ [.string ⟨v.toArray⟩, .bool d, .bool t, .bool ch, .bool dc, .bool m, .bool s, .bool ds, .string ⟨cu.toArray⟩, .slice fa fs.length fc] [.string ⟨v.toArray⟩, .bool d, .bool t, .bool ch, .bool dc, .bool m, .bool s, .bool ds, .string ⟨cu.toArray⟩, .slice fa fs.length fc] := ((((((((((h1).setR 0 (.string ⟨v.toArray⟩)).setR 1 (.bool d)).setR 2 (.bool t)).setR 3 (.bool ch)).setR 4 (.bool dc)).setR 5 (.bool m)).setR 6 (.bool s)).setR 7 (.bool ds)).setR 8 (.string ⟨cu.toArray⟩)).setR 9 (.slice fa fs.length fc)
  (try simp only [Exit.inBlock, Exit.then])
  refine bodyPost_ret (v := .tuple #[ctlV v d t ch dc m s ds cu (.slice fa fs.length fc), .bool true, .int .i64 0]) (by rw [rcell3 rfl]; (try unfold ctlV); go_simp) rfl ⟨_, rfl, EntsAt.below hF h2.low, h2.low⟩
set_option maxHeartbeats 3200000 in
set_option maxRecDepth 100000 in
theorem rwrite2_w (kind : Int) (hmo : modeP kind = 2) (v : List UInt8) (d t ch dc m s ds : Bool) (cu : List UInt8) (f : Value) (fs : List Ent) (_hbig : fs.length * 72 ≤ 140737488355328) (va : Value) (l : List Attr) (_hl : Fine l) (x : List UInt8) (hx : x.length ≤ 4000) (w : World) (_hA : AttrsAt w va l) (hF : EntsAt w f fs) (_hG : G w) (_hE : GE w) :
    Calls Tryz.prog 23 #[.int .i64 kind, ctlV v d t ch dc m s ds cu f, va, .string ⟨x.toArray⟩] w (RetCB ⟨v, d, t, ch, dc, m, s, ds, cu, fs⟩ true 0 w) := by
  have hm := fun w => rmode_anyB kind w
  rw [hmo] at hm
  clear hmo _hl
  have hxI : ¬ (4000 : Int) < x.length := by omega
  clear hx _hbig
  obtain ⟨fa, fc, rfl⟩ := RowAt.lenN hF
  unfold ctlV
  go_enter Tryz.func23, Tryz.ntmps23
  go_wp2_with fail
  have h0 := Two.start w [.string ⟨v.toArray⟩, .bool d, .bool t, .bool ch, .bool dc, .bool m, .bool s, .bool ds, .string ⟨cu.toArray⟩, .slice fa fs.length fc] [.string ⟨#[]⟩, .bool false, .bool false, .bool false, .bool false, .bool false, .bool false, .bool false, .string ⟨#[]⟩, .slice none 0 0] 24 24
  refine (hm _).mono ?_
  rintro e w1 ⟨rfl, hb1⟩
  have h1 : Two w w1 [.string ⟨v.toArray⟩, .bool d, .bool t, .bool ch, .bool dc, .bool m, .bool s, .bool ds, .string ⟨cu.toArray⟩, .slice fa fs.length fc] [.string ⟨#[]⟩, .bool false, .bool false, .bool false, .bool false, .bool false, .bool false, .bool false, .string ⟨#[]⟩, .slice none 0 0] := h0.below hb1
  obtain ⟨c0, c1, c2, c3, c4, c5, c6, c7, c8, c9, f0, f1, f2, f3, f4, f5, f6, f7, f8, f9, d0, d1, d2, d3, d4, d5, d6, d7, d8, d9, g0, g1, g2, g3, g4, g5, g6, g7, g8, g9⟩ := h1.facts
  go_wp2_with fail
  have h2 : Two w _ [.string ⟨v.toArray⟩, .bool d, .bool t, .bool ch, .bool dc, .bool m, .bool s, .bool ds, .string ⟨cu.toArray⟩, .slice fa fs.length fc] [.string ⟨v.toArray⟩, .bool d, .bool t, .bool ch, .bool dc, .bool m, .bool s, .bool ds, .string ⟨cu.toArray⟩, .slice fa fs.length fc] := ((((((((((h1).setR 0 (.string ⟨v.toArray⟩)).setR 1 (.bool d)).setR 2 (.bool t)).setR 3 (.bool ch)).setR 4 (.bool dc)).setR 5 (.bool m)).setR 6 (.bool s)).setR 7 (.bool ds)).setR 8 (.string ⟨cu.toArray⟩)).setR 9 (.slice fa fs.length fc)
  (try simp only [Exit.inBlock, Exit.then])
  refine bodyPost_ret (v := .tuple #[ctlV v d t ch dc m s ds cu (.slice fa fs.length fc), .bool true, .int .i64 0]) (by rw [rcell3 rfl]; (try unfold ctlV); go_simp) rfl ⟨_, rfl, EntsAt.below hF h2.low, h2.low⟩
set_option maxHeartbeats 3200000 in
set_option maxRecDepth 100000 in
theorem rwriteb_w (kind : Int) (hmo : modeP kind = 0) (hpu : pushB kind = true) (v : List UInt8) (d t ch dc m s ds : Bool) (cu : List UInt8) (f : Value) (fs : List Ent) (_hbig : fs.length * 72 ≤ 140737488355328) (va : Value) (l : List Attr) (_hl : Fine l) (x : List UInt8) (hx : x.length ≤ 4000) (w : World) (_hA : AttrsAt w va l) (hF : EntsAt w f fs) (_hG : G w) (_hE : GE w) :
    Calls Tryz.prog 23 #[.int .i64 kind, ctlV v d t ch dc m s ds cu f, va, .string ⟨x.toArray⟩] w (RetCB ⟨v, d, t, ch, dc, m, s, ds, cu, fs⟩ true 0 w) := by
  have hm := fun w => rmode_anyB kind w
  rw [hmo] at hm
  have hp := fun w => pushes_any kind w
  rw [hpu] at hp
  clear hmo hpu _hl
  have hxI : ¬ (4000 : Int) < x.length := by omega
  clear hx _hbig
  obtain ⟨fa, fc, rfl⟩ := RowAt.lenN hF
  unfold ctlV
  go_enter Tryz.func23, Tryz.ntmps23
  go_wp2_with fail
  have h0 := Two.start w [.string ⟨v.toArray⟩, .bool d, .bool t, .bool ch, .bool dc, .bool m, .bool s, .bool ds, .string ⟨cu.toArray⟩, .slice fa fs.length fc] [.string ⟨#[]⟩, .bool false, .bool false, .bool false, .bool false, .bool false, .bool false, .bool false, .string ⟨#[]⟩, .slice none 0 0] 24 24
  refine (hm _).mono ?_
  rintro e w1 ⟨rfl, hb1⟩
  have h1 : Two w w1 [.string ⟨v.toArray⟩, .bool d, .bool t, .bool ch, .bool dc, .bool m, .bool s, .bool ds, .string ⟨cu.toArray⟩, .slice fa fs.length fc] [.string ⟨#[]⟩, .bool false, .bool false, .bool false, .bool false, .bool false, .bool false, .bool false, .string ⟨#[]⟩, .slice none 0 0] := h0.below hb1
  obtain ⟨c0, c1, c2, c3, c4, c5, c6, c7, c8, c9, f0, f1, f2, f3, f4, f5, f6, f7, f8, f9, d0, d1, d2, d3, d4, d5, d6, d7, d8, d9, g0, g1, g2, g3, g4, g5, g6, g7, g8, g9⟩ := h1.facts
  go_wp2_with fail
  refine (hp _).mono ?_
  rintro e w' ⟨rfl, rfl⟩
  go_wp2_with fail
  have h2 : Two w _ [.string ⟨v.toArray⟩, .bool d, .bool t, .bool ch, .bool dc, .bool m, .bool s, .bool ds, .string ⟨cu.toArray⟩, .slice fa fs.length fc] [.string ⟨v.toArray⟩, .bool d, .bool t, .bool ch, .bool dc, .bool m, .bool s, .bool ds, .string ⟨cu.toArray⟩, .slice fa fs.length fc] := ((((((((((h1).setR 0 (.string ⟨v.toArray⟩)).setR 1 (.bool d)).setR 2 (.bool t)).setR 3 (.bool ch)).setR 4 (.bool dc)).setR 5 (.bool m)).setR 6 (.bool s)).setR 7 (.bool ds)).setR 8 (.string ⟨cu.toArray⟩)).setR 9 (.slice fa fs.length fc)
  (try simp only [Exit.inBlock, Exit.then])
  refine bodyPost_ret (v := .tuple #[ctlV v d t ch dc m s ds cu (.slice fa fs.length fc), .bool true, .int .i64 0]) (by rw [rcell3 rfl]; (try unfold ctlV); go_simp) rfl ⟨_, rfl, EntsAt.below hF h2.low, h2.low⟩
set_option maxHeartbeats 3200000 in
set_option maxRecDepth 100000 in
theorem rwrite0_w (kind : Int) (hmo : modeP kind = 0) (hpu : pushB kind = false) (v : List UInt8) (d t ch dc m s ds : Bool) (cu : List UInt8) (f : Value) (fs : List Ent) (_hbig : fs.length * 72 ≤ 140737488355328) (va : Value) (l : List Attr) (_hl : Fine l) (x : List UInt8) (hx : x.length ≤ 4000) (w : World) (_hA : AttrsAt w va l) (hF : EntsAt w f fs) (_hG : G w) (_hE : GE w) :
    Calls Tryz.prog 23 #[.int .i64 kind, ctlV v d t ch dc m s ds cu f, va, .string ⟨x.toArray⟩] w (RetCB zeroC false 3 w) := by
  have hm := fun w => rmode_anyB kind w
  rw [hmo] at hm
  have hp := fun w => pushes_any kind w
  rw [hpu] at hp
  clear hmo hpu _hl
  have hxI : ¬ (4000 : Int) < x.length := by omega
  clear hx _hbig
  obtain ⟨fa, fc, rfl⟩ := RowAt.lenN hF
  unfold ctlV
  go_enter Tryz.func23, Tryz.ntmps23
  go_wp2_with fail
  have h0 := Two.start w [.string ⟨v.toArray⟩, .bool d, .bool t, .bool ch, .bool dc, .bool m, .bool s, .bool ds, .string ⟨cu.toArray⟩, .slice fa fs.length fc] [.string ⟨#[]⟩, .bool false, .bool false, .bool false, .bool false, .bool false, .bool false, .bool false, .string ⟨#[]⟩, .slice none 0 0] 24 24
  refine (hm _).mono ?_
  rintro e w1 ⟨rfl, hb1⟩
  have h1 : Two w w1 [.string ⟨v.toArray⟩, .bool d, .bool t, .bool ch, .bool dc, .bool m, .bool s, .bool ds, .string ⟨cu.toArray⟩, .slice fa fs.length fc] [.string ⟨#[]⟩, .bool false, .bool false, .bool false, .bool false, .bool false, .bool false, .bool false, .string ⟨#[]⟩, .slice none 0 0] := h0.below hb1
  obtain ⟨c0, c1, c2, c3, c4, c5, c6, c7, c8, c9, f0, f1, f2, f3, f4, f5, f6, f7, f8, f9, d0, d1, d2, d3, d4, d5, d6, d7, d8, d9, g0, g1, g2, g3, g4, g5, g6, g7, g8, g9⟩ := h1.facts
  go_wp2_with fail
  refine (hp _).mono ?_
  rintro e w' ⟨rfl, rfl⟩
  go_wp2_with fail
  (try simp only [Exit.inBlock, Exit.then])
  refine bodyPost_ret (v := .tuple #[ctlV [] false false false false false false false [] (.slice none 0 0), .bool false, .int .i64 3]) (by rw [rcell3 rfl]; (try unfold ctlV); go_simp) rfl ⟨.slice none 0 0, rfl, EntsAt.nil _, ?_⟩
  repeat refine Below.setCell ?_ (by first | exact Nat.le_refl _ | exact Nat.le_succ _) _
  exact h1.low
set_option maxHeartbeats 3200000 in
set_option maxRecDepth 100000 in
theorem rwrite18_w (v : List UInt8) (d t ch dc m s ds : Bool) (cu : List UInt8) (f : Value) (fs : List Ent) (_hbig : fs.length * 72 ≤ 140737488355328) (va : Value) (l : List Attr) (_hl : Fine l) (x : List UInt8) (hx : x.length ≤ 4000) (hne : 0 < x.length) (w : World) (_hA : AttrsAt w va l) (hF : EntsAt w f fs) (_hG : G w) (_hE : GE w) :
    Calls Tryz.prog 23 #[.int .i64 18, ctlV v d t ch dc m s ds cu f, va, .string ⟨x.toArray⟩] w (RetCB zeroC false 8 w) := by
  have hm := fun w => rmode_anyB 18 w
  rw [mode_4] at hm
  have hp := fun w => pushes_any 18 w
  rw [push_no 18 (by decide)] at hp
  clear _hl
  have hxI : ¬ (4000 : Int) < x.length := by omega
  have hnI : (0 : Int) < x.length := by omega
  clear hne
  clear hx _hbig
  obtain ⟨fa, fc, rfl⟩ := RowAt.lenN hF
  unfold ctlV
  go_enter Tryz.func23, Tryz.ntmps23
  go_wp2_with fail
  have h0 := Two.start w [.string ⟨v.toArray⟩, .bool d, .bool t, .bool ch, .bool dc, .bool m, .bool s, .bool ds, .string ⟨cu.toArray⟩, .slice fa fs.length fc] [.string ⟨#[]⟩, .bool false, .bool false, .bool false, .bool false, .bool false, .bool false, .bool false, .string ⟨#[]⟩, .slice none 0 0] 24 24
  refine (hm _).mono ?_
  rintro e w1 ⟨rfl, hb1⟩
  have h1 : Two w w1 [.string ⟨v.toArray⟩, .bool d, .bool t, .bool ch, .bool dc, .bool m, .bool s, .bool ds, .string ⟨cu.toArray⟩, .slice fa fs.length fc] [.string ⟨#[]⟩, .bool false, .bool false, .bool false, .bool false, .bool false, .bool false, .bool false, .string ⟨#[]⟩, .slice none 0 0] := h0.below hb1
  obtain ⟨c0, c1, c2, c3, c4, c5, c6, c7, c8, c9, f0, f1, f2, f3, f4, f5, f6, f7, f8, f9, d0, d1, d2, d3, d4, d5, d6, d7, d8, d9, g0, g1, g2, g3, g4, g5, g6, g7, g8, g9⟩ := h1.facts
  go_wp2_with fail
  refine (hp _).mono ?_
  rintro e w' ⟨rfl, rfl⟩
  go_wp2_with fail
  (try simp only [Exit.inBlock, Exit.then])
  refine bodyPost_ret (v := .tuple #[ctlV [] false false false false false false false [] (.slice none 0 0), .bool false, .int .i64 8]) (by rw [rcell3 rfl]; (try unfold ctlV); go_simp) rfl ⟨.slice none 0 0, rfl, EntsAt.nil _, ?_⟩
  repeat refine Below.setCell ?_ (by first | exact Nat.le_refl _ | exact Nat.le_succ _) _
  exact h1.low
set_option maxHeartbeats 3200000 in
set_option maxRecDepth 100000 in
theorem rwrite18n_w (v : List UInt8) (d t ch dc m s ds : Bool) (cu : List UInt8) (f : Value) (fs : List Ent) (_hbig : fs.length * 72 ≤ 140737488355328) (va : Value) (l : List Attr) (_hl : Fine l) (x : List UInt8) (hx : x = []) (w : World) (_hA : AttrsAt w va l) (hF : EntsAt w f fs) (_hG : G w) (_hE : GE w) :
    Calls Tryz.prog 23 #[.int .i64 18, ctlV v d t ch dc m s ds cu f, va, .string ⟨x.toArray⟩] w (RetCB ⟨v, d, t, ch, dc, m, s, ds, cu, []⟩ false 0 w) := by
  have hm := fun w => rmode_anyB 18 w
  rw [mode_4] at hm
  have hp := fun w => pushes_any 18 w
  rw [push_no 18 (by decide)] at hp
  have hxI : ¬ (4000 : Int) < x.length := by rw [hx]; decide
  have hnI : ¬ (0 : Int) < x.length := by rw [hx]; decide
  clear _hl hx _hbig
  obtain ⟨fa, fc, rfl⟩ := RowAt.lenN hF
  unfold ctlV
  go_enter Tryz.func23, Tryz.ntmps23
  go_wp2_with fail
  have h0 := Two.start w [.string ⟨v.toArray⟩, .bool d, .bool t, .bool ch, .bool dc, .bool m, .bool s, .bool ds, .string ⟨cu.toArray⟩, .slice fa fs.length fc] [.string ⟨#[]⟩, .bool false, .bool false, .bool false, .bool false, .bool false, .bool false, .bool false, .string ⟨#[]⟩, .slice none 0 0] 24 24
  refine (hm _).mono ?_
  rintro e w1 ⟨rfl, hb1⟩
  have h1 : Two w w1 [.string ⟨v.toArray⟩, .bool d, .bool t, .bool ch, .bool dc, .bool m, .bool s, .bool ds, .string ⟨cu.toArray⟩, .slice fa fs.length fc] [.string ⟨#[]⟩, .bool false, .bool false, .bool false, .bool false, .bool false, .bool false, .bool false, .string ⟨#[]⟩, .slice none 0 0] := h0.below hb1
  obtain ⟨c0, c1, c2, c3, c4, c5, c6, c7, c8, c9, f0, f1, f2, f3, f4, f5, f6, f7, f8, f9, d0, d1, d2, d3, d4, d5, d6, d7, d8, d9, g0, g1, g2, g3, g4, g5, g6, g7, g8, g9⟩ := h1.facts
  go_wp2_with fail
  refine (hp _).mono ?_
  rintro e w' ⟨rfl, rfl⟩
  go_wp2_with fail
  have h2 : Two w _ [.string ⟨v.toArray⟩, .bool d, .bool t, .bool ch, .bool dc, .bool m, .bool s, .bool ds, .string ⟨cu.toArray⟩, .slice none 0 0] [.string ⟨v.toArray⟩, .bool d, .bool t, .bool ch, .bool dc, .bool m, .bool s, .bool ds, .string ⟨cu.toArray⟩, .slice none 0 0] := (((((((((((h1).setP 9 (.slice none 0 0)).setR 0 (.string ⟨v.toArray⟩)).setR 1 (.bool d)).setR 2 (.bool t)).setR 3 (.bool ch)).setR 4 (.bool dc)).setR 5 (.bool m)).setR 6 (.bool s)).setR 7 (.bool ds)).setR 8 (.string ⟨cu.toArray⟩)).setR 9 (.slice none 0 0)
  (try simp only [Exit.inBlock, Exit.then])
  refine bodyPost_ret (v := .tuple #[ctlV v d t ch dc m s ds cu (.slice none 0 0), .bool false, .int .i64 0]) (by rw [rcell3 rfl]; (try unfold ctlV); go_simp) rfl ⟨_, rfl, EntsAt.nil _, h2.low⟩
theorem Write_any (kind : Int) (_hk : i64 kind) (c : Ctl) (f : Value) (hbig : c.files.length * 72 ≤ 140737488355328) (va : Value) (l : List Attr) (hl : Fine l) (x : List UInt8) (w : World) (hA : AttrsAt w va l) (hF : EntsAt w f c.files) (hG : G w) (hE : GE w) :
    Calls Tryz.prog 22 #[.int .i64 kind, cV c f, va, .string ⟨x.toArray⟩] w (RetCW (writeO kind c l x).1 (writeO kind c l x).2.1 (writeO kind c l x).2.2 w) := by
  obtain ⟨v, d, t, ch, dc, m, s, ds, cu, fs⟩ := c
  by_cases hx : 4000 < x.length
  · rw [write_long kind _ l x hx]; exact write_long_w kind v d t ch dc m s ds cu f fs hbig va l hl x hx w hA hF hG hE
  have hx4 : x.length ≤ 4000 := by omega
  rcases mode_ways kind with h | h | ⟨h, _⟩ | rfl | ⟨h, g⟩ | ⟨h, g⟩
  · rw [write_1 kind _ l x hx h]; exact write1_w kind h v d t ch dc m s ds cu f fs hbig va l hl x hx4 w hA hF hG hE
  · rw [write_2 kind _ l x hx (by omega) (Or.inl h)]; exact write3_w kind h v d t ch dc m s ds cu f fs hbig va l hl x hx4 w hA hF hG hE
  · rw [write_2 kind _ l x hx (by omega) (Or.inr (Or.inl h))]; exact write2_w kind h v d t ch dc m s ds cu f fs hbig va l hl x hx4 w hA hF hG hE
  · rw [write_18 _ l x hx]
    by_cases g : x = []
    · rw [if_pos g]; exact write18n_w v d t ch dc m s ds cu f fs hbig va l hl x g w hA hF hG hE
    · rw [if_neg g]; exact write18_w v d t ch dc m s ds cu f fs hbig va l hl x hx4 (g) w hA hF hG hE
  · rw [write_2 kind _ l x hx (by omega) (Or.inr (Or.inr (push_yes kind g)))]; exact writeb_w kind h (push_yes kind g) v d t ch dc m s ds cu f fs hbig va l hl x hx4 w hA hF hG hE
  · rw [write_0 kind _ l x hx h (push_no kind g)]; exact write0_w kind h (push_no kind g) v d t ch dc m s ds cu f fs hbig va l hl x hx4 w hA hF hG hE

theorem rWrite_any (kind : Int) (hk : i64 kind) (c : Ctl) (f : Value) (hbig : c.files.length * 72 ≤ 140737488355328) (va : Value) (l : List Attr) (hl : Fine l) (x : List UInt8) (w : World) (hA : AttrsAt w va l) (hF : EntsAt w f c.files) (hG : G w) (hE : GE w) :
    Calls Tryz.prog 23 #[.int .i64 kind, cV c f, va, .string ⟨x.toArray⟩] w (RetCB (writeO kind c l x).1 (writeO kind c l x).2.1 (writeO kind c l x).2.2 w) := by
  obtain ⟨v, d, t, ch, dc, m, s, ds, cu, fs⟩ := c
  by_cases hx : 4000 < x.length
  · rw [write_long kind _ l x hx]; exact rwrite_long_w kind v d t ch dc m s ds cu f fs hbig va l hl x hx w hA hF hG hE
  have hx4 : x.length ≤ 4000 := by omega
  rcases mode_ways kind with h | h | ⟨h, _⟩ | rfl | ⟨h, g⟩ | ⟨h, g⟩
  · rw [write_1 kind _ l x hx h]; exact rwrite1_w kind hk h v d t ch dc m s ds cu f fs hbig va l hl x hx4 w hA hF hG hE
  · rw [write_2 kind _ l x hx (by omega) (Or.inl h)]; exact rwrite3_w kind h v d t ch dc m s ds cu f fs hbig va l hl x hx4 w hA hF hG hE
  · rw [write_2 kind _ l x hx (by omega) (Or.inr (Or.inl h))]; exact rwrite2_w kind h v d t ch dc m s ds cu f fs hbig va l hl x hx4 w hA hF hG hE
  · rw [write_18 _ l x hx]
    by_cases g : x = []
    · rw [if_pos g]; exact rwrite18n_w v d t ch dc m s ds cu f fs hbig va l hl x g w hA hF hG hE
    · rw [if_neg g]; exact rwrite18_w v d t ch dc m s ds cu f fs hbig va l hl x hx4 (List.length_pos_iff.2 g) w hA hF hG hE
  · rw [write_2 kind _ l x hx (by omega) (Or.inr (Or.inr (push_yes kind g)))]; exact rwriteb_w kind h (push_yes kind g) v d t ch dc m s ds cu f fs hbig va l hl x hx4 w hA hF hG hE
  · rw [write_0 kind _ l x hx h (push_no kind g)]; exact rwrite0_w kind h (push_no kind g) v d t ch dc m s ds cu f fs hbig va l hl x hx4 w hA hF hG hE

end Go.Proofs.YtbhdoocajfkfiaaGreatDoor.ctl

namespace Go.Proofs.YtbhdoocajfkfiaaGreatDoor.ctl
open Go.ChangeShapes Go.WideShapes Go.ChangeAt Go.RowKit Go.Lib Go.Proofs.YtbhdoocajfkfiaaGreatDoor.num Go.Proofs.YtbhdoocajfkfiaaGreatDoor.mom Go.Proofs.YtbhdoocajfkfiaaGreatDoor.fits Go.Proofs.YtbhdoocajfkfiaaGreatDoor.atr Go.Proofs.YtbhdoocajfkfiaaGreatDoor.link Go.Proofs.YtbhdoocajfkfiaaGreatDoor.stp Go.Proofs.YtbhdoocajfkfiaaGreatDoor.cln

set_option maxHeartbeats 3200000 in
set_option maxRecDepth 100000 in
theorem type_long_w (kind : Int) (v : List UInt8) (d t ch dc m s ds : Bool) (cu : List UInt8) (f : Value) (fs : List Ent) (_hbig : fs.length * 72 ≤ 140737488355328) (va : Value) (l : List Attr) (_hl : Fine l) (x : List UInt8) (hx : 4000 < x.length) (w : World) (_hA : AttrsAt w va l) (hF : EntsAt w f fs) (_hG : G w) (_hE : GE w) :
    Calls Tryz.prog 26 #[.int .i64 kind, ctlV v d t ch dc m s ds cu f, va, .string ⟨x.toArray⟩] w (RetCE zeroC 2 w) := by
  have hxI : (4000 : Int) < x.length := by omega
  clear hx _hbig _hl _hA _hG _hE
  obtain ⟨fa, fc, rfl⟩ := RowAt.lenN hF
  unfold ctlV
  go_enter Tryz.func26, Tryz.ntmps26
  go_wp2_with fail
  have h0 := Two.start w [.string ⟨v.toArray⟩, .bool d, .bool t, .bool ch, .bool dc, .bool m, .bool s, .bool ds, .string ⟨cu.toArray⟩, .slice fa fs.length fc] [.string ⟨#[]⟩, .bool false, .bool false, .bool false, .bool false, .bool false, .bool false, .bool false, .string ⟨#[]⟩, .slice none 0 0] 24 24
  (try simp only [Exit.inBlock, Exit.then])
  refine bodyPost_ret (v := .tuple #[ctlV [] false false false false false false false [] (.slice none 0 0), .int .i64 2]) (by rw [rcell2 rfl]; (try unfold ctlV); go_simp) rfl ⟨.slice none 0 0, rfl, EntsAt.nil _, ?_⟩
  repeat refine Below.setCell ?_ (by first | exact Nat.le_refl _ | exact Nat.le_succ _) _
  exact h0.low
set_option maxHeartbeats 3200000 in
set_option maxRecDepth 100000 in
theorem rtype_long_w (kind : Int) (v : List UInt8) (d t ch dc m s ds : Bool) (cu : List UInt8) (f : Value) (fs : List Ent) (_hbig : fs.length * 72 ≤ 140737488355328) (va : Value) (l : List Attr) (_hl : Fine l) (x : List UInt8) (hx : 4000 < x.length) (w : World) (_hA : AttrsAt w va l) (hF : EntsAt w f fs) (_hG : G w) (_hE : GE w) :
    Calls Tryz.prog 27 #[.int .i64 kind, ctlV v d t ch dc m s ds cu f, va, .string ⟨x.toArray⟩] w (RetCE zeroC 2 w) := by
  have hxI : (4000 : Int) < x.length := by omega
  clear hx _hbig _hl _hA _hG _hE
  obtain ⟨fa, fc, rfl⟩ := RowAt.lenN hF
  unfold ctlV
  go_enter Tryz.func27, Tryz.ntmps27
  go_wp2_with fail
  have h0 := Two.start w [.string ⟨v.toArray⟩, .bool d, .bool t, .bool ch, .bool dc, .bool m, .bool s, .bool ds, .string ⟨cu.toArray⟩, .slice fa fs.length fc] [.string ⟨#[]⟩, .bool false, .bool false, .bool false, .bool false, .bool false, .bool false, .bool false, .string ⟨#[]⟩, .slice none 0 0] 24 24
  (try simp only [Exit.inBlock, Exit.then])
  refine bodyPost_ret (v := .tuple #[ctlV [] false false false false false false false [] (.slice none 0 0), .int .i64 2]) (by rw [rcell2 rfl]; (try unfold ctlV); go_simp) rfl ⟨.slice none 0 0, rfl, EntsAt.nil _, ?_⟩
  repeat refine Below.setCell ?_ (by first | exact Nat.le_refl _ | exact Nat.le_succ _) _
  exact h0.low
set_option maxHeartbeats 3200000 in
set_option maxRecDepth 100000 in
theorem type_28_w (v : List UInt8) (d t ch dc m s ds : Bool) (cu : List UInt8) (f : Value) (fs : List Ent) (_hbig : fs.length * 72 ≤ 140737488355328) (va : Value) (l : List Attr) (_hl : Fine l) (x : List UInt8) (hx : x.length ≤ 4000) (w : World) (_hA : AttrsAt w va l) (hF : EntsAt w f fs) (_hG : G w) (_hE : GE w) :
    Calls Tryz.prog 26 #[.int .i64 28, ctlV v d t ch dc m s ds cu f, va, .string ⟨x.toArray⟩] w (RetCE zeroC 3 w) := by
  have hm := fun w => mode_anyB 28 w
  rw [mode_1 28 (by decide)] at hm
  have hxI : ¬ (4000 : Int) < x.length := by omega
  clear hx _hbig _hl _hA _hG _hE
  obtain ⟨fa, fc, rfl⟩ := RowAt.lenN hF
  unfold ctlV
  go_enter Tryz.func26, Tryz.ntmps26
  go_wp2_with fail
  have h0 := Two.start w [.string ⟨v.toArray⟩, .bool d, .bool t, .bool ch, .bool dc, .bool m, .bool s, .bool ds, .string ⟨cu.toArray⟩, .slice fa fs.length fc] [.string ⟨#[]⟩, .bool false, .bool false, .bool false, .bool false, .bool false, .bool false, .bool false, .string ⟨#[]⟩, .slice none 0 0] 24 24
  refine (hm _).mono ?_
  rintro e w1 ⟨rfl, hb1⟩
  have h1 : Two w w1 [.string ⟨v.toArray⟩, .bool d, .bool t, .bool ch, .bool dc, .bool m, .bool s, .bool ds, .string ⟨cu.toArray⟩, .slice fa fs.length fc] [.string ⟨#[]⟩, .bool false, .bool false, .bool false, .bool false, .bool false, .bool false, .bool false, .string ⟨#[]⟩, .slice none 0 0] := h0.below hb1
  obtain ⟨c0, c1, c2, c3, c4, c5, c6, c7, c8, c9, f0, f1, f2, f3, f4, f5, f6, f7, f8, f9, d0, d1, d2, d3, d4, d5, d6, d7, d8, d9, g0, g1, g2, g3, g4, g5, g6, g7, g8, g9⟩ := h1.facts
  go_wp2_with fail
  (try simp only [Exit.inBlock, Exit.then])
  refine bodyPost_ret (v := .tuple #[ctlV [] false false false false false false false [] (.slice none 0 0), .int .i64 3]) (by rw [rcell2 rfl]; (try unfold ctlV); go_simp) rfl ⟨.slice none 0 0, rfl, EntsAt.nil _, ?_⟩
  repeat refine Below.setCell ?_ (by first | exact Nat.le_refl _ | exact Nat.le_succ _) _
  exact h1.low
set_option maxHeartbeats 3200000 in
set_option maxRecDepth 100000 in
theorem type_no_w (kind : Int) (hmo : modeP kind ≠ 1) (v : List UInt8) (d t ch dc m s ds : Bool) (cu : List UInt8) (f : Value) (fs : List Ent) (_hbig : fs.length * 72 ≤ 140737488355328) (va : Value) (l : List Attr) (_hl : Fine l) (x : List UInt8) (hx : x.length ≤ 4000) (w : World) (_hA : AttrsAt w va l) (hF : EntsAt w f fs) (_hG : G w) (_hE : GE w) :
    Calls Tryz.prog 26 #[.int .i64 kind, ctlV v d t ch dc m s ds cu f, va, .string ⟨x.toArray⟩] w (RetCE zeroC 3 w) := by
  have hm := fun w => mode_anyB kind w
  have m1 : (modeP kind == 1) = false := by simpa using hmo
  have m2 : (modeP kind != 1) = true := by simpa using hmo
  generalize modeP kind = mm at *
  have hxI : ¬ (4000 : Int) < x.length := by omega
  clear hx _hbig _hl _hA _hG _hE hmo
  obtain ⟨fa, fc, rfl⟩ := RowAt.lenN hF
  unfold ctlV
  go_enter Tryz.func26, Tryz.ntmps26
  go_wp2_with fail
  have h0 := Two.start w [.string ⟨v.toArray⟩, .bool d, .bool t, .bool ch, .bool dc, .bool m, .bool s, .bool ds, .string ⟨cu.toArray⟩, .slice fa fs.length fc] [.string ⟨#[]⟩, .bool false, .bool false, .bool false, .bool false, .bool false, .bool false, .bool false, .string ⟨#[]⟩, .slice none 0 0] 24 24
  refine (hm _).mono ?_
  rintro e w1 ⟨rfl, hb1⟩
  have h1 : Two w w1 [.string ⟨v.toArray⟩, .bool d, .bool t, .bool ch, .bool dc, .bool m, .bool s, .bool ds, .string ⟨cu.toArray⟩, .slice fa fs.length fc] [.string ⟨#[]⟩, .bool false, .bool false, .bool false, .bool false, .bool false, .bool false, .bool false, .string ⟨#[]⟩, .slice none 0 0] := h0.below hb1
  obtain ⟨c0, c1, c2, c3, c4, c5, c6, c7, c8, c9, f0, f1, f2, f3, f4, f5, f6, f7, f8, f9, d0, d1, d2, d3, d4, d5, d6, d7, d8, d9, g0, g1, g2, g3, g4, g5, g6, g7, g8, g9⟩ := h1.facts
  go_wp2_with fail
  (try simp only [Exit.inBlock, Exit.then])
  refine bodyPost_ret (v := .tuple #[ctlV [] false false false false false false false [] (.slice none 0 0), .int .i64 3]) (by rw [rcell2 rfl]; (try unfold ctlV); go_simp) rfl ⟨.slice none 0 0, rfl, EntsAt.nil _, ?_⟩
  repeat refine Below.setCell ?_ (by first | exact Nat.le_refl _ | exact Nat.le_succ _) _
  exact h1.low
set_option maxHeartbeats 3200000 in
set_option maxRecDepth 100000 in
theorem rtype_28_w (v : List UInt8) (d t ch dc m s ds : Bool) (cu : List UInt8) (f : Value) (fs : List Ent) (_hbig : fs.length * 72 ≤ 140737488355328) (va : Value) (l : List Attr) (_hl : Fine l) (x : List UInt8) (hx : x.length ≤ 4000) (w : World) (_hA : AttrsAt w va l) (hF : EntsAt w f fs) (_hG : G w) (_hE : GE w) :
    Calls Tryz.prog 27 #[.int .i64 28, ctlV v d t ch dc m s ds cu f, va, .string ⟨x.toArray⟩] w (RetCE zeroC 3 w) := by
  have hm := fun w => rmode_anyB 28 w
  rw [mode_1 28 (by decide)] at hm
  have hxI : ¬ (4000 : Int) < x.length := by omega
  clear hx _hbig _hl _hA _hG _hE
  obtain ⟨fa, fc, rfl⟩ := RowAt.lenN hF
  unfold ctlV
  go_enter Tryz.func27, Tryz.ntmps27
  go_wp2_with fail
  have h0 := Two.start w [.string ⟨v.toArray⟩, .bool d, .bool t, .bool ch, .bool dc, .bool m, .bool s, .bool ds, .string ⟨cu.toArray⟩, .slice fa fs.length fc] [.string ⟨#[]⟩, .bool false, .bool false, .bool false, .bool false, .bool false, .bool false, .bool false, .string ⟨#[]⟩, .slice none 0 0] 24 24
  refine (hm _).mono ?_
  rintro e w1 ⟨rfl, hb1⟩
  have h1 : Two w w1 [.string ⟨v.toArray⟩, .bool d, .bool t, .bool ch, .bool dc, .bool m, .bool s, .bool ds, .string ⟨cu.toArray⟩, .slice fa fs.length fc] [.string ⟨#[]⟩, .bool false, .bool false, .bool false, .bool false, .bool false, .bool false, .bool false, .string ⟨#[]⟩, .slice none 0 0] := h0.below hb1
  obtain ⟨c0, c1, c2, c3, c4, c5, c6, c7, c8, c9, f0, f1, f2, f3, f4, f5, f6, f7, f8, f9, d0, d1, d2, d3, d4, d5, d6, d7, d8, d9, g0, g1, g2, g3, g4, g5, g6, g7, g8, g9⟩ := h1.facts
  go_wp2_with fail
  (try simp only [Exit.inBlock, Exit.then])
  refine bodyPost_ret (v := .tuple #[ctlV [] false false false false false false false [] (.slice none 0 0), .int .i64 3]) (by rw [rcell2 rfl]; (try unfold ctlV); go_simp) rfl ⟨.slice none 0 0, rfl, EntsAt.nil _, ?_⟩
  repeat refine Below.setCell ?_ (by first | exact Nat.le_refl _ | exact Nat.le_succ _) _
  exact h1.low
set_option maxHeartbeats 3200000 in
set_option maxRecDepth 100000 in
theorem rtype_no_w (kind : Int) (hmo : modeP kind ≠ 1) (v : List UInt8) (d t ch dc m s ds : Bool) (cu : List UInt8) (f : Value) (fs : List Ent) (_hbig : fs.length * 72 ≤ 140737488355328) (va : Value) (l : List Attr) (_hl : Fine l) (x : List UInt8) (hx : x.length ≤ 4000) (w : World) (_hA : AttrsAt w va l) (hF : EntsAt w f fs) (_hG : G w) (_hE : GE w) :
    Calls Tryz.prog 27 #[.int .i64 kind, ctlV v d t ch dc m s ds cu f, va, .string ⟨x.toArray⟩] w (RetCE zeroC 3 w) := by
  have hm := fun w => rmode_anyB kind w
  have m1 : (modeP kind == 1) = false := by simpa using hmo
  have m2 : (modeP kind != 1) = true := by simpa using hmo
  generalize modeP kind = mm at *
  have hxI : ¬ (4000 : Int) < x.length := by omega
  clear hx _hbig _hl _hA _hG _hE hmo
  obtain ⟨fa, fc, rfl⟩ := RowAt.lenN hF
  unfold ctlV
  go_enter Tryz.func27, Tryz.ntmps27
  go_wp2_with fail
  have h0 := Two.start w [.string ⟨v.toArray⟩, .bool d, .bool t, .bool ch, .bool dc, .bool m, .bool s, .bool ds, .string ⟨cu.toArray⟩, .slice fa fs.length fc] [.string ⟨#[]⟩, .bool false, .bool false, .bool false, .bool false, .bool false, .bool false, .bool false, .string ⟨#[]⟩, .slice none 0 0] 24 24
  refine (hm _).mono ?_
  rintro e w1 ⟨rfl, hb1⟩
  have h1 : Two w w1 [.string ⟨v.toArray⟩, .bool d, .bool t, .bool ch, .bool dc, .bool m, .bool s, .bool ds, .string ⟨cu.toArray⟩, .slice fa fs.length fc] [.string ⟨#[]⟩, .bool false, .bool false, .bool false, .bool false, .bool false, .bool false, .bool false, .string ⟨#[]⟩, .slice none 0 0] := h0.below hb1
  obtain ⟨c0, c1, c2, c3, c4, c5, c6, c7, c8, c9, f0, f1, f2, f3, f4, f5, f6, f7, f8, f9, d0, d1, d2, d3, d4, d5, d6, d7, d8, d9, g0, g1, g2, g3, g4, g5, g6, g7, g8, g9⟩ := h1.facts
  go_wp2_with fail
  (try simp only [Exit.inBlock, Exit.then])
  refine bodyPost_ret (v := .tuple #[ctlV [] false false false false false false false [] (.slice none 0 0), .int .i64 3]) (by rw [rcell2 rfl]; (try unfold ctlV); go_simp) rfl ⟨.slice none 0 0, rfl, EntsAt.nil _, ?_⟩
  repeat refine Below.setCell ?_ (by first | exact Nat.le_refl _ | exact Nat.le_succ _) _
  exact h1.low
set_option maxHeartbeats 3200000 in
set_option maxRecDepth 100000 in
theorem type_yes_w (kind : Int) (hk : i64 kind) (hmo : modeP kind = 1) (h28 : kind ≠ 28) (v : List UInt8) (d t ch dc m s ds : Bool) (cu : List UInt8) (f : Value) (fs : List Ent) (hbig : fs.length * 72 ≤ 140737488355328) (va : Value) (l : List Attr) (hl : Fine l) (x : List UInt8) (hx : x.length ≤ 4000) (w : World) (hA : AttrsAt w va l) (hF : EntsAt w f fs) (hG : G w) (hE : GE w) :
    Calls Tryz.prog 26 #[.int .i64 kind, ctlV v d t ch dc m s ds cu f, va, .string ⟨x.toArray⟩] w (RetCE ⟨cleanedP kind l x, true, true, ch, dc, m, s, ds, cu, fs⟩ 0 w) := by
  have hm := fun w => mode_anyB kind w
  rw [hmo] at hm
  have t28 : (kind == 28) = false := by simpa using h28
  have hw := fun w h1 h2 h3 h4 => Write_any kind hk ⟨v, d, t, ch, dc, m, s, ds, cu, fs⟩ f hbig va l hl x w h1 h2 h3 h4
  rw [write_1 kind _ l x (by omega) hmo] at hw
  generalize cleanedP kind l x = y at *
  dsimp only at hw
  have hxI : ¬ (4000 : Int) < x.length := by omega
  clear hx hbig hl hmo h28 hk
  obtain ⟨fa, fc, rfl⟩ := RowAt.lenN hF
  unfold ctlV
  go_enter Tryz.func26, Tryz.ntmps26
  go_wp2_with fail
  have h0 := Two.start w [.string ⟨v.toArray⟩, .bool d, .bool t, .bool ch, .bool dc, .bool m, .bool s, .bool ds, .string ⟨cu.toArray⟩, .slice fa fs.length fc] [.string ⟨#[]⟩, .bool false, .bool false, .bool false, .bool false, .bool false, .bool false, .bool false, .string ⟨#[]⟩, .slice none 0 0] 24 24
  refine (hm _).mono ?_
  rintro e w1 ⟨rfl, hb1⟩
  have h1 : Two w w1 [.string ⟨v.toArray⟩, .bool d, .bool t, .bool ch, .bool dc, .bool m, .bool s, .bool ds, .string ⟨cu.toArray⟩, .slice fa fs.length fc] [.string ⟨#[]⟩, .bool false, .bool false, .bool false, .bool false, .bool false, .bool false, .bool false, .string ⟨#[]⟩, .slice none 0 0] := h0.below hb1
  obtain ⟨c0, c1, c2, c3, c4, c5, c6, c7, c8, c9, f0, f1, f2, f3, f4, f5, f6, f7, f8, f9, d0, d1, d2, d3, d4, d5, d6, d7, d8, d9, g0, g1, g2, g3, g4, g5, g6, g7, g8, g9⟩ := h1.facts
  go_wp2_with fail
  have hw2 : Calls Tryz.prog 22 #[.int .i64 kind, .agg #[.string ⟨v.toArray⟩, .bool d, .bool t, .bool ch, .bool dc, .bool m, .bool s, .bool ds, .string ⟨cu.toArray⟩, .slice fa fs.length fc], va, .string ⟨x.toArray⟩] _ _ := hw _ (hA.below h1.low) (EntsAt.below hF h1.low) (hG.below h1.low) (hE.below h1.low)
  refine hw2.mono ?_
  rintro e w9 ⟨f9, rfl, hfe, hfr, hb9⟩
  obtain ⟨oa, n, cap, rfl⟩ := hfe.isSl
  dsimp only [cV, ctlV]
  have h9 : TwoF w w9 [.string ⟨v.toArray⟩, .bool d, .bool t, .bool ch, .bool dc, .bool m, .bool s, .bool ds, .string ⟨cu.toArray⟩, .slice fa fs.length fc] [.string ⟨#[]⟩, .bool false, .bool false, .bool false, .bool false, .bool false, .bool false, .bool false, .string ⟨#[]⟩, .slice none 0 0] (.slice oa n cap) fs := ⟨h1.below hb9, hfe, fun k e => by have := hfr k e; have := h1.r.lt; omega⟩
  clear c0 c1 c2 c3 c4 c5 c6 c7 c8 c9 f0 f1 f2 f3 f4 f5 f6 f7 f8 f9 d0 d1 d2 d3 d4 d5 d6 d7 d8 d9 g0 g1 g2 g3 g4 g5 g6 g7 g8 g9
  obtain ⟨c0, c1, c2, c3, c4, c5, c6, c7, c8, c9, f0, f1, f2, f3, f4, f5, f6, f7, f8, f9, d0, d1, d2, d3, d4, d5, d6, d7, d8, d9, g0, g1, g2, g3, g4, g5, g6, g7, g8, g9⟩ := h9.two.facts
  clear hw hw2 hfr
  have HFE := Lib.hid hfe
  clear hfe
  go_upto_region 6 with fail
  go_cut [] (fun wx => TwoF w wx [.string ⟨y.toArray⟩, .bool true, .bool true, .bool ch, .bool dc, .bool m, .bool s, .bool ds, .string ⟨cu.toArray⟩, .slice oa n cap] [.string ⟨#[]⟩, .bool false, .bool false, .bool false, .bool false, .bool false, .bool false, .bool false, .string ⟨#[]⟩, .slice none 0 0] (.slice oa n cap) fs)
  case first =>
    go_wp2_with fail
    go_meet
    exact (((((((((((h9).setP 0 (.string ⟨y.toArray⟩)).setP 1 (.bool true)).setP 2 (.bool false)).setP 3 (.bool ch)).setP 4 (.bool dc)).setP 5 (.bool m)).setP 6 (.bool s)).setP 7 (.bool ds)).setP 8 (.string ⟨cu.toArray⟩)).setP 9 (.slice oa n cap)).setP 2 (.bool true)
  case rest =>
  have k2 := hcut
  clear hcut
  clear c0 c1 c2 c3 c4 c5 c6 c7 c8 c9 f0 f1 f2 f3 f4 f5 f6 f7 f8 f9 d0 d1 d2 d3 d4 d5 d6 d7 d8 d9 g0 g1 g2 g3 g4 g5 g6 g7 g8 g9
  obtain ⟨c0, c1, c2, c3, c4, c5, c6, c7, c8, c9, f0, f1, f2, f3, f4, f5, f6, f7, f8, f9, d0, d1, d2, d3, d4, d5, d6, d7, d8, d9, g0, g1, g2, g3, g4, g5, g6, g7, g8, g9⟩ := k2.two.facts
  go_wp2_with fail
  have h3 : TwoF w _ [.string ⟨y.toArray⟩, .bool true, .bool true, .bool ch, .bool dc, .bool m, .bool s, .bool ds, .string ⟨cu.toArray⟩, .slice oa n cap] [.string ⟨y.toArray⟩, .bool true, .bool true, .bool ch, .bool dc, .bool m, .bool s, .bool ds, .string ⟨cu.toArray⟩, .slice oa n cap] (.slice oa n cap) fs := ((((((((((k2).setR 0 (.string ⟨y.toArray⟩)).setR 1 (.bool true)).setR 2 (.bool true)).setR 3 (.bool ch)).setR 4 (.bool dc)).setR 5 (.bool m)).setR 6 (.bool s)).setR 7 (.bool ds)).setR 8 (.string ⟨cu.toArray⟩)).setR 9 (.slice oa n cap)
  (try simp only [Exit.inBlock, Exit.then])
  refine bodyPost_ret (v := .tuple #[ctlV y true true ch dc m s ds cu (.slice oa n cap), .int .i64 0]) (by rw [rcell2 rfl]; (try unfold ctlV); go_simp) rfl ⟨_, rfl, h3.ents, h3.low⟩
set_option maxHeartbeats 3200000 in
set_option maxRecDepth 100000 in
theorem rtype_yes_w (kind : Int) (hk : i64 kind) (hmo : modeP kind = 1) (h28 : kind ≠ 28) (v : List UInt8) (d t ch dc m s ds : Bool) (cu : List UInt8) (f : Value) (fs : List Ent) (_hbig : fs.length * 72 ≤ 140737488355328) (va : Value) (l : List Attr) (hl : Fine l) (x : List UInt8) (hx : x.length ≤ 4000) (w : World) (hA : AttrsAt w va l) (hF : EntsAt w f fs) (_hG : G w) (_hE : GE w) :
    Calls Tryz.prog 27 #[.int .i64 kind, ctlV v d t ch dc m s ds cu f, va, .string ⟨x.toArray⟩] w (RetCE ⟨cleanedP kind l x, true, true, ch, dc, m, s, ds, cu, fs⟩ 0 w) := by
  have hm := fun w => rmode_anyB kind w
  rw [hmo] at hm
  have t28 : (kind == 28) = false := by simpa using h28
  have hc := fun w h => rcleaned_any kind hk va l hl x (by omega) w h
  generalize cleanedP kind l x = y at *
  have hxI : ¬ (4000 : Int) < x.length := by omega
  clear hx _hbig hl hmo h28 hk
  obtain ⟨fa, fc, rfl⟩ := RowAt.lenN hF
  unfold ctlV
  go_enter Tryz.func27, Tryz.ntmps27
  go_wp2_with fail
  have h0 := Two.start w [.string ⟨v.toArray⟩, .bool d, .bool t, .bool ch, .bool dc, .bool m, .bool s, .bool ds, .string ⟨cu.toArray⟩, .slice fa fs.length fc] [.string ⟨#[]⟩, .bool false, .bool false, .bool false, .bool false, .bool false, .bool false, .bool false, .string ⟨#[]⟩, .slice none 0 0] 24 24
  refine (hm _).mono ?_
  rintro e w1 ⟨rfl, hb1⟩
  have h1 : Two w w1 [.string ⟨v.toArray⟩, .bool d, .bool t, .bool ch, .bool dc, .bool m, .bool s, .bool ds, .string ⟨cu.toArray⟩, .slice fa fs.length fc] [.string ⟨#[]⟩, .bool false, .bool false, .bool false, .bool false, .bool false, .bool false, .bool false, .string ⟨#[]⟩, .slice none 0 0] := h0.below hb1
  obtain ⟨c0, c1, c2, c3, c4, c5, c6, c7, c8, c9, f0, f1, f2, f3, f4, f5, f6, f7, f8, f9, d0, d1, d2, d3, d4, d5, d6, d7, d8, d9, g0, g1, g2, g3, g4, g5, g6, g7, g8, g9⟩ := h1.facts
  go_wp2_with fail
  refine (hc _ (hA.below h1.low)).mono ?_
  rintro e w2 ⟨rfl, hb2⟩
  have h2 : Two w w2 [.string ⟨v.toArray⟩, .bool d, .bool t, .bool ch, .bool dc, .bool m, .bool s, .bool ds, .string ⟨cu.toArray⟩, .slice fa fs.length fc] [.string ⟨#[]⟩, .bool false, .bool false, .bool false, .bool false, .bool false, .bool false, .bool false, .string ⟨#[]⟩, .slice none 0 0] := h1.below hb2
  clear c0 c1 c2 c3 c4 c5 c6 c7 c8 c9 f0 f1 f2 f3 f4 f5 f6 f7 f8 f9 d0 d1 d2 d3 d4 d5 d6 d7 d8 d9 g0 g1 g2 g3 g4 g5 g6 g7 g8 g9
  obtain ⟨c0, c1, c2, c3, c4, c5, c6, c7, c8, c9, f0, f1, f2, f3, f4, f5, f6, f7, f8, f9, d0, d1, d2, d3, d4, d5, d6, d7, d8, d9, g0, g1, g2, g3, g4, g5, g6, g7, g8, g9⟩ := h2.facts
  go_wp2_with fail
  have h3 : Two w _ [.string ⟨y.toArray⟩, .bool true, .bool true, .bool ch, .bool dc, .bool m, .bool s, .bool ds, .string ⟨cu.toArray⟩, .slice fa fs.length fc] [.string ⟨y.toArray⟩, .bool true, .bool true, .bool ch, .bool dc, .bool m, .bool s, .bool ds, .string ⟨cu.toArray⟩, .slice fa fs.length fc] := (((((((((((((h2).setP 0 (.string ⟨y.toArray⟩)).setP 1 (.bool true)).setP 2 (.bool true)).setR 0 (.string ⟨y.toArray⟩)).setR 1 (.bool true)).setR 2 (.bool true)).setR 3 (.bool ch)).setR 4 (.bool dc)).setR 5 (.bool m)).setR 6 (.bool s)).setR 7 (.bool ds)).setR 8 (.string ⟨cu.toArray⟩)).setR 9 (.slice fa fs.length fc)
  (try simp only [Exit.inBlock, Exit.then])
  refine bodyPost_ret (v := .tuple #[ctlV y true true ch dc m s ds cu (.slice fa fs.length fc), .int .i64 0]) (by rw [rcell2 rfl]; (try unfold ctlV); go_simp) rfl ⟨_, rfl, EntsAt.below hF h3.low, h3.low⟩
theorem Type_any (kind : Int) (hk : i64 kind) (c : Ctl) (f : Value) (hbig : c.files.length * 72 ≤ 140737488355328) (va : Value) (l : List Attr) (hl : Fine l) (x : List UInt8) (w : World) (hA : AttrsAt w va l) (hF : EntsAt w f c.files) (hG : G w) (hE : GE w) :
    Calls Tryz.prog 26 #[.int .i64 kind, cV c f, va, .string ⟨x.toArray⟩] w (RetCE (typeO kind c l x).1 (typeO kind c l x).2 w) := by
  obtain ⟨v, d, t, ch, dc, m, s, ds, cu, fs⟩ := c
  by_cases hx : 4000 < x.length
  · rw [type_long kind _ l x hx]; exact type_long_w kind v d t ch dc m s ds cu f fs hbig va l hl x hx w hA hF hG hE
  have hx4 : x.length ≤ 4000 := by omega
  by_cases h : modeP kind = 1
  · by_cases g : kind = 28
    · subst g
      rw [type_no 28 _ l x hx (by rintro ⟨_, e⟩; exact e rfl)]; exact type_28_w v d t ch dc m s ds cu f fs hbig va l hl x hx4 w hA hF hG hE
    · rw [type_yes kind _ l x hx ⟨h, g⟩]; exact type_yes_w kind hk h g v d t ch dc m s ds cu f fs hbig va l hl x hx4 w hA hF hG hE
  · rw [type_no kind _ l x hx (by rintro ⟨e, _⟩; exact h e)]; exact type_no_w kind h v d t ch dc m s ds cu f fs hbig va l hl x hx4 w hA hF hG hE

theorem rType_any (kind : Int) (hk : i64 kind) (c : Ctl) (f : Value) (hbig : c.files.length * 72 ≤ 140737488355328) (va : Value) (l : List Attr) (hl : Fine l) (x : List UInt8) (w : World) (hA : AttrsAt w va l) (hF : EntsAt w f c.files) (hG : G w) (hE : GE w) :
    Calls Tryz.prog 27 #[.int .i64 kind, cV c f, va, .string ⟨x.toArray⟩] w (RetCE (typeO kind c l x).1 (typeO kind c l x).2 w) := by
  obtain ⟨v, d, t, ch, dc, m, s, ds, cu, fs⟩ := c
  by_cases hx : 4000 < x.length
  · rw [type_long kind _ l x hx]; exact rtype_long_w kind v d t ch dc m s ds cu f fs hbig va l hl x hx w hA hF hG hE
  have hx4 : x.length ≤ 4000 := by omega
  by_cases h : modeP kind = 1
  · by_cases g : kind = 28
    · subst g
      rw [type_no 28 _ l x hx (by rintro ⟨_, e⟩; exact e rfl)]; exact rtype_28_w v d t ch dc m s ds cu f fs hbig va l hl x hx4 w hA hF hG hE
    · rw [type_yes kind _ l x hx ⟨h, g⟩]; exact rtype_yes_w kind hk h g v d t ch dc m s ds cu f fs hbig va l hl x hx4 w hA hF hG hE
  · rw [type_no kind _ l x hx (by rintro ⟨e, _⟩; exact h e)]; exact rtype_no_w kind h v d t ch dc m s ds cu f fs hbig va l hl x hx4 w hA hF hG hE

end Go.Proofs.YtbhdoocajfkfiaaGreatDoor.ctl

namespace Go.Proofs.YtbhdoocajfkfiaaGreatDoor.ctl
open Go.ChangeShapes Go.WideShapes Go.ChangeAt Go.RowKit Go.Lib Go.Proofs.YtbhdoocajfkfiaaGreatDoor.num Go.Proofs.YtbhdoocajfkfiaaGreatDoor.mom Go.Proofs.YtbhdoocajfkfiaaGreatDoor.fits Go.Proofs.YtbhdoocajfkfiaaGreatDoor.atr Go.Proofs.YtbhdoocajfkfiaaGreatDoor.link Go.Proofs.YtbhdoocajfkfiaaGreatDoor.stp Go.Proofs.YtbhdoocajfkfiaaGreatDoor.cln

set_option maxHeartbeats 3200000 in
set_option maxRecDepth 100000 in
theorem reset_w (kind : Int) (v : List UInt8) (d t ch dc m s ds : Bool) (cu : List UInt8) (f : Value) (hfv : IsSl f) (va : Value) (l : List Attr) (hl : Fine l) (x : List UInt8) (hx : x.length ≤ 1000000) (w : World) (hA : AttrsAt w va l) (hG : G w) (hE : GE w) :
    Calls Tryz.prog 24 #[.int .i64 kind, ctlV v d t ch dc m s ds cu f, va, .string ⟨x.toArray⟩] w (RetC ⟨startV kind l x, false, false, startC kind l, false, m, startS kind l, false, cu, []⟩ w) := by
  have hs := fun w h g k => start_any kind v d t ch dc m s ds cu f hfv va l hl x hx w h g k
  generalize startV kind l x = y at *
  generalize startC kind l = yc at *
  generalize startS kind l = ys at *
  clear hl hx
  obtain ⟨fa, fn, fc, rfl⟩ := hfv
  unfold ctlV at hs ⊢
  go_enter Tryz.func24, Tryz.ntmps24
  go_upto_region 1 with fail
  have h0 := Two.start w [.string ⟨v.toArray⟩, .bool d, .bool t, .bool ch, .bool dc, .bool m, .bool s, .bool ds, .string ⟨cu.toArray⟩, .slice fa fn fc] [.string ⟨#[]⟩, .bool false, .bool false, .bool false, .bool false, .bool false, .bool false, .bool false, .string ⟨#[]⟩, .slice none 0 0] 24 24
  go_cut [] (fun wx => Two w wx [.string ⟨y.toArray⟩, .bool d, .bool t, .bool yc, .bool dc, .bool m, .bool ys, .bool ds, .string ⟨cu.toArray⟩, .slice fa fn fc] [.string ⟨#[]⟩, .bool false, .bool false, .bool false, .bool false, .bool false, .bool false, .bool false, .string ⟨#[]⟩, .slice none 0 0])
  case first =>
    go_wp2_with fail
    refine (hs _ (hA.below h0.low) (hG.below h0.low) (hE.below h0.low)).mono ?_
    rintro e w1 ⟨rfl, hb1⟩
    have h1 : Two w w1 [.string ⟨v.toArray⟩, .bool d, .bool t, .bool ch, .bool dc, .bool m, .bool s, .bool ds, .string ⟨cu.toArray⟩, .slice fa fn fc] [.string ⟨#[]⟩, .bool false, .bool false, .bool false, .bool false, .bool false, .bool false, .bool false, .string ⟨#[]⟩, .slice none 0 0] := h0.below hb1
    obtain ⟨c0, c1, c2, c3, c4, c5, c6, c7, c8, c9, f0, f1, f2, f3, f4, f5, f6, f7, f8, f9, d0, d1, d2, d3, d4, d5, d6, d7, d8, d9, g0, g1, g2, g3, g4, g5, g6, g7, g8, g9⟩ := h1.facts
    go_wp2_with fail
    go_meet
    exact ((((((((((h1).setP 0 (.string ⟨y.toArray⟩)).setP 1 (.bool d)).setP 2 (.bool t)).setP 3 (.bool yc)).setP 4 (.bool dc)).setP 5 (.bool m)).setP 6 (.bool ys)).setP 7 (.bool ds)).setP 8 (.string ⟨cu.toArray⟩)).setP 9 (.slice fa fn fc)
  case rest =>
  have h2 := hcut
  clear hcut hs
  obtain ⟨c0, c1, c2, c3, c4, c5, c6, c7, c8, c9, f0, f1, f2, f3, f4, f5, f6, f7, f8, f9, d0, d1, d2, d3, d4, d5, d6, d7, d8, d9, g0, g1, g2, g3, g4, g5, g6, g7, g8, g9⟩ := h2.facts
  go_wp2_with fail
  have h4 : Two w _ [.string ⟨y.toArray⟩, .bool false, .bool false, .bool yc, .bool false, .bool m, .bool ys, .bool false, .string ⟨cu.toArray⟩, .slice none 0 0] [.string ⟨y.toArray⟩, .bool false, .bool false, .bool yc, .bool false, .bool m, .bool ys, .bool false, .string ⟨cu.toArray⟩, .slice none 0 0] := (((((((((((((((h2).setP 9 (.slice none 0 0)).setP 1 (.bool false)).setP 2 (.bool false)).setP 4 (.bool false)).setP 7 (.bool false)).setR 0 (.string ⟨y.toArray⟩)).setR 1 (.bool false)).setR 2 (.bool false)).setR 3 (.bool yc)).setR 4 (.bool false)).setR 5 (.bool m)).setR 6 (.bool ys)).setR 7 (.bool false)).setR 8 (.string ⟨cu.toArray⟩)).setR 9 (.slice none 0 0)
  (try simp only [Exit.inBlock, Exit.then])
  refine bodyPost_ret (v := ctlV y false false yc false m ys false cu (.slice none 0 0)) (by rw [rcell1 rfl]; (try unfold ctlV); go_simp) rfl ⟨_, rfl, EntsAt.nil _, h4.low⟩
set_option maxHeartbeats 3200000 in
set_option maxRecDepth 100000 in
theorem rreset_w (kind : Int) (v : List UInt8) (d t ch dc m s ds : Bool) (cu : List UInt8) (f : Value) (hfv : IsSl f) (va : Value) (l : List Attr) (hl : Fine l) (x : List UInt8) (hx : x.length ≤ 1000000) (w : World) (hA : AttrsAt w va l) (_hG : G w) (_hE : GE w) :
    Calls Tryz.prog 25 #[.int .i64 kind, ctlV v d t ch dc m s ds cu f, va, .string ⟨x.toArray⟩] w (RetC ⟨startV kind l x, false, false, startC kind l, false, m, startS kind l, false, cu, []⟩ w) := by
  have hs := fun w h => rStart_any kind va l hl x hx w h
  generalize startV kind l x = y at *
  generalize startC kind l = yc at *
  generalize startS kind l = ys at *
  clear hl hx
  obtain ⟨fa, fn, fc, rfl⟩ := hfv
  unfold ctlV at hs ⊢
  go_enter Tryz.func25, Tryz.ntmps25
  go_wp2_with fail
  have h0 := Two.start w [.string ⟨v.toArray⟩, .bool d, .bool t, .bool ch, .bool dc, .bool m, .bool s, .bool ds, .string ⟨cu.toArray⟩, .slice fa fn fc] [.string ⟨#[]⟩, .bool false, .bool false, .bool false, .bool false, .bool false, .bool false, .bool false, .string ⟨#[]⟩, .slice none 0 0] 24 24
  refine (hs _ (hA.below h0.low)).mono ?_
  rintro e w1 ⟨rfl, hb1⟩
  have h1 : Two w w1 [.string ⟨v.toArray⟩, .bool d, .bool t, .bool ch, .bool dc, .bool m, .bool s, .bool ds, .string ⟨cu.toArray⟩, .slice fa fn fc] [.string ⟨#[]⟩, .bool false, .bool false, .bool false, .bool false, .bool false, .bool false, .bool false, .string ⟨#[]⟩, .slice none 0 0] := h0.below hb1
  obtain ⟨c0, c1, c2, c3, c4, c5, c6, c7, c8, c9, f0, f1, f2, f3, f4, f5, f6, f7, f8, f9, d0, d1, d2, d3, d4, d5, d6, d7, d8, d9, g0, g1, g2, g3, g4, g5, g6, g7, g8, g9⟩ := h1.facts
  have h2 : Two w (w1.alloc (.cells #[.string ⟨y.toArray⟩, .bool false, .bool false, .bool yc, .bool false, .bool false, .bool ys, .bool false, .string ⟨#[]⟩, .slice none 0 0] 24)) _ _ := h1.below ((Below.refl _ _).alloc (Nat.le_refl _) _)
  have hlt : w.heap.size + 1 < w1.heap.size := h1.r.lt
  have hlt0 : w.heap.size < w1.heap.size := h1.p.lt
  have n1 : ¬ w.heap.size = w1.heap.size := by omega
  have n2 : ¬ w1.heap.size = w.heap.size := by omega
  have n3 : ¬ w.heap.size + 1 = w1.heap.size := by omega
  have n4 : ¬ w1.heap.size = w.heap.size + 1 := by omega
  clear hs h2
  go_wp2_with fail
  (try simp only [Exit.inBlock, Exit.then])
  refine bodyPost_ret (v := ctlV y false false yc false m ys false cu (.slice none 0 0)) (by rw [rcell1 rfl]; (try unfold ctlV); go_simp) rfl ⟨_, rfl, EntsAt.nil _, ?_⟩
  refine Below.alloc ?_ (by simp; omega) _
  repeat refine Below.setCell ?_ (by first | exact Nat.le_refl _ | exact Nat.le_succ _) _
  exact h1.low
theorem Reset_any (kind : Int) (c : Ctl) (f : Value) (hfv : IsSl f) (va : Value) (l : List Attr) (hl : Fine l) (x : List UInt8) (hx : x.length ≤ 1000000) (w : World) (hA : AttrsAt w va l) (hG : G w) (hE : GE w) :
    Calls Tryz.prog 24 #[.int .i64 kind, cV c f, va, .string ⟨x.toArray⟩] w (RetC (resetO kind c l x) w) :=
  reset_w kind c.value c.dirty c.typed c.checked c.dchecked c.mixed c.selected c.dselected c.custom f hfv va l hl x hx w hA hG hE
theorem rReset_any (kind : Int) (c : Ctl) (f : Value) (hfv : IsSl f) (va : Value) (l : List Attr) (hl : Fine l) (x : List UInt8) (hx : x.length ≤ 1000000) (w : World) (hA : AttrsAt w va l) (hG : G w) (hE : GE w) :
    Calls Tryz.prog 25 #[.int .i64 kind, cV c f, va, .string ⟨x.toArray⟩] w (RetC (resetO kind c l x) w) :=
  rreset_w kind c.value c.dirty c.typed c.checked c.dchecked c.mixed c.selected c.dselected c.custom f hfv va l hl x hx w hA hG hE
end Go.Proofs.YtbhdoocajfkfiaaGreatDoor.ctl

namespace Go.Proofs.YtbhdoocajfkfiaaGreatDoor.ctl
open Go.ChangeShapes Go.WideShapes Go.ChangeAt Go.RowKit Go.Lib Go.Proofs.YtbhdoocajfkfiaaGreatDoor.num Go.Proofs.YtbhdoocajfkfiaaGreatDoor.mom Go.Proofs.YtbhdoocajfkfiaaGreatDoor.fits Go.Proofs.YtbhdoocajfkfiaaGreatDoor.atr Go.Proofs.YtbhdoocajfkfiaaGreatDoor.link Go.Proofs.YtbhdoocajfkfiaaGreatDoor.stp Go.Proofs.YtbhdoocajfkfiaaGreatDoor.cln

set_option maxHeartbeats 3200000 in
set_option maxRecDepth 100000 in
theorem retype_own (old kind : Int) (h : 2 ≤ kind ∧ kind ≤ 15) (hmo : modeP old = 1) (v : List UInt8) (d t ch dc m s ds : Bool) (cu : List UInt8) (f : Value) (fs : List Ent) (hbig : fs.length * 72 ≤ 140737488355328) (va : Value) (l : List Attr) (hl : Fine l) (hv : v.length ≤ 1000000) (w : World) (hA : AttrsAt w va l) (hF : EntsAt w f fs) (hG : G w) (hE : GE w) :
    Calls Tryz.prog 30 #[.int .i64 old, .int .i64 kind, ctlV v d t ch dc m s ds cu f, va] w (RetCS ⟨cleanV kind l v, d, t, ch, dc, m, s, ds, cu, fs⟩ [] false w) := by
  have ho := fun w h => own_any v d t ch dc m s ds cu f fs hbig w h
  have hm1 := fun w => mode_any old w
  have hm := fun w => mode_anyB kind w
  rw [mode_1 kind (Or.inl h)] at hm
  rw [hmo] at hm1
  have hc := fun w h g k => cleaned_any kind va l hl v hv w h g k
  rw [cleaned_no kind (by omega)] at hc
  generalize cleanV kind l v = y at *
  clear hl hbig hv h hmo
  obtain ⟨fa, fc, rfl⟩ := RowAt.lenN hF
  unfold ctlV
  go_enter Tryz.func30, Tryz.ntmps30
  go_wp2_with fail
  have h0 := Two.start w [.string ⟨v.toArray⟩, .bool d, .bool t, .bool ch, .bool dc, .bool m, .bool s, .bool ds, .string ⟨cu.toArray⟩, .slice fa fs.length fc] [.string ⟨#[]⟩, .bool false, .bool false, .bool false, .bool false, .bool false, .bool false, .bool false, .string ⟨#[]⟩, .slice none 0 0] 24 24
  refine (ho _ (hF.below h0.low)).mono ?_
  rintro e w1 ⟨oa, n, cap, rfl, hfe, hfr, hb1⟩
  unfold ctlV
  have h1 : TwoF w w1 [.string ⟨v.toArray⟩, .bool d, .bool t, .bool ch, .bool dc, .bool m, .bool s, .bool ds, .string ⟨cu.toArray⟩, .slice fa fs.length fc] [.string ⟨#[]⟩, .bool false, .bool false, .bool false, .bool false, .bool false, .bool false, .bool false, .string ⟨#[]⟩, .slice none 0 0] (.slice oa n cap) fs := ⟨h0.below hb1, hfe, fun k e => by have := hfr k e; simp at this; omega⟩
  have HF2 := Lib.hid hfe
  have HR2 := Lib.hid hfr
  clear hfe hfr
  obtain ⟨c0, c1, c2, c3, c4, c5, c6, c7, c8, c9, f0, f1, f2, f3, f4, f5, f6, f7, f8, f9, d0, d1, d2, d3, d4, d5, d6, d7, d8, d9, g0, g1, g2, g3, g4, g5, g6, g7, g8, g9⟩ := h1.two.facts
  go_wp2_with fail
  refine (hm1 _).mono ?_
  rintro e w' ⟨rfl, rfl⟩
  go_wp2_with fail
  have h2 : TwoF w _ [.string ⟨v.toArray⟩, .bool d, .bool t, .bool ch, .bool dc, .bool m, .bool s, .bool ds, .string ⟨cu.toArray⟩, .slice oa n cap] [.string ⟨#[]⟩, .bool false, .bool false, .bool false, .bool false, .bool false, .bool false, .bool false, .string ⟨#[]⟩, .slice none 0 0] (.slice oa n cap) fs := ((((((((((h1).setP 0 (.string ⟨v.toArray⟩)).setP 1 (.bool d)).setP 2 (.bool t)).setP 3 (.bool ch)).setP 4 (.bool dc)).setP 5 (.bool m)).setP 6 (.bool s)).setP 7 (.bool ds)).setP 8 (.string ⟨cu.toArray⟩)).setP 9 (.slice oa n cap)
  refine (hm _).mono ?_
  rintro e w3 ⟨rfl, hb3⟩
  have h3 : TwoF w w3 [.string ⟨v.toArray⟩, .bool d, .bool t, .bool ch, .bool dc, .bool m, .bool s, .bool ds, .string ⟨cu.toArray⟩, .slice oa n cap] [.string ⟨#[]⟩, .bool false, .bool false, .bool false, .bool false, .bool false, .bool false, .bool false, .string ⟨#[]⟩, .slice none 0 0] (.slice oa n cap) fs := h2.below hb3
  clear c0 c1 c2 c3 c4 c5 c6 c7 c8 c9 f0 f1 f2 f3 f4 f5 f6 f7 f8 f9 d0 d1 d2 d3 d4 d5 d6 d7 d8 d9 g0 g1 g2 g3 g4 g5 g6 g7 g8 g9
  obtain ⟨c0, c1, c2, c3, c4, c5, c6, c7, c8, c9, f0, f1, f2, f3, f4, f5, f6, f7, f8, f9, d0, d1, d2, d3, d4, d5, d6, d7, d8, d9, g0, g1, g2, g3, g4, g5, g6, g7, g8, g9⟩ := h3.two.facts
  go_wp2_with fail
  refine (hc _ (hA.below h3.low) (hG.below h3.low) (hE.below h3.low)).mono ?_
  rintro e w4 ⟨rfl, hb4⟩
  have h4 : TwoF w w4 [.string ⟨v.toArray⟩, .bool d, .bool t, .bool ch, .bool dc, .bool m, .bool s, .bool ds, .string ⟨cu.toArray⟩, .slice oa n cap] [.string ⟨#[]⟩, .bool false, .bool false, .bool false, .bool false, .bool false, .bool false, .bool false, .string ⟨#[]⟩, .slice none 0 0] (.slice oa n cap) fs := h3.below hb4
  clear c0 c1 c2 c3 c4 c5 c6 c7 c8 c9 f0 f1 f2 f3 f4 f5 f6 f7 f8 f9 d0 d1 d2 d3 d4 d5 d6 d7 d8 d9 g0 g1 g2 g3 g4 g5 g6 g7 g8 g9
  obtain ⟨c0, c1, c2, c3, c4, c5, c6, c7, c8, c9, f0, f1, f2, f3, f4, f5, f6, f7, f8, f9, d0, d1, d2, d3, d4, d5, d6, d7, d8, d9, g0, g1, g2, g3, g4, g5, g6, g7, g8, g9⟩ := h4.two.facts
  go_wp2_with fail
  have h5 : TwoF w _ [.string ⟨y.toArray⟩, .bool d, .bool t, .bool ch, .bool dc, .bool m, .bool s, .bool ds, .string ⟨cu.toArray⟩, .slice oa n cap] [.string ⟨y.toArray⟩, .bool d, .bool t, .bool ch, .bool dc, .bool m, .bool s, .bool ds, .string ⟨cu.toArray⟩, .slice oa n cap] (.slice oa n cap) fs := (((((((((((h4).setP 0 (.string ⟨y.toArray⟩)).setR 0 (.string ⟨y.toArray⟩)).setR 1 (.bool d)).setR 2 (.bool t)).setR 3 (.bool ch)).setR 4 (.bool dc)).setR 5 (.bool m)).setR 6 (.bool s)).setR 7 (.bool ds)).setR 8 (.string ⟨cu.toArray⟩)).setR 9 (.slice oa n cap)
  (try simp only [Exit.inBlock, Exit.then])
  refine bodyPost_ret (v := .tuple #[ctlV y d t ch dc m s ds cu (.slice oa n cap), .string ⟨#[]⟩, .bool false]) (by rw [rcell3 rfl]; (try unfold ctlV); go_simp) rfl ⟨_, rfl, h5.ents, h5.low⟩
set_option maxHeartbeats 3200000 in
set_option maxRecDepth 100000 in
theorem retype_new (old kind : Int) (h : 2 ≤ kind ∧ kind ≤ 15) (hmo : modeP old ≠ 1) (v : List UInt8) (d t ch dc m s ds : Bool) (cu : List UInt8) (f : Value) (fs : List Ent) (hbig : fs.length * 72 ≤ 140737488355328) (va : Value) (l : List Attr) (hl : Fine l) (_hv : v.length ≤ 1000000) (w : World) (hA : AttrsAt w va l) (hF : EntsAt w f fs) (hG : G w) (hE : GE w) :
    Calls Tryz.prog 30 #[.int .i64 old, .int .i64 kind, ctlV v d t ch dc m s ds cu f, va] w (RetCS ⟨cleanV kind l (attrS nValue l), false, t, ch, dc, m, s, ds, cu, fs⟩ [] false w) := by
  have ho := fun w h => own_any v d t ch dc m s ds cu f fs hbig w h
  have hm1 := fun w => mode_any old w
  have hm := fun w => mode_anyB kind w
  rw [mode_1 kind (Or.inl h)] at hm
  have hlen := fval_len nValue l hl
  have ha := fun w h => attr_anyC va l nValue hl.1 w h
  have hc := fun w h g k => cleaned_any kind va l hl (attrS nValue l) hlen w h g k
  rw [cleaned_no kind (by omega)] at hc
  generalize cleanV kind l (attrS nValue l) = y at *
  generalize attrS nValue l = y0 at *
  generalize attrB nValue l = b0 at *
  have m1 : (modeP old == 1) = false := by simpa using hmo
  have m2 : (modeP old != 1) = true := by simpa using hmo
  generalize modeP old = mm at *
  clear hl hbig _hv h hmo hlen
  obtain ⟨fa, fc, rfl⟩ := RowAt.lenN hF
  unfold ctlV
  go_enter Tryz.func30, Tryz.ntmps30
  go_wp2_with fail
  have h0 := Two.start w [.string ⟨v.toArray⟩, .bool d, .bool t, .bool ch, .bool dc, .bool m, .bool s, .bool ds, .string ⟨cu.toArray⟩, .slice fa fs.length fc] [.string ⟨#[]⟩, .bool false, .bool false, .bool false, .bool false, .bool false, .bool false, .bool false, .string ⟨#[]⟩, .slice none 0 0] 24 24
  refine (ho _ (hF.below h0.low)).mono ?_
  rintro e w1 ⟨oa, n, cap, rfl, hfe, hfr, hb1⟩
  unfold ctlV
  have h1 : TwoF w w1 [.string ⟨v.toArray⟩, .bool d, .bool t, .bool ch, .bool dc, .bool m, .bool s, .bool ds, .string ⟨cu.toArray⟩, .slice fa fs.length fc] [.string ⟨#[]⟩, .bool false, .bool false, .bool false, .bool false, .bool false, .bool false, .bool false, .string ⟨#[]⟩, .slice none 0 0] (.slice oa n cap) fs := ⟨h0.below hb1, hfe, fun k e => by have := hfr k e; simp at this; omega⟩
  have HF2 := Lib.hid hfe
  have HR2 := Lib.hid hfr
  clear hfe hfr
  obtain ⟨c0, c1, c2, c3, c4, c5, c6, c7, c8, c9, f0, f1, f2, f3, f4, f5, f6, f7, f8, f9, d0, d1, d2, d3, d4, d5, d6, d7, d8, d9, g0, g1, g2, g3, g4, g5, g6, g7, g8, g9⟩ := h1.two.facts
  go_wp2_with fail
  refine (hm1 _).mono ?_
  rintro e w' ⟨rfl, rfl⟩
  go_wp2_with fail
  have h2 : TwoF w _ [.string ⟨v.toArray⟩, .bool d, .bool t, .bool ch, .bool dc, .bool m, .bool s, .bool ds, .string ⟨cu.toArray⟩, .slice oa n cap] [.string ⟨#[]⟩, .bool false, .bool false, .bool false, .bool false, .bool false, .bool false, .bool false, .string ⟨#[]⟩, .slice none 0 0] (.slice oa n cap) fs := ((((((((((h1).setP 0 (.string ⟨v.toArray⟩)).setP 1 (.bool d)).setP 2 (.bool t)).setP 3 (.bool ch)).setP 4 (.bool dc)).setP 5 (.bool m)).setP 6 (.bool s)).setP 7 (.bool ds)).setP 8 (.string ⟨cu.toArray⟩)).setP 9 (.slice oa n cap)
  refine (hm _).mono ?_
  rintro e w3 ⟨rfl, hb3⟩
  have h3 : TwoF w w3 [.string ⟨v.toArray⟩, .bool d, .bool t, .bool ch, .bool dc, .bool m, .bool s, .bool ds, .string ⟨cu.toArray⟩, .slice oa n cap] [.string ⟨#[]⟩, .bool false, .bool false, .bool false, .bool false, .bool false, .bool false, .bool false, .string ⟨#[]⟩, .slice none 0 0] (.slice oa n cap) fs := h2.below hb3
  clear c0 c1 c2 c3 c4 c5 c6 c7 c8 c9 f0 f1 f2 f3 f4 f5 f6 f7 f8 f9 d0 d1 d2 d3 d4 d5 d6 d7 d8 d9 g0 g1 g2 g3 g4 g5 g6 g7 g8 g9
  obtain ⟨c0, c1, c2, c3, c4, c5, c6, c7, c8, c9, f0, f1, f2, f3, f4, f5, f6, f7, f8, f9, d0, d1, d2, d3, d4, d5, d6, d7, d8, d9, g0, g1, g2, g3, g4, g5, g6, g7, g8, g9⟩ := h3.two.facts
  go_wp2_with fail
  refine (ha _ (hA.below h3.low)).mono ?_
  rintro e w4 ⟨rfl, hb4⟩
  have h4 : TwoF w w4 [.string ⟨v.toArray⟩, .bool d, .bool t, .bool ch, .bool dc, .bool m, .bool s, .bool ds, .string ⟨cu.toArray⟩, .slice oa n cap] [.string ⟨#[]⟩, .bool false, .bool false, .bool false, .bool false, .bool false, .bool false, .bool false, .string ⟨#[]⟩, .slice none 0 0] (.slice oa n cap) fs := h3.below hb4
  clear c0 c1 c2 c3 c4 c5 c6 c7 c8 c9 f0 f1 f2 f3 f4 f5 f6 f7 f8 f9 d0 d1 d2 d3 d4 d5 d6 d7 d8 d9 g0 g1 g2 g3 g4 g5 g6 g7 g8 g9
  obtain ⟨c0, c1, c2, c3, c4, c5, c6, c7, c8, c9, f0, f1, f2, f3, f4, f5, f6, f7, f8, f9, d0, d1, d2, d3, d4, d5, d6, d7, d8, d9, g0, g1, g2, g3, g4, g5, g6, g7, g8, g9⟩ := h4.two.facts
  go_wp2_with fail
  have h5 : TwoF w _ [.string ⟨y0.toArray⟩, .bool false, .bool t, .bool ch, .bool dc, .bool m, .bool s, .bool ds, .string ⟨cu.toArray⟩, .slice oa n cap] [.string ⟨#[]⟩, .bool false, .bool false, .bool false, .bool false, .bool false, .bool false, .bool false, .string ⟨#[]⟩, .slice none 0 0] (.slice oa n cap) fs := ((h4).setP 0 (.string ⟨y0.toArray⟩)).setP 1 (.bool false)
  refine (hc _ (hA.below h5.low) (hG.below h5.low) (hE.below h5.low)).mono ?_
  rintro e w6 ⟨rfl, hb6⟩
  have h6 : TwoF w w6 [.string ⟨y0.toArray⟩, .bool false, .bool t, .bool ch, .bool dc, .bool m, .bool s, .bool ds, .string ⟨cu.toArray⟩, .slice oa n cap] [.string ⟨#[]⟩, .bool false, .bool false, .bool false, .bool false, .bool false, .bool false, .bool false, .string ⟨#[]⟩, .slice none 0 0] (.slice oa n cap) fs := h5.below hb6
  clear c0 c1 c2 c3 c4 c5 c6 c7 c8 c9 f0 f1 f2 f3 f4 f5 f6 f7 f8 f9 d0 d1 d2 d3 d4 d5 d6 d7 d8 d9 g0 g1 g2 g3 g4 g5 g6 g7 g8 g9
  obtain ⟨c0, c1, c2, c3, c4, c5, c6, c7, c8, c9, f0, f1, f2, f3, f4, f5, f6, f7, f8, f9, d0, d1, d2, d3, d4, d5, d6, d7, d8, d9, g0, g1, g2, g3, g4, g5, g6, g7, g8, g9⟩ := h6.two.facts
  go_wp2_with fail
  have h7 : TwoF w _ [.string ⟨y.toArray⟩, .bool false, .bool t, .bool ch, .bool dc, .bool m, .bool s, .bool ds, .string ⟨cu.toArray⟩, .slice oa n cap] [.string ⟨y.toArray⟩, .bool false, .bool t, .bool ch, .bool dc, .bool m, .bool s, .bool ds, .string ⟨cu.toArray⟩, .slice oa n cap] (.slice oa n cap) fs := (((((((((((h6).setP 0 (.string ⟨y.toArray⟩)).setR 0 (.string ⟨y.toArray⟩)).setR 1 (.bool false)).setR 2 (.bool t)).setR 3 (.bool ch)).setR 4 (.bool dc)).setR 5 (.bool m)).setR 6 (.bool s)).setR 7 (.bool ds)).setR 8 (.string ⟨cu.toArray⟩)).setR 9 (.slice oa n cap)
  (try simp only [Exit.inBlock, Exit.then])
  refine bodyPost_ret (v := .tuple #[ctlV y false t ch dc m s ds cu (.slice oa n cap), .string ⟨#[]⟩, .bool false]) (by rw [rcell3 rfl]; (try unfold ctlV); go_simp) rfl ⟨_, rfl, h7.ents, h7.low⟩
theorem fval_len9 (nm : List UInt8) (l : List Attr) (hl : ∀ a ∈ l, a.2.length ≤ 900000) : (attrS nm l).length ≤ 900000 := by
  unfold attrS
  cases h : fval nm l with
  | none => simp
  | some s =>
    obtain ⟨a, ha, rfl⟩ := fval_mem nm l s h
    exact hl a ha
def RetFix (kind : Int) (l : List Attr) (_fs : List Ent) (w : World) (e : Ending) (w' : World) : Prop := ∃ c : Ctl, cleanV kind l c.value = c.value ∧ c.value.length ≤ 1000000 ∧ RetCS c [] false w e w'
theorem retype_any (old kind : Int) (h : 2 ≤ kind ∧ kind ≤ 15) (c : Ctl) (f : Value) (hbig : c.files.length * 72 ≤ 140737488355328) (va : Value) (l : List Attr) (hl : Fine l) (hl9 : ∀ a ∈ l, a.2.length ≤ 900000) (hv : c.value.length ≤ 900000) (w : World) (hA : AttrsAt w va l) (hF : EntsAt w f c.files) (hG : G w) (hE : GE w) :
    Calls Tryz.prog 30 #[.int .i64 old, .int .i64 kind, cV c f, va] w (RetFix kind l c.files w) := by
  obtain ⟨v, d, t, ch, dc, m, s, ds, cu, fs⟩ := c
  by_cases hm : modeP old = 1
  · exact (retype_own old kind h hm v d t ch dc m s ds cu f fs hbig va l hl (Nat.le_trans hv (by decide)) w hA hF hG hE).mono fun e w' hr => ⟨(⟨cleanV kind l v, d, t, ch, dc, m, s, ds, cu, fs⟩ : Ctl), cleanV_again kind l v, cleanV_len kind l v hv, hr⟩
  · exact (retype_new old kind h hm v d t ch dc m s ds cu f fs hbig va l hl (Nat.le_trans hv (by decide)) w hA hF hG hE).mono fun e w' hr => ⟨(⟨cleanV kind l (attrS nValue l), false, t, ch, dc, m, s, ds, cu, fs⟩ : Ctl), cleanV_again kind l (attrS nValue l), cleanV_len kind l _ (fval_len9 nValue l hl9), hr⟩

end Go.Proofs.YtbhdoocajfkfiaaGreatDoor.ctl
