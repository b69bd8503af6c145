/- The contracts of Changed: the program's, the reference's. -/
import Derived.Test.YtbhdoocajfkfiaaGreatDoorMp
namespace Go.Proofs.YtbhdoocajfkfiaaGreatDoor.ctl
open Go.ChangeShapes Go.WideShapes Go.ChangeAt Go.RowKit Go.Lib Go.Proofs.YtbhdoocajfkfiaaGreatDoor.num Go.Proofs.YtbhdoocajfkfiaaGreatDoor.mom Go.Proofs.YtbhdoocajfkfiaaGreatDoor.fits Go.Proofs.YtbhdoocajfkfiaaGreatDoor.atr Go.Proofs.YtbhdoocajfkfiaaGreatDoor.link Go.Proofs.YtbhdoocajfkfiaaGreatDoor.stp Go.Proofs.YtbhdoocajfkfiaaGreatDoor.cln

set_option maxHeartbeats 3200000 in
set_option maxRecDepth 100000 in
theorem rchg_attr (kind : Int) (h : 2 ≤ kind ∧ kind ≤ 15) (hk : i64 kind) (v : List UInt8) (t ch dc m s ds : Bool) (cu : List UInt8) (f : Value) (fs : List Ent) (_hbig : fs.length * 72 ≤ 140737488355328) (va : Value) (l : List Attr) (hl : Fine l) (x : List UInt8) (_bV : (x == [118, 97, 108, 117, 101]) = true) (w : World) (hA : AttrsAt w va l) (hF : EntsAt w f fs) (_hG : G w) (_hE : GE w) (_hv : v.length ≤ 1000000) :
    Calls Tryz.prog 29 #[.int .i64 kind, ctlV v false t ch dc m s ds cu f, va, .string ⟨x.toArray⟩] w (RetC ⟨cleanV kind l (attrS x l), false, t, ch, dc, m, s, ds, cu, fs⟩ w) := by
  have ha := fun w h => rattr14_any va l x hl.1 w h
  have hlen := fval_len x l hl
  have hm := fun w => rmode_anyB kind w
  rw [mode_1 kind (Or.inl h)] at hm
  have t24 : (kind == 24) = false := by simp; omega
  have u24 : (kind != 24) = true := by simp; omega
  have h23 : kind < 23 ∨ 23 ≤ kind := by omega
  have t28 : (kind == 28) = false := by simp; omega
  have u28 : (kind != 28) = true := by simp; omega
  have t32 : (kind == 32) = false := by simp; omega
  have u32 : (kind != 32) = true := by simp; omega
  have hc := fun w h => rval_any kind hk va l hl (attrS x l) hlen w h
  generalize cleanV kind l (attrS x l) = y at *
  generalize attrS x l = y0 at *
  generalize attrB x l = b0 at *
  clear hl hlen _hbig _hv hk
  obtain ⟨fa, fc, rfl⟩ := RowAt.lenN hF
  unfold ctlV
  go_enter Tryz.func29, Tryz.ntmps29
  go_wp2_with fail
  have h0 := Two.start w [.string ⟨v.toArray⟩, .bool false, .bool t, .bool ch, .bool dc, .bool m, .bool s, .bool ds, .string ⟨cu.toArray⟩, .slice fa fs.length fc] [.string ⟨#[]⟩, .bool false, .bool false, .bool false, .bool false, .bool false, .bool false, .bool false, .string ⟨#[]⟩, .slice none 0 0] 24 24
  refine (ha _ (hA.below h0.low)).mono ?_
  rintro e w' ⟨rfl, rfl⟩
  go_wp2_with fail
  refine (hm _).mono ?_
  rintro e w1 ⟨rfl, hb1⟩
  have h1 : Two w w1 [.string ⟨v.toArray⟩, .bool false, .bool t, .bool ch, .bool dc, .bool m, .bool s, .bool ds, .string ⟨cu.toArray⟩, .slice fa fs.length fc] [.string ⟨#[]⟩, .bool false, .bool false, .bool false, .bool false, .bool false, .bool false, .bool false, .string ⟨#[]⟩, .slice none 0 0] := h0.below hb1
  obtain ⟨c0, c1, c2, c3, c4, c5, c6, c7, c8, c9, f0, f1, f2, f3, f4, f5, f6, f7, f8, f9, d0, d1, d2, d3, d4, d5, d6, d7, d8, d9, g0, g1, g2, g3, g4, g5, g6, g7, g8, g9⟩ := h1.facts
  go_wp2_with fail
  refine (hc _ (hA.below h1.low)).mono ?_
  rintro e w2 ⟨rfl, hb2⟩
  have h2 : Two w w2 [.string ⟨v.toArray⟩, .bool false, .bool t, .bool ch, .bool dc, .bool m, .bool s, .bool ds, .string ⟨cu.toArray⟩, .slice fa fs.length fc] [.string ⟨#[]⟩, .bool false, .bool false, .bool false, .bool false, .bool false, .bool false, .bool false, .string ⟨#[]⟩, .slice none 0 0] := h1.below hb2
  clear c0 c1 c2 c3 c4 c5 c6 c7 c8 c9 f0 f1 f2 f3 f4 f5 f6 f7 f8 f9 d0 d1 d2 d3 d4 d5 d6 d7 d8 d9 g0 g1 g2 g3 g4 g5 g6 g7 g8 g9
  obtain ⟨c0, c1, c2, c3, c4, c5, c6, c7, c8, c9, f0, f1, f2, f3, f4, f5, f6, f7, f8, f9, d0, d1, d2, d3, d4, d5, d6, d7, d8, d9, g0, g1, g2, g3, g4, g5, g6, g7, g8, g9⟩ := h2.facts
  go_wp2_with fail
  have h3 : Two w _ [.string ⟨y.toArray⟩, .bool false, .bool t, .bool ch, .bool dc, .bool m, .bool s, .bool ds, .string ⟨cu.toArray⟩, .slice fa fs.length fc] [.string ⟨y.toArray⟩, .bool false, .bool t, .bool ch, .bool dc, .bool m, .bool s, .bool ds, .string ⟨cu.toArray⟩, .slice fa fs.length fc] := (((((((((((h2).setP 0 (.string ⟨y.toArray⟩)).setR 0 (.string ⟨y.toArray⟩)).setR 1 (.bool false)).setR 2 (.bool t)).setR 3 (.bool ch)).setR 4 (.bool dc)).setR 5 (.bool m)).setR 6 (.bool s)).setR 7 (.bool ds)).setR 8 (.string ⟨cu.toArray⟩)).setR 9 (.slice fa fs.length fc)
  (try simp only [Exit.inBlock, Exit.then])
  refine bodyPost_ret (v := ctlV y false t ch dc m s ds cu (.slice fa fs.length fc)) (by rw [rcell1 rfl]; (try unfold ctlV); go_simp) rfl ⟨_, rfl, EntsAt.below hF h3.low, h3.low⟩
set_option maxHeartbeats 3200000 in
set_option maxRecDepth 100000 in
theorem rchg_v (kind : Int) (h : 2 ≤ kind ∧ kind ≤ 15) (hk : i64 kind) (v : List UInt8) (t ch dc m s ds : Bool) (cu : List UInt8) (f : Value) (fs : List Ent) (_hbig : fs.length * 72 ≤ 140737488355328) (va : Value) (l : List Attr) (hl : Fine l) (x : List UInt8) (_bV : (x == [118, 97, 108, 117, 101]) = true) (w : World) (hA : AttrsAt w va l) (hF : EntsAt w f fs) (_hG : G w) (_hE : GE w) (hv : v.length ≤ 1000000) :
    Calls Tryz.prog 29 #[.int .i64 kind, ctlV v true t ch dc m s ds cu f, va, .string ⟨x.toArray⟩] w (RetC ⟨cleanV kind l v, true, t, ch, dc, m, s, ds, cu, fs⟩ w) := by
  have ha := fun w h => rattr14_any va l x hl.1 w h
  have hlen := fval_len x l hl
  have hm := fun w => rmode_anyB kind w
  rw [mode_1 kind (Or.inl h)] at hm
  have t24 : (kind == 24) = false := by simp; omega
  have u24 : (kind != 24) = true := by simp; omega
  have h23 : kind < 23 ∨ 23 ≤ kind := by omega
  have t28 : (kind == 28) = false := by simp; omega
  have u28 : (kind != 28) = true := by simp; omega
  have t32 : (kind == 32) = false := by simp; omega
  have u32 : (kind != 32) = true := by simp; omega
  have hc := fun w h => rval_any kind hk va l hl v hv w h
  generalize cleanV kind l v = y at *
  generalize attrS x l = y0 at *
  generalize attrB x l = b0 at *
  clear hl hlen _hbig hv hk
  obtain ⟨fa, fc, rfl⟩ := RowAt.lenN hF
  unfold ctlV
  go_enter Tryz.func29, Tryz.ntmps29
  go_wp2_with fail
  have h0 := Two.start w [.string ⟨v.toArray⟩, .bool true, .bool t, .bool ch, .bool dc, .bool m, .bool s, .bool ds, .string ⟨cu.toArray⟩, .slice fa fs.length fc] [.string ⟨#[]⟩, .bool false, .bool false, .bool false, .bool false, .bool false, .bool false, .bool false, .string ⟨#[]⟩, .slice none 0 0] 24 24
  refine (ha _ (hA.below h0.low)).mono ?_
  rintro e w' ⟨rfl, rfl⟩
  go_wp2_with fail
  refine (hm _).mono ?_
  rintro e w1 ⟨rfl, hb1⟩
  have h1 : Two w w1 [.string ⟨v.toArray⟩, .bool true, .bool t, .bool ch, .bool dc, .bool m, .bool s, .bool ds, .string ⟨cu.toArray⟩, .slice fa fs.length fc] [.string ⟨#[]⟩, .bool false, .bool false, .bool false, .bool false, .bool false, .bool false, .bool false, .string ⟨#[]⟩, .slice none 0 0] := h0.below hb1
  obtain ⟨c0, c1, c2, c3, c4, c5, c6, c7, c8, c9, f0, f1, f2, f3, f4, f5, f6, f7, f8, f9, d0, d1, d2, d3, d4, d5, d6, d7, d8, d9, g0, g1, g2, g3, g4, g5, g6, g7, g8, g9⟩ := h1.facts
  go_wp2_with fail
  refine (hc _ (hA.below h1.low)).mono ?_
  rintro e w2 ⟨rfl, hb2⟩
  have h2 : Two w w2 [.string ⟨v.toArray⟩, .bool true, .bool t, .bool ch, .bool dc, .bool m, .bool s, .bool ds, .string ⟨cu.toArray⟩, .slice fa fs.length fc] [.string ⟨#[]⟩, .bool false, .bool false, .bool false, .bool false, .bool false, .bool false, .bool false, .string ⟨#[]⟩, .slice none 0 0] := h1.below hb2
  clear c0 c1 c2 c3 c4 c5 c6 c7 c8 c9 f0 f1 f2 f3 f4 f5 f6 f7 f8 f9 d0 d1 d2 d3 d4 d5 d6 d7 d8 d9 g0 g1 g2 g3 g4 g5 g6 g7 g8 g9
  obtain ⟨c0, c1, c2, c3, c4, c5, c6, c7, c8, c9, f0, f1, f2, f3, f4, f5, f6, f7, f8, f9, d0, d1, d2, d3, d4, d5, d6, d7, d8, d9, g0, g1, g2, g3, g4, g5, g6, g7, g8, g9⟩ := h2.facts
  go_wp2_with fail
  have h3 : Two w _ [.string ⟨y.toArray⟩, .bool true, .bool t, .bool ch, .bool dc, .bool m, .bool s, .bool ds, .string ⟨cu.toArray⟩, .slice fa fs.length fc] [.string ⟨y.toArray⟩, .bool true, .bool t, .bool ch, .bool dc, .bool m, .bool s, .bool ds, .string ⟨cu.toArray⟩, .slice fa fs.length fc] := (((((((((((h2).setP 0 (.string ⟨y.toArray⟩)).setR 0 (.string ⟨y.toArray⟩)).setR 1 (.bool true)).setR 2 (.bool t)).setR 3 (.bool ch)).setR 4 (.bool dc)).setR 5 (.bool m)).setR 6 (.bool s)).setR 7 (.bool ds)).setR 8 (.string ⟨cu.toArray⟩)).setR 9 (.slice fa fs.length fc)
  (try simp only [Exit.inBlock, Exit.then])
  refine bodyPost_ret (v := ctlV y true t ch dc m s ds cu (.slice fa fs.length fc)) (by rw [rcell1 rfl]; (try unfold ctlV); go_simp) rfl ⟨_, rfl, EntsAt.below hF h3.low, h3.low⟩
set_option maxHeartbeats 3200000 in
set_option maxRecDepth 100000 in
theorem rchg_mu (kind : Int) (h : 2 ≤ kind ∧ kind ≤ 15) (hk : i64 kind) (v : List UInt8) (d t ch dc m s ds : Bool) (cu : List UInt8) (f : Value) (fs : List Ent) (_hbig : fs.length * 72 ≤ 140737488355328) (va : Value) (l : List Attr) (hl : Fine l) (x : List UInt8) (_bV : (x == [118, 97, 108, 117, 101]) = false) (_bMu : (x == [109, 117, 108, 116, 105, 112, 108, 101]) = true) (w : World) (hA : AttrsAt w va l) (hF : EntsAt w f fs) (_hG : G w) (_hE : GE w) (hv : v.length ≤ 1000000) :
    Calls Tryz.prog 29 #[.int .i64 kind, ctlV v d t ch dc m s ds cu f, va, .string ⟨x.toArray⟩] w (RetC ⟨cleanV kind l v, d, t, ch, dc, m, s, ds, cu, fs⟩ w) := by
  have ha := fun w h => rattr14_any va l x hl.1 w h
  have hlen := fval_len x l hl
  have hm := fun w => rmode_anyB kind w
  rw [mode_1 kind (Or.inl h)] at hm
  have t24 : (kind == 24) = false := by simp; omega
  have u24 : (kind != 24) = true := by simp; omega
  have h23 : kind < 23 ∨ 23 ≤ kind := by omega
  have t28 : (kind == 28) = false := by simp; omega
  have u28 : (kind != 28) = true := by simp; omega
  have t32 : (kind == 32) = false := by simp; omega
  have u32 : (kind != 32) = true := by simp; omega
  have hc := fun w h => rval_any kind hk va l hl v hv w h
  generalize cleanV kind l v = y at *
  generalize attrS x l = y0 at *
  generalize attrB x l = b0 at *
  clear hl hlen _hbig hv hk
  obtain ⟨fa, fc, rfl⟩ := RowAt.lenN hF
  unfold ctlV
  go_enter Tryz.func29, Tryz.ntmps29
  go_wp2_with fail
  have h0 := Two.start w [.string ⟨v.toArray⟩, .bool d, .bool t, .bool ch, .bool dc, .bool m, .bool s, .bool ds, .string ⟨cu.toArray⟩, .slice fa fs.length fc] [.string ⟨#[]⟩, .bool false, .bool false, .bool false, .bool false, .bool false, .bool false, .bool false, .string ⟨#[]⟩, .slice none 0 0] 24 24
  refine (ha _ (hA.below h0.low)).mono ?_
  rintro e w' ⟨rfl, rfl⟩
  go_wp2_with fail
  refine (hm _).mono ?_
  rintro e w1 ⟨rfl, hb1⟩
  have h1 : Two w w1 [.string ⟨v.toArray⟩, .bool d, .bool t, .bool ch, .bool dc, .bool m, .bool s, .bool ds, .string ⟨cu.toArray⟩, .slice fa fs.length fc] [.string ⟨#[]⟩, .bool false, .bool false, .bool false, .bool false, .bool false, .bool false, .bool false, .string ⟨#[]⟩, .slice none 0 0] := h0.below hb1
  obtain ⟨c0, c1, c2, c3, c4, c5, c6, c7, c8, c9, f0, f1, f2, f3, f4, f5, f6, f7, f8, f9, d0, d1, d2, d3, d4, d5, d6, d7, d8, d9, g0, g1, g2, g3, g4, g5, g6, g7, g8, g9⟩ := h1.facts
  go_wp2_with fail
  refine (hc _ (hA.below h1.low)).mono ?_
  rintro e w2 ⟨rfl, hb2⟩
  have h2 : Two w w2 [.string ⟨v.toArray⟩, .bool d, .bool t, .bool ch, .bool dc, .bool m, .bool s, .bool ds, .string ⟨cu.toArray⟩, .slice fa fs.length fc] [.string ⟨#[]⟩, .bool false, .bool false, .bool false, .bool false, .bool false, .bool false, .bool false, .string ⟨#[]⟩, .slice none 0 0] := h1.below hb2
  clear c0 c1 c2 c3 c4 c5 c6 c7 c8 c9 f0 f1 f2 f3 f4 f5 f6 f7 f8 f9 d0 d1 d2 d3 d4 d5 d6 d7 d8 d9 g0 g1 g2 g3 g4 g5 g6 g7 g8 g9
  obtain ⟨c0, c1, c2, c3, c4, c5, c6, c7, c8, c9, f0, f1, f2, f3, f4, f5, f6, f7, f8, f9, d0, d1, d2, d3, d4, d5, d6, d7, d8, d9, g0, g1, g2, g3, g4, g5, g6, g7, g8, g9⟩ := h2.facts
  go_wp2_with fail
  have h3 : Two w _ [.string ⟨y.toArray⟩, .bool d, .bool t, .bool ch, .bool dc, .bool m, .bool s, .bool ds, .string ⟨cu.toArray⟩, .slice fa fs.length fc] [.string ⟨y.toArray⟩, .bool d, .bool t, .bool ch, .bool dc, .bool m, .bool s, .bool ds, .string ⟨cu.toArray⟩, .slice fa fs.length fc] := (((((((((((h2).setP 0 (.string ⟨y.toArray⟩)).setR 0 (.string ⟨y.toArray⟩)).setR 1 (.bool d)).setR 2 (.bool t)).setR 3 (.bool ch)).setR 4 (.bool dc)).setR 5 (.bool m)).setR 6 (.bool s)).setR 7 (.bool ds)).setR 8 (.string ⟨cu.toArray⟩)).setR 9 (.slice fa fs.length fc)
  (try simp only [Exit.inBlock, Exit.then])
  refine bodyPost_ret (v := ctlV y d t ch dc m s ds cu (.slice fa fs.length fc)) (by rw [rcell1 rfl]; (try unfold ctlV); go_simp) rfl ⟨_, rfl, EntsAt.below hF h3.low, h3.low⟩
set_option maxHeartbeats 3200000 in
set_option maxRecDepth 100000 in
theorem rchg_mi (kind : Int) (h : 2 ≤ kind ∧ kind ≤ 15) (hk : i64 kind) (v : List UInt8) (d t ch dc m s ds : Bool) (cu : List UInt8) (f : Value) (fs : List Ent) (_hbig : fs.length * 72 ≤ 140737488355328) (va : Value) (l : List Attr) (hl : Fine l) (x : List UInt8) (_bV : (x == [118, 97, 108, 117, 101]) = false) (_bMu : (x == [109, 117, 108, 116, 105, 112, 108, 101]) = false) (_bMi : (x == [109, 105, 110]) = true) (w : World) (hA : AttrsAt w va l) (hF : EntsAt w f fs) (_hG : G w) (_hE : GE w) (hv : v.length ≤ 1000000) :
    Calls Tryz.prog 29 #[.int .i64 kind, ctlV v d t ch dc m s ds cu f, va, .string ⟨x.toArray⟩] w (RetC ⟨cleanV kind l v, d, t, ch, dc, m, s, ds, cu, fs⟩ w) := by
  have ha := fun w h => rattr14_any va l x hl.1 w h
  have hlen := fval_len x l hl
  have hm := fun w => rmode_anyB kind w
  rw [mode_1 kind (Or.inl h)] at hm
  have t24 : (kind == 24) = false := by simp; omega
  have u24 : (kind != 24) = true := by simp; omega
  have h23 : kind < 23 ∨ 23 ≤ kind := by omega
  have t28 : (kind == 28) = false := by simp; omega
  have u28 : (kind != 28) = true := by simp; omega
  have t32 : (kind == 32) = false := by simp; omega
  have u32 : (kind != 32) = true := by simp; omega
  have hc := fun w h => rval_any kind hk va l hl v hv w h
  generalize cleanV kind l v = y at *
  generalize attrS x l = y0 at *
  generalize attrB x l = b0 at *
  clear hl hlen _hbig hv hk
  obtain ⟨fa, fc, rfl⟩ := RowAt.lenN hF
  unfold ctlV
  go_enter Tryz.func29, Tryz.ntmps29
  go_wp2_with fail
  have h0 := Two.start w [.string ⟨v.toArray⟩, .bool d, .bool t, .bool ch, .bool dc, .bool m, .bool s, .bool ds, .string ⟨cu.toArray⟩, .slice fa fs.length fc] [.string ⟨#[]⟩, .bool false, .bool false, .bool false, .bool false, .bool false, .bool false, .bool false, .string ⟨#[]⟩, .slice none 0 0] 24 24
  refine (ha _ (hA.below h0.low)).mono ?_
  rintro e w' ⟨rfl, rfl⟩
  go_wp2_with fail
  refine (hm _).mono ?_
  rintro e w1 ⟨rfl, hb1⟩
  have h1 : Two w w1 [.string ⟨v.toArray⟩, .bool d, .bool t, .bool ch, .bool dc, .bool m, .bool s, .bool ds, .string ⟨cu.toArray⟩, .slice fa fs.length fc] [.string ⟨#[]⟩, .bool false, .bool false, .bool false, .bool false, .bool false, .bool false, .bool false, .string ⟨#[]⟩, .slice none 0 0] := h0.below hb1
  obtain ⟨c0, c1, c2, c3, c4, c5, c6, c7, c8, c9, f0, f1, f2, f3, f4, f5, f6, f7, f8, f9, d0, d1, d2, d3, d4, d5, d6, d7, d8, d9, g0, g1, g2, g3, g4, g5, g6, g7, g8, g9⟩ := h1.facts
  go_wp2_with fail
  refine (hc _ (hA.below h1.low)).mono ?_
  rintro e w2 ⟨rfl, hb2⟩
  have h2 : Two w w2 [.string ⟨v.toArray⟩, .bool d, .bool t, .bool ch, .bool dc, .bool m, .bool s, .bool ds, .string ⟨cu.toArray⟩, .slice fa fs.length fc] [.string ⟨#[]⟩, .bool false, .bool false, .bool false, .bool false, .bool false, .bool false, .bool false, .string ⟨#[]⟩, .slice none 0 0] := h1.below hb2
  clear c0 c1 c2 c3 c4 c5 c6 c7 c8 c9 f0 f1 f2 f3 f4 f5 f6 f7 f8 f9 d0 d1 d2 d3 d4 d5 d6 d7 d8 d9 g0 g1 g2 g3 g4 g5 g6 g7 g8 g9
  obtain ⟨c0, c1, c2, c3, c4, c5, c6, c7, c8, c9, f0, f1, f2, f3, f4, f5, f6, f7, f8, f9, d0, d1, d2, d3, d4, d5, d6, d7, d8, d9, g0, g1, g2, g3, g4, g5, g6, g7, g8, g9⟩ := h2.facts
  go_wp2_with fail
  have h3 : Two w _ [.string ⟨y.toArray⟩, .bool d, .bool t, .bool ch, .bool dc, .bool m, .bool s, .bool ds, .string ⟨cu.toArray⟩, .slice fa fs.length fc] [.string ⟨y.toArray⟩, .bool d, .bool t, .bool ch, .bool dc, .bool m, .bool s, .bool ds, .string ⟨cu.toArray⟩, .slice fa fs.length fc] := (((((((((((h2).setP 0 (.string ⟨y.toArray⟩)).setR 0 (.string ⟨y.toArray⟩)).setR 1 (.bool d)).setR 2 (.bool t)).setR 3 (.bool ch)).setR 4 (.bool dc)).setR 5 (.bool m)).setR 6 (.bool s)).setR 7 (.bool ds)).setR 8 (.string ⟨cu.toArray⟩)).setR 9 (.slice fa fs.length fc)
  (try simp only [Exit.inBlock, Exit.then])
  refine bodyPost_ret (v := ctlV y d t ch dc m s ds cu (.slice fa fs.length fc)) (by rw [rcell1 rfl]; (try unfold ctlV); go_simp) rfl ⟨_, rfl, EntsAt.below hF h3.low, h3.low⟩
set_option maxHeartbeats 3200000 in
set_option maxRecDepth 100000 in
theorem rchg_ma (kind : Int) (h : 2 ≤ kind ∧ kind ≤ 15) (hk : i64 kind) (v : List UInt8) (d t ch dc m s ds : Bool) (cu : List UInt8) (f : Value) (fs : List Ent) (_hbig : fs.length * 72 ≤ 140737488355328) (va : Value) (l : List Attr) (hl : Fine l) (x : List UInt8) (_bV : (x == [118, 97, 108, 117, 101]) = false) (_bMu : (x == [109, 117, 108, 116, 105, 112, 108, 101]) = false) (_bMi : (x == [109, 105, 110]) = false) (_bMa : (x == [109, 97, 120]) = true) (w : World) (hA : AttrsAt w va l) (hF : EntsAt w f fs) (_hG : G w) (_hE : GE w) (hv : v.length ≤ 1000000) :
    Calls Tryz.prog 29 #[.int .i64 kind, ctlV v d t ch dc m s ds cu f, va, .string ⟨x.toArray⟩] w (RetC ⟨cleanV kind l v, d, t, ch, dc, m, s, ds, cu, fs⟩ w) := by
  have ha := fun w h => rattr14_any va l x hl.1 w h
  have hlen := fval_len x l hl
  have hm := fun w => rmode_anyB kind w
  rw [mode_1 kind (Or.inl h)] at hm
  have t24 : (kind == 24) = false := by simp; omega
  have u24 : (kind != 24) = true := by simp; omega
  have h23 : kind < 23 ∨ 23 ≤ kind := by omega
  have t28 : (kind == 28) = false := by simp; omega
  have u28 : (kind != 28) = true := by simp; omega
  have t32 : (kind == 32) = false := by simp; omega
  have u32 : (kind != 32) = true := by simp; omega
  have hc := fun w h => rval_any kind hk va l hl v hv w h
  generalize cleanV kind l v = y at *
  generalize attrS x l = y0 at *
  generalize attrB x l = b0 at *
  clear hl hlen _hbig hv hk
  obtain ⟨fa, fc, rfl⟩ := RowAt.lenN hF
  unfold ctlV
  go_enter Tryz.func29, Tryz.ntmps29
  go_wp2_with fail
  have h0 := Two.start w [.string ⟨v.toArray⟩, .bool d, .bool t, .bool ch, .bool dc, .bool m, .bool s, .bool ds, .string ⟨cu.toArray⟩, .slice fa fs.length fc] [.string ⟨#[]⟩, .bool false, .bool false, .bool false, .bool false, .bool false, .bool false, .bool false, .string ⟨#[]⟩, .slice none 0 0] 24 24
  refine (ha _ (hA.below h0.low)).mono ?_
  rintro e w' ⟨rfl, rfl⟩
  go_wp2_with fail
  refine (hm _).mono ?_
  rintro e w1 ⟨rfl, hb1⟩
  have h1 : Two w w1 [.string ⟨v.toArray⟩, .bool d, .bool t, .bool ch, .bool dc, .bool m, .bool s, .bool ds, .string ⟨cu.toArray⟩, .slice fa fs.length fc] [.string ⟨#[]⟩, .bool false, .bool false, .bool false, .bool false, .bool false, .bool false, .bool false, .string ⟨#[]⟩, .slice none 0 0] := h0.below hb1
  obtain ⟨c0, c1, c2, c3, c4, c5, c6, c7, c8, c9, f0, f1, f2, f3, f4, f5, f6, f7, f8, f9, d0, d1, d2, d3, d4, d5, d6, d7, d8, d9, g0, g1, g2, g3, g4, g5, g6, g7, g8, g9⟩ := h1.facts
  go_wp2_with fail
  refine (hc _ (hA.below h1.low)).mono ?_
  rintro e w2 ⟨rfl, hb2⟩
  have h2 : Two w w2 [.string ⟨v.toArray⟩, .bool d, .bool t, .bool ch, .bool dc, .bool m, .bool s, .bool ds, .string ⟨cu.toArray⟩, .slice fa fs.length fc] [.string ⟨#[]⟩, .bool false, .bool false, .bool false, .bool false, .bool false, .bool false, .bool false, .string ⟨#[]⟩, .slice none 0 0] := h1.below hb2
  clear c0 c1 c2 c3 c4 c5 c6 c7 c8 c9 f0 f1 f2 f3 f4 f5 f6 f7 f8 f9 d0 d1 d2 d3 d4 d5 d6 d7 d8 d9 g0 g1 g2 g3 g4 g5 g6 g7 g8 g9
  obtain ⟨c0, c1, c2, c3, c4, c5, c6, c7, c8, c9, f0, f1, f2, f3, f4, f5, f6, f7, f8, f9, d0, d1, d2, d3, d4, d5, d6, d7, d8, d9, g0, g1, g2, g3, g4, g5, g6, g7, g8, g9⟩ := h2.facts
  go_wp2_with fail
  have h3 : Two w _ [.string ⟨y.toArray⟩, .bool d, .bool t, .bool ch, .bool dc, .bool m, .bool s, .bool ds, .string ⟨cu.toArray⟩, .slice fa fs.length fc] [.string ⟨y.toArray⟩, .bool d, .bool t, .bool ch, .bool dc, .bool m, .bool s, .bool ds, .string ⟨cu.toArray⟩, .slice fa fs.length fc] := (((((((((((h2).setP 0 (.string ⟨y.toArray⟩)).setR 0 (.string ⟨y.toArray⟩)).setR 1 (.bool d)).setR 2 (.bool t)).setR 3 (.bool ch)).setR 4 (.bool dc)).setR 5 (.bool m)).setR 6 (.bool s)).setR 7 (.bool ds)).setR 8 (.string ⟨cu.toArray⟩)).setR 9 (.slice fa fs.length fc)
  (try simp only [Exit.inBlock, Exit.then])
  refine bodyPost_ret (v := ctlV y d t ch dc m s ds cu (.slice fa fs.length fc)) (by rw [rcell1 rfl]; (try unfold ctlV); go_simp) rfl ⟨_, rfl, EntsAt.below hF h3.low, h3.low⟩
set_option maxHeartbeats 3200000 in
set_option maxRecDepth 100000 in
theorem rchg_st (kind : Int) (h : 2 ≤ kind ∧ kind ≤ 15) (hk : i64 kind) (v : List UInt8) (d t ch dc m s ds : Bool) (cu : List UInt8) (f : Value) (fs : List Ent) (_hbig : fs.length * 72 ≤ 140737488355328) (va : Value) (l : List Attr) (hl : Fine l) (x : List UInt8) (_bV : (x == [118, 97, 108, 117, 101]) = false) (_bMu : (x == [109, 117, 108, 116, 105, 112, 108, 101]) = false) (_bMi : (x == [109, 105, 110]) = false) (_bMa : (x == [109, 97, 120]) = false) (_bSt : (x == [115, 116, 101, 112]) = true) (w : World) (hA : AttrsAt w va l) (hF : EntsAt w f fs) (_hG : G w) (_hE : GE w) (hv : v.length ≤ 1000000) :
    Calls Tryz.prog 29 #[.int .i64 kind, ctlV v d t ch dc m s ds cu f, va, .string ⟨x.toArray⟩] w (RetC ⟨cleanV kind l v, d, t, ch, dc, m, s, ds, cu, fs⟩ w) := by
  have ha := fun w h => rattr14_any va l x hl.1 w h
  have hlen := fval_len x l hl
  have hm := fun w => rmode_anyB kind w
  rw [mode_1 kind (Or.inl h)] at hm
  have t24 : (kind == 24) = false := by simp; omega
  have u24 : (kind != 24) = true := by simp; omega
  have h23 : kind < 23 ∨ 23 ≤ kind := by omega
  have t28 : (kind == 28) = false := by simp; omega
  have u28 : (kind != 28) = true := by simp; omega
  have t32 : (kind == 32) = false := by simp; omega
  have u32 : (kind != 32) = true := by simp; omega
  have hc := fun w h => rval_any kind hk va l hl v hv w h
  generalize cleanV kind l v = y at *
  generalize attrS x l = y0 at *
  generalize attrB x l = b0 at *
  clear hl hlen _hbig hv hk
  obtain ⟨fa, fc, rfl⟩ := RowAt.lenN hF
  unfold ctlV
  go_enter Tryz.func29, Tryz.ntmps29
  go_wp2_with fail
  have h0 := Two.start w [.string ⟨v.toArray⟩, .bool d, .bool t, .bool ch, .bool dc, .bool m, .bool s, .bool ds, .string ⟨cu.toArray⟩, .slice fa fs.length fc] [.string ⟨#[]⟩, .bool false, .bool false, .bool false, .bool false, .bool false, .bool false, .bool false, .string ⟨#[]⟩, .slice none 0 0] 24 24
  refine (ha _ (hA.below h0.low)).mono ?_
  rintro e w' ⟨rfl, rfl⟩
  go_wp2_with fail
  refine (hm _).mono ?_
  rintro e w1 ⟨rfl, hb1⟩
  have h1 : Two w w1 [.string ⟨v.toArray⟩, .bool d, .bool t, .bool ch, .bool dc, .bool m, .bool s, .bool ds, .string ⟨cu.toArray⟩, .slice fa fs.length fc] [.string ⟨#[]⟩, .bool false, .bool false, .bool false, .bool false, .bool false, .bool false, .bool false, .string ⟨#[]⟩, .slice none 0 0] := h0.below hb1
  obtain ⟨c0, c1, c2, c3, c4, c5, c6, c7, c8, c9, f0, f1, f2, f3, f4, f5, f6, f7, f8, f9, d0, d1, d2, d3, d4, d5, d6, d7, d8, d9, g0, g1, g2, g3, g4, g5, g6, g7, g8, g9⟩ := h1.facts
  go_wp2_with fail
  refine (hc _ (hA.below h1.low)).mono ?_
  rintro e w2 ⟨rfl, hb2⟩
  have h2 : Two w w2 [.string ⟨v.toArray⟩, .bool d, .bool t, .bool ch, .bool dc, .bool m, .bool s, .bool ds, .string ⟨cu.toArray⟩, .slice fa fs.length fc] [.string ⟨#[]⟩, .bool false, .bool false, .bool false, .bool false, .bool false, .bool false, .bool false, .string ⟨#[]⟩, .slice none 0 0] := h1.below hb2
  clear c0 c1 c2 c3 c4 c5 c6 c7 c8 c9 f0 f1 f2 f3 f4 f5 f6 f7 f8 f9 d0 d1 d2 d3 d4 d5 d6 d7 d8 d9 g0 g1 g2 g3 g4 g5 g6 g7 g8 g9
  obtain ⟨c0, c1, c2, c3, c4, c5, c6, c7, c8, c9, f0, f1, f2, f3, f4, f5, f6, f7, f8, f9, d0, d1, d2, d3, d4, d5, d6, d7, d8, d9, g0, g1, g2, g3, g4, g5, g6, g7, g8, g9⟩ := h2.facts
  go_wp2_with fail
  have h3 : Two w _ [.string ⟨y.toArray⟩, .bool d, .bool t, .bool ch, .bool dc, .bool m, .bool s, .bool ds, .string ⟨cu.toArray⟩, .slice fa fs.length fc] [.string ⟨y.toArray⟩, .bool d, .bool t, .bool ch, .bool dc, .bool m, .bool s, .bool ds, .string ⟨cu.toArray⟩, .slice fa fs.length fc] := (((((((((((h2).setP 0 (.string ⟨y.toArray⟩)).setR 0 (.string ⟨y.toArray⟩)).setR 1 (.bool d)).setR 2 (.bool t)).setR 3 (.bool ch)).setR 4 (.bool dc)).setR 5 (.bool m)).setR 6 (.bool s)).setR 7 (.bool ds)).setR 8 (.string ⟨cu.toArray⟩)).setR 9 (.slice fa fs.length fc)
  (try simp only [Exit.inBlock, Exit.then])
  refine bodyPost_ret (v := ctlV y d t ch dc m s ds cu (.slice fa fs.length fc)) (by rw [rcell1 rfl]; (try unfold ctlV); go_simp) rfl ⟨_, rfl, EntsAt.below hF h3.low, h3.low⟩
set_option maxHeartbeats 3200000 in
set_option maxRecDepth 100000 in
theorem rchg_non (kind : Int) (h : 2 ≤ kind ∧ kind ≤ 15) (v : List UInt8) (d t ch dc m s ds : Bool) (cu : List UInt8) (f : Value) (fs : List Ent) (_hbig : fs.length * 72 ≤ 140737488355328) (va : Value) (l : List Attr) (hl : Fine l) (x : List UInt8) (_bV : (x == [118, 97, 108, 117, 101]) = false) (_bMu : (x == [109, 117, 108, 116, 105, 112, 108, 101]) = false) (_bMi : (x == [109, 105, 110]) = false) (_bMa : (x == [109, 97, 120]) = false) (_bSt : (x == [115, 116, 101, 112]) = false) (w : World) (hA : AttrsAt w va l) (hF : EntsAt w f fs) (_hG : G w) (_hE : GE w) (_hv : v.length ≤ 1000000) :
    Calls Tryz.prog 29 #[.int .i64 kind, ctlV v d t ch dc m s ds cu f, va, .string ⟨x.toArray⟩] w (RetC ⟨v, d, t, ch, dc, m, s, ds, cu, fs⟩ w) := by
  have ha := fun w h => rattr14_any va l x hl.1 w h
  have hlen := fval_len x l hl
  have hm := fun w => rmode_anyB kind w
  rw [mode_1 kind (Or.inl h)] at hm
  have t24 : (kind == 24) = false := by simp; omega
  have u24 : (kind != 24) = true := by simp; omega
  have h23 : kind < 23 ∨ 23 ≤ kind := by omega
  have t28 : (kind == 28) = false := by simp; omega
  have u28 : (kind != 28) = true := by simp; omega
  have t32 : (kind == 32) = false := by simp; omega
  have u32 : (kind != 32) = true := by simp; omega
  generalize attrS x l = y0 at *
  generalize attrB x l = b0 at *
  clear hl hlen _hbig _hv
  obtain ⟨fa, fc, rfl⟩ := RowAt.lenN hF
  unfold ctlV
  go_enter Tryz.func29, Tryz.ntmps29
  go_wp2_with fail
  have h0 := Two.start w [.string ⟨v.toArray⟩, .bool d, .bool t, .bool ch, .bool dc, .bool m, .bool s, .bool ds, .string ⟨cu.toArray⟩, .slice fa fs.length fc] [.string ⟨#[]⟩, .bool false, .bool false, .bool false, .bool false, .bool false, .bool false, .bool false, .string ⟨#[]⟩, .slice none 0 0] 24 24
  refine (ha _ (hA.below h0.low)).mono ?_
  rintro e w' ⟨rfl, rfl⟩
  go_wp2_with fail
  refine (hm _).mono ?_
  rintro e w1 ⟨rfl, hb1⟩
  have h1 : Two w w1 [.string ⟨v.toArray⟩, .bool d, .bool t, .bool ch, .bool dc, .bool m, .bool s, .bool ds, .string ⟨cu.toArray⟩, .slice fa fs.length fc] [.string ⟨#[]⟩, .bool false, .bool false, .bool false, .bool false, .bool false, .bool false, .bool false, .string ⟨#[]⟩, .slice none 0 0] := h0.below hb1
  obtain ⟨c0, c1, c2, c3, c4, c5, c6, c7, c8, c9, f0, f1, f2, f3, f4, f5, f6, f7, f8, f9, d0, d1, d2, d3, d4, d5, d6, d7, d8, d9, g0, g1, g2, g3, g4, g5, g6, g7, g8, g9⟩ := h1.facts
  go_wp2_with fail
  have h2 : Two w _ [.string ⟨v.toArray⟩, .bool d, .bool t, .bool ch, .bool dc, .bool m, .bool s, .bool ds, .string ⟨cu.toArray⟩, .slice fa fs.length fc] [.string ⟨v.toArray⟩, .bool d, .bool t, .bool ch, .bool dc, .bool m, .bool s, .bool ds, .string ⟨cu.toArray⟩, .slice fa fs.length fc] := ((((((((((h1).setR 0 (.string ⟨v.toArray⟩)).setR 1 (.bool d)).setR 2 (.bool t)).setR 3 (.bool ch)).setR 4 (.bool dc)).setR 5 (.bool m)).setR 6 (.bool s)).setR 7 (.bool ds)).setR 8 (.string ⟨cu.toArray⟩)).setR 9 (.slice fa fs.length fc)
  (try simp only [Exit.inBlock, Exit.then])
  refine bodyPost_ret (v := ctlV v d t ch dc m s ds cu (.slice fa fs.length fc)) (by rw [rcell1 rfl]; (try unfold ctlV); go_simp) rfl ⟨_, rfl, EntsAt.below hF h2.low, h2.low⟩
set_option maxHeartbeats 3200000 in
set_option maxRecDepth 100000 in
theorem rchg_24 (v : List UInt8) (d t ch dc m s ds : Bool) (cu : List UInt8) (f : Value) (fs : List Ent) (_hbig : fs.length * 72 ≤ 140737488355328) (va : Value) (l : List Attr) (hl : Fine l) (x : List UInt8)  (w : World) (hA : AttrsAt w va l) (hF : EntsAt w f fs) (_hG : G w) (_hE : GE w) (_hv : v.length ≤ 1000000) :
    Calls Tryz.prog 29 #[.int .i64 24, ctlV v d t ch dc m s ds cu f, va, .string ⟨x.toArray⟩] w (RetC ⟨v, d, t, ch, dc, m, s, ds, cu, fs⟩ w) := by
  have ha := fun w h => rattr14_any va l x hl.1 w h
  have hlen := fval_len x l hl
  have hm := fun w => rmode_anyB 24 w
  rw [mode_1 24 (by decide)] at hm
  generalize attrS x l = y0 at *
  generalize attrB x l = b0 at *
  clear hl hlen _hbig _hv
  obtain ⟨fa, fc, rfl⟩ := RowAt.lenN hF
  unfold ctlV
  go_enter Tryz.func29, Tryz.ntmps29
  go_wp2_with fail
  have h0 := Two.start w [.string ⟨v.toArray⟩, .bool d, .bool t, .bool ch, .bool dc, .bool m, .bool s, .bool ds, .string ⟨cu.toArray⟩, .slice fa fs.length fc] [.string ⟨#[]⟩, .bool false, .bool false, .bool false, .bool false, .bool false, .bool false, .bool false, .string ⟨#[]⟩, .slice none 0 0] 24 24
  refine (ha _ (hA.below h0.low)).mono ?_
  rintro e w' ⟨rfl, rfl⟩
  go_wp2_with fail
  refine (hm _).mono ?_
  rintro e w1 ⟨rfl, hb1⟩
  have h1 : Two w w1 [.string ⟨v.toArray⟩, .bool d, .bool t, .bool ch, .bool dc, .bool m, .bool s, .bool ds, .string ⟨cu.toArray⟩, .slice fa fs.length fc] [.string ⟨#[]⟩, .bool false, .bool false, .bool false, .bool false, .bool false, .bool false, .bool false, .string ⟨#[]⟩, .slice none 0 0] := h0.below hb1
  obtain ⟨c0, c1, c2, c3, c4, c5, c6, c7, c8, c9, f0, f1, f2, f3, f4, f5, f6, f7, f8, f9, d0, d1, d2, d3, d4, d5, d6, d7, d8, d9, g0, g1, g2, g3, g4, g5, g6, g7, g8, g9⟩ := h1.facts
  go_wp2_with fail
  have h2 : Two w _ [.string ⟨v.toArray⟩, .bool d, .bool t, .bool ch, .bool dc, .bool m, .bool s, .bool ds, .string ⟨cu.toArray⟩, .slice fa fs.length fc] [.string ⟨v.toArray⟩, .bool d, .bool t, .bool ch, .bool dc, .bool m, .bool s, .bool ds, .string ⟨cu.toArray⟩, .slice fa fs.length fc] := ((((((((((h1).setR 0 (.string ⟨v.toArray⟩)).setR 1 (.bool d)).setR 2 (.bool t)).setR 3 (.bool ch)).setR 4 (.bool dc)).setR 5 (.bool m)).setR 6 (.bool s)).setR 7 (.bool ds)).setR 8 (.string ⟨cu.toArray⟩)).setR 9 (.slice fa fs.length fc)
  (try simp only [Exit.inBlock, Exit.then])
  refine bodyPost_ret (v := ctlV v d t ch dc m s ds cu (.slice fa fs.length fc)) (by rw [rcell1 rfl]; (try unfold ctlV); go_simp) rfl ⟨_, rfl, EntsAt.below hF h2.low, h2.low⟩
set_option maxHeartbeats 3200000 in
set_option maxRecDepth 100000 in
theorem rchg_28 (v : List UInt8) (d t ch dc m s ds : Bool) (cu : List UInt8) (f : Value) (fs : List Ent) (_hbig : fs.length * 72 ≤ 140737488355328) (va : Value) (l : List Attr) (hl : Fine l) (x : List UInt8)  (w : World) (hA : AttrsAt w va l) (hF : EntsAt w f fs) (_hG : G w) (_hE : GE w) (_hv : v.length ≤ 1000000) :
    Calls Tryz.prog 29 #[.int .i64 28, ctlV v d t ch dc m s ds cu f, va, .string ⟨x.toArray⟩] w (RetC ⟨v, d, t, ch, dc, m, s, ds, cu, fs⟩ w) := by
  have ha := fun w h => rattr14_any va l x hl.1 w h
  have hlen := fval_len x l hl
  have hm := fun w => rmode_anyB 28 w
  rw [mode_1 28 (by decide)] at hm
  generalize attrS x l = y0 at *
  generalize attrB x l = b0 at *
  clear hl hlen _hbig _hv
  obtain ⟨fa, fc, rfl⟩ := RowAt.lenN hF
  unfold ctlV
  go_enter Tryz.func29, Tryz.ntmps29
  go_wp2_with fail
  have h0 := Two.start w [.string ⟨v.toArray⟩, .bool d, .bool t, .bool ch, .bool dc, .bool m, .bool s, .bool ds, .string ⟨cu.toArray⟩, .slice fa fs.length fc] [.string ⟨#[]⟩, .bool false, .bool false, .bool false, .bool false, .bool false, .bool false, .bool false, .string ⟨#[]⟩, .slice none 0 0] 24 24
  refine (ha _ (hA.below h0.low)).mono ?_
  rintro e w' ⟨rfl, rfl⟩
  go_wp2_with fail
  refine (hm _).mono ?_
  rintro e w1 ⟨rfl, hb1⟩
  have h1 : Two w w1 [.string ⟨v.toArray⟩, .bool d, .bool t, .bool ch, .bool dc, .bool m, .bool s, .bool ds, .string ⟨cu.toArray⟩, .slice fa fs.length fc] [.string ⟨#[]⟩, .bool false, .bool false, .bool false, .bool false, .bool false, .bool false, .bool false, .string ⟨#[]⟩, .slice none 0 0] := h0.below hb1
  obtain ⟨c0, c1, c2, c3, c4, c5, c6, c7, c8, c9, f0, f1, f2, f3, f4, f5, f6, f7, f8, f9, d0, d1, d2, d3, d4, d5, d6, d7, d8, d9, g0, g1, g2, g3, g4, g5, g6, g7, g8, g9⟩ := h1.facts
  go_wp2_with fail
  have h2 : Two w _ [.string ⟨v.toArray⟩, .bool d, .bool t, .bool ch, .bool dc, .bool m, .bool s, .bool ds, .string ⟨cu.toArray⟩, .slice fa fs.length fc] [.string ⟨v.toArray⟩, .bool d, .bool t, .bool ch, .bool dc, .bool m, .bool s, .bool ds, .string ⟨cu.toArray⟩, .slice fa fs.length fc] := ((((((((((h1).setR 0 (.string ⟨v.toArray⟩)).setR 1 (.bool d)).setR 2 (.bool t)).setR 3 (.bool ch)).setR 4 (.bool dc)).setR 5 (.bool m)).setR 6 (.bool s)).setR 7 (.bool ds)).setR 8 (.string ⟨cu.toArray⟩)).setR 9 (.slice fa fs.length fc)
  (try simp only [Exit.inBlock, Exit.then])
  refine bodyPost_ret (v := ctlV v d t ch dc m s ds cu (.slice fa fs.length fc)) (by rw [rcell1 rfl]; (try unfold ctlV); go_simp) rfl ⟨_, rfl, EntsAt.below hF h2.low, h2.low⟩
set_option maxHeartbeats 3200000 in
set_option maxRecDepth 100000 in
theorem rchg_16y (v : List UInt8) (d t ch m s ds : Bool) (cu : List UInt8) (f : Value) (fs : List Ent) (_hbig : fs.length * 72 ≤ 140737488355328) (va : Value) (l : List Attr) (hl : Fine l) (x : List UInt8) (_bCk : (x == [99, 104, 101, 99, 107, 101, 100]) = true) (w : World) (hA : AttrsAt w va l) (hF : EntsAt w f fs) (_hG : G w) (_hE : GE w) (_hv : v.length ≤ 1000000) :
    Calls Tryz.prog 29 #[.int .i64 16, ctlV v d t ch false m s ds cu f, va, .string ⟨x.toArray⟩] w (RetC ⟨v, d, t, attrB x l, false, m, s, ds, cu, fs⟩ w) := by
  have ha := fun w h => rattr14_any va l x hl.1 w h
  have hlen := fval_len x l hl
  have hm := fun w => rmode_anyB 16 w
  rw [mode_3 16 (by decide)] at hm
  generalize attrS x l = y0 at *
  generalize attrB x l = b0 at *
  clear hl hlen _hbig _hv
  obtain ⟨fa, fc, rfl⟩ := RowAt.lenN hF
  unfold ctlV
  go_enter Tryz.func29, Tryz.ntmps29
  go_wp2_with fail
  have h0 := Two.start w [.string ⟨v.toArray⟩, .bool d, .bool t, .bool ch, .bool false, .bool m, .bool s, .bool ds, .string ⟨cu.toArray⟩, .slice fa fs.length fc] [.string ⟨#[]⟩, .bool false, .bool false, .bool false, .bool false, .bool false, .bool false, .bool false, .string ⟨#[]⟩, .slice none 0 0] 24 24
  refine (ha _ (hA.below h0.low)).mono ?_
  rintro e w' ⟨rfl, rfl⟩
  go_wp2_with fail
  refine (hm _).mono ?_
  rintro e w1 ⟨rfl, hb1⟩
  have h1 : Two w w1 [.string ⟨v.toArray⟩, .bool d, .bool t, .bool ch, .bool false, .bool m, .bool s, .bool ds, .string ⟨cu.toArray⟩, .slice fa fs.length fc] [.string ⟨#[]⟩, .bool false, .bool false, .bool false, .bool false, .bool false, .bool false, .bool false, .string ⟨#[]⟩, .slice none 0 0] := h0.below hb1
  obtain ⟨c0, c1, c2, c3, c4, c5, c6, c7, c8, c9, f0, f1, f2, f3, f4, f5, f6, f7, f8, f9, d0, d1, d2, d3, d4, d5, d6, d7, d8, d9, g0, g1, g2, g3, g4, g5, g6, g7, g8, g9⟩ := h1.facts
  go_wp2_with fail
  have h2 : Two w _ [.string ⟨v.toArray⟩, .bool d, .bool t, .bool b0, .bool false, .bool m, .bool s, .bool ds, .string ⟨cu.toArray⟩, .slice fa fs.length fc] [.string ⟨v.toArray⟩, .bool d, .bool t, .bool b0, .bool false, .bool m, .bool s, .bool ds, .string ⟨cu.toArray⟩, .slice fa fs.length fc] := (((((((((((h1).setP 3 (.bool b0)).setR 0 (.string ⟨v.toArray⟩)).setR 1 (.bool d)).setR 2 (.bool t)).setR 3 (.bool b0)).setR 4 (.bool false)).setR 5 (.bool m)).setR 6 (.bool s)).setR 7 (.bool ds)).setR 8 (.string ⟨cu.toArray⟩)).setR 9 (.slice fa fs.length fc)
  (try simp only [Exit.inBlock, Exit.then])
  refine bodyPost_ret (v := ctlV v d t b0 false m s ds cu (.slice fa fs.length fc)) (by rw [rcell1 rfl]; (try unfold ctlV); go_simp) rfl ⟨_, rfl, EntsAt.below hF h2.low, h2.low⟩
set_option maxHeartbeats 3200000 in
set_option maxRecDepth 100000 in
theorem rchg_16d (v : List UInt8) (d t ch m s ds : Bool) (cu : List UInt8) (f : Value) (fs : List Ent) (_hbig : fs.length * 72 ≤ 140737488355328) (va : Value) (l : List Attr) (hl : Fine l) (x : List UInt8) (_bCk : (x == [99, 104, 101, 99, 107, 101, 100]) = true) (w : World) (hA : AttrsAt w va l) (hF : EntsAt w f fs) (_hG : G w) (_hE : GE w) (_hv : v.length ≤ 1000000) :
    Calls Tryz.prog 29 #[.int .i64 16, ctlV v d t ch true m s ds cu f, va, .string ⟨x.toArray⟩] w (RetC ⟨v, d, t, ch, true, m, s, ds, cu, fs⟩ w) := by
  have ha := fun w h => rattr14_any va l x hl.1 w h
  have hlen := fval_len x l hl
  have hm := fun w => rmode_anyB 16 w
  rw [mode_3 16 (by decide)] at hm
  generalize attrS x l = y0 at *
  generalize attrB x l = b0 at *
  clear hl hlen _hbig _hv
  obtain ⟨fa, fc, rfl⟩ := RowAt.lenN hF
  unfold ctlV
  go_enter Tryz.func29, Tryz.ntmps29
  go_wp2_with fail
  have h0 := Two.start w [.string ⟨v.toArray⟩, .bool d, .bool t, .bool ch, .bool true, .bool m, .bool s, .bool ds, .string ⟨cu.toArray⟩, .slice fa fs.length fc] [.string ⟨#[]⟩, .bool false, .bool false, .bool false, .bool false, .bool false, .bool false, .bool false, .string ⟨#[]⟩, .slice none 0 0] 24 24
  refine (ha _ (hA.below h0.low)).mono ?_
  rintro e w' ⟨rfl, rfl⟩
  go_wp2_with fail
  refine (hm _).mono ?_
  rintro e w1 ⟨rfl, hb1⟩
  have h1 : Two w w1 [.string ⟨v.toArray⟩, .bool d, .bool t, .bool ch, .bool true, .bool m, .bool s, .bool ds, .string ⟨cu.toArray⟩, .slice fa fs.length fc] [.string ⟨#[]⟩, .bool false, .bool false, .bool false, .bool false, .bool false, .bool false, .bool false, .string ⟨#[]⟩, .slice none 0 0] := h0.below hb1
  obtain ⟨c0, c1, c2, c3, c4, c5, c6, c7, c8, c9, f0, f1, f2, f3, f4, f5, f6, f7, f8, f9, d0, d1, d2, d3, d4, d5, d6, d7, d8, d9, g0, g1, g2, g3, g4, g5, g6, g7, g8, g9⟩ := h1.facts
  go_wp2_with fail
  have h2 : Two w _ [.string ⟨v.toArray⟩, .bool d, .bool t, .bool ch, .bool true, .bool m, .bool s, .bool ds, .string ⟨cu.toArray⟩, .slice fa fs.length fc] [.string ⟨v.toArray⟩, .bool d, .bool t, .bool ch, .bool true, .bool m, .bool s, .bool ds, .string ⟨cu.toArray⟩, .slice fa fs.length fc] := ((((((((((h1).setR 0 (.string ⟨v.toArray⟩)).setR 1 (.bool d)).setR 2 (.bool t)).setR 3 (.bool ch)).setR 4 (.bool true)).setR 5 (.bool m)).setR 6 (.bool s)).setR 7 (.bool ds)).setR 8 (.string ⟨cu.toArray⟩)).setR 9 (.slice fa fs.length fc)
  (try simp only [Exit.inBlock, Exit.then])
  refine bodyPost_ret (v := ctlV v d t ch true m s ds cu (.slice fa fs.length fc)) (by rw [rcell1 rfl]; (try unfold ctlV); go_simp) rfl ⟨_, rfl, EntsAt.below hF h2.low, h2.low⟩
set_option maxHeartbeats 3200000 in
set_option maxRecDepth 100000 in
theorem rchg_16n (v : List UInt8) (d t ch dc m s ds : Bool) (cu : List UInt8) (f : Value) (fs : List Ent) (_hbig : fs.length * 72 ≤ 140737488355328) (va : Value) (l : List Attr) (hl : Fine l) (x : List UInt8) (_bCk : (x == [99, 104, 101, 99, 107, 101, 100]) = false) (w : World) (hA : AttrsAt w va l) (hF : EntsAt w f fs) (_hG : G w) (_hE : GE w) (_hv : v.length ≤ 1000000) :
    Calls Tryz.prog 29 #[.int .i64 16, ctlV v d t ch dc m s ds cu f, va, .string ⟨x.toArray⟩] w (RetC ⟨v, d, t, ch, dc, m, s, ds, cu, fs⟩ w) := by
  have ha := fun w h => rattr14_any va l x hl.1 w h
  have hlen := fval_len x l hl
  have hm := fun w => rmode_anyB 16 w
  rw [mode_3 16 (by decide)] at hm
  generalize attrS x l = y0 at *
  generalize attrB x l = b0 at *
  clear hl hlen _hbig _hv
  obtain ⟨fa, fc, rfl⟩ := RowAt.lenN hF
  unfold ctlV
  go_enter Tryz.func29, Tryz.ntmps29
  go_wp2_with fail
  have h0 := Two.start w [.string ⟨v.toArray⟩, .bool d, .bool t, .bool ch, .bool dc, .bool m, .bool s, .bool ds, .string ⟨cu.toArray⟩, .slice fa fs.length fc] [.string ⟨#[]⟩, .bool false, .bool false, .bool false, .bool false, .bool false, .bool false, .bool false, .string ⟨#[]⟩, .slice none 0 0] 24 24
  refine (ha _ (hA.below h0.low)).mono ?_
  rintro e w' ⟨rfl, rfl⟩
  go_wp2_with fail
  refine (hm _).mono ?_
  rintro e w1 ⟨rfl, hb1⟩
  have h1 : Two w w1 [.string ⟨v.toArray⟩, .bool d, .bool t, .bool ch, .bool dc, .bool m, .bool s, .bool ds, .string ⟨cu.toArray⟩, .slice fa fs.length fc] [.string ⟨#[]⟩, .bool false, .bool false, .bool false, .bool false, .bool false, .bool false, .bool false, .string ⟨#[]⟩, .slice none 0 0] := h0.below hb1
  obtain ⟨c0, c1, c2, c3, c4, c5, c6, c7, c8, c9, f0, f1, f2, f3, f4, f5, f6, f7, f8, f9, d0, d1, d2, d3, d4, d5, d6, d7, d8, d9, g0, g1, g2, g3, g4, g5, g6, g7, g8, g9⟩ := h1.facts
  go_wp2_with fail
  have h2 : Two w _ [.string ⟨v.toArray⟩, .bool d, .bool t, .bool ch, .bool dc, .bool m, .bool s, .bool ds, .string ⟨cu.toArray⟩, .slice fa fs.length fc] [.string ⟨v.toArray⟩, .bool d, .bool t, .bool ch, .bool dc, .bool m, .bool s, .bool ds, .string ⟨cu.toArray⟩, .slice fa fs.length fc] := ((((((((((h1).setR 0 (.string ⟨v.toArray⟩)).setR 1 (.bool d)).setR 2 (.bool t)).setR 3 (.bool ch)).setR 4 (.bool dc)).setR 5 (.bool m)).setR 6 (.bool s)).setR 7 (.bool ds)).setR 8 (.string ⟨cu.toArray⟩)).setR 9 (.slice fa fs.length fc)
  (try simp only [Exit.inBlock, Exit.then])
  refine bodyPost_ret (v := ctlV v d t ch dc m s ds cu (.slice fa fs.length fc)) (by rw [rcell1 rfl]; (try unfold ctlV); go_simp) rfl ⟨_, rfl, EntsAt.below hF h2.low, h2.low⟩
set_option maxHeartbeats 3200000 in
set_option maxRecDepth 100000 in
theorem rchg_17y (v : List UInt8) (d t ch m s ds : Bool) (cu : List UInt8) (f : Value) (fs : List Ent) (_hbig : fs.length * 72 ≤ 140737488355328) (va : Value) (l : List Attr) (hl : Fine l) (x : List UInt8) (_bCk : (x == [99, 104, 101, 99, 107, 101, 100]) = true) (w : World) (hA : AttrsAt w va l) (hF : EntsAt w f fs) (_hG : G w) (_hE : GE w) (_hv : v.length ≤ 1000000) :
    Calls Tryz.prog 29 #[.int .i64 17, ctlV v d t ch false m s ds cu f, va, .string ⟨x.toArray⟩] w (RetC ⟨v, d, t, attrB x l, false, m, s, ds, cu, fs⟩ w) := by
  have ha := fun w h => rattr14_any va l x hl.1 w h
  have hlen := fval_len x l hl
  have hm := fun w => rmode_anyB 17 w
  rw [mode_3 17 (by decide)] at hm
  generalize attrS x l = y0 at *
  generalize attrB x l = b0 at *
  clear hl hlen _hbig _hv
  obtain ⟨fa, fc, rfl⟩ := RowAt.lenN hF
  unfold ctlV
  go_enter Tryz.func29, Tryz.ntmps29
  go_wp2_with fail
  have h0 := Two.start w [.string ⟨v.toArray⟩, .bool d, .bool t, .bool ch, .bool false, .bool m, .bool s, .bool ds, .string ⟨cu.toArray⟩, .slice fa fs.length fc] [.string ⟨#[]⟩, .bool false, .bool false, .bool false, .bool false, .bool false, .bool false, .bool false, .string ⟨#[]⟩, .slice none 0 0] 24 24
  refine (ha _ (hA.below h0.low)).mono ?_
  rintro e w' ⟨rfl, rfl⟩
  go_wp2_with fail
  refine (hm _).mono ?_
  rintro e w1 ⟨rfl, hb1⟩
  have h1 : Two w w1 [.string ⟨v.toArray⟩, .bool d, .bool t, .bool ch, .bool false, .bool m, .bool s, .bool ds, .string ⟨cu.toArray⟩, .slice fa fs.length fc] [.string ⟨#[]⟩, .bool false, .bool false, .bool false, .bool false, .bool false, .bool false, .bool false, .string ⟨#[]⟩, .slice none 0 0] := h0.below hb1
  obtain ⟨c0, c1, c2, c3, c4, c5, c6, c7, c8, c9, f0, f1, f2, f3, f4, f5, f6, f7, f8, f9, d0, d1, d2, d3, d4, d5, d6, d7, d8, d9, g0, g1, g2, g3, g4, g5, g6, g7, g8, g9⟩ := h1.facts
  go_wp2_with fail
  have h2 : Two w _ [.string ⟨v.toArray⟩, .bool d, .bool t, .bool b0, .bool false, .bool m, .bool s, .bool ds, .string ⟨cu.toArray⟩, .slice fa fs.length fc] [.string ⟨v.toArray⟩, .bool d, .bool t, .bool b0, .bool false, .bool m, .bool s, .bool ds, .string ⟨cu.toArray⟩, .slice fa fs.length fc] := (((((((((((h1).setP 3 (.bool b0)).setR 0 (.string ⟨v.toArray⟩)).setR 1 (.bool d)).setR 2 (.bool t)).setR 3 (.bool b0)).setR 4 (.bool false)).setR 5 (.bool m)).setR 6 (.bool s)).setR 7 (.bool ds)).setR 8 (.string ⟨cu.toArray⟩)).setR 9 (.slice fa fs.length fc)
  (try simp only [Exit.inBlock, Exit.then])
  refine bodyPost_ret (v := ctlV v d t b0 false m s ds cu (.slice fa fs.length fc)) (by rw [rcell1 rfl]; (try unfold ctlV); go_simp) rfl ⟨_, rfl, EntsAt.below hF h2.low, h2.low⟩
set_option maxHeartbeats 3200000 in
set_option maxRecDepth 100000 in
theorem rchg_17d (v : List UInt8) (d t ch m s ds : Bool) (cu : List UInt8) (f : Value) (fs : List Ent) (_hbig : fs.length * 72 ≤ 140737488355328) (va : Value) (l : List Attr) (hl : Fine l) (x : List UInt8) (_bCk : (x == [99, 104, 101, 99, 107, 101, 100]) = true) (w : World) (hA : AttrsAt w va l) (hF : EntsAt w f fs) (_hG : G w) (_hE : GE w) (_hv : v.length ≤ 1000000) :
    Calls Tryz.prog 29 #[.int .i64 17, ctlV v d t ch true m s ds cu f, va, .string ⟨x.toArray⟩] w (RetC ⟨v, d, t, ch, true, m, s, ds, cu, fs⟩ w) := by
  have ha := fun w h => rattr14_any va l x hl.1 w h
  have hlen := fval_len x l hl
  have hm := fun w => rmode_anyB 17 w
  rw [mode_3 17 (by decide)] at hm
  generalize attrS x l = y0 at *
  generalize attrB x l = b0 at *
  clear hl hlen _hbig _hv
  obtain ⟨fa, fc, rfl⟩ := RowAt.lenN hF
  unfold ctlV
  go_enter Tryz.func29, Tryz.ntmps29
  go_wp2_with fail
  have h0 := Two.start w [.string ⟨v.toArray⟩, .bool d, .bool t, .bool ch, .bool true, .bool m, .bool s, .bool ds, .string ⟨cu.toArray⟩, .slice fa fs.length fc] [.string ⟨#[]⟩, .bool false, .bool false, .bool false, .bool false, .bool false, .bool false, .bool false, .string ⟨#[]⟩, .slice none 0 0] 24 24
  refine (ha _ (hA.below h0.low)).mono ?_
  rintro e w' ⟨rfl, rfl⟩
  go_wp2_with fail
  refine (hm _).mono ?_
  rintro e w1 ⟨rfl, hb1⟩
  have h1 : Two w w1 [.string ⟨v.toArray⟩, .bool d, .bool t, .bool ch, .bool true, .bool m, .bool s, .bool ds, .string ⟨cu.toArray⟩, .slice fa fs.length fc] [.string ⟨#[]⟩, .bool false, .bool false, .bool false, .bool false, .bool false, .bool false, .bool false, .string ⟨#[]⟩, .slice none 0 0] := h0.below hb1
  obtain ⟨c0, c1, c2, c3, c4, c5, c6, c7, c8, c9, f0, f1, f2, f3, f4, f5, f6, f7, f8, f9, d0, d1, d2, d3, d4, d5, d6, d7, d8, d9, g0, g1, g2, g3, g4, g5, g6, g7, g8, g9⟩ := h1.facts
  go_wp2_with fail
  have h2 : Two w _ [.string ⟨v.toArray⟩, .bool d, .bool t, .bool ch, .bool true, .bool m, .bool s, .bool ds, .string ⟨cu.toArray⟩, .slice fa fs.length fc] [.string ⟨v.toArray⟩, .bool d, .bool t, .bool ch, .bool true, .bool m, .bool s, .bool ds, .string ⟨cu.toArray⟩, .slice fa fs.length fc] := ((((((((((h1).setR 0 (.string ⟨v.toArray⟩)).setR 1 (.bool d)).setR 2 (.bool t)).setR 3 (.bool ch)).setR 4 (.bool true)).setR 5 (.bool m)).setR 6 (.bool s)).setR 7 (.bool ds)).setR 8 (.string ⟨cu.toArray⟩)).setR 9 (.slice fa fs.length fc)
  (try simp only [Exit.inBlock, Exit.then])
  refine bodyPost_ret (v := ctlV v d t ch true m s ds cu (.slice fa fs.length fc)) (by rw [rcell1 rfl]; (try unfold ctlV); go_simp) rfl ⟨_, rfl, EntsAt.below hF h2.low, h2.low⟩
set_option maxHeartbeats 3200000 in
set_option maxRecDepth 100000 in
theorem rchg_17n (v : List UInt8) (d t ch dc m s ds : Bool) (cu : List UInt8) (f : Value) (fs : List Ent) (_hbig : fs.length * 72 ≤ 140737488355328) (va : Value) (l : List Attr) (hl : Fine l) (x : List UInt8) (_bCk : (x == [99, 104, 101, 99, 107, 101, 100]) = false) (w : World) (hA : AttrsAt w va l) (hF : EntsAt w f fs) (_hG : G w) (_hE : GE w) (_hv : v.length ≤ 1000000) :
    Calls Tryz.prog 29 #[.int .i64 17, ctlV v d t ch dc m s ds cu f, va, .string ⟨x.toArray⟩] w (RetC ⟨v, d, t, ch, dc, m, s, ds, cu, fs⟩ w) := by
  have ha := fun w h => rattr14_any va l x hl.1 w h
  have hlen := fval_len x l hl
  have hm := fun w => rmode_anyB 17 w
  rw [mode_3 17 (by decide)] at hm
  generalize attrS x l = y0 at *
  generalize attrB x l = b0 at *
  clear hl hlen _hbig _hv
  obtain ⟨fa, fc, rfl⟩ := RowAt.lenN hF
  unfold ctlV
  go_enter Tryz.func29, Tryz.ntmps29
  go_wp2_with fail
  have h0 := Two.start w [.string ⟨v.toArray⟩, .bool d, .bool t, .bool ch, .bool dc, .bool m, .bool s, .bool ds, .string ⟨cu.toArray⟩, .slice fa fs.length fc] [.string ⟨#[]⟩, .bool false, .bool false, .bool false, .bool false, .bool false, .bool false, .bool false, .string ⟨#[]⟩, .slice none 0 0] 24 24
  refine (ha _ (hA.below h0.low)).mono ?_
  rintro e w' ⟨rfl, rfl⟩
  go_wp2_with fail
  refine (hm _).mono ?_
  rintro e w1 ⟨rfl, hb1⟩
  have h1 : Two w w1 [.string ⟨v.toArray⟩, .bool d, .bool t, .bool ch, .bool dc, .bool m, .bool s, .bool ds, .string ⟨cu.toArray⟩, .slice fa fs.length fc] [.string ⟨#[]⟩, .bool false, .bool false, .bool false, .bool false, .bool false, .bool false, .bool false, .string ⟨#[]⟩, .slice none 0 0] := h0.below hb1
  obtain ⟨c0, c1, c2, c3, c4, c5, c6, c7, c8, c9, f0, f1, f2, f3, f4, f5, f6, f7, f8, f9, d0, d1, d2, d3, d4, d5, d6, d7, d8, d9, g0, g1, g2, g3, g4, g5, g6, g7, g8, g9⟩ := h1.facts
  go_wp2_with fail
  have h2 : Two w _ [.string ⟨v.toArray⟩, .bool d, .bool t, .bool ch, .bool dc, .bool m, .bool s, .bool ds, .string ⟨cu.toArray⟩, .slice fa fs.length fc] [.string ⟨v.toArray⟩, .bool d, .bool t, .bool ch, .bool dc, .bool m, .bool s, .bool ds, .string ⟨cu.toArray⟩, .slice fa fs.length fc] := ((((((((((h1).setR 0 (.string ⟨v.toArray⟩)).setR 1 (.bool d)).setR 2 (.bool t)).setR 3 (.bool ch)).setR 4 (.bool dc)).setR 5 (.bool m)).setR 6 (.bool s)).setR 7 (.bool ds)).setR 8 (.string ⟨cu.toArray⟩)).setR 9 (.slice fa fs.length fc)
  (try simp only [Exit.inBlock, Exit.then])
  refine bodyPost_ret (v := ctlV v d t ch dc m s ds cu (.slice fa fs.length fc)) (by rw [rcell1 rfl]; (try unfold ctlV); go_simp) rfl ⟨_, rfl, EntsAt.below hF h2.low, h2.low⟩
set_option maxHeartbeats 3200000 in
set_option maxRecDepth 100000 in
theorem rchg_32y (v : List UInt8) (d t ch dc m s : Bool) (cu : List UInt8) (f : Value) (fs : List Ent) (_hbig : fs.length * 72 ≤ 140737488355328) (va : Value) (l : List Attr) (hl : Fine l) (x : List UInt8) (_bSe : (x == [115, 101, 108, 101, 99, 116, 101, 100]) = true) (w : World) (hA : AttrsAt w va l) (hF : EntsAt w f fs) (_hG : G w) (_hE : GE w) (_hv : v.length ≤ 1000000) :
    Calls Tryz.prog 29 #[.int .i64 32, ctlV v d t ch dc m s false cu f, va, .string ⟨x.toArray⟩] w (RetC ⟨v, d, t, ch, dc, m, attrB x l, false, cu, fs⟩ w) := by
  have ha := fun w h => rattr14_any va l x hl.1 w h
  have hlen := fval_len x l hl
  have hm := fun w => rmode_anyB 32 w
  rw [mode_0 32 (by decide)] at hm
  generalize attrS x l = y0 at *
  generalize attrB x l = b0 at *
  clear hl hlen _hbig _hv
  obtain ⟨fa, fc, rfl⟩ := RowAt.lenN hF
  unfold ctlV
  go_enter Tryz.func29, Tryz.ntmps29
  go_wp2_with fail
  have h0 := Two.start w [.string ⟨v.toArray⟩, .bool d, .bool t, .bool ch, .bool dc, .bool m, .bool s, .bool false, .string ⟨cu.toArray⟩, .slice fa fs.length fc] [.string ⟨#[]⟩, .bool false, .bool false, .bool false, .bool false, .bool false, .bool false, .bool false, .string ⟨#[]⟩, .slice none 0 0] 24 24
  refine (ha _ (hA.below h0.low)).mono ?_
  rintro e w' ⟨rfl, rfl⟩
  go_wp2_with fail
  refine (hm _).mono ?_
  rintro e w1 ⟨rfl, hb1⟩
  have h1 : Two w w1 [.string ⟨v.toArray⟩, .bool d, .bool t, .bool ch, .bool dc, .bool m, .bool s, .bool false, .string ⟨cu.toArray⟩, .slice fa fs.length fc] [.string ⟨#[]⟩, .bool false, .bool false, .bool false, .bool false, .bool false, .bool false, .bool false, .string ⟨#[]⟩, .slice none 0 0] := h0.below hb1
  obtain ⟨c0, c1, c2, c3, c4, c5, c6, c7, c8, c9, f0, f1, f2, f3, f4, f5, f6, f7, f8, f9, d0, d1, d2, d3, d4, d5, d6, d7, d8, d9, g0, g1, g2, g3, g4, g5, g6, g7, g8, g9⟩ := h1.facts
  go_wp2_with fail
  have h2 : Two w _ [.string ⟨v.toArray⟩, .bool d, .bool t, .bool ch, .bool dc, .bool m, .bool b0, .bool false, .string ⟨cu.toArray⟩, .slice fa fs.length fc] [.string ⟨v.toArray⟩, .bool d, .bool t, .bool ch, .bool dc, .bool m, .bool b0, .bool false, .string ⟨cu.toArray⟩, .slice fa fs.length fc] := (((((((((((h1).setP 6 (.bool b0)).setR 0 (.string ⟨v.toArray⟩)).setR 1 (.bool d)).setR 2 (.bool t)).setR 3 (.bool ch)).setR 4 (.bool dc)).setR 5 (.bool m)).setR 6 (.bool b0)).setR 7 (.bool false)).setR 8 (.string ⟨cu.toArray⟩)).setR 9 (.slice fa fs.length fc)
  (try simp only [Exit.inBlock, Exit.then])
  refine bodyPost_ret (v := ctlV v d t ch dc m b0 false cu (.slice fa fs.length fc)) (by rw [rcell1 rfl]; (try unfold ctlV); go_simp) rfl ⟨_, rfl, EntsAt.below hF h2.low, h2.low⟩
set_option maxHeartbeats 3200000 in
set_option maxRecDepth 100000 in
theorem rchg_32d (v : List UInt8) (d t ch dc m s : Bool) (cu : List UInt8) (f : Value) (fs : List Ent) (_hbig : fs.length * 72 ≤ 140737488355328) (va : Value) (l : List Attr) (hl : Fine l) (x : List UInt8) (_bSe : (x == [115, 101, 108, 101, 99, 116, 101, 100]) = true) (w : World) (hA : AttrsAt w va l) (hF : EntsAt w f fs) (_hG : G w) (_hE : GE w) (_hv : v.length ≤ 1000000) :
    Calls Tryz.prog 29 #[.int .i64 32, ctlV v d t ch dc m s true cu f, va, .string ⟨x.toArray⟩] w (RetC ⟨v, d, t, ch, dc, m, s, true, cu, fs⟩ w) := by
  have ha := fun w h => rattr14_any va l x hl.1 w h
  have hlen := fval_len x l hl
  have hm := fun w => rmode_anyB 32 w
  rw [mode_0 32 (by decide)] at hm
  generalize attrS x l = y0 at *
  generalize attrB x l = b0 at *
  clear hl hlen _hbig _hv
  obtain ⟨fa, fc, rfl⟩ := RowAt.lenN hF
  unfold ctlV
  go_enter Tryz.func29, Tryz.ntmps29
  go_wp2_with fail
  have h0 := Two.start w [.string ⟨v.toArray⟩, .bool d, .bool t, .bool ch, .bool dc, .bool m, .bool s, .bool true, .string ⟨cu.toArray⟩, .slice fa fs.length fc] [.string ⟨#[]⟩, .bool false, .bool false, .bool false, .bool false, .bool false, .bool false, .bool false, .string ⟨#[]⟩, .slice none 0 0] 24 24
  refine (ha _ (hA.below h0.low)).mono ?_
  rintro e w' ⟨rfl, rfl⟩
  go_wp2_with fail
  refine (hm _).mono ?_
  rintro e w1 ⟨rfl, hb1⟩
  have h1 : Two w w1 [.string ⟨v.toArray⟩, .bool d, .bool t, .bool ch, .bool dc, .bool m, .bool s, .bool true, .string ⟨cu.toArray⟩, .slice fa fs.length fc] [.string ⟨#[]⟩, .bool false, .bool false, .bool false, .bool false, .bool false, .bool false, .bool false, .string ⟨#[]⟩, .slice none 0 0] := h0.below hb1
  obtain ⟨c0, c1, c2, c3, c4, c5, c6, c7, c8, c9, f0, f1, f2, f3, f4, f5, f6, f7, f8, f9, d0, d1, d2, d3, d4, d5, d6, d7, d8, d9, g0, g1, g2, g3, g4, g5, g6, g7, g8, g9⟩ := h1.facts
  go_wp2_with fail
  have h2 : Two w _ [.string ⟨v.toArray⟩, .bool d, .bool t, .bool ch, .bool dc, .bool m, .bool s, .bool true, .string ⟨cu.toArray⟩, .slice fa fs.length fc] [.string ⟨v.toArray⟩, .bool d, .bool t, .bool ch, .bool dc, .bool m, .bool s, .bool true, .string ⟨cu.toArray⟩, .slice fa fs.length fc] := ((((((((((h1).setR 0 (.string ⟨v.toArray⟩)).setR 1 (.bool d)).setR 2 (.bool t)).setR 3 (.bool ch)).setR 4 (.bool dc)).setR 5 (.bool m)).setR 6 (.bool s)).setR 7 (.bool true)).setR 8 (.string ⟨cu.toArray⟩)).setR 9 (.slice fa fs.length fc)
  (try simp only [Exit.inBlock, Exit.then])
  refine bodyPost_ret (v := ctlV v d t ch dc m s true cu (.slice fa fs.length fc)) (by rw [rcell1 rfl]; (try unfold ctlV); go_simp) rfl ⟨_, rfl, EntsAt.below hF h2.low, h2.low⟩
set_option maxHeartbeats 3200000 in
set_option maxRecDepth 100000 in
theorem rchg_32n (v : List UInt8) (d t ch dc m s ds : Bool) (cu : List UInt8) (f : Value) (fs : List Ent) (_hbig : fs.length * 72 ≤ 140737488355328) (va : Value) (l : List Attr) (hl : Fine l) (x : List UInt8) (_bSe : (x == [115, 101, 108, 101, 99, 116, 101, 100]) = false) (w : World) (hA : AttrsAt w va l) (hF : EntsAt w f fs) (_hG : G w) (_hE : GE w) (_hv : v.length ≤ 1000000) :
    Calls Tryz.prog 29 #[.int .i64 32, ctlV v d t ch dc m s ds cu f, va, .string ⟨x.toArray⟩] w (RetC ⟨v, d, t, ch, dc, m, s, ds, cu, fs⟩ w) := by
  have ha := fun w h => rattr14_any va l x hl.1 w h
  have hlen := fval_len x l hl
  have hm := fun w => rmode_anyB 32 w
  rw [mode_0 32 (by decide)] at hm
  generalize attrS x l = y0 at *
  generalize attrB x l = b0 at *
  clear hl hlen _hbig _hv
  obtain ⟨fa, fc, rfl⟩ := RowAt.lenN hF
  unfold ctlV
  go_enter Tryz.func29, Tryz.ntmps29
  go_wp2_with fail
  have h0 := Two.start w [.string ⟨v.toArray⟩, .bool d, .bool t, .bool ch, .bool dc, .bool m, .bool s, .bool ds, .string ⟨cu.toArray⟩, .slice fa fs.length fc] [.string ⟨#[]⟩, .bool false, .bool false, .bool false, .bool false, .bool false, .bool false, .bool false, .string ⟨#[]⟩, .slice none 0 0] 24 24
  refine (ha _ (hA.below h0.low)).mono ?_
  rintro e w' ⟨rfl, rfl⟩
  go_wp2_with fail
  refine (hm _).mono ?_
  rintro e w1 ⟨rfl, hb1⟩
  have h1 : Two w w1 [.string ⟨v.toArray⟩, .bool d, .bool t, .bool ch, .bool dc, .bool m, .bool s, .bool ds, .string ⟨cu.toArray⟩, .slice fa fs.length fc] [.string ⟨#[]⟩, .bool false, .bool false, .bool false, .bool false, .bool false, .bool false, .bool false, .string ⟨#[]⟩, .slice none 0 0] := h0.below hb1
  obtain ⟨c0, c1, c2, c3, c4, c5, c6, c7, c8, c9, f0, f1, f2, f3, f4, f5, f6, f7, f8, f9, d0, d1, d2, d3, d4, d5, d6, d7, d8, d9, g0, g1, g2, g3, g4, g5, g6, g7, g8, g9⟩ := h1.facts
  go_wp2_with fail
  have h2 : Two w _ [.string ⟨v.toArray⟩, .bool d, .bool t, .bool ch, .bool dc, .bool m, .bool s, .bool ds, .string ⟨cu.toArray⟩, .slice fa fs.length fc] [.string ⟨v.toArray⟩, .bool d, .bool t, .bool ch, .bool dc, .bool m, .bool s, .bool ds, .string ⟨cu.toArray⟩, .slice fa fs.length fc] := ((((((((((h1).setR 0 (.string ⟨v.toArray⟩)).setR 1 (.bool d)).setR 2 (.bool t)).setR 3 (.bool ch)).setR 4 (.bool dc)).setR 5 (.bool m)).setR 6 (.bool s)).setR 7 (.bool ds)).setR 8 (.string ⟨cu.toArray⟩)).setR 9 (.slice fa fs.length fc)
  (try simp only [Exit.inBlock, Exit.then])
  refine bodyPost_ret (v := ctlV v d t ch dc m s ds cu (.slice fa fs.length fc)) (by rw [rcell1 rfl]; (try unfold ctlV); go_simp) rfl ⟨_, rfl, EntsAt.below hF h2.low, h2.low⟩
set_option maxHeartbeats 3200000 in
set_option maxRecDepth 100000 in
theorem rchg_18 (v : List UInt8) (d t ch dc m s ds : Bool) (cu : List UInt8) (f : Value) (fs : List Ent) (_hbig : fs.length * 72 ≤ 140737488355328) (va : Value) (l : List Attr) (hl : Fine l) (x : List UInt8)  (w : World) (hA : AttrsAt w va l) (hF : EntsAt w f fs) (_hG : G w) (_hE : GE w) (_hv : v.length ≤ 1000000) :
    Calls Tryz.prog 29 #[.int .i64 18, ctlV v d t ch dc m s ds cu f, va, .string ⟨x.toArray⟩] w (RetC ⟨v, d, t, ch, dc, m, s, ds, cu, fs⟩ w) := by
  have ha := fun w h => rattr14_any va l x hl.1 w h
  have hlen := fval_len x l hl
  have hm := fun w => rmode_anyB 18 w
  rw [mode_4] at hm
  generalize attrS x l = y0 at *
  generalize attrB x l = b0 at *
  clear hl hlen _hbig _hv
  obtain ⟨fa, fc, rfl⟩ := RowAt.lenN hF
  unfold ctlV
  go_enter Tryz.func29, Tryz.ntmps29
  go_wp2_with fail
  have h0 := Two.start w [.string ⟨v.toArray⟩, .bool d, .bool t, .bool ch, .bool dc, .bool m, .bool s, .bool ds, .string ⟨cu.toArray⟩, .slice fa fs.length fc] [.string ⟨#[]⟩, .bool false, .bool false, .bool false, .bool false, .bool false, .bool false, .bool false, .string ⟨#[]⟩, .slice none 0 0] 24 24
  refine (ha _ (hA.below h0.low)).mono ?_
  rintro e w' ⟨rfl, rfl⟩
  go_wp2_with fail
  refine (hm _).mono ?_
  rintro e w1 ⟨rfl, hb1⟩
  have h1 : Two w w1 [.string ⟨v.toArray⟩, .bool d, .bool t, .bool ch, .bool dc, .bool m, .bool s, .bool ds, .string ⟨cu.toArray⟩, .slice fa fs.length fc] [.string ⟨#[]⟩, .bool false, .bool false, .bool false, .bool false, .bool false, .bool false, .bool false, .string ⟨#[]⟩, .slice none 0 0] := h0.below hb1
  obtain ⟨c0, c1, c2, c3, c4, c5, c6, c7, c8, c9, f0, f1, f2, f3, f4, f5, f6, f7, f8, f9, d0, d1, d2, d3, d4, d5, d6, d7, d8, d9, g0, g1, g2, g3, g4, g5, g6, g7, g8, g9⟩ := h1.facts
  go_wp2_with fail
  have h2 : Two w _ [.string ⟨v.toArray⟩, .bool d, .bool t, .bool ch, .bool dc, .bool m, .bool s, .bool ds, .string ⟨cu.toArray⟩, .slice fa fs.length fc] [.string ⟨v.toArray⟩, .bool d, .bool t, .bool ch, .bool dc, .bool m, .bool s, .bool ds, .string ⟨cu.toArray⟩, .slice fa fs.length fc] := ((((((((((h1).setR 0 (.string ⟨v.toArray⟩)).setR 1 (.bool d)).setR 2 (.bool t)).setR 3 (.bool ch)).setR 4 (.bool dc)).setR 5 (.bool m)).setR 6 (.bool s)).setR 7 (.bool ds)).setR 8 (.string ⟨cu.toArray⟩)).setR 9 (.slice fa fs.length fc)
  (try simp only [Exit.inBlock, Exit.then])
  refine bodyPost_ret (v := ctlV v d t ch dc m s ds cu (.slice fa fs.length fc)) (by rw [rcell1 rfl]; (try unfold ctlV); go_simp) rfl ⟨_, rfl, EntsAt.below hF h2.low, h2.low⟩
set_option maxHeartbeats 3200000 in
set_option maxRecDepth 100000 in
theorem rchg_2 (kind : Int) (h : kind = 1 ∨ kind = 19 ∨ kind = 20 ∨ kind = 21 ∨ kind = 22) (v : List UInt8) (d t ch dc m s ds : Bool) (cu : List UInt8) (f : Value) (fs : List Ent) (_hbig : fs.length * 72 ≤ 140737488355328) (va : Value) (l : List Attr) (hl : Fine l) (x : List UInt8)  (w : World) (hA : AttrsAt w va l) (hF : EntsAt w f fs) (_hG : G w) (_hE : GE w) (_hv : v.length ≤ 1000000) :
    Calls Tryz.prog 29 #[.int .i64 kind, ctlV v d t ch dc m s ds cu f, va, .string ⟨x.toArray⟩] w (RetC ⟨v, d, t, ch, dc, m, s, ds, cu, fs⟩ w) := by
  have ha := fun w h => rattr14_any va l x hl.1 w h
  have hlen := fval_len x l hl
  have hm := fun w => rmode_anyB kind w
  rw [mode_2 kind h] at hm
  have t24 : (kind == 24) = false := by simp; omega
  have u24 : (kind != 24) = true := by simp; omega
  have h23 : kind < 23 ∨ 23 ≤ kind := by omega
  have t28 : (kind == 28) = false := by simp; omega
  have u28 : (kind != 28) = true := by simp; omega
  have t32 : (kind == 32) = false := by simp; omega
  have u32 : (kind != 32) = true := by simp; omega
  generalize attrS x l = y0 at *
  generalize attrB x l = b0 at *
  clear hl hlen _hbig _hv
  obtain ⟨fa, fc, rfl⟩ := RowAt.lenN hF
  unfold ctlV
  go_enter Tryz.func29, Tryz.ntmps29
  go_wp2_with fail
  have h0 := Two.start w [.string ⟨v.toArray⟩, .bool d, .bool t, .bool ch, .bool dc, .bool m, .bool s, .bool ds, .string ⟨cu.toArray⟩, .slice fa fs.length fc] [.string ⟨#[]⟩, .bool false, .bool false, .bool false, .bool false, .bool false, .bool false, .bool false, .string ⟨#[]⟩, .slice none 0 0] 24 24
  refine (ha _ (hA.below h0.low)).mono ?_
  rintro e w' ⟨rfl, rfl⟩
  go_wp2_with fail
  refine (hm _).mono ?_
  rintro e w1 ⟨rfl, hb1⟩
  have h1 : Two w w1 [.string ⟨v.toArray⟩, .bool d, .bool t, .bool ch, .bool dc, .bool m, .bool s, .bool ds, .string ⟨cu.toArray⟩, .slice fa fs.length fc] [.string ⟨#[]⟩, .bool false, .bool false, .bool false, .bool false, .bool false, .bool false, .bool false, .string ⟨#[]⟩, .slice none 0 0] := h0.below hb1
  obtain ⟨c0, c1, c2, c3, c4, c5, c6, c7, c8, c9, f0, f1, f2, f3, f4, f5, f6, f7, f8, f9, d0, d1, d2, d3, d4, d5, d6, d7, d8, d9, g0, g1, g2, g3, g4, g5, g6, g7, g8, g9⟩ := h1.facts
  go_wp2_with fail
  have h2 : Two w _ [.string ⟨v.toArray⟩, .bool d, .bool t, .bool ch, .bool dc, .bool m, .bool s, .bool ds, .string ⟨cu.toArray⟩, .slice fa fs.length fc] [.string ⟨v.toArray⟩, .bool d, .bool t, .bool ch, .bool dc, .bool m, .bool s, .bool ds, .string ⟨cu.toArray⟩, .slice fa fs.length fc] := ((((((((((h1).setR 0 (.string ⟨v.toArray⟩)).setR 1 (.bool d)).setR 2 (.bool t)).setR 3 (.bool ch)).setR 4 (.bool dc)).setR 5 (.bool m)).setR 6 (.bool s)).setR 7 (.bool ds)).setR 8 (.string ⟨cu.toArray⟩)).setR 9 (.slice fa fs.length fc)
  (try simp only [Exit.inBlock, Exit.then])
  refine bodyPost_ret (v := ctlV v d t ch dc m s ds cu (.slice fa fs.length fc)) (by rw [rcell1 rfl]; (try unfold ctlV); go_simp) rfl ⟨_, rfl, EntsAt.below hF h2.low, h2.low⟩
set_option maxHeartbeats 3200000 in
set_option maxRecDepth 100000 in
theorem rchg_0 (kind : Int) (h : modeP kind = 0) (_h24 : kind ≠ 24) (_h28 : kind ≠ 28) (_h32 : kind ≠ 32) (v : List UInt8) (d t ch dc m s ds : Bool) (cu : List UInt8) (f : Value) (fs : List Ent) (_hbig : fs.length * 72 ≤ 140737488355328) (va : Value) (l : List Attr) (hl : Fine l) (x : List UInt8)  (w : World) (hA : AttrsAt w va l) (hF : EntsAt w f fs) (_hG : G w) (_hE : GE w) (_hv : v.length ≤ 1000000) :
    Calls Tryz.prog 29 #[.int .i64 kind, ctlV v d t ch dc m s ds cu f, va, .string ⟨x.toArray⟩] w (RetC ⟨v, d, t, ch, dc, m, s, ds, cu, fs⟩ w) := by
  have ha := fun w h => rattr14_any va l x hl.1 w h
  have hlen := fval_len x l hl
  have hm := fun w => rmode_anyB kind w
  rw [h] at hm
  have t24 : (kind == 24) = false := by simp; omega
  have u24 : (kind != 24) = true := by simp; omega
  have h23 : kind < 23 ∨ 23 ≤ kind := by omega
  have t28 : (kind == 28) = false := by simp; omega
  have u28 : (kind != 28) = true := by simp; omega
  have t32 : (kind == 32) = false := by simp; omega
  have u32 : (kind != 32) = true := by simp; omega
  generalize attrS x l = y0 at *
  generalize attrB x l = b0 at *
  clear hl hlen _hbig _hv
  obtain ⟨fa, fc, rfl⟩ := RowAt.lenN hF
  unfold ctlV
  go_enter Tryz.func29, Tryz.ntmps29
  go_wp2_with fail
  have h0 := Two.start w [.string ⟨v.toArray⟩, .bool d, .bool t, .bool ch, .bool dc, .bool m, .bool s, .bool ds, .string ⟨cu.toArray⟩, .slice fa fs.length fc] [.string ⟨#[]⟩, .bool false, .bool false, .bool false, .bool false, .bool false, .bool false, .bool false, .string ⟨#[]⟩, .slice none 0 0] 24 24
  refine (ha _ (hA.below h0.low)).mono ?_
  rintro e w' ⟨rfl, rfl⟩
  go_wp2_with fail
  refine (hm _).mono ?_
  rintro e w1 ⟨rfl, hb1⟩
  have h1 : Two w w1 [.string ⟨v.toArray⟩, .bool d, .bool t, .bool ch, .bool dc, .bool m, .bool s, .bool ds, .string ⟨cu.toArray⟩, .slice fa fs.length fc] [.string ⟨#[]⟩, .bool false, .bool false, .bool false, .bool false, .bool false, .bool false, .bool false, .string ⟨#[]⟩, .slice none 0 0] := h0.below hb1
  obtain ⟨c0, c1, c2, c3, c4, c5, c6, c7, c8, c9, f0, f1, f2, f3, f4, f5, f6, f7, f8, f9, d0, d1, d2, d3, d4, d5, d6, d7, d8, d9, g0, g1, g2, g3, g4, g5, g6, g7, g8, g9⟩ := h1.facts
  go_wp2_with fail
  have h2 : Two w _ [.string ⟨v.toArray⟩, .bool d, .bool t, .bool ch, .bool dc, .bool m, .bool s, .bool ds, .string ⟨cu.toArray⟩, .slice fa fs.length fc] [.string ⟨v.toArray⟩, .bool d, .bool t, .bool ch, .bool dc, .bool m, .bool s, .bool ds, .string ⟨cu.toArray⟩, .slice fa fs.length fc] := ((((((((((h1).setR 0 (.string ⟨v.toArray⟩)).setR 1 (.bool d)).setR 2 (.bool t)).setR 3 (.bool ch)).setR 4 (.bool dc)).setR 5 (.bool m)).setR 6 (.bool s)).setR 7 (.bool ds)).setR 8 (.string ⟨cu.toArray⟩)).setR 9 (.slice fa fs.length fc)
  (try simp only [Exit.inBlock, Exit.then])
  refine bodyPost_ret (v := ctlV v d t ch dc m s ds cu (.slice fa fs.length fc)) (by rw [rcell1 rfl]; (try unfold ctlV); go_simp) rfl ⟨_, rfl, EntsAt.below hF h2.low, h2.low⟩
theorem rChanged_any (kind : Int) (hk : i64 kind) (c : Ctl) (hv : c.value.length ≤ 1000000) (f : Value) (hbig : c.files.length * 72 ≤ 140737488355328) (va : Value) (l : List Attr) (hl : Fine l) (x : List UInt8) (w : World) (hA : AttrsAt w va l) (hF : EntsAt w f c.files) (hG : G w) (hE : GE w) :
    Calls Tryz.prog 29 #[.int .i64 kind, cV c f, va, .string ⟨x.toArray⟩] w (RetC (changeO kind c l x) w) := by
  obtain ⟨v, d, t, ch, dc, m, s, ds, cu, fs⟩ := c
  have hne : ∀ y : List UInt8, x ≠ y → (x == y) = false := fun y h => by simpa using h
  rcases kinds_c kind with rfl | rfl | h | h | rfl | h | h | rfl | h
  · rw [change_same 24 _ l x (by decide) (by rintro ⟨e, _⟩; omega) (by rintro ⟨e, _⟩; omega)]; exact rchg_24 v d t ch dc m s ds cu f fs hbig va l hl x w hA hF hG hE hv
  · rw [change_same 28 _ l x (by decide) (by rintro ⟨e, _⟩; omega) (by rintro ⟨e, _⟩; omega)]; exact rchg_28 v d t ch dc m s ds cu f fs hbig va l hl x w hA hF hG hE hv
  · by_cases e1 : x = nValue
    · have b1 : (x == nValue) = true := by simpa using e1
      cases d
      · rw [change_attr kind _ l x h e1 rfl]; exact rchg_attr kind h hk v t ch dc m s ds cu f fs hbig va l hl x b1 w hA hF hG hE hv
      · rw [change_own kind _ l x h (Or.inl e1) (by rintro ⟨_, e⟩; cases e)]; exact rchg_v kind h hk v t ch dc m s ds cu f fs hbig va l hl x b1 w hA hF hG hE hv
    · have n1 := hne _ e1
      by_cases e2 : x = nMultiple
      · rw [change_own kind _ l x h (Or.inr (Or.inl e2)) (by rintro ⟨e, _⟩; exact e1 e)]; exact rchg_mu kind h hk v d t ch dc m s ds cu f fs hbig va l hl x n1 (show (x == nMultiple) = true by simpa using e2) w hA hF hG hE hv
      have n2 := hne _ e2
      by_cases e3 : x = nMin
      · rw [change_own kind _ l x h (Or.inr (Or.inr (Or.inl e3))) (by rintro ⟨e, _⟩; exact e1 e)]; exact rchg_mi kind h hk v d t ch dc m s ds cu f fs hbig va l hl x n1 n2 (show (x == nMin) = true by simpa using e3) w hA hF hG hE hv
      have n3 := hne _ e3
      by_cases e4 : x = nMax
      · rw [change_own kind _ l x h (Or.inr (Or.inr (Or.inr (Or.inl e4)))) (by rintro ⟨e, _⟩; exact e1 e)]; exact rchg_ma kind h hk v d t ch dc m s ds cu f fs hbig va l hl x n1 n2 n3 (show (x == nMax) = true by simpa using e4) w hA hF hG hE hv
      have n4 := hne _ e4
      by_cases e5 : x = nStep
      · rw [change_own kind _ l x h (Or.inr (Or.inr (Or.inr (Or.inr e5)))) (by rintro ⟨e, _⟩; exact e1 e)]; exact rchg_st kind h hk v d t ch dc m s ds cu f fs hbig va l hl x n1 n2 n3 n4 (show (x == nStep) = true by simpa using e5) w hA hF hG hE hv
      have n5 := hne _ e5
      rw [change_non kind _ l x h (by rintro (e | e | e | e | e); exact e1 e; exact e2 e; exact e3 e; exact e4 e; exact e5 e)]
      exact rchg_non kind h v d t ch dc m s ds cu f fs hbig va l hl x n1 n2 n3 n4 n5 w hA hF hG hE hv
  · by_cases e1 : x = nChecked
    · have b1 : (x == nChecked) = true := by simpa using e1
      cases dc
      · rw [change_chk kind _ l x h e1 rfl]
        rcases h with rfl | rfl
        · exact rchg_16y v d t ch m s ds cu f fs hbig va l hl x b1 w hA hF hG hE hv
        · exact rchg_17y v d t ch m s ds cu f fs hbig va l hl x b1 w hA hF hG hE hv
      · rw [change_same kind _ l x (by omega) (by rintro ⟨_, _, e⟩; cases e) (by rintro ⟨e, _⟩; omega)]
        rcases h with rfl | rfl
        · exact rchg_16d v d t ch m s ds cu f fs hbig va l hl x b1 w hA hF hG hE hv
        · exact rchg_17d v d t ch m s ds cu f fs hbig va l hl x b1 w hA hF hG hE hv
    · rw [change_same kind _ l x (by omega) (by rintro ⟨_, e, _⟩; exact e1 e) (by rintro ⟨e, _⟩; omega)]
      rcases h with rfl | rfl
      · exact rchg_16n v d t ch dc m s ds cu f fs hbig va l hl x (hne _ e1) w hA hF hG hE hv
      · exact rchg_17n v d t ch dc m s ds cu f fs hbig va l hl x (hne _ e1) w hA hF hG hE hv
  · rw [change_same 18 _ l x (by decide) (by rintro ⟨e, _⟩; omega) (by rintro ⟨e, _⟩; omega)]; exact rchg_18 v d t ch dc m s ds cu f fs hbig va l hl x w hA hF hG hE hv
  · rw [change_same kind _ l x (by omega) (by rintro ⟨e, _⟩; omega) (by rintro ⟨e, _⟩; omega)]; exact rchg_2 kind h v d t ch dc m s ds cu f fs hbig va l hl x w hA hF hG hE hv
  · rw [change_same kind _ l x (by omega) (by rintro ⟨e, _⟩; omega) (by rintro ⟨e, _⟩; omega)]; exact rchg_0 kind (mode_0 kind (by omega)) (by omega) (by omega) (by omega) v d t ch dc m s ds cu f fs hbig va l hl x w hA hF hG hE hv
  · by_cases e1 : x = nSelected
    · have b1 : (x == nSelected) = true := by simpa using e1
      cases ds
      · rw [change_sel _ l x e1 rfl]; exact rchg_32y v d t ch dc m s cu f fs hbig va l hl x b1 w hA hF hG hE hv
      · rw [change_same 32 _ l x (by decide) (by rintro ⟨e, _⟩; omega) (by rintro ⟨_, _, e⟩; cases e)]; exact rchg_32d v d t ch dc m s cu f fs hbig va l hl x b1 w hA hF hG hE hv
    · rw [change_same 32 _ l x (by decide) (by rintro ⟨e, _⟩; omega) (by rintro ⟨_, e, _⟩; exact e1 e)]; exact rchg_32n v d t ch dc m s ds cu f fs hbig va l hl x (hne _ e1) w hA hF hG hE hv
  · rw [change_same kind _ l x (by omega) (by rintro ⟨e, _⟩; omega) (by rintro ⟨e, _⟩; omega)]; exact rchg_0 kind (mode_0 kind (by omega)) (by omega) (by omega) (by omega) v d t ch dc m s ds cu f fs hbig va l hl x w hA hF hG hE hv

end Go.Proofs.YtbhdoocajfkfiaaGreatDoor.ctl
