/- A part of the proofs: lemmas and contracts. -/
import Derived.Test.YtkhlfggnjcbniaaGreatDoorP12
set_option maxHeartbeats 12800000
set_option maxRecDepth 1000000
namespace Go.Proofs.YtkhlfggnjcbniaaGreatDoor.ctl
open Go.ChangeShapes Go.WideShapes Go.ChangeAt Go.RowKit Go.Lib num mom fits atr link stp cln
theorem value_1 (kind : Int) (h : modeP kind = 1) (v : List UInt8) (fs : List Ent) (l : List Attr) : valueP kind v fs l = v := by unfold valueP; rw [if_pos h]
theorem value_3 (kind : Int) (h : modeP kind = 3) (v : List UInt8) (fs : List Ent) (l : List Attr) : valueP kind v fs l = if attrB nValue l then attrS nValue l else onT := by
 unfold valueP; rw [if_neg (by rw [h]; decide), if_pos h]
theorem value_2 (kind : Int) (h : modeP kind = 2 ∨ kind = 25 ∨ kind = 26 ∨ kind = 27) (v : List UInt8) (fs : List Ent) (l : List Attr) : valueP kind v fs l = attrS nValue l := by
 have e : modeP kind = 2 ∨ modeP kind = 0 := by
  rcases h with h | h
  ·exact Or.inl h
  ·right; exact mode_0 kind (by omega)
 unfold valueP; rw [if_neg (by omega), if_neg (by omega), if_pos h]
theorem value_4 (v : List UInt8) (fs : List Ent) (l : List Attr) : valueP 18 v fs l = match fs with | [] => [] | f :: _ => fakeT ++ f.fname := by
 unfold valueP; rw [if_neg (by decide), if_neg (by decide), if_neg (by decide), if_pos (by decide)]
 cases fs <;> rfl
theorem value_0 (kind : Int) (_h : modeP kind = 0) (h2 : ¬ (kind = 25 ∨ kind = 26 ∨ kind = 27)) (v : List UInt8) (fs : List Ent) (l : List Attr) : valueP kind v fs l = [] := by
 unfold valueP; rw [if_neg (by omega), if_neg (by omega), if_neg (by rintro (g | g); omega; exact h2 g), if_neg (by omega)]
theorem mode_4_only (kind : Int) (h : modeP kind = 4) : kind = 18 := by
 rcases kinds_c kind with rfl | rfl | g | g | g | g | g | rfl | g
 ·rw [mode_1 24 (by decide)] at h; cases h
 ·rw [mode_1 28 (by decide)] at h; cases h
 ·rw [mode_1 kind (Or.inl g)] at h; cases h
 ·rw [mode_3 kind g] at h; cases h
 ·exact g
 ·rw [mode_2 kind g] at h; cases h
 ·rw [mode_0 kind (by omega)] at h; cases h
 ·rw [mode_0 32 (by decide)] at h; cases h
 ·rw [mode_0 kind (by omega)] at h; cases h
theorem mode_ways (kind : Int) : modeP kind = 1 ∨ modeP kind = 3 ∨ (modeP kind = 2 ∧ ¬ (kind = 25 ∨ kind = 26 ∨ kind = 27)) ∨ kind = 18 ∨ (modeP kind = 0 ∧ (kind = 25 ∨ kind = 26 ∨ kind = 27)) ∨ (modeP kind = 0 ∧ ¬ (kind = 25 ∨ kind = 26 ∨ kind = 27)) := by
 rcases kinds_c kind with rfl | rfl | g | g | g | g | g | rfl | g
 ·left; exact mode_1 24 (by decide)
 ·left; exact mode_1 28 (by decide)
 ·left; exact mode_1 kind (Or.inl g)
 ·right; left; exact mode_3 kind g
 ·right; right; right; left; exact g
 ·right; right; left; exact ⟨mode_2 kind g, by omega⟩
 ·right; right; right; right; left; exact ⟨mode_0 kind (by omega), g⟩
 ·right; right; right; right; right; exact ⟨mode_0 32 (by decide), by omega⟩
 ·right; right; right; right; right; exact ⟨mode_0 kind (by omega), by omega⟩

theorem value1 (kind : Int) (hmo : modeP kind = 1) (v : List UInt8) (d t ch dc m s ds : Bool) (cu : List UInt8) (f : Value) (hfv : IsSl f) (va : Value) (l : List Attr) (hl : Fine l) (w : World) (hA : AttrsAt w va l) :
  Calls Tryz.prog 79 #[.int .i64 kind, ctlV v d t ch dc m s ds cu f, va] w fun e w' => e = .returned (.string ⟨v.toArray⟩) ∧ Below w.heap.size w w' := by
 have ha := fun w h => attr_anyC va l nValue hl.1 w h
 have hm := fun w => mode_any kind w
 rw [hmo] at hm
 generalize attrS nValue l = y at *
 clear hmo
 obtain ⟨fa, fn, fc, rfl⟩ := hfv
 unfold ctlV
 have hB : Below w.heap.size w (w.alloc (.cells #[.string ⟨v.toArray⟩, .bool d, .bool t, .bool ch, .bool dc, .bool m, .bool s, .bool ds, .string ⟨cu.toArray⟩, .slice fa fn fc] 35)) := (Below.refl _ _).alloc (Nat.le_refl _) _
 have hK := Blk.fresh w [.string ⟨v.toArray⟩, .bool d, .bool t, .bool ch, .bool dc, .bool m, .bool s, .bool ds, .string ⟨cu.toArray⟩, .slice fa fn fc] 35
 go_enter Tryz.func79, Tryz.ntmps79
 go_wp2_with fail
 refine (ha _ (hA.below hB)).mono ?_
 rintro e w1 ⟨rfl, hb⟩
 have hk1 := hK.kept hb
 have h1 := below_trans hB hb
 clear hK hB hA hl ha
 obtain ⟨c0, c1, c2, c3, c4, c5, c6, c7, c8, c9, f0, f1, f2, f3, f4, f5, f6, f7, f8, f9⟩ := hk1.ten
 go_wp2_with fail
 refine (hm _).mono ?_
 rintro e w' ⟨rfl, rfl⟩
 go_wp2_with fail
 go_ret
 exact ⟨rfl, h1⟩
theorem value3t (kind : Int) (hmo : modeP kind = 3) (v : List UInt8) (d t ch dc m s ds : Bool) (cu : List UInt8) (f : Value) (hfv : IsSl f) (va : Value) (l : List Attr) (hl : Fine l) (hb0 : attrB nValue l = true) (w : World) (hA : AttrsAt w va l) :
  Calls Tryz.prog 79 #[.int .i64 kind, ctlV v d t ch dc m s ds cu f, va] w fun e w' => e = .returned (.string ⟨(attrS nValue l).toArray⟩) ∧ Below w.heap.size w w' := by
 have ha := fun w h => attr_anyC va l nValue hl.1 w h
 have hm := fun w => mode_any kind w
 rw [hmo] at hm
 rw [hb0] at ha
 clear hb0
 generalize attrS nValue l = y at *
 clear hmo
 obtain ⟨fa, fn, fc, rfl⟩ := hfv
 unfold ctlV
 have hB : Below w.heap.size w (w.alloc (.cells #[.string ⟨v.toArray⟩, .bool d, .bool t, .bool ch, .bool dc, .bool m, .bool s, .bool ds, .string ⟨cu.toArray⟩, .slice fa fn fc] 35)) := (Below.refl _ _).alloc (Nat.le_refl _) _
 have hK := Blk.fresh w [.string ⟨v.toArray⟩, .bool d, .bool t, .bool ch, .bool dc, .bool m, .bool s, .bool ds, .string ⟨cu.toArray⟩, .slice fa fn fc] 35
 go_enter Tryz.func79, Tryz.ntmps79
 go_wp2_with fail
 refine (ha _ (hA.below hB)).mono ?_
 rintro e w1 ⟨rfl, hb⟩
 have hk1 := hK.kept hb
 have h1 := below_trans hB hb
 clear hK hB hA hl ha
 obtain ⟨c0, c1, c2, c3, c4, c5, c6, c7, c8, c9, f0, f1, f2, f3, f4, f5, f6, f7, f8, f9⟩ := hk1.ten
 go_wp2_with fail
 refine (hm _).mono ?_
 rintro e w' ⟨rfl, rfl⟩
 go_wp2_with fail
 go_ret
 exact ⟨rfl, h1⟩
theorem value3f (kind : Int) (hmo : modeP kind = 3) (v : List UInt8) (d t ch dc m s ds : Bool) (cu : List UInt8) (f : Value) (hfv : IsSl f) (va : Value) (l : List Attr) (hl : Fine l) (hb0 : attrB nValue l = false) (w : World) (hA : AttrsAt w va l) :
  Calls Tryz.prog 79 #[.int .i64 kind, ctlV v d t ch dc m s ds cu f, va] w fun e w' => e = .returned (.string ⟨onT.toArray⟩) ∧ Below w.heap.size w w' := by
 have ha := fun w h => attr_anyC va l nValue hl.1 w h
 have hm := fun w => mode_any kind w
 rw [hmo] at hm
 rw [hb0] at ha
 clear hb0
 have hon : onT = [111, 110] := rfl
 rw [hon]
 clear hon
 generalize attrS nValue l = y at *
 clear hmo
 obtain ⟨fa, fn, fc, rfl⟩ := hfv
 unfold ctlV
 have hB : Below w.heap.size w (w.alloc (.cells #[.string ⟨v.toArray⟩, .bool d, .bool t, .bool ch, .bool dc, .bool m, .bool s, .bool ds, .string ⟨cu.toArray⟩, .slice fa fn fc] 35)) := (Below.refl _ _).alloc (Nat.le_refl _) _
 have hK := Blk.fresh w [.string ⟨v.toArray⟩, .bool d, .bool t, .bool ch, .bool dc, .bool m, .bool s, .bool ds, .string ⟨cu.toArray⟩, .slice fa fn fc] 35
 go_enter Tryz.func79, Tryz.ntmps79
 go_wp2_with fail
 refine (ha _ (hA.below hB)).mono ?_
 rintro e w1 ⟨rfl, hb⟩
 have hk1 := hK.kept hb
 have h1 := below_trans hB hb
 clear hK hB hA hl ha
 obtain ⟨c0, c1, c2, c3, c4, c5, c6, c7, c8, c9, f0, f1, f2, f3, f4, f5, f6, f7, f8, f9⟩ := hk1.ten
 go_wp2_with fail
 refine (hm _).mono ?_
 rintro e w' ⟨rfl, rfl⟩
 go_wp2_with fail
 go_ret
 exact ⟨rfl, h1⟩
theorem value2 (kind : Int) (hmo : modeP kind = 2) (v : List UInt8) (d t ch dc m s ds : Bool) (cu : List UInt8) (f : Value) (hfv : IsSl f) (va : Value) (l : List Attr) (hl : Fine l) (w : World) (hA : AttrsAt w va l) :
  Calls Tryz.prog 79 #[.int .i64 kind, ctlV v d t ch dc m s ds cu f, va] w fun e w' => e = .returned (.string ⟨(attrS nValue l).toArray⟩) ∧ Below w.heap.size w w' := by
 have ha := fun w h => attr_anyC va l nValue hl.1 w h
 have hm := fun w => mode_any kind w
 rw [hmo] at hm
 generalize attrS nValue l = y at *
 clear hmo
 obtain ⟨fa, fn, fc, rfl⟩ := hfv
 unfold ctlV
 have hB : Below w.heap.size w (w.alloc (.cells #[.string ⟨v.toArray⟩, .bool d, .bool t, .bool ch, .bool dc, .bool m, .bool s, .bool ds, .string ⟨cu.toArray⟩, .slice fa fn fc] 35)) := (Below.refl _ _).alloc (Nat.le_refl _) _
 have hK := Blk.fresh w [.string ⟨v.toArray⟩, .bool d, .bool t, .bool ch, .bool dc, .bool m, .bool s, .bool ds, .string ⟨cu.toArray⟩, .slice fa fn fc] 35
 go_enter Tryz.func79, Tryz.ntmps79
 go_wp2_with fail
 refine (ha _ (hA.below hB)).mono ?_
 rintro e w1 ⟨rfl, hb⟩
 have hk1 := hK.kept hb
 have h1 := below_trans hB hb
 clear hK hB hA hl ha
 obtain ⟨c0, c1, c2, c3, c4, c5, c6, c7, c8, c9, f0, f1, f2, f3, f4, f5, f6, f7, f8, f9⟩ := hk1.ten
 go_wp2_with fail
 refine (hm _).mono ?_
 rintro e w' ⟨rfl, rfl⟩
 go_wp2_with fail
 go_ret
 exact ⟨rfl, h1⟩
theorem valueb (kind : Int) (hmo : modeP kind = 0) (hpu : pushB kind = true) (v : List UInt8) (d t ch dc m s ds : Bool) (cu : List UInt8) (f : Value) (hfv : IsSl f) (va : Value) (l : List Attr) (hl : Fine l) (w : World) (hA : AttrsAt w va l) :
  Calls Tryz.prog 79 #[.int .i64 kind, ctlV v d t ch dc m s ds cu f, va] w fun e w' => e = .returned (.string ⟨(attrS nValue l).toArray⟩) ∧ Below w.heap.size w w' := by
 have ha := fun w h => attr_anyC va l nValue hl.1 w h
 have hm := fun w => mode_any kind w
 rw [hmo] at hm
 have hp := fun w => button_any kind w
 rw [hpu] at hp
 clear hpu
 generalize attrS nValue l = y at *
 clear hmo
 obtain ⟨fa, fn, fc, rfl⟩ := hfv
 unfold ctlV
 have hB : Below w.heap.size w (w.alloc (.cells #[.string ⟨v.toArray⟩, .bool d, .bool t, .bool ch, .bool dc, .bool m, .bool s, .bool ds, .string ⟨cu.toArray⟩, .slice fa fn fc] 35)) := (Below.refl _ _).alloc (Nat.le_refl _) _
 have hK := Blk.fresh w [.string ⟨v.toArray⟩, .bool d, .bool t, .bool ch, .bool dc, .bool m, .bool s, .bool ds, .string ⟨cu.toArray⟩, .slice fa fn fc] 35
 go_enter Tryz.func79, Tryz.ntmps79
 go_wp2_with fail
 refine (ha _ (hA.below hB)).mono ?_
 rintro e w1 ⟨rfl, hb⟩
 have hk1 := hK.kept hb
 have h1 := below_trans hB hb
 clear hK hB hA hl ha
 obtain ⟨c0, c1, c2, c3, c4, c5, c6, c7, c8, c9, f0, f1, f2, f3, f4, f5, f6, f7, f8, f9⟩ := hk1.ten
 go_wp2_with fail
 refine (hm _).mono ?_
 rintro e w' ⟨rfl, rfl⟩
 go_wp2_with fail
 refine (hp _).mono ?_
 rintro e w' ⟨rfl, rfl⟩
 go_wp2_with fail
 go_ret
 exact ⟨rfl, h1⟩
theorem value0 (kind : Int) (hmo : modeP kind = 0) (hpu : pushB kind = false) (v : List UInt8) (d t ch dc m s ds : Bool) (cu : List UInt8) (f : Value) (hfv : IsSl f) (va : Value) (l : List Attr) (hl : Fine l) (w : World) (hA : AttrsAt w va l) :
  Calls Tryz.prog 79 #[.int .i64 kind, ctlV v d t ch dc m s ds cu f, va] w fun e w' => e = .returned (.string ⟨([] : List UInt8).toArray⟩) ∧ Below w.heap.size w w' := by
 have ha := fun w h => attr_anyC va l nValue hl.1 w h
 have hm := fun w => mode_any kind w
 rw [hmo] at hm
 have hp := fun w => button_any kind w
 rw [hpu] at hp
 clear hpu
 generalize attrS nValue l = y at *
 clear hmo
 obtain ⟨fa, fn, fc, rfl⟩ := hfv
 unfold ctlV
 have hB : Below w.heap.size w (w.alloc (.cells #[.string ⟨v.toArray⟩, .bool d, .bool t, .bool ch, .bool dc, .bool m, .bool s, .bool ds, .string ⟨cu.toArray⟩, .slice fa fn fc] 35)) := (Below.refl _ _).alloc (Nat.le_refl _) _
 have hK := Blk.fresh w [.string ⟨v.toArray⟩, .bool d, .bool t, .bool ch, .bool dc, .bool m, .bool s, .bool ds, .string ⟨cu.toArray⟩, .slice fa fn fc] 35
 go_enter Tryz.func79, Tryz.ntmps79
 go_wp2_with fail
 refine (ha _ (hA.below hB)).mono ?_
 rintro e w1 ⟨rfl, hb⟩
 have hk1 := hK.kept hb
 have h1 := below_trans hB hb
 clear hK hB hA hl ha
 obtain ⟨c0, c1, c2, c3, c4, c5, c6, c7, c8, c9, f0, f1, f2, f3, f4, f5, f6, f7, f8, f9⟩ := hk1.ten
 go_wp2_with fail
 refine (hm _).mono ?_
 rintro e w' ⟨rfl, rfl⟩
 go_wp2_with fail
 refine (hp _).mono ?_
 rintro e w' ⟨rfl, rfl⟩
 go_wp2_with fail
 go_ret
 exact ⟨rfl, h1⟩
theorem value4n (v : List UInt8) (d t ch dc m s ds : Bool) (cu : List UInt8) (f : Value) (_hfv : IsSl f) (va : Value) (l : List Attr) (hl : Fine l) (oa : Option Addr) (cap : Nat) (hf : f = .slice oa 0 cap) (w : World) (hA : AttrsAt w va l) :
  Calls Tryz.prog 79 #[.int .i64 18, ctlV v d t ch dc m s ds cu f, va] w fun e w' => e = .returned (.string ⟨([] : List UInt8).toArray⟩) ∧ Below w.heap.size w w' := by
 have ha := fun w h => attr_anyC va l nValue hl.1 w h
 have hm := fun w => mode_any 18 w
 rw [mode_4] at hm
 have hp := fun w => button_any 18 w
 rw [push_no 18 (by decide)] at hp
 generalize attrS nValue l = y at *
 subst hf
 unfold ctlV
 have hB : Below w.heap.size w (w.alloc (.cells #[.string ⟨v.toArray⟩, .bool d, .bool t, .bool ch, .bool dc, .bool m, .bool s, .bool ds, .string ⟨cu.toArray⟩, .slice oa 0 cap] 35)) := (Below.refl _ _).alloc (Nat.le_refl _) _
 have hK := Blk.fresh w [.string ⟨v.toArray⟩, .bool d, .bool t, .bool ch, .bool dc, .bool m, .bool s, .bool ds, .string ⟨cu.toArray⟩, .slice oa 0 cap] 35
 go_enter Tryz.func79, Tryz.ntmps79
 go_wp2_with fail
 refine (ha _ (hA.below hB)).mono ?_
 rintro e w1 ⟨rfl, hb⟩
 have hk1 := hK.kept hb
 have h1 := below_trans hB hb
 clear hK hB hA hl ha
 obtain ⟨c0, c1, c2, c3, c4, c5, c6, c7, c8, c9, f0, f1, f2, f3, f4, f5, f6, f7, f8, f9⟩ := hk1.ten
 go_wp2_with fail
 refine (hm _).mono ?_
 rintro e w' ⟨rfl, rfl⟩
 go_wp2_with fail
 refine (hp _).mono ?_
 rintro e w' ⟨rfl, rfl⟩
 go_wp2_with fail
 go_ret
 exact ⟨rfl, h1⟩
theorem value4f (v : List UInt8) (d t ch dc m s ds : Bool) (cu : List UInt8) (f : Value) (_hfv : IsSl f) (va : Value) (l : List Attr) (hl : Fine l) (x : List UInt8) (_hx : x.length ≤ 1000000000000000) (b off n cap : Nat) (_hn : 0 < n) (hf : f = .slice (some ⟨b, off, none⟩) n cap) (w : World) (hbl : ∀ w', Below w.heap.size w w' → w'.cell? ⟨b, off + 3, none⟩ = some (.string ⟨x.toArray⟩)) (hA : AttrsAt w va l) :
  Calls Tryz.prog 79 #[.int .i64 18, ctlV v d t ch dc m s ds cu f, va] w fun e w' => e = .returned (.string ⟨(fakeT ++ x).toArray⟩) ∧ Below w.heap.size w w' := by
 have ha := fun w h => attr_anyC va l nValue hl.1 w h
 have hm := fun w => mode_any 18 w
 rw [mode_4] at hm
 have hp := fun w => button_any 18 w
 rw [push_no 18 (by decide)] at hp
 have hfk : fakeT = [67, 58, 92, 102, 97, 107, 101, 112, 97, 116, 104, 92] := rfl
 rw [hfk]
 clear hfk
 generalize attrS nValue l = y at *
 subst hf
 unfold ctlV
 have hB : Below w.heap.size w (w.alloc (.cells #[.string ⟨v.toArray⟩, .bool d, .bool t, .bool ch, .bool dc, .bool m, .bool s, .bool ds, .string ⟨cu.toArray⟩, .slice (some ⟨b, off, none⟩) n cap] 35)) := (Below.refl _ _).alloc (Nat.le_refl _) _
 have hK := Blk.fresh w [.string ⟨v.toArray⟩, .bool d, .bool t, .bool ch, .bool dc, .bool m, .bool s, .bool ds, .string ⟨cu.toArray⟩, .slice (some ⟨b, off, none⟩) n cap] 35
 go_enter Tryz.func79, Tryz.ntmps79
 go_wp2_with fail
 refine (ha _ (hA.below hB)).mono ?_
 rintro e w1 ⟨rfl, hb⟩
 have hk1 := hK.kept hb
 have h1 := below_trans hB hb
 clear hK hB hA hl ha
 obtain ⟨c0, c1, c2, c3, c4, c5, c6, c7, c8, c9, f0, f1, f2, f3, f4, f5, f6, f7, f8, f9⟩ := hk1.ten
 have hc3 := hbl _ h1
 clear hbl
 go_wp2_with fail
 refine (hm _).mono ?_
 rintro e w' ⟨rfl, rfl⟩
 go_wp2_with fail
 refine (hp _).mono ?_
 rintro e w' ⟨rfl, rfl⟩
 go_wp2_with fail
 skip
 go_ret
 exact ⟨rfl, h1⟩
theorem Value_any (kind : Int) (v : List UInt8) (d t ch dc m s ds : Bool) (cu : List UInt8) (f : Value) (_hfv : IsSl f) (va : Value) (l : List Attr) (hl : Fine l) (fs : List Ent) (hfs : ∀ x ∈ fs, x.fname.length ≤ 1000000000000000) (w : World) (hA : AttrsAt w va l) (hF : EntsAt w f fs) :
  Calls Tryz.prog 79 #[.int .i64 kind, ctlV v d t ch dc m s ds cu f, va] w fun e w' => e = .returned (.string ⟨(valueP kind v fs l).toArray⟩) ∧ Below w.heap.size w w' := by
 rcases mode_ways kind with h | h | ⟨h, _⟩ | rfl | ⟨h, g⟩ | ⟨h, g⟩
 ·rw [value_1 kind h]; exact value1 kind h v d t ch dc m s ds cu f hF.isSl va l hl w hA
 ·rw [value_3 kind h]
  cases hb : attrB nValue l
  ·rw [if_neg (by decide)]; exact value3f kind h v d t ch dc m s ds cu f hF.isSl va l hl hb w hA
  ·rw [if_pos rfl]; exact value3t kind h v d t ch dc m s ds cu f hF.isSl va l hl hb w hA
 ·rw [value_2 kind (Or.inl h)]; exact value2 kind h v d t ch dc m s ds cu f hF.isSl va l hl w hA
 ·rw [value_4]
  rcases hF with ⟨h0, hx, oa, cap, rfl⟩ | ⟨b, off, cap, rfl, h0, hb, hc⟩
  ·have : fs = [] := List.length_eq_zero_iff.1 h0
   subst this
   exact value4n v d t ch dc m s ds cu _ ⟨_, _, _, rfl⟩ va l hl oa cap rfl w hA
  ·cases fs with
   | nil => exact absurd h0 (Nat.not_lt_zero _)
   | cons x r =>
    have c3 := hc 3 _ rfl
    exact value4f v d t ch dc m s ds cu _ ⟨_, _, _, rfl⟩ va l hl x.fname (hfs x List.mem_cons_self) b off _ cap h0 rfl w (fun w' hbw => (hbw.cell (p := ⟨b, off + 3, none⟩) hb).trans c3) hA
 ·rw [value_2 kind (Or.inr g)]; exact valueb kind h (push_yes kind g) v d t ch dc m s ds cu f hF.isSl va l hl w hA
 ·rw [value_0 kind h g]; exact value0 kind h (push_no kind g) v d t ch dc m s ds cu f hF.isSl va l hl w hA

end Go.Proofs.YtkhlfggnjcbniaaGreatDoor.ctl
