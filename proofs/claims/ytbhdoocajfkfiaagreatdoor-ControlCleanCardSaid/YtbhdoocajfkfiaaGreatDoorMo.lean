/- The contracts of Value: the program's, the reference's. The contracts of start, Start: the program's. The contracts of start at any kind, of Start: the program's, the reference's. How long a cleaned value is: plain. -/
import Derived.Test.YtbhdoocajfkfiaaGreatDoorMn
import Derived.Test.YtbhdoocajfkfiaaGreatDoorMl
import Derived.Test.YtbhdoocajfkfiaaGreatDoorMd
import Derived.Test.YtbhdoocajfkfiaaGreatDoorMj
namespace Go.Proofs.YtbhdoocajfkfiaaGreatDoor.ctl
open Go.ChangeShapes Go.WideShapes Go.ChangeAt Go.RowKit Go.Lib Go.Proofs.YtbhdoocajfkfiaaGreatDoor.num Go.Proofs.YtbhdoocajfkfiaaGreatDoor.mom Go.Proofs.YtbhdoocajfkfiaaGreatDoor.fits Go.Proofs.YtbhdoocajfkfiaaGreatDoor.atr Go.Proofs.YtbhdoocajfkfiaaGreatDoor.link Go.Proofs.YtbhdoocajfkfiaaGreatDoor.stp Go.Proofs.YtbhdoocajfkfiaaGreatDoor.cln

theorem vret_s {a b : List UInt8} (h : a = b) : Ending.returned (.string ⟨a.toArray⟩) = .returned (.string ⟨b.toArray⟩) := by rw [h]
theorem value_1 (kind : Int) (h : modeP kind = 1) (v : List UInt8) (fs : List Ent) (l : List Attr) : valueP kind v fs l = v := by unfold valueP; rw [if_pos h]
theorem value_3 (kind : Int) (h : modeP kind = 3) (v : List UInt8) (fs : List Ent) (l : List Attr) : valueP kind v fs l = if attrB nValue l then attrS nValue l else onT := by
  unfold valueP; rw [if_neg (by rw [h]; decide), if_pos h]
theorem value_2 (kind : Int) (h : modeP kind = 2 ∨ kind = 25 ∨ kind = 26 ∨ kind = 27) (v : List UInt8) (fs : List Ent) (l : List Attr) : valueP kind v fs l = attrS nValue l := by
  have e : modeP kind = 2 ∨ modeP kind = 0 := by
    rcases h with h | h
    · exact Or.inl h
    · right; exact mode_0 kind (by omega)
  unfold valueP; rw [if_neg (by omega), if_neg (by omega), if_pos h]
theorem value_4 (v : List UInt8) (fs : List Ent) (l : List Attr) : valueP 18 v fs l = match fs with | [] => [] | f :: _ => fakeT ++ f.fname := by
  unfold valueP; rw [if_neg (by decide), if_neg (by decide), if_neg (by decide), if_pos (by decide)]
  cases fs <;> rfl
theorem value_0 (kind : Int) (_h : modeP kind = 0) (h2 : ¬ (kind = 25 ∨ kind = 26 ∨ kind = 27)) (v : List UInt8) (fs : List Ent) (l : List Attr) : valueP kind v fs l = [] := by
  unfold valueP; rw [if_neg (by omega), if_neg (by omega), if_neg (by rintro (g | g); omega; exact h2 g), if_neg (by omega)]
theorem mode_4_only (kind : Int) (h : modeP kind = 4) : kind = 18 := by
  rcases kinds_c kind with rfl | rfl | g | g | g | g | g | rfl | g
  · rw [mode_1 24 (by decide)] at h; cases h
  · rw [mode_1 28 (by decide)] at h; cases h
  · rw [mode_1 kind (Or.inl g)] at h; cases h
  · rw [mode_3 kind g] at h; cases h
  · exact g
  · rw [mode_2 kind g] at h; cases h
  · rw [mode_0 kind (by omega)] at h; cases h
  · rw [mode_0 32 (by decide)] at h; cases h
  · rw [mode_0 kind (by omega)] at h; cases h
theorem mode_ways (kind : Int) : modeP kind = 1 ∨ modeP kind = 3 ∨ (modeP kind = 2 ∧ ¬ (kind = 25 ∨ kind = 26 ∨ kind = 27)) ∨ kind = 18 ∨ (modeP kind = 0 ∧ (kind = 25 ∨ kind = 26 ∨ kind = 27)) ∨ (modeP kind = 0 ∧ ¬ (kind = 25 ∨ kind = 26 ∨ kind = 27)) := by
  rcases kinds_c kind with rfl | rfl | g | g | g | g | g | rfl | g
  · left; exact mode_1 24 (by decide)
  · left; exact mode_1 28 (by decide)
  · left; exact mode_1 kind (Or.inl g)
  · right; left; exact mode_3 kind g
  · right; right; right; left; exact g
  · right; right; left; exact ⟨mode_2 kind g, by omega⟩
  · right; right; right; right; left; exact ⟨mode_0 kind (by omega), g⟩
  · right; right; right; right; right; exact ⟨mode_0 32 (by decide), by omega⟩
  · right; right; right; right; right; exact ⟨mode_0 kind (by omega), by omega⟩

set_option maxHeartbeats 3200000 in
set_option maxRecDepth 100000 in
theorem value1 (kind : Int) (hmo : modeP kind = 1) (v : List UInt8) (d t ch dc m s ds : Bool) (cu : List UInt8) (f : Value) (hfv : IsSl f) (va : Value) (l : List Attr) (hl : Fine l) (w : World) (hA : AttrsAt w va l) :
    Calls Tryz.prog 20 #[.int .i64 kind, ctlV v d t ch dc m s ds cu f, va] w fun e w' => e = .returned (.string ⟨v.toArray⟩) ∧ Below w.heap.size w w' := by
  have ha := fun w h => attr_anyC va l nValue hl.1 w h
  have hm := fun w => mode_any kind w
  rw [hmo] at hm
  generalize attrS nValue l = y at *
  clear hmo
  obtain ⟨fa, fn, fc, rfl⟩ := hfv
  unfold ctlV
  have hB : Below w.heap.size w (w.alloc (.cells #[.string ⟨v.toArray⟩, .bool d, .bool t, .bool ch, .bool dc, .bool m, .bool s, .bool ds, .string ⟨cu.toArray⟩, .slice fa fn fc] 24)) := (Below.refl _ _).alloc (Nat.le_refl _) _
  have hK := Blk.fresh w [.string ⟨v.toArray⟩, .bool d, .bool t, .bool ch, .bool dc, .bool m, .bool s, .bool ds, .string ⟨cu.toArray⟩, .slice fa fn fc] 24
  go_enter Tryz.func20, Tryz.ntmps20
  go_wp2_with fail
  refine (ha _ (hA.below hB)).mono ?_
  rintro e w1 ⟨rfl, hb⟩
  have hk1 := hK.kept hb
  have h1 := below_trans hB hb
  clear hK hB hA hl ha
  obtain ⟨c0, c1, c2, c3, c4, c5, c6, c7, c8, c9, f0, f1, f2, f3, f4, f5, f6, f7, f8, f9⟩ := hk1.ten
  go_wp2_with fail
  refine (hm _).mono ?_
  rintro e w' ⟨rfl, rfl⟩
  go_wp2_with fail
  go_ret
  exact ⟨rfl, h1⟩
set_option maxHeartbeats 3200000 in
set_option maxRecDepth 100000 in
theorem value3t (kind : Int) (hmo : modeP kind = 3) (v : List UInt8) (d t ch dc m s ds : Bool) (cu : List UInt8) (f : Value) (hfv : IsSl f) (va : Value) (l : List Attr) (hl : Fine l) (hb0 : attrB nValue l = true) (w : World) (hA : AttrsAt w va l) :
    Calls Tryz.prog 20 #[.int .i64 kind, ctlV v d t ch dc m s ds cu f, va] w fun e w' => e = .returned (.string ⟨(attrS nValue l).toArray⟩) ∧ Below w.heap.size w w' := by
  have ha := fun w h => attr_anyC va l nValue hl.1 w h
  have hm := fun w => mode_any kind w
  rw [hmo] at hm
  rw [hb0] at ha
  clear hb0
  generalize attrS nValue l = y at *
  clear hmo
  obtain ⟨fa, fn, fc, rfl⟩ := hfv
  unfold ctlV
  have hB : Below w.heap.size w (w.alloc (.cells #[.string ⟨v.toArray⟩, .bool d, .bool t, .bool ch, .bool dc, .bool m, .bool s, .bool ds, .string ⟨cu.toArray⟩, .slice fa fn fc] 24)) := (Below.refl _ _).alloc (Nat.le_refl _) _
  have hK := Blk.fresh w [.string ⟨v.toArray⟩, .bool d, .bool t, .bool ch, .bool dc, .bool m, .bool s, .bool ds, .string ⟨cu.toArray⟩, .slice fa fn fc] 24
  go_enter Tryz.func20, Tryz.ntmps20
  go_wp2_with fail
  refine (ha _ (hA.below hB)).mono ?_
  rintro e w1 ⟨rfl, hb⟩
  have hk1 := hK.kept hb
  have h1 := below_trans hB hb
  clear hK hB hA hl ha
  obtain ⟨c0, c1, c2, c3, c4, c5, c6, c7, c8, c9, f0, f1, f2, f3, f4, f5, f6, f7, f8, f9⟩ := hk1.ten
  go_wp2_with fail
  refine (hm _).mono ?_
  rintro e w' ⟨rfl, rfl⟩
  go_wp2_with fail
  go_ret
  exact ⟨rfl, h1⟩
set_option maxHeartbeats 3200000 in
set_option maxRecDepth 100000 in
theorem value3f (kind : Int) (hmo : modeP kind = 3) (v : List UInt8) (d t ch dc m s ds : Bool) (cu : List UInt8) (f : Value) (hfv : IsSl f) (va : Value) (l : List Attr) (hl : Fine l) (hb0 : attrB nValue l = false) (w : World) (hA : AttrsAt w va l) :
    Calls Tryz.prog 20 #[.int .i64 kind, ctlV v d t ch dc m s ds cu f, va] w fun e w' => e = .returned (.string ⟨onT.toArray⟩) ∧ Below w.heap.size w w' := by
  have ha := fun w h => attr_anyC va l nValue hl.1 w h
  have hm := fun w => mode_any kind w
  rw [hmo] at hm
  rw [hb0] at ha
  clear hb0
  have hon : onT = [111, 110] := rfl
  rw [hon]
  clear hon
  generalize attrS nValue l = y at *
  clear hmo
  obtain ⟨fa, fn, fc, rfl⟩ := hfv
  unfold ctlV
  have hB : Below w.heap.size w (w.alloc (.cells #[.string ⟨v.toArray⟩, .bool d, .bool t, .bool ch, .bool dc, .bool m, .bool s, .bool ds, .string ⟨cu.toArray⟩, .slice fa fn fc] 24)) := (Below.refl _ _).alloc (Nat.le_refl _) _
  have hK := Blk.fresh w [.string ⟨v.toArray⟩, .bool d, .bool t, .bool ch, .bool dc, .bool m, .bool s, .bool ds, .string ⟨cu.toArray⟩, .slice fa fn fc] 24
  go_enter Tryz.func20, Tryz.ntmps20
  go_wp2_with fail
  refine (ha _ (hA.below hB)).mono ?_
  rintro e w1 ⟨rfl, hb⟩
  have hk1 := hK.kept hb
  have h1 := below_trans hB hb
  clear hK hB hA hl ha
  obtain ⟨c0, c1, c2, c3, c4, c5, c6, c7, c8, c9, f0, f1, f2, f3, f4, f5, f6, f7, f8, f9⟩ := hk1.ten
  go_wp2_with fail
  refine (hm _).mono ?_
  rintro e w' ⟨rfl, rfl⟩
  go_wp2_with fail
  go_ret
  exact ⟨rfl, h1⟩
set_option maxHeartbeats 3200000 in
set_option maxRecDepth 100000 in
theorem value2 (kind : Int) (hmo : modeP kind = 2) (v : List UInt8) (d t ch dc m s ds : Bool) (cu : List UInt8) (f : Value) (hfv : IsSl f) (va : Value) (l : List Attr) (hl : Fine l) (w : World) (hA : AttrsAt w va l) :
    Calls Tryz.prog 20 #[.int .i64 kind, ctlV v d t ch dc m s ds cu f, va] w fun e w' => e = .returned (.string ⟨(attrS nValue l).toArray⟩) ∧ Below w.heap.size w w' := by
  have ha := fun w h => attr_anyC va l nValue hl.1 w h
  have hm := fun w => mode_any kind w
  rw [hmo] at hm
  generalize attrS nValue l = y at *
  clear hmo
  obtain ⟨fa, fn, fc, rfl⟩ := hfv
  unfold ctlV
  have hB : Below w.heap.size w (w.alloc (.cells #[.string ⟨v.toArray⟩, .bool d, .bool t, .bool ch, .bool dc, .bool m, .bool s, .bool ds, .string ⟨cu.toArray⟩, .slice fa fn fc] 24)) := (Below.refl _ _).alloc (Nat.le_refl _) _
  have hK := Blk.fresh w [.string ⟨v.toArray⟩, .bool d, .bool t, .bool ch, .bool dc, .bool m, .bool s, .bool ds, .string ⟨cu.toArray⟩, .slice fa fn fc] 24
  go_enter Tryz.func20, Tryz.ntmps20
  go_wp2_with fail
  refine (ha _ (hA.below hB)).mono ?_
  rintro e w1 ⟨rfl, hb⟩
  have hk1 := hK.kept hb
  have h1 := below_trans hB hb
  clear hK hB hA hl ha
  obtain ⟨c0, c1, c2, c3, c4, c5, c6, c7, c8, c9, f0, f1, f2, f3, f4, f5, f6, f7, f8, f9⟩ := hk1.ten
  go_wp2_with fail
  refine (hm _).mono ?_
  rintro e w' ⟨rfl, rfl⟩
  go_wp2_with fail
  go_ret
  exact ⟨rfl, h1⟩
set_option maxHeartbeats 3200000 in
set_option maxRecDepth 100000 in
theorem valueb (kind : Int) (hmo : modeP kind = 0) (hpu : pushB kind = true) (v : List UInt8) (d t ch dc m s ds : Bool) (cu : List UInt8) (f : Value) (hfv : IsSl f) (va : Value) (l : List Attr) (hl : Fine l) (w : World) (hA : AttrsAt w va l) :
    Calls Tryz.prog 20 #[.int .i64 kind, ctlV v d t ch dc m s ds cu f, va] w fun e w' => e = .returned (.string ⟨(attrS nValue l).toArray⟩) ∧ Below w.heap.size w w' := by
  have ha := fun w h => attr_anyC va l nValue hl.1 w h
  have hm := fun w => mode_any kind w
  rw [hmo] at hm
  have hp := fun w => button_any kind w
  rw [hpu] at hp
  clear hpu
  generalize attrS nValue l = y at *
  clear hmo
  obtain ⟨fa, fn, fc, rfl⟩ := hfv
  unfold ctlV
  have hB : Below w.heap.size w (w.alloc (.cells #[.string ⟨v.toArray⟩, .bool d, .bool t, .bool ch, .bool dc, .bool m, .bool s, .bool ds, .string ⟨cu.toArray⟩, .slice fa fn fc] 24)) := (Below.refl _ _).alloc (Nat.le_refl _) _
  have hK := Blk.fresh w [.string ⟨v.toArray⟩, .bool d, .bool t, .bool ch, .bool dc, .bool m, .bool s, .bool ds, .string ⟨cu.toArray⟩, .slice fa fn fc] 24
  go_enter Tryz.func20, Tryz.ntmps20
  go_wp2_with fail
  refine (ha _ (hA.below hB)).mono ?_
  rintro e w1 ⟨rfl, hb⟩
  have hk1 := hK.kept hb
  have h1 := below_trans hB hb
  clear hK hB hA hl ha
  obtain ⟨c0, c1, c2, c3, c4, c5, c6, c7, c8, c9, f0, f1, f2, f3, f4, f5, f6, f7, f8, f9⟩ := hk1.ten
  go_wp2_with fail
  refine (hm _).mono ?_
  rintro e w' ⟨rfl, rfl⟩
  go_wp2_with fail
  refine (hp _).mono ?_
  rintro e w' ⟨rfl, rfl⟩
  go_wp2_with fail
  go_ret
  exact ⟨rfl, h1⟩
set_option maxHeartbeats 3200000 in
set_option maxRecDepth 100000 in
theorem value0 (kind : Int) (hmo : modeP kind = 0) (hpu : pushB kind = false) (v : List UInt8) (d t ch dc m s ds : Bool) (cu : List UInt8) (f : Value) (hfv : IsSl f) (va : Value) (l : List Attr) (hl : Fine l) (w : World) (hA : AttrsAt w va l) :
    Calls Tryz.prog 20 #[.int .i64 kind, ctlV v d t ch dc m s ds cu f, va] w fun e w' => e = .returned (.string ⟨([] : List UInt8).toArray⟩) ∧ Below w.heap.size w w' := by
  have ha := fun w h => attr_anyC va l nValue hl.1 w h
  have hm := fun w => mode_any kind w
  rw [hmo] at hm
  have hp := fun w => button_any kind w
  rw [hpu] at hp
  clear hpu
  generalize attrS nValue l = y at *
  clear hmo
  obtain ⟨fa, fn, fc, rfl⟩ := hfv
  unfold ctlV
  have hB : Below w.heap.size w (w.alloc (.cells #[.string ⟨v.toArray⟩, .bool d, .bool t, .bool ch, .bool dc, .bool m, .bool s, .bool ds, .string ⟨cu.toArray⟩, .slice fa fn fc] 24)) := (Below.refl _ _).alloc (Nat.le_refl _) _
  have hK := Blk.fresh w [.string ⟨v.toArray⟩, .bool d, .bool t, .bool ch, .bool dc, .bool m, .bool s, .bool ds, .string ⟨cu.toArray⟩, .slice fa fn fc] 24
  go_enter Tryz.func20, Tryz.ntmps20
  go_wp2_with fail
  refine (ha _ (hA.below hB)).mono ?_
  rintro e w1 ⟨rfl, hb⟩
  have hk1 := hK.kept hb
  have h1 := below_trans hB hb
  clear hK hB hA hl ha
  obtain ⟨c0, c1, c2, c3, c4, c5, c6, c7, c8, c9, f0, f1, f2, f3, f4, f5, f6, f7, f8, f9⟩ := hk1.ten
  go_wp2_with fail
  refine (hm _).mono ?_
  rintro e w' ⟨rfl, rfl⟩
  go_wp2_with fail
  refine (hp _).mono ?_
  rintro e w' ⟨rfl, rfl⟩
  go_wp2_with fail
  go_ret
  exact ⟨rfl, h1⟩
set_option maxHeartbeats 3200000 in
set_option maxRecDepth 100000 in
theorem value4n (v : List UInt8) (d t ch dc m s ds : Bool) (cu : List UInt8) (f : Value) (_hfv : IsSl f) (va : Value) (l : List Attr) (hl : Fine l) (oa : Option Addr) (cap : Nat) (hf : f = .slice oa 0 cap) (w : World) (hA : AttrsAt w va l) :
    Calls Tryz.prog 20 #[.int .i64 18, ctlV v d t ch dc m s ds cu f, va] w fun e w' => e = .returned (.string ⟨([] : List UInt8).toArray⟩) ∧ Below w.heap.size w w' := by
  have ha := fun w h => attr_anyC va l nValue hl.1 w h
  have hm := fun w => mode_any 18 w
  rw [mode_4] at hm
  have hp := fun w => button_any 18 w
  rw [push_no 18 (by decide)] at hp
  generalize attrS nValue l = y at *
  subst hf
  unfold ctlV
  have hB : Below w.heap.size w (w.alloc (.cells #[.string ⟨v.toArray⟩, .bool d, .bool t, .bool ch, .bool dc, .bool m, .bool s, .bool ds, .string ⟨cu.toArray⟩, .slice oa 0 cap] 24)) := (Below.refl _ _).alloc (Nat.le_refl _) _
  have hK := Blk.fresh w [.string ⟨v.toArray⟩, .bool d, .bool t, .bool ch, .bool dc, .bool m, .bool s, .bool ds, .string ⟨cu.toArray⟩, .slice oa 0 cap] 24
  go_enter Tryz.func20, Tryz.ntmps20
  go_wp2_with fail
  refine (ha _ (hA.below hB)).mono ?_
  rintro e w1 ⟨rfl, hb⟩
  have hk1 := hK.kept hb
  have h1 := below_trans hB hb
  clear hK hB hA hl ha
  obtain ⟨c0, c1, c2, c3, c4, c5, c6, c7, c8, c9, f0, f1, f2, f3, f4, f5, f6, f7, f8, f9⟩ := hk1.ten
  go_wp2_with fail
  refine (hm _).mono ?_
  rintro e w' ⟨rfl, rfl⟩
  go_wp2_with fail
  refine (hp _).mono ?_
  rintro e w' ⟨rfl, rfl⟩
  go_wp2_with fail
  go_ret
  exact ⟨rfl, h1⟩
set_option maxHeartbeats 3200000 in
set_option maxRecDepth 100000 in
theorem value4f (v : List UInt8) (d t ch dc m s ds : Bool) (cu : List UInt8) (f : Value) (_hfv : IsSl f) (va : Value) (l : List Attr) (hl : Fine l) (x : List UInt8) (_hx : x.length ≤ 1000000000000000) (b off n cap : Nat) (_hn : 0 < n) (hf : f = .slice (some ⟨b, off, none⟩) n cap) (w : World) (hbl : ∀ w', Below w.heap.size w w' → w'.cell? ⟨b, off + 3, none⟩ = some (.string ⟨x.toArray⟩)) (hA : AttrsAt w va l) :
    Calls Tryz.prog 20 #[.int .i64 18, ctlV v d t ch dc m s ds cu f, va] w fun e w' => e = .returned (.string ⟨(fakeT ++ x).toArray⟩) ∧ Below w.heap.size w w' := by
  have ha := fun w h => attr_anyC va l nValue hl.1 w h
  have hm := fun w => mode_any 18 w
  rw [mode_4] at hm
  have hp := fun w => button_any 18 w
  rw [push_no 18 (by decide)] at hp
  have hfk : fakeT = [67, 58, 92, 102, 97, 107, 101, 112, 97, 116, 104, 92] := rfl
  rw [hfk]
  clear hfk
  generalize attrS nValue l = y at *
  subst hf
  unfold ctlV
  have hB : Below w.heap.size w (w.alloc (.cells #[.string ⟨v.toArray⟩, .bool d, .bool t, .bool ch, .bool dc, .bool m, .bool s, .bool ds, .string ⟨cu.toArray⟩, .slice (some ⟨b, off, none⟩) n cap] 24)) := (Below.refl _ _).alloc (Nat.le_refl _) _
  have hK := Blk.fresh w [.string ⟨v.toArray⟩, .bool d, .bool t, .bool ch, .bool dc, .bool m, .bool s, .bool ds, .string ⟨cu.toArray⟩, .slice (some ⟨b, off, none⟩) n cap] 24
  go_enter Tryz.func20, Tryz.ntmps20
  go_wp2_with fail
  refine (ha _ (hA.below hB)).mono ?_
  rintro e w1 ⟨rfl, hb⟩
  have hk1 := hK.kept hb
  have h1 := below_trans hB hb
  clear hK hB hA hl ha
  obtain ⟨c0, c1, c2, c3, c4, c5, c6, c7, c8, c9, f0, f1, f2, f3, f4, f5, f6, f7, f8, f9⟩ := hk1.ten
  have hc3 := hbl _ h1
  clear hbl
  go_wp2_with fail
  refine (hm _).mono ?_
  rintro e w' ⟨rfl, rfl⟩
  go_wp2_with fail
  refine (hp _).mono ?_
  rintro e w' ⟨rfl, rfl⟩
  go_wp2_with fail
  skip
  go_ret
  exact ⟨rfl, h1⟩
theorem Value_any (kind : Int) (v : List UInt8) (d t ch dc m s ds : Bool) (cu : List UInt8) (f : Value) (_hfv : IsSl f) (va : Value) (l : List Attr) (hl : Fine l) (fs : List Ent) (hfs : ∀ x ∈ fs, x.fname.length ≤ 1000000000000000) (w : World) (hA : AttrsAt w va l) (hF : EntsAt w f fs) :
    Calls Tryz.prog 20 #[.int .i64 kind, ctlV v d t ch dc m s ds cu f, va] w fun e w' => e = .returned (.string ⟨(valueP kind v fs l).toArray⟩) ∧ Below w.heap.size w w' := by
  rcases mode_ways kind with h | h | ⟨h, _⟩ | rfl | ⟨h, g⟩ | ⟨h, g⟩
  · rw [value_1 kind h]; exact value1 kind h v d t ch dc m s ds cu f hF.isSl va l hl w hA
  · rw [value_3 kind h]
    cases hb : attrB nValue l
    · rw [if_neg (by decide)]; exact value3f kind h v d t ch dc m s ds cu f hF.isSl va l hl hb w hA
    · rw [if_pos rfl]; exact value3t kind h v d t ch dc m s ds cu f hF.isSl va l hl hb w hA
  · rw [value_2 kind (Or.inl h)]; exact value2 kind h v d t ch dc m s ds cu f hF.isSl va l hl w hA
  · rw [value_4]
    rcases hF with ⟨h0, hx, oa, cap, rfl⟩ | ⟨b, off, cap, rfl, h0, hb, hc⟩
    · have : fs = [] := List.length_eq_zero_iff.1 h0
      subst this
      exact value4n v d t ch dc m s ds cu _ ⟨_, _, _, rfl⟩ va l hl oa cap rfl w hA
    · cases fs with
      | nil => exact absurd h0 (Nat.not_lt_zero _)
      | cons x r =>
        have c3 := hc 3 _ rfl
        exact value4f v d t ch dc m s ds cu _ ⟨_, _, _, rfl⟩ va l hl x.fname (hfs x List.mem_cons_self) b off _ cap h0 rfl w (fun w' hbw => (hbw.cell (p := ⟨b, off + 3, none⟩) hb).trans c3) hA
  · rw [value_2 kind (Or.inr g)]; exact valueb kind h (push_yes kind g) v d t ch dc m s ds cu f hF.isSl va l hl w hA
  · rw [value_0 kind h g]; exact value0 kind h (push_no kind g) v d t ch dc m s ds cu f hF.isSl va l hl w hA

set_option maxHeartbeats 3200000 in
set_option maxRecDepth 100000 in
theorem rvalue1 (kind : Int) (hmo : modeP kind = 1) (v : List UInt8) (d t ch dc m s ds : Bool) (cu : List UInt8) (f : Value) (hfv : IsSl f) (va : Value) (l : List Attr) (hl : Fine l) (w : World) (hA : AttrsAt w va l) :
    Calls Tryz.prog 21 #[.int .i64 kind, ctlV v d t ch dc m s ds cu f, va] w fun e w' => e = .returned (.string ⟨v.toArray⟩) ∧ Below w.heap.size w w' := by
  have ha := fun w h => rattr14_any va l nValue hl.1 w h
  have hm := fun w => rmode_any kind w
  rw [hmo] at hm
  generalize attrS nValue l = y at *
  clear hmo
  obtain ⟨fa, fn, fc, rfl⟩ := hfv
  unfold ctlV
  have hB : Below w.heap.size w (w.alloc (.cells #[.string ⟨v.toArray⟩, .bool d, .bool t, .bool ch, .bool dc, .bool m, .bool s, .bool ds, .string ⟨cu.toArray⟩, .slice fa fn fc] 24)) := (Below.refl _ _).alloc (Nat.le_refl _) _
  have hK := Blk.fresh w [.string ⟨v.toArray⟩, .bool d, .bool t, .bool ch, .bool dc, .bool m, .bool s, .bool ds, .string ⟨cu.toArray⟩, .slice fa fn fc] 24
  go_enter Tryz.func21, Tryz.ntmps21
  go_wp2_with fail
  refine (ha _ (hA.below hB)).mono ?_
  rintro e w1 ⟨rfl, hw1⟩
  have hb : Below w1.heap.size w1 w1 := Below.refl _ _
  have hk1 : Blk w1 w.heap.size [.string ⟨v.toArray⟩, .bool d, .bool t, .bool ch, .bool dc, .bool m, .bool s, .bool ds, .string ⟨cu.toArray⟩, .slice fa fn fc] := by rw [← hw1]; exact hK
  have h1 : Below w.heap.size w w1 := by rw [← hw1]; exact hB
  clear hw1 hK hB hA hl ha
  obtain ⟨c0, c1, c2, c3, c4, c5, c6, c7, c8, c9, f0, f1, f2, f3, f4, f5, f6, f7, f8, f9⟩ := hk1.ten
  go_wp2_with fail
  refine (hm _).mono ?_
  rintro e w' ⟨rfl, rfl⟩
  go_wp2_with fail
  go_ret
  exact ⟨rfl, h1⟩
set_option maxHeartbeats 3200000 in
set_option maxRecDepth 100000 in
theorem rvalue3t (kind : Int) (hmo : modeP kind = 3) (v : List UInt8) (d t ch dc m s ds : Bool) (cu : List UInt8) (f : Value) (hfv : IsSl f) (va : Value) (l : List Attr) (hl : Fine l) (hb0 : attrB nValue l = true) (w : World) (hA : AttrsAt w va l) :
    Calls Tryz.prog 21 #[.int .i64 kind, ctlV v d t ch dc m s ds cu f, va] w fun e w' => e = .returned (.string ⟨(attrS nValue l).toArray⟩) ∧ Below w.heap.size w w' := by
  have ha := fun w h => rattr14_any va l nValue hl.1 w h
  have hm := fun w => rmode_any kind w
  rw [hmo] at hm
  rw [hb0] at ha
  clear hb0
  generalize attrS nValue l = y at *
  clear hmo
  obtain ⟨fa, fn, fc, rfl⟩ := hfv
  unfold ctlV
  have hB : Below w.heap.size w (w.alloc (.cells #[.string ⟨v.toArray⟩, .bool d, .bool t, .bool ch, .bool dc, .bool m, .bool s, .bool ds, .string ⟨cu.toArray⟩, .slice fa fn fc] 24)) := (Below.refl _ _).alloc (Nat.le_refl _) _
  have hK := Blk.fresh w [.string ⟨v.toArray⟩, .bool d, .bool t, .bool ch, .bool dc, .bool m, .bool s, .bool ds, .string ⟨cu.toArray⟩, .slice fa fn fc] 24
  go_enter Tryz.func21, Tryz.ntmps21
  go_wp2_with fail
  refine (ha _ (hA.below hB)).mono ?_
  rintro e w1 ⟨rfl, hw1⟩
  have hb : Below w1.heap.size w1 w1 := Below.refl _ _
  have hk1 : Blk w1 w.heap.size [.string ⟨v.toArray⟩, .bool d, .bool t, .bool ch, .bool dc, .bool m, .bool s, .bool ds, .string ⟨cu.toArray⟩, .slice fa fn fc] := by rw [← hw1]; exact hK
  have h1 : Below w.heap.size w w1 := by rw [← hw1]; exact hB
  clear hw1 hK hB hA hl ha
  obtain ⟨c0, c1, c2, c3, c4, c5, c6, c7, c8, c9, f0, f1, f2, f3, f4, f5, f6, f7, f8, f9⟩ := hk1.ten
  go_wp2_with fail
  refine (hm _).mono ?_
  rintro e w' ⟨rfl, rfl⟩
  go_wp2_with fail
  go_ret
  exact ⟨rfl, h1⟩
set_option maxHeartbeats 3200000 in
set_option maxRecDepth 100000 in
theorem rvalue3f (kind : Int) (hmo : modeP kind = 3) (v : List UInt8) (d t ch dc m s ds : Bool) (cu : List UInt8) (f : Value) (hfv : IsSl f) (va : Value) (l : List Attr) (hl : Fine l) (hb0 : attrB nValue l = false) (w : World) (hA : AttrsAt w va l) :
    Calls Tryz.prog 21 #[.int .i64 kind, ctlV v d t ch dc m s ds cu f, va] w fun e w' => e = .returned (.string ⟨onT.toArray⟩) ∧ Below w.heap.size w w' := by
  have ha := fun w h => rattr14_any va l nValue hl.1 w h
  have hm := fun w => rmode_any kind w
  rw [hmo] at hm
  rw [hb0] at ha
  clear hb0
  have hon : onT = [111, 110] := rfl
  rw [hon]
  clear hon
  generalize attrS nValue l = y at *
  clear hmo
  obtain ⟨fa, fn, fc, rfl⟩ := hfv
  unfold ctlV
  have hB : Below w.heap.size w (w.alloc (.cells #[.string ⟨v.toArray⟩, .bool d, .bool t, .bool ch, .bool dc, .bool m, .bool s, .bool ds, .string ⟨cu.toArray⟩, .slice fa fn fc] 24)) := (Below.refl _ _).alloc (Nat.le_refl _) _
  have hK := Blk.fresh w [.string ⟨v.toArray⟩, .bool d, .bool t, .bool ch, .bool dc, .bool m, .bool s, .bool ds, .string ⟨cu.toArray⟩, .slice fa fn fc] 24
  go_enter Tryz.func21, Tryz.ntmps21
  go_wp2_with fail
  refine (ha _ (hA.below hB)).mono ?_
  rintro e w1 ⟨rfl, hw1⟩
  have hb : Below w1.heap.size w1 w1 := Below.refl _ _
  have hk1 : Blk w1 w.heap.size [.string ⟨v.toArray⟩, .bool d, .bool t, .bool ch, .bool dc, .bool m, .bool s, .bool ds, .string ⟨cu.toArray⟩, .slice fa fn fc] := by rw [← hw1]; exact hK
  have h1 : Below w.heap.size w w1 := by rw [← hw1]; exact hB
  clear hw1 hK hB hA hl ha
  obtain ⟨c0, c1, c2, c3, c4, c5, c6, c7, c8, c9, f0, f1, f2, f3, f4, f5, f6, f7, f8, f9⟩ := hk1.ten
  go_wp2_with fail
  refine (hm _).mono ?_
  rintro e w' ⟨rfl, rfl⟩
  go_wp2_with fail
  go_ret
  exact ⟨rfl, h1⟩
set_option maxHeartbeats 3200000 in
set_option maxRecDepth 100000 in
theorem rvalue2 (kind : Int) (hmo : modeP kind = 2) (v : List UInt8) (d t ch dc m s ds : Bool) (cu : List UInt8) (f : Value) (hfv : IsSl f) (va : Value) (l : List Attr) (hl : Fine l) (w : World) (hA : AttrsAt w va l) :
    Calls Tryz.prog 21 #[.int .i64 kind, ctlV v d t ch dc m s ds cu f, va] w fun e w' => e = .returned (.string ⟨(attrS nValue l).toArray⟩) ∧ Below w.heap.size w w' := by
  have ha := fun w h => rattr14_any va l nValue hl.1 w h
  have hm := fun w => rmode_any kind w
  rw [hmo] at hm
  generalize attrS nValue l = y at *
  clear hmo
  obtain ⟨fa, fn, fc, rfl⟩ := hfv
  unfold ctlV
  have hB : Below w.heap.size w (w.alloc (.cells #[.string ⟨v.toArray⟩, .bool d, .bool t, .bool ch, .bool dc, .bool m, .bool s, .bool ds, .string ⟨cu.toArray⟩, .slice fa fn fc] 24)) := (Below.refl _ _).alloc (Nat.le_refl _) _
  have hK := Blk.fresh w [.string ⟨v.toArray⟩, .bool d, .bool t, .bool ch, .bool dc, .bool m, .bool s, .bool ds, .string ⟨cu.toArray⟩, .slice fa fn fc] 24
  go_enter Tryz.func21, Tryz.ntmps21
  go_wp2_with fail
  refine (ha _ (hA.below hB)).mono ?_
  rintro e w1 ⟨rfl, hw1⟩
  have hb : Below w1.heap.size w1 w1 := Below.refl _ _
  have hk1 : Blk w1 w.heap.size [.string ⟨v.toArray⟩, .bool d, .bool t, .bool ch, .bool dc, .bool m, .bool s, .bool ds, .string ⟨cu.toArray⟩, .slice fa fn fc] := by rw [← hw1]; exact hK
  have h1 : Below w.heap.size w w1 := by rw [← hw1]; exact hB
  clear hw1 hK hB hA hl ha
  obtain ⟨c0, c1, c2, c3, c4, c5, c6, c7, c8, c9, f0, f1, f2, f3, f4, f5, f6, f7, f8, f9⟩ := hk1.ten
  go_wp2_with fail
  refine (hm _).mono ?_
  rintro e w' ⟨rfl, rfl⟩
  go_wp2_with fail
  go_ret
  exact ⟨rfl, h1⟩
set_option maxHeartbeats 3200000 in
set_option maxRecDepth 100000 in
theorem rvalueb (kind : Int) (hmo : modeP kind = 0) (hpu : pushB kind = true) (v : List UInt8) (d t ch dc m s ds : Bool) (cu : List UInt8) (f : Value) (hfv : IsSl f) (va : Value) (l : List Attr) (hl : Fine l) (w : World) (hA : AttrsAt w va l) :
    Calls Tryz.prog 21 #[.int .i64 kind, ctlV v d t ch dc m s ds cu f, va] w fun e w' => e = .returned (.string ⟨(attrS nValue l).toArray⟩) ∧ Below w.heap.size w w' := by
  have ha := fun w h => rattr14_any va l nValue hl.1 w h
  have hm := fun w => rmode_any kind w
  rw [hmo] at hm
  have hp := fun w => pushes_any kind w
  rw [hpu] at hp
  clear hpu
  generalize attrS nValue l = y at *
  clear hmo
  obtain ⟨fa, fn, fc, rfl⟩ := hfv
  unfold ctlV
  have hB : Below w.heap.size w (w.alloc (.cells #[.string ⟨v.toArray⟩, .bool d, .bool t, .bool ch, .bool dc, .bool m, .bool s, .bool ds, .string ⟨cu.toArray⟩, .slice fa fn fc] 24)) := (Below.refl _ _).alloc (Nat.le_refl _) _
  have hK := Blk.fresh w [.string ⟨v.toArray⟩, .bool d, .bool t, .bool ch, .bool dc, .bool m, .bool s, .bool ds, .string ⟨cu.toArray⟩, .slice fa fn fc] 24
  go_enter Tryz.func21, Tryz.ntmps21
  go_wp2_with fail
  refine (ha _ (hA.below hB)).mono ?_
  rintro e w1 ⟨rfl, hw1⟩
  have hb : Below w1.heap.size w1 w1 := Below.refl _ _
  have hk1 : Blk w1 w.heap.size [.string ⟨v.toArray⟩, .bool d, .bool t, .bool ch, .bool dc, .bool m, .bool s, .bool ds, .string ⟨cu.toArray⟩, .slice fa fn fc] := by rw [← hw1]; exact hK
  have h1 : Below w.heap.size w w1 := by rw [← hw1]; exact hB
  clear hw1 hK hB hA hl ha
  obtain ⟨c0, c1, c2, c3, c4, c5, c6, c7, c8, c9, f0, f1, f2, f3, f4, f5, f6, f7, f8, f9⟩ := hk1.ten
  go_wp2_with fail
  refine (hm _).mono ?_
  rintro e w' ⟨rfl, rfl⟩
  go_wp2_with fail
  refine (hp _).mono ?_
  rintro e w' ⟨rfl, rfl⟩
  go_wp2_with fail
  go_ret
  exact ⟨rfl, h1⟩
set_option maxHeartbeats 3200000 in
set_option maxRecDepth 100000 in
theorem rvalue0 (kind : Int) (hmo : modeP kind = 0) (hpu : pushB kind = false) (v : List UInt8) (d t ch dc m s ds : Bool) (cu : List UInt8) (f : Value) (hfv : IsSl f) (va : Value) (l : List Attr) (hl : Fine l) (w : World) (hA : AttrsAt w va l) :
    Calls Tryz.prog 21 #[.int .i64 kind, ctlV v d t ch dc m s ds cu f, va] w fun e w' => e = .returned (.string ⟨([] : List UInt8).toArray⟩) ∧ Below w.heap.size w w' := by
  have ha := fun w h => rattr14_any va l nValue hl.1 w h
  have hm := fun w => rmode_any kind w
  rw [hmo] at hm
  have hp := fun w => pushes_any kind w
  rw [hpu] at hp
  clear hpu
  generalize attrS nValue l = y at *
  clear hmo
  obtain ⟨fa, fn, fc, rfl⟩ := hfv
  unfold ctlV
  have hB : Below w.heap.size w (w.alloc (.cells #[.string ⟨v.toArray⟩, .bool d, .bool t, .bool ch, .bool dc, .bool m, .bool s, .bool ds, .string ⟨cu.toArray⟩, .slice fa fn fc] 24)) := (Below.refl _ _).alloc (Nat.le_refl _) _
  have hK := Blk.fresh w [.string ⟨v.toArray⟩, .bool d, .bool t, .bool ch, .bool dc, .bool m, .bool s, .bool ds, .string ⟨cu.toArray⟩, .slice fa fn fc] 24
  go_enter Tryz.func21, Tryz.ntmps21
  go_wp2_with fail
  refine (ha _ (hA.below hB)).mono ?_
  rintro e w1 ⟨rfl, hw1⟩
  have hb : Below w1.heap.size w1 w1 := Below.refl _ _
  have hk1 : Blk w1 w.heap.size [.string ⟨v.toArray⟩, .bool d, .bool t, .bool ch, .bool dc, .bool m, .bool s, .bool ds, .string ⟨cu.toArray⟩, .slice fa fn fc] := by rw [← hw1]; exact hK
  have h1 : Below w.heap.size w w1 := by rw [← hw1]; exact hB
  clear hw1 hK hB hA hl ha
  obtain ⟨c0, c1, c2, c3, c4, c5, c6, c7, c8, c9, f0, f1, f2, f3, f4, f5, f6, f7, f8, f9⟩ := hk1.ten
  go_wp2_with fail
  refine (hm _).mono ?_
  rintro e w' ⟨rfl, rfl⟩
  go_wp2_with fail
  refine (hp _).mono ?_
  rintro e w' ⟨rfl, rfl⟩
  go_wp2_with fail
  go_ret
  exact ⟨rfl, h1⟩
set_option maxHeartbeats 3200000 in
set_option maxRecDepth 100000 in
theorem rvalue4n (v : List UInt8) (d t ch dc m s ds : Bool) (cu : List UInt8) (f : Value) (_hfv : IsSl f) (va : Value) (l : List Attr) (hl : Fine l) (oa : Option Addr) (cap : Nat) (hf : f = .slice oa 0 cap) (w : World) (hA : AttrsAt w va l) :
    Calls Tryz.prog 21 #[.int .i64 18, ctlV v d t ch dc m s ds cu f, va] w fun e w' => e = .returned (.string ⟨([] : List UInt8).toArray⟩) ∧ Below w.heap.size w w' := by
  have ha := fun w h => rattr14_any va l nValue hl.1 w h
  have hm := fun w => rmode_any 18 w
  rw [mode_4] at hm
  generalize attrS nValue l = y at *
  subst hf
  unfold ctlV
  have hB : Below w.heap.size w (w.alloc (.cells #[.string ⟨v.toArray⟩, .bool d, .bool t, .bool ch, .bool dc, .bool m, .bool s, .bool ds, .string ⟨cu.toArray⟩, .slice oa 0 cap] 24)) := (Below.refl _ _).alloc (Nat.le_refl _) _
  have hK := Blk.fresh w [.string ⟨v.toArray⟩, .bool d, .bool t, .bool ch, .bool dc, .bool m, .bool s, .bool ds, .string ⟨cu.toArray⟩, .slice oa 0 cap] 24
  go_enter Tryz.func21, Tryz.ntmps21
  go_wp2_with fail
  refine (ha _ (hA.below hB)).mono ?_
  rintro e w1 ⟨rfl, hw1⟩
  have hb : Below w1.heap.size w1 w1 := Below.refl _ _
  have hk1 : Blk w1 w.heap.size [.string ⟨v.toArray⟩, .bool d, .bool t, .bool ch, .bool dc, .bool m, .bool s, .bool ds, .string ⟨cu.toArray⟩, .slice oa 0 cap] := by rw [← hw1]; exact hK
  have h1 : Below w.heap.size w w1 := by rw [← hw1]; exact hB
  clear hw1 hK hB hA hl ha
  obtain ⟨c0, c1, c2, c3, c4, c5, c6, c7, c8, c9, f0, f1, f2, f3, f4, f5, f6, f7, f8, f9⟩ := hk1.ten
  go_wp2_with fail
  refine (hm _).mono ?_
  rintro e w' ⟨rfl, rfl⟩
  go_wp2_with fail
  go_ret
  exact ⟨rfl, h1⟩
set_option maxHeartbeats 3200000 in
set_option maxRecDepth 100000 in
theorem rvalue4f (v : List UInt8) (d t ch dc m s ds : Bool) (cu : List UInt8) (f : Value) (_hfv : IsSl f) (va : Value) (l : List Attr) (hl : Fine l) (x : List UInt8) (_hx : x.length ≤ 1000000000000000) (b off n cap : Nat) (_hn : 0 < n) (hf : f = .slice (some ⟨b, off, none⟩) n cap) (w : World) (hbl : ∀ w', Below w.heap.size w w' → w'.cell? ⟨b, off + 3, none⟩ = some (.string ⟨x.toArray⟩)) (hA : AttrsAt w va l) :
    Calls Tryz.prog 21 #[.int .i64 18, ctlV v d t ch dc m s ds cu f, va] w fun e w' => e = .returned (.string ⟨(fakeT ++ x).toArray⟩) ∧ Below w.heap.size w w' := by
  have ha := fun w h => rattr14_any va l nValue hl.1 w h
  have hm := fun w => rmode_any 18 w
  rw [mode_4] at hm
  have hfk : fakeT = [67, 58, 92, 102, 97, 107, 101, 112, 97, 116, 104, 92] := rfl
  rw [hfk]
  clear hfk
  generalize attrS nValue l = y at *
  subst hf
  unfold ctlV
  have hB : Below w.heap.size w (w.alloc (.cells #[.string ⟨v.toArray⟩, .bool d, .bool t, .bool ch, .bool dc, .bool m, .bool s, .bool ds, .string ⟨cu.toArray⟩, .slice (some ⟨b, off, none⟩) n cap] 24)) := (Below.refl _ _).alloc (Nat.le_refl _) _
  have hK := Blk.fresh w [.string ⟨v.toArray⟩, .bool d, .bool t, .bool ch, .bool dc, .bool m, .bool s, .bool ds, .string ⟨cu.toArray⟩, .slice (some ⟨b, off, none⟩) n cap] 24
  go_enter Tryz.func21, Tryz.ntmps21
  go_wp2_with fail
  refine (ha _ (hA.below hB)).mono ?_
  rintro e w1 ⟨rfl, hw1⟩
  have hb : Below w1.heap.size w1 w1 := Below.refl _ _
  have hk1 : Blk w1 w.heap.size [.string ⟨v.toArray⟩, .bool d, .bool t, .bool ch, .bool dc, .bool m, .bool s, .bool ds, .string ⟨cu.toArray⟩, .slice (some ⟨b, off, none⟩) n cap] := by rw [← hw1]; exact hK
  have h1 : Below w.heap.size w w1 := by rw [← hw1]; exact hB
  clear hw1 hK hB hA hl ha
  obtain ⟨c0, c1, c2, c3, c4, c5, c6, c7, c8, c9, f0, f1, f2, f3, f4, f5, f6, f7, f8, f9⟩ := hk1.ten
  have hc3 := hbl _ h1
  clear hbl
  go_wp2_with fail
  refine (hm _).mono ?_
  rintro e w' ⟨rfl, rfl⟩
  go_wp2_with fail
  skip
  go_ret
  exact ⟨rfl, h1⟩
theorem rValue_any (kind : Int) (v : List UInt8) (d t ch dc m s ds : Bool) (cu : List UInt8) (f : Value) (_hfv : IsSl f) (va : Value) (l : List Attr) (hl : Fine l) (fs : List Ent) (hfs : ∀ x ∈ fs, x.fname.length ≤ 1000000000000000) (w : World) (hA : AttrsAt w va l) (hF : EntsAt w f fs) :
    Calls Tryz.prog 21 #[.int .i64 kind, ctlV v d t ch dc m s ds cu f, va] w fun e w' => e = .returned (.string ⟨(valueP kind v fs l).toArray⟩) ∧ Below w.heap.size w w' := by
  rcases mode_ways kind with h | h | ⟨h, _⟩ | rfl | ⟨h, g⟩ | ⟨h, g⟩
  · rw [value_1 kind h]; exact rvalue1 kind h v d t ch dc m s ds cu f hF.isSl va l hl w hA
  · rw [value_3 kind h]
    cases hb : attrB nValue l
    · rw [if_neg (by decide)]; exact rvalue3f kind h v d t ch dc m s ds cu f hF.isSl va l hl hb w hA
    · rw [if_pos rfl]; exact rvalue3t kind h v d t ch dc m s ds cu f hF.isSl va l hl hb w hA
  · rw [value_2 kind (Or.inl h)]; exact rvalue2 kind h v d t ch dc m s ds cu f hF.isSl va l hl w hA
  · rw [value_4]
    rcases hF with ⟨h0, hx, oa, cap, rfl⟩ | ⟨b, off, cap, rfl, h0, hb, hc⟩
    · have : fs = [] := List.length_eq_zero_iff.1 h0
      subst this
      exact rvalue4n v d t ch dc m s ds cu _ ⟨_, _, _, rfl⟩ va l hl oa cap rfl w hA
    · cases fs with
      | nil => exact absurd h0 (Nat.not_lt_zero _)
      | cons x r =>
        have c3 := hc 3 _ rfl
        exact rvalue4f v d t ch dc m s ds cu _ ⟨_, _, _, rfl⟩ va l hl x.fname (hfs x List.mem_cons_self) b off _ cap h0 rfl w (fun w' hbw => (hbw.cell (p := ⟨b, off + 3, none⟩) hb).trans c3) hA
  · rw [value_2 kind (Or.inr g)]; exact rvalueb kind h (push_yes kind g) v d t ch dc m s ds cu f hF.isSl va l hl w hA
  · rw [value_0 kind h g]; exact rvalue0 kind h (push_no kind g) v d t ch dc m s ds cu f hF.isSl va l hl w hA

end Go.Proofs.YtbhdoocajfkfiaaGreatDoor.ctl

namespace Go.Proofs.YtbhdoocajfkfiaaGreatDoor.ctl
open Go.ChangeShapes Go.WideShapes Go.ChangeAt Go.RowKit Go.Lib Go.Proofs.YtbhdoocajfkfiaaGreatDoor.num Go.Proofs.YtbhdoocajfkfiaaGreatDoor.mom Go.Proofs.YtbhdoocajfkfiaaGreatDoor.fits Go.Proofs.YtbhdoocajfkfiaaGreatDoor.atr Go.Proofs.YtbhdoocajfkfiaaGreatDoor.link Go.Proofs.YtbhdoocajfkfiaaGreatDoor.stp Go.Proofs.YtbhdoocajfkfiaaGreatDoor.cln

theorem startV_28 (l : List Attr) (x : List UInt8) : startV 28 l x = x := by unfold startV; rw [if_pos rfl]
theorem startV_24 (l : List Attr) (x : List UInt8) : startV 24 l x = linesS x := by unfold startV; rw [if_neg (by decide), if_pos rfl]
theorem startV_1 (kind : Int) (h : 2 ≤ kind ∧ kind ≤ 15) (l : List Attr) (x : List UInt8) : startV kind l x = cleanV kind l (attrS nValue l) := by
  unfold startV; rw [if_neg (by omega), if_neg (by omega), if_pos (mode_1 kind (Or.inl h))]
theorem startV_no (kind : Int) (h1 : kind ≠ 28) (h2 : kind ≠ 24) (h3 : modeP kind ≠ 1) (l : List Attr) (x : List UInt8) : startV kind l x = [] := by
  unfold startV; rw [if_neg h1, if_neg h2, if_neg h3]
theorem startC_3 (kind : Int) (h : modeP kind = 3) (l : List Attr) : startC kind l = attrB nChecked l := by unfold startC; rw [if_pos h]
theorem startC_no (kind : Int) (h : modeP kind ≠ 3) (l : List Attr) : startC kind l = false := by unfold startC; rw [if_neg h]
theorem startS_32 (l : List Attr) : startS 32 l = attrB nSelected l := by unfold startS; rw [if_pos rfl]
theorem startS_no (kind : Int) (h : kind ≠ 32) (l : List Attr) : startS kind l = false := by unfold startS; rw [if_neg h]

set_option maxHeartbeats 3200000 in
set_option maxRecDepth 100000 in
theorem start_val (kind : Int) (h : 2 ≤ kind ∧ kind ≤ 15)(v : List UInt8) (d t ch dc m s ds : Bool) (cu : List UInt8) (f : Value) (hfv : IsSl f) (va : Value) (l : List Attr) (hl : Fine l) (x : List UInt8) (w : World) (hA : AttrsAt w va l) (hG : G w) (hE : GE w) :
    Calls Tryz.prog 60 #[.int .i64 kind, ctlV v d t ch dc m s ds cu f, va, .string ⟨x.toArray⟩] w fun e w' => e = .returned (ctlV (cleanV kind l (attrS nValue l)) d t false dc m false ds cu f) ∧ Below w.heap.size w w' := by
  have ha := fun w h => attr_anyC va l nValue hl.1 w h
  have hlen := fval_len nValue l hl
  have hm := fun w => mode_any kind w
  rw [mode_1 kind (Or.inl h)] at hm
  have hc := fun w h g k => cleaned_any kind va l hl (attrS nValue l) hlen w h g k
  rw [cleaned_no kind (by omega)] at hc
  have t24 : (kind == 24) = false := by simp; omega
  have t28 : (kind == 28) = false := by simp; omega
  have t32 : (kind == 32) = false := by simp; omega
  generalize cleanV kind l (attrS nValue l) = y at *
  generalize attrS nValue l = y0 at *
  generalize attrB nValue l = b0 at *
  clear h hl hlen
  obtain ⟨fa, fn, fc, rfl⟩ := hfv
  unfold ctlV
  go_enter Tryz.func60, Tryz.ntmps60
  go_wp2_with fail
  have h0 := Two.start w [.string ⟨v.toArray⟩, .bool d, .bool t, .bool ch, .bool dc, .bool m, .bool s, .bool ds, .string ⟨cu.toArray⟩, .slice fa fn fc] [.string ⟨#[]⟩, .bool false, .bool false, .bool false, .bool false, .bool false, .bool false, .bool false, .string ⟨#[]⟩, .slice none 0 0] 24 24
  refine (ha _ (hA.below h0.low)).mono ?_
  rintro e w1 ⟨rfl, hb1⟩
  have h1 : Two w _ [.string ⟨v.toArray⟩, .bool d, .bool t, .bool ch, .bool dc, .bool m, .bool s, .bool ds, .string ⟨cu.toArray⟩, .slice fa fn fc] [.string ⟨#[]⟩, .bool false, .bool false, .bool false, .bool false, .bool false, .bool false, .bool false, .string ⟨#[]⟩, .slice none 0 0] := h0.below hb1
  obtain ⟨c0, c1, c2, c3, c4, c5, c6, c7, c8, c9, f0, f1, f2, f3, f4, f5, f6, f7, f8, f9, d0, d1, d2, d3, d4, d5, d6, d7, d8, d9, g0, g1, g2, g3, g4, g5, g6, g7, g8, g9⟩ := h1.facts
  go_wp2_with fail
  refine (hm _).mono ?_
  rintro e w' ⟨rfl, rfl⟩
  go_wp2_with fail
  have h2 : Two w _ [.string ⟨#[]⟩, .bool d, .bool t, .bool false, .bool dc, .bool m, .bool false, .bool ds, .string ⟨cu.toArray⟩, .slice fa fn fc] [.string ⟨#[]⟩, .bool false, .bool false, .bool false, .bool false, .bool false, .bool false, .bool false, .string ⟨#[]⟩, .slice none 0 0] := (((h1).setP 0 (.string ⟨#[]⟩)).setP 3 (.bool false)).setP 6 (.bool false)
  refine (hc _ (hA.below h2.low) (hG.below h2.low) (hE.below h2.low)).mono ?_
  rintro e w3 ⟨rfl, hb3⟩
  have h3 : Two w _ [.string ⟨#[]⟩, .bool d, .bool t, .bool false, .bool dc, .bool m, .bool false, .bool ds, .string ⟨cu.toArray⟩, .slice fa fn fc] [.string ⟨#[]⟩, .bool false, .bool false, .bool false, .bool false, .bool false, .bool false, .bool false, .string ⟨#[]⟩, .slice none 0 0] := h2.below hb3
  clear c0 c1 c2 c3 c4 c5 c6 c7 c8 c9 f0 f1 f2 f3 f4 f5 f6 f7 f8 f9 d0 d1 d2 d3 d4 d5 d6 d7 d8 d9 g0 g1 g2 g3 g4 g5 g6 g7 g8 g9
  obtain ⟨c0, c1, c2, c3, c4, c5, c6, c7, c8, c9, f0, f1, f2, f3, f4, f5, f6, f7, f8, f9, d0, d1, d2, d3, d4, d5, d6, d7, d8, d9, g0, g1, g2, g3, g4, g5, g6, g7, g8, g9⟩ := h3.facts
  go_wp2_with fail
  (try simp only [Exit.inBlock, Exit.then])
  refine bodyPost_ret (v := ctlV y d t false dc m false ds cu (.slice fa fn fc)) (by rw [rcell1 rfl]; unfold ctlV; go_simp) rfl ⟨rfl, ?_⟩
  repeat refine Below.setCell ?_ (by first | exact Nat.le_refl _ | exact Nat.le_succ _) _
  exact h3.low
set_option maxHeartbeats 3200000 in
set_option maxRecDepth 100000 in
theorem start_24 (v : List UInt8) (d t ch dc m s ds : Bool) (cu : List UInt8) (f : Value) (hfv : IsSl f) (va : Value) (l : List Attr) (hl : Fine l) (x : List UInt8) (hx : x.length ≤ 1000000) (w : World) (hA : AttrsAt w va l) (hG : G w) (hE : GE w) :
    Calls Tryz.prog 60 #[.int .i64 24, ctlV v d t ch dc m s ds cu f, va, .string ⟨x.toArray⟩] w fun e w' => e = .returned (ctlV (linesS x) d t false dc m false ds cu f) ∧ Below w.heap.size w w' := by
  have ha := fun w h => attr_anyC va l nValue hl.1 w h
  have hm := fun w => mode_any 24 w
  rw [mode_1 24 (by decide)] at hm
  have hc := fun w h g k => cleaned_any 24 va l hl x hx w h g k
  rw [cleaned_24] at hc
  generalize linesS x = y at *
  generalize attrS nValue l = y0 at *
  generalize attrB nValue l = b0 at *
  clear hl hx
  obtain ⟨fa, fn, fc, rfl⟩ := hfv
  unfold ctlV
  go_enter Tryz.func60, Tryz.ntmps60
  go_wp2_with fail
  have h0 := Two.start w [.string ⟨v.toArray⟩, .bool d, .bool t, .bool ch, .bool dc, .bool m, .bool s, .bool ds, .string ⟨cu.toArray⟩, .slice fa fn fc] [.string ⟨#[]⟩, .bool false, .bool false, .bool false, .bool false, .bool false, .bool false, .bool false, .string ⟨#[]⟩, .slice none 0 0] 24 24
  refine (ha _ (hA.below h0.low)).mono ?_
  rintro e w1 ⟨rfl, hb1⟩
  have h1 : Two w _ [.string ⟨v.toArray⟩, .bool d, .bool t, .bool ch, .bool dc, .bool m, .bool s, .bool ds, .string ⟨cu.toArray⟩, .slice fa fn fc] [.string ⟨#[]⟩, .bool false, .bool false, .bool false, .bool false, .bool false, .bool false, .bool false, .string ⟨#[]⟩, .slice none 0 0] := h0.below hb1
  obtain ⟨c0, c1, c2, c3, c4, c5, c6, c7, c8, c9, f0, f1, f2, f3, f4, f5, f6, f7, f8, f9, d0, d1, d2, d3, d4, d5, d6, d7, d8, d9, g0, g1, g2, g3, g4, g5, g6, g7, g8, g9⟩ := h1.facts
  go_wp2_with fail
  refine (hm _).mono ?_
  rintro e w' ⟨rfl, rfl⟩
  go_wp2_with fail
  have h2 : Two w _ [.string ⟨#[]⟩, .bool d, .bool t, .bool false, .bool dc, .bool m, .bool false, .bool ds, .string ⟨cu.toArray⟩, .slice fa fn fc] [.string ⟨#[]⟩, .bool false, .bool false, .bool false, .bool false, .bool false, .bool false, .bool false, .string ⟨#[]⟩, .slice none 0 0] := (((h1).setP 0 (.string ⟨#[]⟩)).setP 3 (.bool false)).setP 6 (.bool false)
  refine (hc _ (hA.below h2.low) (hG.below h2.low) (hE.below h2.low)).mono ?_
  rintro e w3 ⟨rfl, hb3⟩
  have h3 : Two w _ [.string ⟨#[]⟩, .bool d, .bool t, .bool false, .bool dc, .bool m, .bool false, .bool ds, .string ⟨cu.toArray⟩, .slice fa fn fc] [.string ⟨#[]⟩, .bool false, .bool false, .bool false, .bool false, .bool false, .bool false, .bool false, .string ⟨#[]⟩, .slice none 0 0] := h2.below hb3
  clear c0 c1 c2 c3 c4 c5 c6 c7 c8 c9 f0 f1 f2 f3 f4 f5 f6 f7 f8 f9 d0 d1 d2 d3 d4 d5 d6 d7 d8 d9 g0 g1 g2 g3 g4 g5 g6 g7 g8 g9
  obtain ⟨c0, c1, c2, c3, c4, c5, c6, c7, c8, c9, f0, f1, f2, f3, f4, f5, f6, f7, f8, f9, d0, d1, d2, d3, d4, d5, d6, d7, d8, d9, g0, g1, g2, g3, g4, g5, g6, g7, g8, g9⟩ := h3.facts
  go_wp2_with fail
  (try simp only [Exit.inBlock, Exit.then])
  refine bodyPost_ret (v := ctlV y d t false dc m false ds cu (.slice fa fn fc)) (by rw [rcell1 rfl]; unfold ctlV; go_simp) rfl ⟨rfl, ?_⟩
  repeat refine Below.setCell ?_ (by first | exact Nat.le_refl _ | exact Nat.le_succ _) _
  exact h3.low
set_option maxHeartbeats 3200000 in
set_option maxRecDepth 100000 in
theorem start_28 (v : List UInt8) (d t ch dc m s ds : Bool) (cu : List UInt8) (f : Value) (hfv : IsSl f) (va : Value) (l : List Attr) (hl : Fine l) (x : List UInt8) (hx : x.length ≤ 1000000) (w : World) (hA : AttrsAt w va l) (hG : G w) (hE : GE w) :
    Calls Tryz.prog 60 #[.int .i64 28, ctlV v d t ch dc m s ds cu f, va, .string ⟨x.toArray⟩] w fun e w' => e = .returned (ctlV x d t false dc m false ds cu f) ∧ Below w.heap.size w w' := by
  have ha := fun w h => attr_anyC va l nValue hl.1 w h
  have hm := fun w => mode_any 28 w
  rw [mode_1 28 (by decide)] at hm
  have hc := fun w h g k => cleaned_any 28 va l hl x hx w h g k
  rw [cleaned_no 28 (by decide), cleanV_no 28 l x (by omega)] at hc
  generalize attrS nValue l = y0 at *
  generalize attrB nValue l = b0 at *
  clear hl hx
  obtain ⟨fa, fn, fc, rfl⟩ := hfv
  unfold ctlV
  go_enter Tryz.func60, Tryz.ntmps60
  go_wp2_with fail
  have h0 := Two.start w [.string ⟨v.toArray⟩, .bool d, .bool t, .bool ch, .bool dc, .bool m, .bool s, .bool ds, .string ⟨cu.toArray⟩, .slice fa fn fc] [.string ⟨#[]⟩, .bool false, .bool false, .bool false, .bool false, .bool false, .bool false, .bool false, .string ⟨#[]⟩, .slice none 0 0] 24 24
  refine (ha _ (hA.below h0.low)).mono ?_
  rintro e w1 ⟨rfl, hb1⟩
  have h1 : Two w _ [.string ⟨v.toArray⟩, .bool d, .bool t, .bool ch, .bool dc, .bool m, .bool s, .bool ds, .string ⟨cu.toArray⟩, .slice fa fn fc] [.string ⟨#[]⟩, .bool false, .bool false, .bool false, .bool false, .bool false, .bool false, .bool false, .string ⟨#[]⟩, .slice none 0 0] := h0.below hb1
  obtain ⟨c0, c1, c2, c3, c4, c5, c6, c7, c8, c9, f0, f1, f2, f3, f4, f5, f6, f7, f8, f9, d0, d1, d2, d3, d4, d5, d6, d7, d8, d9, g0, g1, g2, g3, g4, g5, g6, g7, g8, g9⟩ := h1.facts
  go_wp2_with fail
  refine (hm _).mono ?_
  rintro e w' ⟨rfl, rfl⟩
  go_wp2_with fail
  have h2 : Two w _ [.string ⟨#[]⟩, .bool d, .bool t, .bool false, .bool dc, .bool m, .bool false, .bool ds, .string ⟨cu.toArray⟩, .slice fa fn fc] [.string ⟨#[]⟩, .bool false, .bool false, .bool false, .bool false, .bool false, .bool false, .bool false, .string ⟨#[]⟩, .slice none 0 0] := (((h1).setP 0 (.string ⟨#[]⟩)).setP 3 (.bool false)).setP 6 (.bool false)
  refine (hc _ (hA.below h2.low) (hG.below h2.low) (hE.below h2.low)).mono ?_
  rintro e w3 ⟨rfl, hb3⟩
  have h3 : Two w _ [.string ⟨#[]⟩, .bool d, .bool t, .bool false, .bool dc, .bool m, .bool false, .bool ds, .string ⟨cu.toArray⟩, .slice fa fn fc] [.string ⟨#[]⟩, .bool false, .bool false, .bool false, .bool false, .bool false, .bool false, .bool false, .string ⟨#[]⟩, .slice none 0 0] := h2.below hb3
  clear c0 c1 c2 c3 c4 c5 c6 c7 c8 c9 f0 f1 f2 f3 f4 f5 f6 f7 f8 f9 d0 d1 d2 d3 d4 d5 d6 d7 d8 d9 g0 g1 g2 g3 g4 g5 g6 g7 g8 g9
  obtain ⟨c0, c1, c2, c3, c4, c5, c6, c7, c8, c9, f0, f1, f2, f3, f4, f5, f6, f7, f8, f9, d0, d1, d2, d3, d4, d5, d6, d7, d8, d9, g0, g1, g2, g3, g4, g5, g6, g7, g8, g9⟩ := h3.facts
  go_wp2_with fail
  (try simp only [Exit.inBlock, Exit.then])
  refine bodyPost_ret (v := ctlV x d t false dc m false ds cu (.slice fa fn fc)) (by rw [rcell1 rfl]; unfold ctlV; go_simp) rfl ⟨rfl, ?_⟩
  repeat refine Below.setCell ?_ (by first | exact Nat.le_refl _ | exact Nat.le_succ _) _
  exact h3.low
set_option maxHeartbeats 3200000 in
set_option maxRecDepth 100000 in
theorem start_16 (v : List UInt8) (d t ch dc m s ds : Bool) (cu : List UInt8) (f : Value) (hfv : IsSl f) (va : Value) (l : List Attr) (hl : Fine l) (x : List UInt8) (w : World) (hA : AttrsAt w va l) (_hG : G w) (_hE : GE w) :
    Calls Tryz.prog 60 #[.int .i64 16, ctlV v d t ch dc m s ds cu f, va, .string ⟨x.toArray⟩] w fun e w' => e = .returned (ctlV [] d t (attrB nChecked l) dc m false ds cu f) ∧ Below w.heap.size w w' := by
  have ha := fun w h => attr_anyC va l nValue hl.1 w h
  have ha2 := fun w h => attr_anyC va l nChecked hl.1 w h
  have hm := fun w => mode_any 16 w
  rw [mode_3 16 (by decide)] at hm
  generalize attrB nChecked l = y at *
  generalize attrS nChecked l = y1 at *
  generalize attrS nValue l = y0 at *
  generalize attrB nValue l = b0 at *
  clear hl
  obtain ⟨fa, fn, fc, rfl⟩ := hfv
  unfold ctlV
  go_enter Tryz.func60, Tryz.ntmps60
  go_wp2_with fail
  have h0 := Two.start w [.string ⟨v.toArray⟩, .bool d, .bool t, .bool ch, .bool dc, .bool m, .bool s, .bool ds, .string ⟨cu.toArray⟩, .slice fa fn fc] [.string ⟨#[]⟩, .bool false, .bool false, .bool false, .bool false, .bool false, .bool false, .bool false, .string ⟨#[]⟩, .slice none 0 0] 24 24
  refine (ha _ (hA.below h0.low)).mono ?_
  rintro e w1 ⟨rfl, hb1⟩
  have h1 : Two w _ [.string ⟨v.toArray⟩, .bool d, .bool t, .bool ch, .bool dc, .bool m, .bool s, .bool ds, .string ⟨cu.toArray⟩, .slice fa fn fc] [.string ⟨#[]⟩, .bool false, .bool false, .bool false, .bool false, .bool false, .bool false, .bool false, .string ⟨#[]⟩, .slice none 0 0] := h0.below hb1
  obtain ⟨c0, c1, c2, c3, c4, c5, c6, c7, c8, c9, f0, f1, f2, f3, f4, f5, f6, f7, f8, f9, d0, d1, d2, d3, d4, d5, d6, d7, d8, d9, g0, g1, g2, g3, g4, g5, g6, g7, g8, g9⟩ := h1.facts
  go_wp2_with fail
  refine (hm _).mono ?_
  rintro e w' ⟨rfl, rfl⟩
  go_wp2_with fail
  have h2 : Two w _ [.string ⟨#[]⟩, .bool d, .bool t, .bool false, .bool dc, .bool m, .bool false, .bool ds, .string ⟨cu.toArray⟩, .slice fa fn fc] [.string ⟨#[]⟩, .bool false, .bool false, .bool false, .bool false, .bool false, .bool false, .bool false, .string ⟨#[]⟩, .slice none 0 0] := (((h1).setP 0 (.string ⟨#[]⟩)).setP 3 (.bool false)).setP 6 (.bool false)
  refine (ha2 _ (hA.below h2.low)).mono ?_
  rintro e w3 ⟨rfl, hb3⟩
  have h3 : Two w _ [.string ⟨#[]⟩, .bool d, .bool t, .bool false, .bool dc, .bool m, .bool false, .bool ds, .string ⟨cu.toArray⟩, .slice fa fn fc] [.string ⟨#[]⟩, .bool false, .bool false, .bool false, .bool false, .bool false, .bool false, .bool false, .string ⟨#[]⟩, .slice none 0 0] := h2.below hb3
  clear c0 c1 c2 c3 c4 c5 c6 c7 c8 c9 f0 f1 f2 f3 f4 f5 f6 f7 f8 f9 d0 d1 d2 d3 d4 d5 d6 d7 d8 d9 g0 g1 g2 g3 g4 g5 g6 g7 g8 g9
  obtain ⟨c0, c1, c2, c3, c4, c5, c6, c7, c8, c9, f0, f1, f2, f3, f4, f5, f6, f7, f8, f9, d0, d1, d2, d3, d4, d5, d6, d7, d8, d9, g0, g1, g2, g3, g4, g5, g6, g7, g8, g9⟩ := h3.facts
  go_wp2_with fail
  (try simp only [Exit.inBlock, Exit.then])
  refine bodyPost_ret (v := ctlV [] d t y dc m false ds cu (.slice fa fn fc)) (by rw [rcell1 rfl]; unfold ctlV; go_simp) rfl ⟨rfl, ?_⟩
  repeat refine Below.setCell ?_ (by first | exact Nat.le_refl _ | exact Nat.le_succ _) _
  exact h3.low
set_option maxHeartbeats 3200000 in
set_option maxRecDepth 100000 in
theorem start_17 (v : List UInt8) (d t ch dc m s ds : Bool) (cu : List UInt8) (f : Value) (hfv : IsSl f) (va : Value) (l : List Attr) (hl : Fine l) (x : List UInt8) (w : World) (hA : AttrsAt w va l) (_hG : G w) (_hE : GE w) :
    Calls Tryz.prog 60 #[.int .i64 17, ctlV v d t ch dc m s ds cu f, va, .string ⟨x.toArray⟩] w fun e w' => e = .returned (ctlV [] d t (attrB nChecked l) dc m false ds cu f) ∧ Below w.heap.size w w' := by
  have ha := fun w h => attr_anyC va l nValue hl.1 w h
  have ha2 := fun w h => attr_anyC va l nChecked hl.1 w h
  have hm := fun w => mode_any 17 w
  rw [mode_3 17 (by decide)] at hm
  generalize attrB nChecked l = y at *
  generalize attrS nChecked l = y1 at *
  generalize attrS nValue l = y0 at *
  generalize attrB nValue l = b0 at *
  clear hl
  obtain ⟨fa, fn, fc, rfl⟩ := hfv
  unfold ctlV
  go_enter Tryz.func60, Tryz.ntmps60
  go_wp2_with fail
  have h0 := Two.start w [.string ⟨v.toArray⟩, .bool d, .bool t, .bool ch, .bool dc, .bool m, .bool s, .bool ds, .string ⟨cu.toArray⟩, .slice fa fn fc] [.string ⟨#[]⟩, .bool false, .bool false, .bool false, .bool false, .bool false, .bool false, .bool false, .string ⟨#[]⟩, .slice none 0 0] 24 24
  refine (ha _ (hA.below h0.low)).mono ?_
  rintro e w1 ⟨rfl, hb1⟩
  have h1 : Two w _ [.string ⟨v.toArray⟩, .bool d, .bool t, .bool ch, .bool dc, .bool m, .bool s, .bool ds, .string ⟨cu.toArray⟩, .slice fa fn fc] [.string ⟨#[]⟩, .bool false, .bool false, .bool false, .bool false, .bool false, .bool false, .bool false, .string ⟨#[]⟩, .slice none 0 0] := h0.below hb1
  obtain ⟨c0, c1, c2, c3, c4, c5, c6, c7, c8, c9, f0, f1, f2, f3, f4, f5, f6, f7, f8, f9, d0, d1, d2, d3, d4, d5, d6, d7, d8, d9, g0, g1, g2, g3, g4, g5, g6, g7, g8, g9⟩ := h1.facts
  go_wp2_with fail
  refine (hm _).mono ?_
  rintro e w' ⟨rfl, rfl⟩
  go_wp2_with fail
  have h2 : Two w _ [.string ⟨#[]⟩, .bool d, .bool t, .bool false, .bool dc, .bool m, .bool false, .bool ds, .string ⟨cu.toArray⟩, .slice fa fn fc] [.string ⟨#[]⟩, .bool false, .bool false, .bool false, .bool false, .bool false, .bool false, .bool false, .string ⟨#[]⟩, .slice none 0 0] := (((h1).setP 0 (.string ⟨#[]⟩)).setP 3 (.bool false)).setP 6 (.bool false)
  refine (ha2 _ (hA.below h2.low)).mono ?_
  rintro e w3 ⟨rfl, hb3⟩
  have h3 : Two w _ [.string ⟨#[]⟩, .bool d, .bool t, .bool false, .bool dc, .bool m, .bool false, .bool ds, .string ⟨cu.toArray⟩, .slice fa fn fc] [.string ⟨#[]⟩, .bool false, .bool false, .bool false, .bool false, .bool false, .bool false, .bool false, .string ⟨#[]⟩, .slice none 0 0] := h2.below hb3
  clear c0 c1 c2 c3 c4 c5 c6 c7 c8 c9 f0 f1 f2 f3 f4 f5 f6 f7 f8 f9 d0 d1 d2 d3 d4 d5 d6 d7 d8 d9 g0 g1 g2 g3 g4 g5 g6 g7 g8 g9
  obtain ⟨c0, c1, c2, c3, c4, c5, c6, c7, c8, c9, f0, f1, f2, f3, f4, f5, f6, f7, f8, f9, d0, d1, d2, d3, d4, d5, d6, d7, d8, d9, g0, g1, g2, g3, g4, g5, g6, g7, g8, g9⟩ := h3.facts
  go_wp2_with fail
  (try simp only [Exit.inBlock, Exit.then])
  refine bodyPost_ret (v := ctlV [] d t y dc m false ds cu (.slice fa fn fc)) (by rw [rcell1 rfl]; unfold ctlV; go_simp) rfl ⟨rfl, ?_⟩
  repeat refine Below.setCell ?_ (by first | exact Nat.le_refl _ | exact Nat.le_succ _) _
  exact h3.low
set_option maxHeartbeats 3200000 in
set_option maxRecDepth 100000 in
theorem start_32 (v : List UInt8) (d t ch dc m s ds : Bool) (cu : List UInt8) (f : Value) (hfv : IsSl f) (va : Value) (l : List Attr) (hl : Fine l) (x : List UInt8) (w : World) (hA : AttrsAt w va l) (_hG : G w) (_hE : GE w) :
    Calls Tryz.prog 60 #[.int .i64 32, ctlV v d t ch dc m s ds cu f, va, .string ⟨x.toArray⟩] w fun e w' => e = .returned (ctlV [] d t false dc m (attrB nSelected l) ds cu f) ∧ Below w.heap.size w w' := by
  have ha := fun w h => attr_anyC va l nValue hl.1 w h
  have ha2 := fun w h => attr_anyC va l nSelected hl.1 w h
  have hm := fun w => mode_any 32 w
  rw [mode_0 32 (by decide)] at hm
  generalize attrB nSelected l = y at *
  generalize attrS nSelected l = y1 at *
  generalize attrS nValue l = y0 at *
  generalize attrB nValue l = b0 at *
  clear hl
  obtain ⟨fa, fn, fc, rfl⟩ := hfv
  unfold ctlV
  go_enter Tryz.func60, Tryz.ntmps60
  go_wp2_with fail
  have h0 := Two.start w [.string ⟨v.toArray⟩, .bool d, .bool t, .bool ch, .bool dc, .bool m, .bool s, .bool ds, .string ⟨cu.toArray⟩, .slice fa fn fc] [.string ⟨#[]⟩, .bool false, .bool false, .bool false, .bool false, .bool false, .bool false, .bool false, .string ⟨#[]⟩, .slice none 0 0] 24 24
  refine (ha _ (hA.below h0.low)).mono ?_
  rintro e w1 ⟨rfl, hb1⟩
  have h1 : Two w _ [.string ⟨v.toArray⟩, .bool d, .bool t, .bool ch, .bool dc, .bool m, .bool s, .bool ds, .string ⟨cu.toArray⟩, .slice fa fn fc] [.string ⟨#[]⟩, .bool false, .bool false, .bool false, .bool false, .bool false, .bool false, .bool false, .string ⟨#[]⟩, .slice none 0 0] := h0.below hb1
  obtain ⟨c0, c1, c2, c3, c4, c5, c6, c7, c8, c9, f0, f1, f2, f3, f4, f5, f6, f7, f8, f9, d0, d1, d2, d3, d4, d5, d6, d7, d8, d9, g0, g1, g2, g3, g4, g5, g6, g7, g8, g9⟩ := h1.facts
  go_wp2_with fail
  refine (hm _).mono ?_
  rintro e w' ⟨rfl, rfl⟩
  go_wp2_with fail
  have h2 : Two w _ [.string ⟨#[]⟩, .bool d, .bool t, .bool false, .bool dc, .bool m, .bool false, .bool ds, .string ⟨cu.toArray⟩, .slice fa fn fc] [.string ⟨#[]⟩, .bool false, .bool false, .bool false, .bool false, .bool false, .bool false, .bool false, .string ⟨#[]⟩, .slice none 0 0] := (((h1).setP 0 (.string ⟨#[]⟩)).setP 3 (.bool false)).setP 6 (.bool false)
  refine (ha2 _ (hA.below h2.low)).mono ?_
  rintro e w3 ⟨rfl, hb3⟩
  have h3 : Two w _ [.string ⟨#[]⟩, .bool d, .bool t, .bool false, .bool dc, .bool m, .bool false, .bool ds, .string ⟨cu.toArray⟩, .slice fa fn fc] [.string ⟨#[]⟩, .bool false, .bool false, .bool false, .bool false, .bool false, .bool false, .bool false, .string ⟨#[]⟩, .slice none 0 0] := h2.below hb3
  clear c0 c1 c2 c3 c4 c5 c6 c7 c8 c9 f0 f1 f2 f3 f4 f5 f6 f7 f8 f9 d0 d1 d2 d3 d4 d5 d6 d7 d8 d9 g0 g1 g2 g3 g4 g5 g6 g7 g8 g9
  obtain ⟨c0, c1, c2, c3, c4, c5, c6, c7, c8, c9, f0, f1, f2, f3, f4, f5, f6, f7, f8, f9, d0, d1, d2, d3, d4, d5, d6, d7, d8, d9, g0, g1, g2, g3, g4, g5, g6, g7, g8, g9⟩ := h3.facts
  go_wp2_with fail
  (try simp only [Exit.inBlock, Exit.then])
  refine bodyPost_ret (v := ctlV [] d t false dc m y ds cu (.slice fa fn fc)) (by rw [rcell1 rfl]; unfold ctlV; go_simp) rfl ⟨rfl, ?_⟩
  repeat refine Below.setCell ?_ (by first | exact Nat.le_refl _ | exact Nat.le_succ _) _
  exact h3.low
set_option maxHeartbeats 3200000 in
set_option maxRecDepth 100000 in
theorem start_no (kind : Int) (h1 : modeP kind ≠ 1) (h3 : modeP kind ≠ 3) (h24 : kind ≠ 24) (h28 : kind ≠ 28) (h32 : kind ≠ 32)(v : List UInt8) (d t ch dc m s ds : Bool) (cu : List UInt8) (f : Value) (hfv : IsSl f) (va : Value) (l : List Attr) (hl : Fine l) (x : List UInt8) (w : World) (hA : AttrsAt w va l) (_hG : G w) (_hE : GE w) :
    Calls Tryz.prog 60 #[.int .i64 kind, ctlV v d t ch dc m s ds cu f, va, .string ⟨x.toArray⟩] w fun e w' => e = .returned (ctlV [] d t false dc m false ds cu f) ∧ Below w.heap.size w w' := by
  have ha := fun w h => attr_anyC va l nValue hl.1 w h
  have hm := fun w => mode_any kind w
  have t24 : (kind == 24) = false := by simp; omega
  have t28 : (kind == 28) = false := by simp; omega
  have t32 : (kind == 32) = false := by simp; omega
  have m1 : (modeP kind == 1) = false := by simpa using h1
  have m3 : (modeP kind == 3) = false := by simpa using h3
  generalize modeP kind = mm at *
  generalize attrS nValue l = y0 at *
  generalize attrB nValue l = b0 at *
  clear hl h1 h3 h24 h28 h32
  obtain ⟨fa, fn, fc, rfl⟩ := hfv
  unfold ctlV
  go_enter Tryz.func60, Tryz.ntmps60
  go_wp2_with fail
  have h0 := Two.start w [.string ⟨v.toArray⟩, .bool d, .bool t, .bool ch, .bool dc, .bool m, .bool s, .bool ds, .string ⟨cu.toArray⟩, .slice fa fn fc] [.string ⟨#[]⟩, .bool false, .bool false, .bool false, .bool false, .bool false, .bool false, .bool false, .string ⟨#[]⟩, .slice none 0 0] 24 24
  refine (ha _ (hA.below h0.low)).mono ?_
  rintro e w1 ⟨rfl, hb1⟩
  have h1 : Two w _ [.string ⟨v.toArray⟩, .bool d, .bool t, .bool ch, .bool dc, .bool m, .bool s, .bool ds, .string ⟨cu.toArray⟩, .slice fa fn fc] [.string ⟨#[]⟩, .bool false, .bool false, .bool false, .bool false, .bool false, .bool false, .bool false, .string ⟨#[]⟩, .slice none 0 0] := h0.below hb1
  obtain ⟨c0, c1, c2, c3, c4, c5, c6, c7, c8, c9, f0, f1, f2, f3, f4, f5, f6, f7, f8, f9, d0, d1, d2, d3, d4, d5, d6, d7, d8, d9, g0, g1, g2, g3, g4, g5, g6, g7, g8, g9⟩ := h1.facts
  go_wp2_with fail
  refine (hm _).mono ?_
  rintro e w' ⟨rfl, rfl⟩
  go_wp2_with fail
  (try simp only [Exit.inBlock, Exit.then])
  refine bodyPost_ret (v := ctlV [] d t false dc m false ds cu (.slice fa fn fc)) (by rw [rcell1 rfl]; unfold ctlV; go_simp) rfl ⟨rfl, ?_⟩
  repeat refine Below.setCell ?_ (by first | exact Nat.le_refl _ | exact Nat.le_succ _) _
  exact h1.low
end Go.Proofs.YtbhdoocajfkfiaaGreatDoor.ctl

namespace Go.Proofs.YtbhdoocajfkfiaaGreatDoor.ctl
open Go.ChangeShapes Go.WideShapes Go.ChangeAt Go.RowKit Go.Lib Go.Proofs.YtbhdoocajfkfiaaGreatDoor.num Go.Proofs.YtbhdoocajfkfiaaGreatDoor.mom Go.Proofs.YtbhdoocajfkfiaaGreatDoor.fits Go.Proofs.YtbhdoocajfkfiaaGreatDoor.atr Go.Proofs.YtbhdoocajfkfiaaGreatDoor.link Go.Proofs.YtbhdoocajfkfiaaGreatDoor.stp Go.Proofs.YtbhdoocajfkfiaaGreatDoor.cln

theorem start_any (kind : Int) (v : List UInt8) (d t ch dc m s ds : Bool) (cu : List UInt8) (f : Value) (hfv : IsSl f) (va : Value) (l : List Attr) (hl : Fine l) (x : List UInt8) (hx : x.length ≤ 1000000) (w : World) (hA : AttrsAt w va l) (hG : G w) (hE : GE w) :
    Calls Tryz.prog 60 #[.int .i64 kind, ctlV v d t ch dc m s ds cu f, va, .string ⟨x.toArray⟩] w fun e w' => e = .returned (ctlV (startV kind l x) d t (startC kind l) dc m (startS kind l) ds cu f) ∧ Below w.heap.size w w' := by
  rcases kinds_c kind with rfl | rfl | h | h | rfl | h | h | rfl | h
  · rw [startV_24, startC_no 24 (by decide), startS_no 24 (by decide)]; exact start_24 v d t ch dc m s ds cu f hfv va l hl x hx w hA hG hE
  · rw [startV_28, startC_no 28 (by decide), startS_no 28 (by decide)]; exact start_28 v d t ch dc m s ds cu f hfv va l hl x hx w hA hG hE
  · rw [startV_1 kind h, startC_no kind (by rw [mode_1 kind (Or.inl h)]; decide), startS_no kind (by omega)]; exact start_val kind h v d t ch dc m s ds cu f hfv va l hl x w hA hG hE
  · rw [startV_no kind (by omega) (by omega) (by rw [mode_3 kind h]; decide), startC_3 kind (mode_3 kind h), startS_no kind (by omega)]
    rcases h with rfl | rfl
    · exact start_16 v d t ch dc m s ds cu f hfv va l hl x w hA hG hE
    · exact start_17 v d t ch dc m s ds cu f hfv va l hl x w hA hG hE
  · rw [startV_no 18 (by decide) (by decide) (by decide), startC_no 18 (by decide), startS_no 18 (by decide)]
    exact start_no 18 (by decide) (by decide) (by decide) (by decide) (by decide) v d t ch dc m s ds cu f hfv va l hl x w hA hG hE
  · have e := mode_2 kind h
    rw [startV_no kind (by omega) (by omega) (by rw [e]; decide), startC_no kind (by rw [e]; decide), startS_no kind (by omega)]
    exact start_no kind (by rw [e]; decide) (by rw [e]; decide) (by omega) (by omega) (by omega) v d t ch dc m s ds cu f hfv va l hl x w hA hG hE
  · have e := mode_0 kind (by omega)
    rw [startV_no kind (by omega) (by omega) (by rw [e]; decide), startC_no kind (by rw [e]; decide), startS_no kind (by omega)]
    exact start_no kind (by rw [e]; decide) (by rw [e]; decide) (by omega) (by omega) (by omega) v d t ch dc m s ds cu f hfv va l hl x w hA hG hE
  · rw [startV_no 32 (by decide) (by decide) (by decide), startC_no 32 (by decide), startS_32]; exact start_32 v d t ch dc m s ds cu f hfv va l hl x w hA hG hE
  · have e := mode_0 kind (by omega)
    rw [startV_no kind (by omega) (by omega) (by rw [e]; decide), startC_no kind (by rw [e]; decide), startS_no kind (by omega)]
    exact start_no kind (by rw [e]; decide) (by rw [e]; decide) (by omega) (by omega) (by omega) v d t ch dc m s ds cu f hfv va l hl x w hA hG hE

def nilV : Value := .slice none 0 0
set_option maxHeartbeats 1600000 in
set_option maxRecDepth 100000 in
theorem Start_any (kind : Int) (va : Value) (l : List Attr) (hl : Fine l) (x : List UInt8) (hx : x.length ≤ 1000000) (w : World) (hA : AttrsAt w va l) (hG : G w) (hE : GE w) :
    Calls Tryz.prog 18 #[.int .i64 kind, va, .string ⟨x.toArray⟩] w fun e w' => e = .returned (ctlV (startV kind l x) false false (startC kind l) false false (startS kind l) false [] (.slice none 0 0)) ∧ Below w.heap.size w w' := by
  have hs := fun w h g k => start_any kind [] false false false false false false false [] (.slice none 0 0) ⟨_, _, _, rfl⟩ va l hl x hx w h g k
  generalize startV kind l x = y at *
  generalize startC kind l = yc at *
  generalize startS kind l = ys at *
  unfold ctlV at hs ⊢
  have hB : Below w.heap.size w (w.alloc (.cells #[.string ⟨#[]⟩, .bool false, .bool false, .bool false, .bool false, .bool false, .bool false, .bool false, .string ⟨#[]⟩, .slice none 0 0] 24)) := (Below.refl _ _).alloc (Nat.le_refl _) _
  have hK := Blk.fresh w [.string ⟨#[]⟩, .bool false, .bool false, .bool false, .bool false, .bool false, .bool false, .bool false, .string ⟨#[]⟩, .slice none 0 0] 24
  go_enter Tryz.func18, Tryz.ntmps18
  go_wp2_with fail
  refine (hs _ (hA.below hB) (hG.below hB) (hE.below hB)).mono ?_
  rintro e w1 ⟨rfl, hb⟩
  obtain ⟨c0, c1, c2, c3, c4, c5, c6, c7, c8, c9, f0, f1, f2, f3, f4, f5, f6, f7, f8, f9⟩ := (hK.kept hb).ten
  have h1 := below_trans hB hb
  go_wp2_with fail
  (try simp only [Exit.inBlock, Exit.then])
  refine bodyPost_ret (v := ctlV y false false yc false false ys false [] (.slice none 0 0)) (by rw [rcell1 rfl]; unfold ctlV; go_simp) rfl ⟨rfl, ?_⟩
  repeat refine Below.setCell ?_ (by exact Nat.le_refl _) _
  exact h1

set_option maxHeartbeats 3200000 in
set_option maxRecDepth 100000 in
theorem rstart_28 (va : Value) (l : List Attr) (hl : Fine l) (x : List UInt8) (w : World) (hA : AttrsAt w va l) :
    Calls Tryz.prog 19 #[.int .i64 28, va, .string ⟨x.toArray⟩] w fun e w' => e = .returned (ctlV x false false false false false false false [] (.slice none 0 0)) ∧ Below w.heap.size w w' := by
  have ha := fun w h => rattr14_any va l nValue hl.1 w h
  have ha1 := fun w h => rattr14_any va l nChecked hl.1 w h
  have ha2 := fun w h => rattr14_any va l nSelected hl.1 w h
  generalize attrS nValue l = y0 at *
  generalize attrB nValue l = b0 at *
  generalize attrS nChecked l = y1 at *
  generalize attrB nChecked l = b1 at *
  generalize attrS nSelected l = y2 at *
  generalize attrB nSelected l = b2 at *
  clear hl
  unfold ctlV
  go_enter Tryz.func19, Tryz.ntmps19
  go_wp2_with fail
  have h0 := Two.start w [.string ⟨#[]⟩, .bool false, .bool false, .bool false, .bool false, .bool false, .bool false, .bool false, .string ⟨#[]⟩, .slice none 0 0] [.string ⟨#[]⟩, .bool false, .bool false, .bool false, .bool false, .bool false, .bool false, .bool false, .string ⟨#[]⟩, .slice none 0 0] 24 24
  refine (ha _ (hA.below h0.low)).mono ?_
  rintro e w' ⟨rfl, rfl⟩
  go_wp2_with fail
  refine (ha1 _ (hA.below h0.low)).mono ?_
  rintro e w' ⟨rfl, rfl⟩
  go_wp2_with fail
  refine (ha2 _ (hA.below h0.low)).mono ?_
  rintro e w' ⟨rfl, rfl⟩
  go_wp2_with fail
  (try simp only [Exit.inBlock, Exit.then])
  refine bodyPost_ret (v := ctlV x false false false false false false false [] (.slice none 0 0)) (by rw [rcell1 rfl]; unfold ctlV; go_simp) rfl ⟨rfl, ?_⟩
  repeat refine Below.setCell ?_ (by first | exact Nat.le_refl _ | exact Nat.le_succ _) _
  first | exact h0.low | exact ((Below.refl _ _).alloc (Nat.le_refl _) _).alloc (by simp) _
set_option maxHeartbeats 3200000 in
set_option maxRecDepth 100000 in
theorem rstart_24 (va : Value) (l : List Attr) (hl : Fine l) (x : List UInt8) (hx : x.length ≤ 1000000) (w : World) (hA : AttrsAt w va l) :
    Calls Tryz.prog 19 #[.int .i64 24, va, .string ⟨x.toArray⟩] w fun e w' => e = .returned (ctlV (linesS x) false false false false false false false [] (.slice none 0 0)) ∧ Below w.heap.size w w' := by
  have ha := fun w h => rattr14_any va l nValue hl.1 w h
  have ha1 := fun w h => rattr14_any va l nChecked hl.1 w h
  have ha2 := fun w h => rattr14_any va l nSelected hl.1 w h
  have hc := fun w h => rcleaned_any 24 ⟨by decide, by decide⟩ va l hl x hx w h
  rw [cleaned_24] at hc
  generalize linesS x = y at *
  generalize attrS nValue l = y0 at *
  generalize attrB nValue l = b0 at *
  generalize attrS nChecked l = y1 at *
  generalize attrB nChecked l = b1 at *
  generalize attrS nSelected l = y2 at *
  generalize attrB nSelected l = b2 at *
  clear hl hx
  unfold ctlV
  go_enter Tryz.func19, Tryz.ntmps19
  go_wp2_with fail
  have h0 := Two.start w [.string ⟨#[]⟩, .bool false, .bool false, .bool false, .bool false, .bool false, .bool false, .bool false, .string ⟨#[]⟩, .slice none 0 0] [.string ⟨#[]⟩, .bool false, .bool false, .bool false, .bool false, .bool false, .bool false, .bool false, .string ⟨#[]⟩, .slice none 0 0] 24 24
  refine (ha _ (hA.below h0.low)).mono ?_
  rintro e w' ⟨rfl, rfl⟩
  go_wp2_with fail
  refine (ha1 _ (hA.below h0.low)).mono ?_
  rintro e w' ⟨rfl, rfl⟩
  go_wp2_with fail
  refine (ha2 _ (hA.below h0.low)).mono ?_
  rintro e w' ⟨rfl, rfl⟩
  go_wp2_with fail
  refine (hc _ (hA.below h0.low)).mono ?_
  rintro e w1 ⟨rfl, hb1⟩
  have h1 : Two w _ [.string ⟨#[]⟩, .bool false, .bool false, .bool false, .bool false, .bool false, .bool false, .bool false, .string ⟨#[]⟩, .slice none 0 0] [.string ⟨#[]⟩, .bool false, .bool false, .bool false, .bool false, .bool false, .bool false, .bool false, .string ⟨#[]⟩, .slice none 0 0] := h0.below hb1
  obtain ⟨c0, c1, c2, c3, c4, c5, c6, c7, c8, c9, f0, f1, f2, f3, f4, f5, f6, f7, f8, f9, d0, d1, d2, d3, d4, d5, d6, d7, d8, d9, g0, g1, g2, g3, g4, g5, g6, g7, g8, g9⟩ := h1.facts
  go_wp2_with fail
  (try simp only [Exit.inBlock, Exit.then])
  refine bodyPost_ret (v := ctlV y false false false false false false false [] (.slice none 0 0)) (by rw [rcell1 rfl]; unfold ctlV; go_simp) rfl ⟨rfl, ?_⟩
  repeat refine Below.setCell ?_ (by first | exact Nat.le_refl _ | exact Nat.le_succ _) _
  exact h1.low
set_option maxHeartbeats 3200000 in
set_option maxRecDepth 100000 in
theorem rstart_val (kind : Int) (h : 2 ≤ kind ∧ kind ≤ 15) (va : Value) (l : List Attr) (hl : Fine l) (x : List UInt8) (w : World) (hA : AttrsAt w va l) :
    Calls Tryz.prog 19 #[.int .i64 kind, va, .string ⟨x.toArray⟩] w fun e w' => e = .returned (ctlV (cleanV kind l (attrS nValue l)) false false false false false false false [] (.slice none 0 0)) ∧ Below w.heap.size w w' := by
  have hlen := fval_len nValue l hl
  have ha := fun w h => rattr14_any va l nValue hl.1 w h
  have ha1 := fun w h => rattr14_any va l nChecked hl.1 w h
  have ha2 := fun w h => rattr14_any va l nSelected hl.1 w h
  have hm := fun w => rmode_any kind w
  rw [mode_1 kind (Or.inl h)] at hm
  have hc := fun w h2 => rcleaned_any kind ⟨by omega, by omega⟩ va l hl (attrS nValue l) hlen w h2
  rw [cleaned_no kind (by omega)] at hc
  have t24 : (kind == 24) = false := by simp; omega
  have t28 : (kind == 28) = false := by simp; omega
  have t32 : (kind == 32) = false := by simp; omega
  generalize cleanV kind l (attrS nValue l) = y at *
  generalize attrS nValue l = y0 at *
  generalize attrB nValue l = b0 at *
  generalize attrS nChecked l = y1 at *
  generalize attrB nChecked l = b1 at *
  generalize attrS nSelected l = y2 at *
  generalize attrB nSelected l = b2 at *
  clear h hl hlen
  unfold ctlV
  go_enter Tryz.func19, Tryz.ntmps19
  go_wp2_with fail
  have h0 := Two.start w [.string ⟨#[]⟩, .bool false, .bool false, .bool false, .bool false, .bool false, .bool false, .bool false, .string ⟨#[]⟩, .slice none 0 0] [.string ⟨#[]⟩, .bool false, .bool false, .bool false, .bool false, .bool false, .bool false, .bool false, .string ⟨#[]⟩, .slice none 0 0] 24 24
  refine (ha _ (hA.below h0.low)).mono ?_
  rintro e w' ⟨rfl, rfl⟩
  go_wp2_with fail
  refine (ha1 _ (hA.below h0.low)).mono ?_
  rintro e w' ⟨rfl, rfl⟩
  go_wp2_with fail
  refine (ha2 _ (hA.below h0.low)).mono ?_
  rintro e w' ⟨rfl, rfl⟩
  go_wp2_with fail
  refine (hm _).mono ?_
  rintro e w' ⟨rfl, rfl⟩
  go_wp2_with fail
  refine (hc _ (hA.below h0.low)).mono ?_
  rintro e w1 ⟨rfl, hb1⟩
  have h1 : Two w _ [.string ⟨#[]⟩, .bool false, .bool false, .bool false, .bool false, .bool false, .bool false, .bool false, .string ⟨#[]⟩, .slice none 0 0] [.string ⟨#[]⟩, .bool false, .bool false, .bool false, .bool false, .bool false, .bool false, .bool false, .string ⟨#[]⟩, .slice none 0 0] := h0.below hb1
  obtain ⟨c0, c1, c2, c3, c4, c5, c6, c7, c8, c9, f0, f1, f2, f3, f4, f5, f6, f7, f8, f9, d0, d1, d2, d3, d4, d5, d6, d7, d8, d9, g0, g1, g2, g3, g4, g5, g6, g7, g8, g9⟩ := h1.facts
  go_wp2_with fail
  (try simp only [Exit.inBlock, Exit.then])
  refine bodyPost_ret (v := ctlV y false false false false false false false [] (.slice none 0 0)) (by rw [rcell1 rfl]; unfold ctlV; go_simp) rfl ⟨rfl, ?_⟩
  repeat refine Below.setCell ?_ (by first | exact Nat.le_refl _ | exact Nat.le_succ _) _
  exact h1.low
set_option maxHeartbeats 3200000 in
set_option maxRecDepth 100000 in
theorem rstart_16 (va : Value) (l : List Attr) (hl : Fine l) (x : List UInt8) (w : World) (hA : AttrsAt w va l) :
    Calls Tryz.prog 19 #[.int .i64 16, va, .string ⟨x.toArray⟩] w fun e w' => e = .returned (ctlV [] false false (attrB nChecked l) false false false false [] (.slice none 0 0)) ∧ Below w.heap.size w w' := by
  have ha := fun w h => rattr14_any va l nValue hl.1 w h
  have ha1 := fun w h => rattr14_any va l nChecked hl.1 w h
  have ha2 := fun w h => rattr14_any va l nSelected hl.1 w h
  have hm := fun w => rmode_any 16 w
  rw [mode_3 16 (by decide)] at hm
  generalize attrS nValue l = y0 at *
  generalize attrB nValue l = b0 at *
  generalize attrS nChecked l = y1 at *
  generalize attrB nChecked l = b1 at *
  generalize attrS nSelected l = y2 at *
  generalize attrB nSelected l = b2 at *
  clear hl
  unfold ctlV
  go_enter Tryz.func19, Tryz.ntmps19
  go_wp2_with fail
  have h0 := Two.start w [.string ⟨#[]⟩, .bool false, .bool false, .bool false, .bool false, .bool false, .bool false, .bool false, .string ⟨#[]⟩, .slice none 0 0] [.string ⟨#[]⟩, .bool false, .bool false, .bool false, .bool false, .bool false, .bool false, .bool false, .string ⟨#[]⟩, .slice none 0 0] 24 24
  refine (ha _ (hA.below h0.low)).mono ?_
  rintro e w' ⟨rfl, rfl⟩
  go_wp2_with fail
  refine (ha1 _ (hA.below h0.low)).mono ?_
  rintro e w' ⟨rfl, rfl⟩
  go_wp2_with fail
  refine (ha2 _ (hA.below h0.low)).mono ?_
  rintro e w' ⟨rfl, rfl⟩
  go_wp2_with fail
  refine (hm _).mono ?_
  rintro e w' ⟨rfl, rfl⟩
  go_wp2_with fail
  refine (hm _).mono ?_
  rintro e w' ⟨rfl, rfl⟩
  go_wp2_with fail
  (try simp only [Exit.inBlock, Exit.then])
  refine bodyPost_ret (v := ctlV [] false false b1 false false false false [] (.slice none 0 0)) (by rw [rcell1 rfl]; unfold ctlV; go_simp) rfl ⟨rfl, ?_⟩
  repeat refine Below.setCell ?_ (by first | exact Nat.le_refl _ | exact Nat.le_succ _) _
  first | exact h0.low | exact ((Below.refl _ _).alloc (Nat.le_refl _) _).alloc (by simp) _
set_option maxHeartbeats 3200000 in
set_option maxRecDepth 100000 in
theorem rstart_17 (va : Value) (l : List Attr) (hl : Fine l) (x : List UInt8) (w : World) (hA : AttrsAt w va l) :
    Calls Tryz.prog 19 #[.int .i64 17, va, .string ⟨x.toArray⟩] w fun e w' => e = .returned (ctlV [] false false (attrB nChecked l) false false false false [] (.slice none 0 0)) ∧ Below w.heap.size w w' := by
  have ha := fun w h => rattr14_any va l nValue hl.1 w h
  have ha1 := fun w h => rattr14_any va l nChecked hl.1 w h
  have ha2 := fun w h => rattr14_any va l nSelected hl.1 w h
  have hm := fun w => rmode_any 17 w
  rw [mode_3 17 (by decide)] at hm
  generalize attrS nValue l = y0 at *
  generalize attrB nValue l = b0 at *
  generalize attrS nChecked l = y1 at *
  generalize attrB nChecked l = b1 at *
  generalize attrS nSelected l = y2 at *
  generalize attrB nSelected l = b2 at *
  clear hl
  unfold ctlV
  go_enter Tryz.func19, Tryz.ntmps19
  go_wp2_with fail
  have h0 := Two.start w [.string ⟨#[]⟩, .bool false, .bool false, .bool false, .bool false, .bool false, .bool false, .bool false, .string ⟨#[]⟩, .slice none 0 0] [.string ⟨#[]⟩, .bool false, .bool false, .bool false, .bool false, .bool false, .bool false, .bool false, .string ⟨#[]⟩, .slice none 0 0] 24 24
  refine (ha _ (hA.below h0.low)).mono ?_
  rintro e w' ⟨rfl, rfl⟩
  go_wp2_with fail
  refine (ha1 _ (hA.below h0.low)).mono ?_
  rintro e w' ⟨rfl, rfl⟩
  go_wp2_with fail
  refine (ha2 _ (hA.below h0.low)).mono ?_
  rintro e w' ⟨rfl, rfl⟩
  go_wp2_with fail
  refine (hm _).mono ?_
  rintro e w' ⟨rfl, rfl⟩
  go_wp2_with fail
  refine (hm _).mono ?_
  rintro e w' ⟨rfl, rfl⟩
  go_wp2_with fail
  (try simp only [Exit.inBlock, Exit.then])
  refine bodyPost_ret (v := ctlV [] false false b1 false false false false [] (.slice none 0 0)) (by rw [rcell1 rfl]; unfold ctlV; go_simp) rfl ⟨rfl, ?_⟩
  repeat refine Below.setCell ?_ (by first | exact Nat.le_refl _ | exact Nat.le_succ _) _
  first | exact h0.low | exact ((Below.refl _ _).alloc (Nat.le_refl _) _).alloc (by simp) _
set_option maxHeartbeats 3200000 in
set_option maxRecDepth 100000 in
theorem rstart_32 (va : Value) (l : List Attr) (hl : Fine l) (x : List UInt8) (w : World) (hA : AttrsAt w va l) :
    Calls Tryz.prog 19 #[.int .i64 32, va, .string ⟨x.toArray⟩] w fun e w' => e = .returned (ctlV [] false false false false false (attrB nSelected l) false [] (.slice none 0 0)) ∧ Below w.heap.size w w' := by
  have ha := fun w h => rattr14_any va l nValue hl.1 w h
  have ha1 := fun w h => rattr14_any va l nChecked hl.1 w h
  have ha2 := fun w h => rattr14_any va l nSelected hl.1 w h
  have hm := fun w => rmode_any 32 w
  rw [mode_0 32 (by decide)] at hm
  generalize attrS nValue l = y0 at *
  generalize attrB nValue l = b0 at *
  generalize attrS nChecked l = y1 at *
  generalize attrB nChecked l = b1 at *
  generalize attrS nSelected l = y2 at *
  generalize attrB nSelected l = b2 at *
  clear hl
  unfold ctlV
  go_enter Tryz.func19, Tryz.ntmps19
  go_wp2_with fail
  have h0 := Two.start w [.string ⟨#[]⟩, .bool false, .bool false, .bool false, .bool false, .bool false, .bool false, .bool false, .string ⟨#[]⟩, .slice none 0 0] [.string ⟨#[]⟩, .bool false, .bool false, .bool false, .bool false, .bool false, .bool false, .bool false, .string ⟨#[]⟩, .slice none 0 0] 24 24
  refine (ha _ (hA.below h0.low)).mono ?_
  rintro e w' ⟨rfl, rfl⟩
  go_wp2_with fail
  refine (ha1 _ (hA.below h0.low)).mono ?_
  rintro e w' ⟨rfl, rfl⟩
  go_wp2_with fail
  refine (ha2 _ (hA.below h0.low)).mono ?_
  rintro e w' ⟨rfl, rfl⟩
  go_wp2_with fail
  refine (hm _).mono ?_
  rintro e w' ⟨rfl, rfl⟩
  go_wp2_with fail
  refine (hm _).mono ?_
  rintro e w' ⟨rfl, rfl⟩
  go_wp2_with fail
  (try simp only [Exit.inBlock, Exit.then])
  refine bodyPost_ret (v := ctlV [] false false false false false b2 false [] (.slice none 0 0)) (by rw [rcell1 rfl]; unfold ctlV; go_simp) rfl ⟨rfl, ?_⟩
  repeat refine Below.setCell ?_ (by first | exact Nat.le_refl _ | exact Nat.le_succ _) _
  first | exact h0.low | exact ((Below.refl _ _).alloc (Nat.le_refl _) _).alloc (by simp) _
set_option maxHeartbeats 3200000 in
set_option maxRecDepth 100000 in
theorem rstart_no (kind : Int) (h1 : modeP kind ≠ 1) (h3 : modeP kind ≠ 3) (h24 : kind ≠ 24) (h28 : kind ≠ 28) (h32 : kind ≠ 32) (va : Value) (l : List Attr) (hl : Fine l) (x : List UInt8) (w : World) (hA : AttrsAt w va l) :
    Calls Tryz.prog 19 #[.int .i64 kind, va, .string ⟨x.toArray⟩] w fun e w' => e = .returned (ctlV [] false false false false false false false [] (.slice none 0 0)) ∧ Below w.heap.size w w' := by
  have ha := fun w h => rattr14_any va l nValue hl.1 w h
  have ha1 := fun w h => rattr14_any va l nChecked hl.1 w h
  have ha2 := fun w h => rattr14_any va l nSelected hl.1 w h
  have hm := fun w => rmode_any kind w
  have t24 : (kind == 24) = false := by simp; omega
  have t28 : (kind == 28) = false := by simp; omega
  have t32 : (kind == 32) = false := by simp; omega
  have m1 : (modeP kind == 1) = false := by simpa using h1
  have m3 : (modeP kind == 3) = false := by simpa using h3
  generalize modeP kind = mm at *
  generalize attrS nValue l = y0 at *
  generalize attrB nValue l = b0 at *
  generalize attrS nChecked l = y1 at *
  generalize attrB nChecked l = b1 at *
  generalize attrS nSelected l = y2 at *
  generalize attrB nSelected l = b2 at *
  clear hl h1 h3 h24 h28 h32
  unfold ctlV
  go_enter Tryz.func19, Tryz.ntmps19
  go_wp2_with fail
  have h0 := Two.start w [.string ⟨#[]⟩, .bool false, .bool false, .bool false, .bool false, .bool false, .bool false, .bool false, .string ⟨#[]⟩, .slice none 0 0] [.string ⟨#[]⟩, .bool false, .bool false, .bool false, .bool false, .bool false, .bool false, .bool false, .string ⟨#[]⟩, .slice none 0 0] 24 24
  refine (ha _ (hA.below h0.low)).mono ?_
  rintro e w' ⟨rfl, rfl⟩
  go_wp2_with fail
  refine (ha1 _ (hA.below h0.low)).mono ?_
  rintro e w' ⟨rfl, rfl⟩
  go_wp2_with fail
  refine (ha2 _ (hA.below h0.low)).mono ?_
  rintro e w' ⟨rfl, rfl⟩
  go_wp2_with fail
  refine (hm _).mono ?_
  rintro e w' ⟨rfl, rfl⟩
  go_wp2_with fail
  refine (hm _).mono ?_
  rintro e w' ⟨rfl, rfl⟩
  go_wp2_with fail
  (try simp only [Exit.inBlock, Exit.then])
  refine bodyPost_ret (v := ctlV [] false false false false false false false [] (.slice none 0 0)) (by rw [rcell1 rfl]; unfold ctlV; go_simp) rfl ⟨rfl, ?_⟩
  repeat refine Below.setCell ?_ (by first | exact Nat.le_refl _ | exact Nat.le_succ _) _
  first | exact h0.low | exact ((Below.refl _ _).alloc (Nat.le_refl _) _).alloc (by simp) _
theorem rStart_any (kind : Int) (va : Value) (l : List Attr) (hl : Fine l) (x : List UInt8) (hx : x.length ≤ 1000000) (w : World) (hA : AttrsAt w va l) :
    Calls Tryz.prog 19 #[.int .i64 kind, va, .string ⟨x.toArray⟩] w fun e w' => e = .returned (ctlV (startV kind l x) false false (startC kind l) false false (startS kind l) false [] (.slice none 0 0)) ∧ Below w.heap.size w w' := by
  rcases kinds_c kind with rfl | rfl | h | h | rfl | h | h | rfl | h
  · rw [startV_24, startC_no 24 (by decide), startS_no 24 (by decide)]; exact rstart_24 va l hl x hx w hA
  · rw [startV_28, startC_no 28 (by decide), startS_no 28 (by decide)]; exact rstart_28 va l hl x w hA
  · rw [startV_1 kind h, startC_no kind (by rw [mode_1 kind (Or.inl h)]; decide), startS_no kind (by omega)]; exact rstart_val kind h va l hl x w hA
  · rw [startV_no kind (by omega) (by omega) (by rw [mode_3 kind h]; decide), startC_3 kind (mode_3 kind h), startS_no kind (by omega)]
    rcases h with rfl | rfl
    · exact rstart_16 va l hl x w hA
    · exact rstart_17 va l hl x w hA
  · rw [startV_no 18 (by decide) (by decide) (by decide), startC_no 18 (by decide), startS_no 18 (by decide)]
    exact rstart_no 18 (by decide) (by decide) (by decide) (by decide) (by decide) va l hl x w hA
  · have e := mode_2 kind h
    rw [startV_no kind (by omega) (by omega) (by rw [e]; decide), startC_no kind (by rw [e]; decide), startS_no kind (by omega)]
    exact rstart_no kind (by rw [e]; decide) (by rw [e]; decide) (by omega) (by omega) (by omega) va l hl x w hA
  · have e := mode_0 kind (by omega)
    rw [startV_no kind (by omega) (by omega) (by rw [e]; decide), startC_no kind (by rw [e]; decide), startS_no kind (by omega)]
    exact rstart_no kind (by rw [e]; decide) (by rw [e]; decide) (by omega) (by omega) (by omega) va l hl x w hA
  · rw [startV_no 32 (by decide) (by decide) (by decide), startC_no 32 (by decide), startS_32]; exact rstart_32 va l hl x w hA
  · have e := mode_0 kind (by omega)
    rw [startV_no kind (by omega) (by omega) (by rw [e]; decide), startC_no kind (by rw [e]; decide), startS_no kind (by omega)]
    exact rstart_no kind (by rw [e]; decide) (by rw [e]; decide) (by omega) (by omega) (by omega) va l hl x w hA

end Go.Proofs.YtbhdoocajfkfiaaGreatDoor.ctl

namespace Go.Proofs.YtbhdoocajfkfiaaGreatDoor.ctl
open Go.ChangeShapes Go.WideShapes Go.ChangeAt Go.RowKit Go.Lib Go.Proofs.YtbhdoocajfkfiaaGreatDoor.num Go.Proofs.YtbhdoocajfkfiaaGreatDoor.mom Go.Proofs.YtbhdoocajfkfiaaGreatDoor.fits Go.Proofs.YtbhdoocajfkfiaaGreatDoor.atr Go.Proofs.YtbhdoocajfkfiaaGreatDoor.link Go.Proofs.YtbhdoocajfkfiaaGreatDoor.stp Go.Proofs.YtbhdoocajfkfiaaGreatDoor.cln

theorem rangeV_len (l : List Attr) (s : List UInt8) (hs : s.length ≤ 1000000) : (rangeV l s).length ≤ 1000000 := by
  unfold rangeV
  split
  · exact hs
  · have h := (range_e18 l s).1
    unfold e18 at h
    have := showK_len 14 (rangeOf l s) ⟨by omega, by omega⟩
    omega
theorem cleanV_len (kind : Int) (l : List Attr) (s : List UInt8) (_hs : s.length ≤ 900000) : (cleanV kind l s).length ≤ 1000000 := by
  have ht : (trimM s).length ≤ s.length := Nat.le_trans (stripB_le (noBr s)) (noBr_le s)
  rcases kindsV kind with h | rfl | rfl | h | rfl | rfl | rfl | h
  · rw [cleanV_A _ _ _ h]; have := noBr_le s; omega
  · rw [cleanV_5]; omega
  · rw [cleanV_6]
    split
    · have := cleanM_le s; omega
    · omega
  · rw [cleanV_B _ _ _ h]
    split
    · omega
    · simp
  · rw [cleanV_12]
    split
    · have := showK_len 12 (valK 12 s).1 (valK_64 12 s); omega
    · simp
  · rw [cleanV_14]; exact rangeV_len l s (by omega)
  · rw [cleanV_15]; have := cleanC_le s; omega
  · rw [cleanV_no _ _ _ h]; omega
end Go.Proofs.YtbhdoocajfkfiaaGreatDoor.ctl
