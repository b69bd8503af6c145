/- A part of the proofs: lemmas and contracts. -/
import Derived.Shelf.Strings.OnBuilder
import Derived.Test.YtkhlfggnjcbniaaGreatDoorProg
import Derived.Test.YtkhlfggnjcbniaaGreatDoorP6
set_option maxHeartbeats 12800000
set_option maxRecDepth 1000000
namespace Go.Proofs.YtkhlfggnjcbniaaGreatDoor.atr
open Go.ChangeShapes Go.WideShapes Go.ChangeAt Go.RowKit Go.Lib

theorem aret_int {a b : Int} (h : a = b) : Ending.returned (.int .i64 a) = .returned (.int .i64 b) := by rw [h]
theorem aret_sb {a b : List UInt8} {c d : Bool} (h : a = b) (g : c = d) : Ending.returned (.tuple #[.string ⟨a.toArray⟩, .bool c]) = .returned (.tuple #[.string ⟨b.toArray⟩, .bool d]) := by rw [h, g]
theorem lst_eq (a b : List UInt8) : (a == b) = decide (a = b) := by
 rw [Bool.eq_iff_iff, beq_iff_eq, decide_eq_true_eq]

def attrS (nm : List UInt8) (l : List Attr) : List UInt8 := (fval nm l).getD []
def attrB (nm : List UInt8) (l : List Attr) : Bool := (fval nm l).isSome

theorem fint_ways (nm : List UInt8) (l : List Attr) : (∃ (k : Nat) (h : k < l.length), fint nm l = k ∧ l[k].1 = nm ∧ (∀ j (hj : j < k), l[j].1 ≠ nm) ∧ fval nm l = some l[k].2) ∨ (fint nm l = -1 ∧ (∀ j (hj : j < l.length), l[j].1 ≠ nm) ∧ fval nm l = none) := by
 unfold fint
 rcases find_ways nm l with ⟨k, h, h1, h2, h3, h4⟩ | ⟨h1, h2, h3⟩
 ·left; exact ⟨k, h, by rw [h1, if_pos h], h2, h3, h4⟩
 ·right; exact ⟨by rw [h1, if_neg (Nat.lt_irrefl _)], h2, h3⟩
theorem fint_idx (nm : List UInt8) (l : List Attr) : Lib.idxBy (fun _ (y : Attr) => decide (y.1 = nm)) (l.take l.length) default = fint nm l := by
 rcases fint_ways nm l with ⟨k, h, h1, h2, h3, h4⟩ | ⟨h1, h2, h3⟩
 ·rw [h1]
  exact Lib.idxBy_hit (fun _ (y : Attr) => decide (y.1 = nm)) l l.length k default h (Nat.le_refl _) (by rw [getElem!_pos l k h]; exact decide_eq_true h2)
   (fun j hj => by rw [getElem!_pos l j (by omega)]; exact decide_eq_false (h3 j hj))
 ·rw [h1]
  exact Lib.idxBy_miss (fun _ (y : Attr) => decide (y.1 = nm)) l l.length default (fun j hj => by rw [getElem!_pos l j hj]; exact decide_eq_false (h2 j hj))

theorem isAggA : ∀ w, (isAgg 45).run Tryz.prog w = .ok true w := Tryz.isAgg45
theorem sizeA : ∀ w, (Go.sizeOf 45).run Tryz.prog w = .ok 2 w := Tryz.sizeOf45

theorem attr_pred (nm : List UInt8) (B : Nat) (w : World) (hB : B < w.heap.size) (hcell : w.cell? ⟨B, 0, none⟩ = some (.string ⟨nm.toArray⟩)) :
  PredBelow Tryz.prog 268 #[.pointer (some ⟨B, 0, none⟩)] (fun x => .agg (encA x).toArray) (fun x => decide (x.1 = nm)) w := fun W x hb => by
 have hc : W.cell? ⟨B, 0, none⟩ = some (.string ⟨nm.toArray⟩) := (hb.cell (p := ⟨B, 0, none⟩) hB).trans hcell
 have hBW : B < W.heap.size := Nat.lt_of_lt_of_le hB hb.size
 have hne : B ≠ W.heap.size := by omega
 obtain ⟨a, b⟩ := x
 show Calls Tryz.prog 268 #[.agg #[.string ⟨a.toArray⟩, .string ⟨b.toArray⟩], .pointer (some ⟨B, 0, none⟩)] W _
 have he := lst_eq a nm
 have HE := Lib.hid he
 clear he
 go_enter Tryz.func268, Tryz.ntmps268
 go_wp2_with fail
 go_ret
 exact ⟨by first | rfl | (rw [← HE.out]; rfl), hb.alloc hb.size _⟩

theorem idxf_empty (oa : Option Addr) (cap : Nat) (g : Nat) (lb : Array Value) (w : World) :
  Calls Tryz.prog 133 #[.slice oa 0 cap, .func (.func g) #[] lb] w fun e w' => e = .returned (.int .i64 (-1)) ∧ w = w' := by
 go_enter Tryz.func133, Tryz.ntmps133
 go_wp2_with fail
 go_loopw [5, 8] (fun _ s8 wr => s8 = .int .i64 0 ∧ w = wr) (fun _ _ _ => 0)
 case atStart => exact ⟨rfl, rfl⟩
 case round =>
  obtain ⟨rfl, rfl⟩ := hrel
  go_wp2_with fail
  go_ret
  exact ⟨rfl, rfl⟩

theorem row_cells {w : World} {b off : Nat} {l : List Attr} (hR : RowA w b off l) : ∀ j, j < l.length → ∀ i v, (encA l[j]!)[i]? = some v → w.cell? ⟨b, off + j * 2 + i, none⟩ = some v := by
 intro j hj i v hi
 obtain ⟨h1, h2⟩ := hR j hj
 rw [getElem!_pos l j hj] at hi
 match i, hi with
 | 0, hi => rw [← Option.some.inj hi]; exact h1
 | 1, hi => rw [← Option.some.inj hi]; exact h2
 | i + 2, hi => simp [encA] at hi

theorem idxf_any (g : Nat) (lb : Array Value) (eg : ∀ args w, (callFunc g args).run Tryz.prog w = .ok (.enter g args) w) (nm : List UInt8) (v : Value) (l : List Attr) (hl : l.length ≤ 1000000000) (w : World) (hA : AttrsAt w v l)
  (hp : PredBelow Tryz.prog g lb (fun x => .agg (encA x).toArray) (fun x => decide (x.1 = nm)) w) :
  Calls Tryz.prog 133 #[v, .func (.func g) #[] lb] w fun e w' => e = .returned (.int .i64 (fint nm l)) ∧ Below w.heap.size w w' := by
 rcases hA with ⟨rfl, oa, cap, rfl⟩ | ⟨b, off, cap, rfl, h0, hb, hR⟩
 ·exact (idxf_empty oa cap g lb w).mono fun e w' h => ⟨h.1, by rw [← h.2]; exact Below.refl _ _⟩
 ·have h := AnyQ.slices_IndexFunc Tryz.laysg133 2 isAggA sizeA encA (fun _ => rfl) (fun x => decide (x.1 = nm)) g lb eg b off l.length cap l w hp (Nat.le_refl _) (by omega) hb (row_cells hR)
  rw [fint_idx] at h
  exact h

theorem attr_any (v : Value) (l : List Attr) (nm : List UInt8) (hl : l.length ≤ 1000000000) (w : World) (hA : AttrsAt w v l) :
  Calls Tryz.prog 185 #[v, .string ⟨nm.toArray⟩] w fun e w' => e = .returned (.tuple #[.string ⟨(attrS nm l).toArray⟩, .bool (attrB nm l)]) ∧ Below w.heap.size w w' := by
 have eg : ∀ args w, (callFunc 268 args).run Tryz.prog w = .ok (.enter 268 args) w := enters_of Tryz.func268 (by kernel_rfl) rfl
 have hB1 : Below w.heap.size w (w.alloc (.cells #[.string ⟨nm.toArray⟩] 9)) := (Below.refl _ _).alloc (Nat.le_refl _) _
 have hI := idxf_any 268 #[.pointer (some ⟨w.heap.size, 0, none⟩)] eg nm v l hl (w.alloc (.cells #[.string ⟨nm.toArray⟩] 9)) (hA.below hB1)
  (attr_pred nm w.heap.size _ (by simp) (by simp))
 have hw := fint_ways nm l
 have hS : Hid (attrS nm l = (fval nm l).getD [] ∧ attrB nm l = (fval nm l).isSome) := Lib.hid ⟨rfl, rfl⟩
 generalize attrS nm l = s at *
 generalize attrB nm l = bb at *
 generalize fint nm l = r at *
 have HW := Lib.hid hw
 clear hw
 obtain ⟨q, hq⟩ : ∃ q, q = v := ⟨_, rfl⟩
 rcases hA with ⟨rfl, oa, cap, rfl⟩ | ⟨b, off, cap, rfl, h0, hb, hR⟩
 ·have HX : Hid (r = -1 ∧ s = [] ∧ bb = false) := Lib.hid (by
   rcases HW.out with ⟨k, h, _⟩ | ⟨h, _, h3⟩
   ·exact absurd h (Nat.not_lt_zero _)
   ·exact ⟨h, by rw [hS.out.1, h3]; rfl, by rw [hS.out.2, h3]; rfl⟩)
  obtain ⟨rfl, rfl, rfl⟩ := HX.out
  clear HW hq HX hS
  go_enter Tryz.func185, Tryz.ntmps185
  go_wp2_with fail
  refine hI.mono ?_
  rintro e w' ⟨rfl, hb'⟩
  clear hI
  go_wp2_with fail
  go_ret2
  exact ⟨rfl, below_trans hB1 hb'⟩
 ·rcases HW.out with ⟨k, hk, h1, h2, h3, h4⟩ | ⟨h1, h2, h3⟩
  ·obtain ⟨c1, c2⟩ := hR k hk
   have HX : Hid (s = l[k].2 ∧ bb = true) := Lib.hid ⟨by rw [hS.out.1, h4]; rfl, by rw [hS.out.2, h4]; rfl⟩
   have HC : Hid (∀ w', Below w.heap.size w w' → w'.cell? ⟨b, off + k * 2 + 1, none⟩ = some (.string ⟨l[k].2.toArray⟩)) := Lib.hid (fun w' h => (h.cell (p := ⟨b, off + k * 2 + 1, none⟩) hb).trans c2)
   generalize l[k].2 = y at *
   clear h2 h3 h4 HW hS c1 c2 hR hq
   subst h1
   obtain ⟨rfl, rfl⟩ := HX.out
   clear HX
   go_enter Tryz.func185, Tryz.ntmps185
   go_wp2_with fail
   refine hI.mono ?_
   rintro e w' ⟨rfl, hb'⟩
   clear hI
   have hBB := below_trans hB1 hb'
   have hc := HC.out w' hBB
   clear HC
   go_wp2_with fail
   go_ret2
   exact ⟨rfl, hBB⟩
  ·have HX : Hid (s = [] ∧ bb = false) := Lib.hid ⟨by rw [hS.out.1, h3]; rfl, by rw [hS.out.2, h3]; rfl⟩
   subst h1
   obtain ⟨rfl, rfl⟩ := HX.out
   clear h2 h3 HW hS hR hq HX
   go_enter Tryz.func185, Tryz.ntmps185
   go_wp2_with fail
   refine hI.mono ?_
   rintro e w' ⟨rfl, hb'⟩
   clear hI
   go_wp2_with fail
   go_ret2
   exact ⟨rfl, below_trans hB1 hb'⟩

theorem attr_predC (nm : List UInt8) (B : Nat) (w : World) (hB : B < w.heap.size) (hcell : w.cell? ⟨B, 0, none⟩ = some (.string ⟨nm.toArray⟩)) :
  PredBelow Tryz.prog 221 #[.pointer (some ⟨B, 0, none⟩)] (fun x => .agg (encA x).toArray) (fun x => decide (x.1 = nm)) w := fun W x hb => by
 have hc : W.cell? ⟨B, 0, none⟩ = some (.string ⟨nm.toArray⟩) := (hb.cell (p := ⟨B, 0, none⟩) hB).trans hcell
 have hBW : B < W.heap.size := Nat.lt_of_lt_of_le hB hb.size
 have hne : B ≠ W.heap.size := by omega
 obtain ⟨a, b⟩ := x
 show Calls Tryz.prog 221 #[.agg #[.string ⟨a.toArray⟩, .string ⟨b.toArray⟩], .pointer (some ⟨B, 0, none⟩)] W _
 have he := lst_eq a nm
 have HE := Lib.hid he
 clear he
 go_enter Tryz.func221, Tryz.ntmps221
 go_wp2_with fail
 go_ret
 exact ⟨by first | rfl | (rw [← HE.out]; rfl), hb.alloc hb.size _⟩

theorem attr_anyC (v : Value) (l : List Attr) (nm : List UInt8) (hl : l.length ≤ 1000000000) (w : World) (hA : AttrsAt w v l) :
  Calls Tryz.prog 143 #[v, .string ⟨nm.toArray⟩] w fun e w' => e = .returned (.tuple #[.string ⟨(attrS nm l).toArray⟩, .bool (attrB nm l)]) ∧ Below w.heap.size w w' := by
 have eg : ∀ args w, (callFunc 221 args).run Tryz.prog w = .ok (.enter 221 args) w := enters_of Tryz.func221 (by kernel_rfl) rfl
 have hB1 : Below w.heap.size w (w.alloc (.cells #[.string ⟨nm.toArray⟩] 9)) := (Below.refl _ _).alloc (Nat.le_refl _) _
 have hI := idxf_any 221 #[.pointer (some ⟨w.heap.size, 0, none⟩)] eg nm v l hl (w.alloc (.cells #[.string ⟨nm.toArray⟩] 9)) (hA.below hB1)
  (attr_predC nm w.heap.size _ (by simp) (by simp))
 have hw := fint_ways nm l
 have hS : Hid (attrS nm l = (fval nm l).getD [] ∧ attrB nm l = (fval nm l).isSome) := Lib.hid ⟨rfl, rfl⟩
 generalize attrS nm l = s at *
 generalize attrB nm l = bb at *
 generalize fint nm l = r at *
 have HW := Lib.hid hw
 clear hw
 obtain ⟨q, hq⟩ : ∃ q, q = v := ⟨_, rfl⟩
 rcases hA with ⟨rfl, oa, cap, rfl⟩ | ⟨b, off, cap, rfl, h0, hb, hR⟩
 ·have HX : Hid (r = -1 ∧ s = [] ∧ bb = false) := Lib.hid (by
   rcases HW.out with ⟨k, h, _⟩ | ⟨h, _, h3⟩
   ·exact absurd h (Nat.not_lt_zero _)
   ·exact ⟨h, by rw [hS.out.1, h3]; rfl, by rw [hS.out.2, h3]; rfl⟩)
  obtain ⟨rfl, rfl, rfl⟩ := HX.out
  clear HW hq HX hS
  go_enter Tryz.func143, Tryz.ntmps143
  go_wp2_with fail
  refine hI.mono ?_
  rintro e w' ⟨rfl, hb'⟩
  clear hI
  go_wp2_with fail
  go_ret2
  exact ⟨rfl, below_trans hB1 hb'⟩
 ·rcases HW.out with ⟨k, hk, h1, h2, h3, h4⟩ | ⟨h1, h2, h3⟩
  ·obtain ⟨c1, c2⟩ := hR k hk
   have HX : Hid (s = l[k].2 ∧ bb = true) := Lib.hid ⟨by rw [hS.out.1, h4]; rfl, by rw [hS.out.2, h4]; rfl⟩
   have HC : Hid (∀ w', Below w.heap.size w w' → w'.cell? ⟨b, off + k * 2 + 1, none⟩ = some (.string ⟨l[k].2.toArray⟩)) := Lib.hid (fun w' h => (h.cell (p := ⟨b, off + k * 2 + 1, none⟩) hb).trans c2)
   generalize l[k].2 = y at *
   clear h2 h3 h4 HW hS c1 c2 hR hq
   subst h1
   obtain ⟨rfl, rfl⟩ := HX.out
   clear HX
   go_enter Tryz.func143, Tryz.ntmps143
   go_wp2_with fail
   refine hI.mono ?_
   rintro e w' ⟨rfl, hb'⟩
   clear hI
   have hBB := below_trans hB1 hb'
   have hc := HC.out w' hBB
   clear HC
   go_wp2_with fail
   go_ret2
   exact ⟨rfl, hBB⟩
  ·have HX : Hid (s = [] ∧ bb = false) := Lib.hid ⟨by rw [hS.out.1, h3]; rfl, by rw [hS.out.2, h3]; rfl⟩
   subst h1
   obtain ⟨rfl, rfl⟩ := HX.out
   clear h2 h3 HW hS hR hq HX
   go_enter Tryz.func143, Tryz.ntmps143
   go_wp2_with fail
   refine hI.mono ?_
   rintro e w' ⟨rfl, hb'⟩
   clear hI
   go_wp2_with fail
   go_ret2
   exact ⟨rfl, below_trans hB1 hb'⟩
end Go.Proofs.YtkhlfggnjcbniaaGreatDoor.atr
namespace Go.Proofs.YtkhlfggnjcbniaaGreatDoor.ctl
open Go.Lib num mom atr link stp cln

def modeP (kind : Int) : Int :=
 if (2 ≤ kind ∧ kind ≤ 15) ∨ kind = 24 ∨ kind = 28 then 1
 else if kind = 16 ∨ kind = 17 then 3
 else if kind = 18 then 4
 else if 1 ≤ kind ∧ kind ≤ 22 then 2 else 0
theorem kinds_c (kind : Int) : kind = 24 ∨ kind = 28 ∨ (2 ≤ kind ∧ kind ≤ 15) ∨ (kind = 16 ∨ kind = 17) ∨ kind = 18 ∨ (kind = 1 ∨ kind = 19 ∨ kind = 20 ∨ kind = 21 ∨ kind = 22) ∨ (kind = 25 ∨ kind = 26 ∨ kind = 27) ∨ kind = 32 ∨ (¬ (1 ≤ kind ∧ kind ≤ 22) ∧ kind ≠ 24 ∧ kind ≠ 25 ∧ kind ≠ 26 ∧ kind ≠ 27 ∧ kind ≠ 28 ∧ kind ≠ 32) := by omega
theorem mode_1 (kind : Int) (h : (2 ≤ kind ∧ kind ≤ 15) ∨ kind = 24 ∨ kind = 28) : modeP kind = 1 := by unfold modeP; rw [if_pos h]
theorem mode_3 (kind : Int) (h : kind = 16 ∨ kind = 17) : modeP kind = 3 := by unfold modeP; rw [if_neg (by omega), if_pos h]
theorem mode_4 : modeP 18 = 4 := by decide
theorem mode_2 (kind : Int) (h : kind = 1 ∨ kind = 19 ∨ kind = 20 ∨ kind = 21 ∨ kind = 22) : modeP kind = 2 := by unfold modeP; rw [if_neg (by omega), if_neg (by omega), if_neg (by omega), if_pos (by omega)]
theorem mode_0 (kind : Int) (h : ¬ (1 ≤ kind ∧ kind ≤ 22) ∧ kind ≠ 24 ∧ kind ≠ 28) : modeP kind = 0 := by unfold modeP; rw [if_neg (by omega), if_neg (by omega), if_neg (by omega), if_neg (by omega)]

def onT : List UInt8 := [111, 110]
def fakeT : List UInt8 := [67, 58, 92, 102, 97, 107, 101, 112, 97, 116, 104, 92]
def valueP (kind : Int) (v : List UInt8) (fs : List Ent) (l : List Attr) : List UInt8 :=
 if modeP kind = 1 then v
 else if modeP kind = 3 then (if attrB nValue l then attrS nValue l else onT)
 else if modeP kind = 2 ∨ kind = 25 ∨ kind = 26 ∨ kind = 27 then attrS nValue l
 else if modeP kind = 4 then (match fs with | [] => [] | f :: _ => fakeT ++ f.fname)
 else []
end Go.Proofs.YtkhlfggnjcbniaaGreatDoor.ctl
namespace Go.Proofs.YtkhlfggnjcbniaaGreatDoor.ctl
open Go.ChangeShapes Go.WideShapes Go.ChangeAt Go.RowKit Go.Lib num

theorem mode_any (kind : Int) (w : World) :
  Calls Tryz.prog 144 #[.int .i64 kind] w fun e w' => e = .returned (.int .i64 (modeP kind)) ∧ w = w' := by
 rcases kinds_c kind with rfl | rfl | h | h | rfl | h | h | rfl | h
 ·rw [mode_1 24 (by decide)]
  go_enter Tryz.func144, Tryz.ntmps144
  go_wp2_with (first | go_in)
  go_ret
  exact ⟨rfl, rfl⟩
 ·rw [mode_1 28 (by decide)]
  go_enter Tryz.func144, Tryz.ntmps144
  go_wp2_with (first | go_in)
  go_ret
  exact ⟨rfl, rfl⟩
 ·rw [mode_1 kind (Or.inl h)]
  obtain ⟨h1, h2⟩ := h
  go_enter Tryz.func144, Tryz.ntmps144
  go_wp2_with (first | go_in)
  go_ret
  exact ⟨rfl, rfl⟩
 ·rw [mode_3 kind h]
  rcases h with rfl | rfl
  all_goals
   go_enter Tryz.func144, Tryz.ntmps144
   go_wp2_with (first | go_in)
   go_ret
   exact ⟨rfl, rfl⟩
 ·rw [mode_4]
  go_enter Tryz.func144, Tryz.ntmps144
  go_wp2_with (first | go_in)
  go_ret
  exact ⟨rfl, rfl⟩
 ·rw [mode_2 kind h]
  rcases h with rfl | rfl | rfl | rfl | rfl
  all_goals
   go_enter Tryz.func144, Tryz.ntmps144
   go_wp2_with (first | go_in)
   go_ret
   exact ⟨rfl, rfl⟩
 ·rw [mode_0 kind (by omega)]
  rcases h with rfl | rfl | rfl
  all_goals
   go_enter Tryz.func144, Tryz.ntmps144
   go_wp2_with (first | go_in)
   go_ret
   exact ⟨rfl, rfl⟩
 ·rw [mode_0 32 (by decide)]
  go_enter Tryz.func144, Tryz.ntmps144
  go_wp2_with (first | go_in)
  go_ret
  exact ⟨rfl, rfl⟩
 ·rw [mode_0 kind (by omega)]
  have t24 : (kind == 24) = false := by simp; omega
  have t28 : (kind == 28) = false := by simp; omega
  have t16 : (kind == 16) = false := by simp; omega
  have t17 : (kind == 17) = false := by simp; omega
  have t18 : (kind == 18) = false := by simp; omega
  rcases Int.lt_or_le kind 1 with g | g
  ·clear h
   have g2 : kind < 2 := by omega
   go_enter Tryz.func144, Tryz.ntmps144
   go_wp2_with (first | go_in)
   go_ret
   exact ⟨rfl, rfl⟩
  ·have g2 : 22 < kind := by omega
   have g3 : 15 < kind := by omega
   have g4 : 2 ≤ kind := by omega
   clear h
   go_enter Tryz.func144, Tryz.ntmps144
   go_wp2_with (first | go_in)
   go_ret
   exact ⟨rfl, rfl⟩
def pushB (kind : Int) : Bool := decide (kind = 25 ∨ kind = 26 ∨ kind = 27)
theorem push_yes (kind : Int) (h : kind = 25 ∨ kind = 26 ∨ kind = 27) : pushB kind = true := decide_eq_true h
theorem push_no (kind : Int) (h : ¬ (kind = 25 ∨ kind = 26 ∨ kind = 27)) : pushB kind = false := decide_eq_false h
theorem button_any (kind : Int) (w : World) :
  Calls Tryz.prog 145 #[.int .i64 kind] w fun e w' => e = .returned (.bool (pushB kind)) ∧ w = w' := by
 by_cases h : kind = 25 ∨ kind = 26 ∨ kind = 27
 ·rw [push_yes kind h]
  rcases h with rfl | rfl | rfl
  all_goals
   go_enter Tryz.func145, Tryz.ntmps145
   go_wp2_with (first | go_in)
   go_ret
   exact ⟨rfl, rfl⟩
 ·rw [push_no kind h]
  have t25 : (kind == 25) = false := by simp; omega
  have t26 : (kind == 26) = false := by simp; omega
  have t27 : (kind == 27) = false := by simp; omega
  rcases Int.lt_or_le kind 25 with g | g
  ·clear h
   go_enter Tryz.func145, Tryz.ntmps145
   go_wp2_with (first | go_in)
   go_ret
   exact ⟨rfl, rfl⟩
  ·have g2 : ¬ kind ≤ 27 := by omega
   clear h
   go_enter Tryz.func145, Tryz.ntmps145
   go_wp2_with (first | go_in)
   go_ret
   exact ⟨rfl, rfl⟩
end Go.Proofs.YtkhlfggnjcbniaaGreatDoor.ctl
