/- law14: wakes, what the laws' walks ask of the item's box. law14: wakes. -/
import Derived.Test.YtbhdoocajfkfiaaGreatDoorMr
import Derived.Test.YtbhdoocajfkfiaaGreatDoorMp
import Derived.Test.YtbhdoocajfkfiaaGreatDoorZChangeW
import Derived.Test.YtbhdoocajfkfiaaGreatDoorZRChangeW
import Derived.Test.YtbhdoocajfkfiaaGreatDoorMo
import Derived.Deep.RegionHeld3
namespace Go.Proofs.YtbhdoocajfkfiaaGreatDoor.ctl
open Go.ChangeShapes Go.WideShapes Go.ChangeAt Go.RowKit Go.Lib Go.Proofs.YtbhdoocajfkfiaaGreatDoor.num Go.Proofs.YtbhdoocajfkfiaaGreatDoor.mom Go.Proofs.YtbhdoocajfkfiaaGreatDoor.fits Go.Proofs.YtbhdoocajfkfiaaGreatDoor.atr Go.Proofs.YtbhdoocajfkfiaaGreatDoor.link Go.Proofs.YtbhdoocajfkfiaaGreatDoor.stp Go.Proofs.YtbhdoocajfkfiaaGreatDoor.cln

theorem h12_below {w0 w1 : World} {b : Nat} {a0 a1 a2 a3 a4 a5 a6 a7 a8 a9 a10 a11 : Value} {w2 : World} (hb : Below w1.heap.size w1 w2) (h : w1.cell? ⟨b, 0, none⟩ = some a0 ∧ w1.cell? ⟨b, 1, none⟩ = some a1 ∧ w1.cell? ⟨b, 2, none⟩ = some a2 ∧ w1.cell? ⟨b, 3, none⟩ = some a3 ∧ w1.cell? ⟨b, 4, none⟩ = some a4 ∧ w1.cell? ⟨b, 5, none⟩ = some a5 ∧ w1.cell? ⟨b, 6, none⟩ = some a6 ∧ w1.cell? ⟨b, 7, none⟩ = some a7 ∧ w1.cell? ⟨b, 8, none⟩ = some a8 ∧ w1.cell? ⟨b, 9, none⟩ = some a9 ∧ w1.cell? ⟨b, 10, none⟩ = some a10 ∧ w1.cell? ⟨b, 11, none⟩ = some a11 ∧ Below w0.heap.size w0 w1) :
    w2.cell? ⟨b, 0, none⟩ = some a0 ∧ w2.cell? ⟨b, 1, none⟩ = some a1 ∧ w2.cell? ⟨b, 2, none⟩ = some a2 ∧ w2.cell? ⟨b, 3, none⟩ = some a3 ∧ w2.cell? ⟨b, 4, none⟩ = some a4 ∧ w2.cell? ⟨b, 5, none⟩ = some a5 ∧ w2.cell? ⟨b, 6, none⟩ = some a6 ∧ w2.cell? ⟨b, 7, none⟩ = some a7 ∧ w2.cell? ⟨b, 8, none⟩ = some a8 ∧ w2.cell? ⟨b, 9, none⟩ = some a9 ∧ w2.cell? ⟨b, 10, none⟩ = some a10 ∧ w2.cell? ⟨b, 11, none⟩ = some a11 ∧ Below w0.heap.size w0 w2 := by
  obtain ⟨h0, h1, h2, h3, h4, h5, h6, h7, h8, h9, h10, h11, hl⟩ := h
  exact ⟨cell_below hb h0, cell_below hb h1, cell_below hb h2, cell_below hb h3, cell_below hb h4, cell_below hb h5, cell_below hb h6, cell_below hb h7, cell_below hb h8, cell_below hb h9, cell_below hb h10, cell_below hb h11, below_trans hl hb⟩
theorem h12_drew {w0 w1 : World} {b : Nat} {a0 a1 a2 a3 a4 a5 a6 a7 a8 a9 a10 a11 : Value} (h : w1.cell? ⟨b, 0, none⟩ = some a0 ∧ w1.cell? ⟨b, 1, none⟩ = some a1 ∧ w1.cell? ⟨b, 2, none⟩ = some a2 ∧ w1.cell? ⟨b, 3, none⟩ = some a3 ∧ w1.cell? ⟨b, 4, none⟩ = some a4 ∧ w1.cell? ⟨b, 5, none⟩ = some a5 ∧ w1.cell? ⟨b, 6, none⟩ = some a6 ∧ w1.cell? ⟨b, 7, none⟩ = some a7 ∧ w1.cell? ⟨b, 8, none⟩ = some a8 ∧ w1.cell? ⟨b, 9, none⟩ = some a9 ∧ w1.cell? ⟨b, 10, none⟩ = some a10 ∧ w1.cell? ⟨b, 11, none⟩ = some a11 ∧ Below w0.heap.size w0 w1) :
    w1.drew.cell? ⟨b, 0, none⟩ = some a0 ∧ w1.drew.cell? ⟨b, 1, none⟩ = some a1 ∧ w1.drew.cell? ⟨b, 2, none⟩ = some a2 ∧ w1.drew.cell? ⟨b, 3, none⟩ = some a3 ∧ w1.drew.cell? ⟨b, 4, none⟩ = some a4 ∧ w1.drew.cell? ⟨b, 5, none⟩ = some a5 ∧ w1.drew.cell? ⟨b, 6, none⟩ = some a6 ∧ w1.drew.cell? ⟨b, 7, none⟩ = some a7 ∧ w1.drew.cell? ⟨b, 8, none⟩ = some a8 ∧ w1.drew.cell? ⟨b, 9, none⟩ = some a9 ∧ w1.drew.cell? ⟨b, 10, none⟩ = some a10 ∧ w1.drew.cell? ⟨b, 11, none⟩ = some a11 ∧ Below w0.heap.size w0 w1.drew := by
  obtain ⟨h0, h1, h2, h3, h4, h5, h6, h7, h8, h9, h10, h11, hl⟩ := h
  exact ⟨h0, h1, h2, h3, h4, h5, h6, h7, h8, h9, h10, h11, hl.drew⟩
theorem h12_last {w0 w1 : World} {b : Nat} {a0 a1 a2 a3 a4 a5 a6 a7 a8 a9 a10 a11 : Value} (h : w1.cell? ⟨b, 0, none⟩ = some a0 ∧ w1.cell? ⟨b, 1, none⟩ = some a1 ∧ w1.cell? ⟨b, 2, none⟩ = some a2 ∧ w1.cell? ⟨b, 3, none⟩ = some a3 ∧ w1.cell? ⟨b, 4, none⟩ = some a4 ∧ w1.cell? ⟨b, 5, none⟩ = some a5 ∧ w1.cell? ⟨b, 6, none⟩ = some a6 ∧ w1.cell? ⟨b, 7, none⟩ = some a7 ∧ w1.cell? ⟨b, 8, none⟩ = some a8 ∧ w1.cell? ⟨b, 9, none⟩ = some a9 ∧ w1.cell? ⟨b, 10, none⟩ = some a10 ∧ w1.cell? ⟨b, 11, none⟩ = some a11 ∧ Below w0.heap.size w0 w1) : Below w0.heap.size w0 w1 := by
  obtain ⟨_, _, _, _, _, _, _, _, _, _, _, _, hl⟩ := h
  exact hl
theorem h12_blk {w0 w1 : World} {b : Nat} {a0 a1 a2 a3 a4 a5 a6 a7 a8 a9 a10 a11 : Value} (h : Blk w1 b [a0, a1, a2, a3, a4, a5, a6, a7, a8, a9, a10, a11]) (hl : Below w0.heap.size w0 w1) :
    w1.cell? ⟨b, 0, none⟩ = some a0 ∧ w1.cell? ⟨b, 1, none⟩ = some a1 ∧ w1.cell? ⟨b, 2, none⟩ = some a2 ∧ w1.cell? ⟨b, 3, none⟩ = some a3 ∧ w1.cell? ⟨b, 4, none⟩ = some a4 ∧ w1.cell? ⟨b, 5, none⟩ = some a5 ∧ w1.cell? ⟨b, 6, none⟩ = some a6 ∧ w1.cell? ⟨b, 7, none⟩ = some a7 ∧ w1.cell? ⟨b, 8, none⟩ = some a8 ∧ w1.cell? ⟨b, 9, none⟩ = some a9 ∧ w1.cell? ⟨b, 10, none⟩ = some a10 ∧ w1.cell? ⟨b, 11, none⟩ = some a11 ∧ Below w0.heap.size w0 w1 :=
  ⟨h.cell 0, h.cell 1, h.cell 2, h.cell 3, h.cell 4, h.cell 5, h.cell 6, h.cell 7, h.cell 8, h.cell 9, h.cell 10, h.cell 11, hl⟩

theorem write_files (kind : Int) (c : Ctl) (l : List Attr) (s : List UInt8) : (writeO kind c l s).1.files.length ≤ c.files.length := by
  unfold writeO zeroC
  split
  · exact Nat.zero_le _
  split
  · exact Nat.le_refl _
  split
  · exact Nat.le_refl _
  split
  · split <;> exact Nat.zero_le _
  · exact Nat.zero_le _
theorem type_files (kind : Int) (c : Ctl) (l : List Attr) (s : List UInt8) : (typeO kind c l s).1.files.length ≤ c.files.length := by
  unfold typeO zeroC
  split
  · exact Nat.zero_le _
  split
  · exact Nat.le_refl _
  · exact Nat.zero_le _
theorem EntsAt.step {w w' : World} {v : Value} {fs : List Ent} (h : EntsAt w v fs) (hb : Below w.heap.size w w') : EntsAt w' v fs := h.below hb
theorem EntsAt.drew {w : World} {v : Value} {fs : List Ent} (h : EntsAt w v fs) : EntsAt w.drew v fs := h
end Go.Proofs.YtbhdoocajfkfiaaGreatDoor.ctl

namespace Go.Proofs.YtbhdoocajfkfiaaGreatDoor.ctl
open Go.ChangeShapes Go.WideShapes Go.ChangeAt Go.RowKit Go.Lib Go.Proofs.YtbhdoocajfkfiaaGreatDoor.num Go.Proofs.YtbhdoocajfkfiaaGreatDoor.mom Go.Proofs.YtbhdoocajfkfiaaGreatDoor.fits Go.Proofs.YtbhdoocajfkfiaaGreatDoor.atr Go.Proofs.YtbhdoocajfkfiaaGreatDoor.link Go.Proofs.YtbhdoocajfkfiaaGreatDoor.stp Go.Proofs.YtbhdoocajfkfiaaGreatDoor.cln

theorem attrs_one (W : World) (nm v : List UInt8) (T : TypeId) (b : Nat) (hb : b = W.heap.size) : AttrsAt (W.alloc (.cells #[.string ⟨nm.toArray⟩, .string ⟨v.toArray⟩] T)) (.slice (some ⟨b, 0, none⟩) 1 1) [(nm, v)] := by
  subst hb
  refine .inr ⟨W.heap.size, 0, 1, rfl, by simp, by simp, ?_⟩
  intro j hj
  have : j = 0 := by simpa using hj
  subst this
  constructor <;> (rw [World.cell?_alloc_new]; rfl)
theorem nobr_a : noBr [97, 10] = [97] := by decide
theorem attr_a : attrS nValue [(nValue, [97, 10])] = [97, 10] := by decide
theorem start_a : startV 2 [(nValue, [97, 10])] [] = [97] := by
  rw [startV_1 2 (by decide), attr_a, cleanV_A _ _ _ (Or.inl rfl)]; exact nobr_a
theorem fine_a : Fine [(nValue, [97, 10])] := ⟨by decide, fun a ha => by rw [List.mem_singleton] at ha; subst ha; decide⟩
set_option maxHeartbeats 3200000 in
set_option maxRecDepth 100000 in
theorem wakes14_any (w : World) (hG : G w) (hE : GE w) :
    Calls Tryz.prog 15 #[] w fun e w' => e = .returned (.bool true) ∧ Below w.heap.size w w' := by
  have h1 := Write_any 18 ⟨by decide, by decide⟩ zeroC (.slice none 0 0) (by decide) (.slice none 0 0) [] ⟨by decide, fun a h => by cases h⟩ [97] w (AttrsAt.nil w) (EntsAt.nil w) hG hE
  have ew : writeO 18 zeroC [] [97] = (zeroC, false, 8) := by rw [write_18 _ _ _ (by decide), if_neg (by decide)]
  rw [ew] at h1
  have h2 := fun w va h g k => Start_any 2 va [(nValue, [97, 10])] fine_a [] (by decide) w h g k
  rw [start_a] at h2
  have e2 : startC 2 [(nValue, [97, 10])] = false := by decide
  have e3 : startS 2 [(nValue, [97, 10])] = false := by decide
  rw [e2, e3] at h2
  have h3 := fun w => Value_any 16 [] false false false false false false false [] (.slice none 0 0) ⟨_, _, _, rfl⟩ (.slice none 0 0) [] ⟨by decide, fun a h => by cases h⟩ [] (fun x hx => by cases hx) w (AttrsAt.nil w) (EntsAt.nil w)
  have e4 : valueP 16 [] [] [] = onT := by decide
  rw [e4] at h3
  have e5 : onT = [111, 110] := rfl
  rw [e5] at h3
  clear ew e2 e3 e4 e5
  unfold ctlV at h2 h3
  dsimp only [cV, ctlV, zeroC] at h1
  go_enter Tryz.func15, Tryz.ntmps15
  go_wp2_with fail
  refine h1.mono ?_
  rintro e w1 ⟨f1, rfl, hf1, _, hb1⟩
  obtain ⟨oa, n, cap, rfl⟩ := hf1.isSl
  dsimp only [cV, ctlV, zeroC]
  clear hf1
  go_wp2_with fail
  have hl1 : Below w.heap.size w ((w1.alloc (.cells #[.string ⟨#[]⟩, .bool false, .bool false, .bool false, .bool false, .bool false, .bool false, .bool false, .string ⟨#[]⟩, .slice oa n cap] 24)).alloc (.cells #[.string ⟨#[118, 97, 108, 117, 101]⟩, .string ⟨#[97, 10]⟩] 77)) :=
    (hb1.alloc hb1.size _).alloc (by have := hb1.size; simp; omega) _
  refine (h2 _ _ (attrs_one _ [118, 97, 108, 117, 101] [97, 10] 77 _ (by simp)) (hG.below hl1) (hE.below hl1)).mono ?_
  rintro e w2 ⟨rfl, hb2⟩
  have hl2 := below_trans hl1 hb2
  clear h2 hl1 hb1
  go_wp2_with fail
  refine (h3 _).mono ?_
  rintro e w3 ⟨rfl, hb3⟩
  have hl3 : Below w.heap.size w w3 := below_trans (hl2.alloc hl2.size _) hb3
  have hc : w3.cell? ⟨w2.heap.size, 0, none⟩ = some (.string ⟨#[97]⟩) := (hb3.cell (p := ⟨w2.heap.size, 0, none⟩) (by simp)).trans (by rw [World.cell?_alloc_new]; rfl)
  clear hb3 hb2 h3
  go_wp2_with fail
  go_ret
  exact ⟨rfl, hl3⟩
end Go.Proofs.YtbhdoocajfkfiaaGreatDoor.ctl
