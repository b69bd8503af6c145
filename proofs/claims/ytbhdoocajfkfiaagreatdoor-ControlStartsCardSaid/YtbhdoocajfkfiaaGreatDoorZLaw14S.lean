/- law14: the walk of ControlStarts. -/
import Derived.Test.YtbhdoocajfkfiaaGreatDoorMs
import Derived.Test.YtbhdoocajfkfiaaGreatDoorMp
import Derived.Test.YtbhdoocajfkfiaaGreatDoorZChangeW
import Derived.Test.YtbhdoocajfkfiaaGreatDoorZRChangeW
import Derived.Test.YtbhdoocajfkfiaaGreatDoorMo
import Derived.Deep.RegionHeld3
namespace Go.Proofs.YtbhdoocajfkfiaaGreatDoor.ctl
open Go.ChangeShapes Go.WideShapes Go.ChangeAt Go.RowKit Go.Lib Go.Proofs.YtbhdoocajfkfiaaGreatDoor.num Go.Proofs.YtbhdoocajfkfiaaGreatDoor.mom Go.Proofs.YtbhdoocajfkfiaaGreatDoor.fits Go.Proofs.YtbhdoocajfkfiaaGreatDoor.atr Go.Proofs.YtbhdoocajfkfiaaGreatDoor.link Go.Proofs.YtbhdoocajfkfiaaGreatDoor.stp Go.Proofs.YtbhdoocajfkfiaaGreatDoor.cln

set_option maxHeartbeats 6400000 in
set_option maxRecDepth 100000 in
theorem starts_walk (kind : Int) (_hk : i64 kind) (v : List UInt8) (d t ch dc m s ds : Bool) (cu : List UInt8) (f : Value) (fs : List Ent) (hbig : fs.length * 72 ≤ 140737488355328) (hnm : ∀ x ∈ fs, x.fname.length ≤ 1000000000000000) (va : Value) (l : List Attr) (x : List UInt8) (_hx : (⟨x.toArray⟩ : ByteArray).size ≤ maxLen) (w : World) (hA : AttrsAt w va l) (hF : EntsAt w f fs) (hG : G w) (hE : GE w) :
    Calls Tryz.prog 3 #[itemV kind v d t ch dc m s ds cu f va, .string ⟨x.toArray⟩] w fun e w' => e = .returned (.bool true) ∧ Below w.heap.size w w' := by
  clear _hx
  have hlb : fs.length ≤ 10000000000000 := by omega
  obtain ⟨fa, fc, rfl⟩ := RowAt.lenN hF
  have hL := fun w h => long14_any kind v d t ch dc m s ds cu (.slice fa fs.length fc) va l x w h
  have hW := fun w g k => wakes14_any w g k
  have hB : Below w.heap.size w (w.alloc (.cells #[.int .i64 kind, .string ⟨v.toArray⟩, .bool d, .bool t, .bool ch, .bool dc, .bool m, .bool s, .bool ds, .string ⟨cu.toArray⟩, .slice fa fs.length fc, va] 27)) := (Below.refl _ _).alloc (Nat.le_refl _) _
  have hh0 := h12_blk (Blk.fresh w [.int .i64 kind, .string ⟨v.toArray⟩, .bool d, .bool t, .bool ch, .bool dc, .bool m, .bool s, .bool ds, .string ⟨cu.toArray⟩, .slice fa fs.length fc, va] 27) hB
  unfold itemV at hL ⊢
  go_enter Tryz.func3, Tryz.ntmps3
  go_wp2_with fail
  refine (hW _ (hG.below hB) (hE.below hB)).mono ?_
  rintro e w1 ⟨rfl, hb1⟩
  have hh1 := h12_below hb1 hh0
  have HH1 := hh1
  obtain ⟨c0, c1, c2, c3, c4, c5, c6, c7, c8, c9, c10, c11, hlow⟩ := HH1
  have lt1 := lt_of_cell c0
  have ne1 : ¬ w.heap.size = w1.heap.size := by omega
  have nf1 : ¬ w1.heap.size = w.heap.size := by omega
  clear hW
  go_wp2_with fail
  refine (hL _ (hA.below (h12_last hh1))).mono ?_
  rintro e w2 ⟨⟨b, rfl, hS⟩, hb2⟩
  have hh2 := h12_below hb2 hh1
  have HH2 := hh2
  clear c0 c1 c2 c3 c4 c5 c6 c7 c8 c9 c10 c11 hlow
  obtain ⟨c0, c1, c2, c3, c4, c5, c6, c7, c8, c9, c10, c11, hlow⟩ := HH2
  have lt2 := lt_of_cell c0
  have ne2 : ¬ w.heap.size = w2.heap.size := by omega
  have nf2 : ¬ w2.heap.size = w.heap.size := by omega
  clear hL
  cases b
  case true =>
    go_wp2_with fail
    go_ret
    exact ⟨rfl, h12_last hh2⟩
  have hSh := hS rfl
  have hfine := hSh.fine
  have hvl := hSh.value
  have hxl := hSh.text
  have heach := hSh.each
  clear hS hb1 hb2 hh0 hB hSh
  have hx6 : x.length ≤ 1000000 := by omega
  have hw1 := fun w h1 h3 h4 => Start_any kind va l hfine x hx6 w h1 h3 h4
  have hw2 := fun w h1 => rStart_any kind va l hfine x hx6 w h1
  have hw3 := fun w h1 h2 => Value_any kind v d t ch dc m s ds cu (.slice fa fs.length fc) ⟨_, _, _, rfl⟩ va l hfine fs hnm w h1 h2
  have hw4 := fun w h1 h2 => rValue_any kind v d t ch dc m s ds cu (.slice fa fs.length fc) ⟨_, _, _, rfl⟩ va l hfine fs hnm w h1 h2
  have hsm := fun w => same_any (startV kind l x) false false (startC kind l) false false (startS kind l) false [] (.slice none 0 0) (.slice none 0 0) [] (by decide) w (EntsAt.nil w) (EntsAt.nil w)
  generalize startV kind l x = y1 at *
  generalize startC kind l = y2 at *
  generalize startS kind l = y3 at *
  generalize valueP kind v fs l = z at *
  unfold ctlV at hw1 hw2 hw3 hw4 hsm
  clear hfine hvl hxl heach hlb hbig hx6 hnm
  go_wp2_with fail
  go_region_held3 (fun w' => w'.cell? ⟨w.heap.size, 0, none⟩ = some (.int .i64 kind) ∧ w'.cell? ⟨w.heap.size, 1, none⟩ = some (.string ⟨v.toArray⟩) ∧ w'.cell? ⟨w.heap.size, 2, none⟩ = some (.bool d) ∧ w'.cell? ⟨w.heap.size, 3, none⟩ = some (.bool t) ∧ w'.cell? ⟨w.heap.size, 4, none⟩ = some (.bool ch) ∧ w'.cell? ⟨w.heap.size, 5, none⟩ = some (.bool dc) ∧ w'.cell? ⟨w.heap.size, 6, none⟩ = some (.bool m) ∧ w'.cell? ⟨w.heap.size, 7, none⟩ = some (.bool s) ∧ w'.cell? ⟨w.heap.size, 8, none⟩ = some (.bool ds) ∧ w'.cell? ⟨w.heap.size, 9, none⟩ = some (.string ⟨cu.toArray⟩) ∧ w'.cell? ⟨w.heap.size, 10, none⟩ = some (.slice fa fs.length fc) ∧ w'.cell? ⟨w.heap.size, 11, none⟩ = some (va) ∧ Below w.heap.size w w')
    (first | assumption | exact h12_drew hh2 | (refine h12_below (by assumption) (by assumption)))
    (first | (go_at_call_of 18 (Value.int .i64 kind); refine (hw1 _ (hA.below (h12_last (by assumption))) (hG.below (h12_last (by assumption))) (hE.below (h12_last (by assumption)))).mono ?_; rintro e w9 ⟨rfl, hb9⟩) | (go_at_call_of 19 (Value.int .i64 kind); refine (hw2 _ (hA.below (h12_last (by assumption)))).mono ?_; rintro e w8 ⟨rfl, hb8⟩) | (go_at_call 17; refine (hsm _).mono ?_; rintro e w7 ⟨rfl, hb7⟩) | (go_at_call 20; refine (hw3 _ (hA.below (h12_last (by assumption))) (EntsAt.below hF (h12_last (by assumption)))).mono ?_; rintro e w6 ⟨rfl, hb6⟩) | (go_at_call 21; refine (hw4 _ (hA.below (h12_last (by assumption))) (EntsAt.below hF (h12_last (by assumption)))).mono ?_; rintro e w5 ⟨rfl, hb5⟩))
  all_goals
    go_wp2_with fail
    go_ret
    exact ⟨rfl, h12_last (by assumption)⟩
end Go.Proofs.YtbhdoocajfkfiaaGreatDoor.ctl
