/- The session's methods that the examples use. The anchor of law26: the examples hold. ScriptNil: the walk. -/
import Derived.BigQuiet
import Derived.Carry
import Derived.ChangeAlike
import Derived.ChangeMaps5
import Derived.Deep.AppendLies
import Derived.Deep.CutBlock
import Derived.Deep.DeepCutAuto
import Derived.Deep.MidRow
import Derived.Deep.RegionHeld
import Derived.Deep.RegionHeld3
import Derived.Deep.RegionLaw
import Derived.Deep.RegionLawGrows
import Derived.Deep.SlicePairs
import Derived.Deep.Slices
import Derived.Ground.MpProg
import Derived.Laws.BytesArg
import Derived.Laws.CopyRow
import Derived.Laws.IdiomRangeMap
import Derived.Laws.IdiomStrings
import Derived.Laws.MakeOwn
import Derived.Laws.OwnMore
import Derived.Laws.Rows
import Derived.Lib.AppendIntMem
import Derived.Lib.AppendStr
import Derived.Lib.Hide
import Derived.Lib.IndexBytes
import Derived.Lib.IndexMore
import Derived.Lib.ItoaMem
import Derived.Lib.ItoaNum
import Derived.Lib.OwnKind
import Derived.Lib.Replace
import Derived.Lib.SlTrimSet
import Derived.Lib.SliceRun
import Derived.Lib.Strings
import Derived.LoopIn
import Derived.LoopN
import Derived.LoopNIn
import Derived.MapKept
import Derived.Maps.AppendAt
import Derived.OneCell
import Derived.OpenShut
import Derived.Orders
import Derived.OwnWalkIn
import Derived.ProofKit
import Derived.RangeFuncBound
import Derived.RangeFuncBox
import Derived.RangeFuncCalls
import Derived.RangeFuncLeaves
import Derived.RangeFuncNested
import Derived.RegionTactic
import Derived.Shelf.Abstract
import Derived.Shelf.RegionOpen
import Derived.Shelf.SlicesQ.IndexFunc
import Derived.Shelf.Strconv.AtoiAll
import Derived.Shelf.Strings.BuilderK
import Derived.Shelf.Strings.SlTrimAscii
import Derived.TacticsInMore
import Derived.WalkKit
import Derived.WalkSmall
import Derived.WalkSpells
import Derived.WideKeyArgs
import Derived.Test.YtkhgfngppcemlaaGreatDoorRows
import Derived.Test.YtkhgfngppcemlaaGreatDoorShelf
import Derived.Test.YtkhgfngppcemlaaGreatDoorP0
import Derived.Test.YtkhgfngppcemlaaGreatDoorP1
import Derived.Test.YtkhgfngppcemlaaGreatDoorP2
import Derived.Test.YtkhgfngppcemlaaGreatDoorP3
import Derived.Test.YtkhgfngppcemlaaGreatDoorP4
import Derived.Test.YtkhgfngppcemlaaGreatDoorP5
import Derived.Test.YtkhgfngppcemlaaGreatDoorP6
import Derived.Test.YtkhgfngppcemlaaGreatDoorP7
import Derived.Test.YtkhgfngppcemlaaGreatDoorP8
import Derived.Test.YtkhgfngppcemlaaGreatDoorP9
import Derived.Test.YtkhgfngppcemlaaGreatDoorP10
import Derived.Test.YtkhgfngppcemlaaGreatDoorP11
import Derived.Test.YtkhgfngppcemlaaGreatDoorP12
import Derived.Test.YtkhgfngppcemlaaGreatDoorP13
import Derived.Test.YtkhgfngppcemlaaGreatDoorP14
import Derived.Test.YtkhgfngppcemlaaGreatDoorP15
import Derived.Test.YtkhgfngppcemlaaGreatDoorP16
import Derived.Test.YtkhgfngppcemlaaGreatDoorP17
import Derived.Test.YtkhgfngppcemlaaGreatDoorP18
import Derived.Test.YtkhgfngppcemlaaGreatDoorP19
import Derived.Test.YtkhgfngppcemlaaGreatDoorP20
import Derived.Test.YtkhgfngppcemlaaGreatDoorP21
import Derived.Test.YtkhgfngppcemlaaGreatDoorP22
import Derived.Test.YtkhgfngppcemlaaGreatDoorP23
import Derived.Test.YtkhgfngppcemlaaGreatDoorP24
import Derived.Test.YtkhgfngppcemlaaGreatDoorP25
import Derived.Test.YtkhgfngppcemlaaGreatDoorP26
import Derived.Test.YtkhgfngppcemlaaGreatDoorP27
import Derived.Test.YtkhgfngppcemlaaGreatDoorP28
import Derived.Test.YtkhgfngppcemlaaGreatDoorP29
import Derived.Test.YtkhgfngppcemlaaGreatDoorP30
import Derived.Test.YtkhgfngppcemlaaGreatDoorP31
import Derived.Test.YtkhgfngppcemlaaGreatDoorP32
import Derived.Test.YtkhgfngppcemlaaGreatDoorP33
namespace Go.Proofs.YtkhgfngppcemlaaGreatDoor.scr
open Go Go.RowKit Go.ChangeShapes Go.WideShapes Go.ChangeAt Go.Lib Go.Proofs.YtkhgfngppcemlaaGreatDoor.doc Go.Proofs.YtkhgfngppcemlaaGreatDoor.atr Go.Proofs.YtkhgfngppcemlaaGreatDoor.ctl Go.Proofs.YtkhgfngppcemlaaGreatDoor.str

def SesAt (w : World) (s e : Nat) : Prop := w.heap[s]? = some (.cells #[.pointer (some ⟨e, 0, none⟩)] 39 (0, 0))
theorem SesAt.c0 {w : World} {s e : Nat} (h : SesAt w s e) : w.cell? ⟨s, 0, none⟩ = some (.pointer (some ⟨e, 0, none⟩)) := by unfold SesAt at h; simp [World.cell?, h]
theorem SesAt.below {w w' : World} {s e : Nat} (h : SesAt w s e) (hb : Below w.heap.size w w') : SesAt w' s e := (hb.block s (Array.getElem?_eq_some_iff.1 h).1).trans h
theorem SesAt.eff {H : Nat} {w w' : World} {s e : Nat} (h : SesAt w s e) (k : Eff H w w') : SesAt w' s e := k.keep s _ _ _ h (by decide) (by decide)
theorem SesAt.words {w w' : World} {s e x : Nat} {r : List UInt8} {en b : Bool} (h : SesAt w s e) (hW : WdAt w x r en b) (k : w.grownBy w' (some x)) : SesAt w' s e :=
  (k.block s (Array.getElem?_eq_some_iff.1 h).1 (fun e1 => by
    injection e1 with e1
    subst e1
    unfold SesAt at h
    unfold WdAt at hW
    rw [hW] at h
    cases h)).trans h
theorem low_words {H x : Nat} {w w' : World} (hH : H ≤ w.heap.size) (hx : H ≤ x) (k : w.grownBy w' (some x)) : Below H w w' := (Below.refl _ _).grown k hH (fun b e => by cases e; exact hx)
theorem E0.words {w w' : World} {H e x : Nat} {r : List UInt8} {en b : Bool} (h : E0 w H e) (hW : WdAt w x r en b) (k : w.grownBy w' (some x)) : E0 w' H e := by
  obtain ⟨fs, vn, vc, h⟩ := h
  exact ⟨fs, vn, vc, h.other nof1 hW (by decide) (by decide) (by decide) (by decide) (by decide) k⟩
theorem E1.words {w w' : World} {H e x : Nat} {r : List UInt8} {en b : Bool} (h : E1 w H e) (hW : WdAt w x r en b) (k : w.grownBy w' (some x)) : E1 w' H e := by
  obtain ⟨fs, vn, vc, h⟩ := h
  exact ⟨fs, vn, vc, h.other nof2 hW (by decide) (by decide) (by decide) (by decide) (by decide) k⟩
theorem E2.words {w w' : World} {H e x : Nat} {r : List UInt8} {en b : Bool} (h : E2 w H e) (hW : WdAt w x r en b) (k : w.grownBy w' (some x)) : E2 w' H e := by
  obtain ⟨ps, fs, vn, vc, h⟩ := h
  exact ⟨ps, fs, vn, vc, h.other nof2 hW (by decide) (by decide) (by decide) (by decide) (by decide) k⟩
theorem E0.below {w w' : World} {H e : Nat} (h : E0 w H e) (hb : Below w.heap.size w w') : E0 w' H e := by
  obtain ⟨fs, vn, vc, h⟩ := h
  exact ⟨fs, vn, vc, h.eff hb⟩
theorem E1.below {w w' : World} {H e : Nat} (h : E1 w H e) (hb : Below w.heap.size w w') : E1 w' H e := by
  obtain ⟨fs, vn, vc, h⟩ := h
  exact ⟨fs, vn, vc, h.eff hb⟩
theorem E2.below {w w' : World} {H e : Nat} (h : E2 w H e) (hb : Below w.heap.size w w') : E2 w' H e := by
  obtain ⟨ps, fs, vn, vc, h⟩ := h
  exact ⟨ps, fs, vn, vc, h.eff hb⟩
/-- what stands between two lines -/
structure Ses (W : World) (K : World → Prop) (s e : Nat) (w : World) : Prop where
  low : Below W.heap.size W w
  ses : SesAt w s e
  eng : K w
theorem Ses.g {W : World} {K : World → Prop} {s e : Nat} {w : World} (h : Ses W K s e w) (hG : G W) : G w := hG.below h.low

/-- made, of a form -/
theorem made_form (W : World) (hG : G W) (s e : Nat) (w : World) (hS : Ses W (E0 · W.heap.size e) s e w) :
    Calls Tryz.prog 40 #[.pointer (some ⟨s, 0, none⟩), .string ⟨#[102, 111, 114, 109]⟩, .string ⟨#[]⟩] w fun en w' => en = .returned (.string ⟨#[49]⟩) ∧ Ses W (E1 · W.heap.size e) s e w' := by
  have ha := eadd W.heap.size e w hS.low.size hS.eng
  have c0 := hS.ses.c0
  have HS := Lib.hid hS
  have HG := Lib.hid hG
  clear hS hG
  go_enter Tryz.func40, Tryz.ntmps40
  go_wp2_with fail
  refine ha.mono ?_
  rintro en w1 ⟨rfl, hE1, hf1⟩
  have hb01 := HS.out.low.trans hf1.low
  have hd := digits_any 1 (by decide) w1 (HG.out.below hb01)
  have HX := Lib.hid (⟨hb01, HS.out.ses.eff hf1, hE1⟩ : Ses W (E1 · W.heap.size e) s e w1)
  clear hE1 hf1 hb01 ha
  go_wp2_with fail
  refine hd.mono ?_
  rintro en w2 ⟨rfl, hb2⟩
  have HY := Lib.hid (⟨HX.out.low.trans (hb2.mono HX.out.low.size), HX.out.ses.below hb2, HX.out.eng.below hb2⟩ : Ses W (E1 · W.heap.size e) s e w2)
  clear hd
  go_wp2_with fail
  go_ret
  exact ⟨by rw [show decDigits 1 = [49] from by kernel_rfl]; rfl, HY.out⟩
set_option maxHeartbeats 1600000 in
theorem add_form (W : World) (hG : G W) (s e x : Nat) (hx : W.heap.size ≤ x) (w : World) (hS : Ses W (E0 · W.heap.size e) s e w) (hW : WdAt w x [102, 111, 114, 109] false false) :
    Calls Tryz.prog 8 #[.pointer (some ⟨s, 0, none⟩), .pointer (some ⟨x, 0, none⟩)] w fun en w' => en = .returned (.string ⟨#[49]⟩) ∧ Ses W (E1 · W.heap.size e) s e w' := by
  have hn := name_any x [102, 111, 114, 109] false (by decide) [102, 111, 114, 109] [] false (by decide) (by decide) (by decide) w (hS.g hG) hW
  have HS := Lib.hid hS
  have HG := Lib.hid hG
  have HW := Lib.hid hW
  have HX := Lib.hid hx
  clear hS hG hW hx
  go_enter Tryz.func8, Tryz.ntmps8
  go_wp2_with fail
  refine hn.mono ?_
  rintro en w1 ⟨rfl, hW1, hg1⟩
  have hS1 : Ses W (E0 · W.heap.size e) s e w1 := ⟨HS.out.low.trans (low_words HS.out.low.size HX.out hg1), HS.out.ses.words HW.out hg1, HS.out.eng.words HW.out hg1⟩
  have hw := whole_yes x [] w1 hW1
  have hm := made_form W HG.out s e w1 hS1
  clear hn hW1 hg1 hS1
  go_wp2_with fail
  refine hw.mono ?_
  rintro en w2 ⟨rfl, rfl⟩
  clear hw
  go_wp2_with fail
  refine hm.mono ?_
  rintro en w3 ⟨rfl, hS3⟩
  have HS3 := Lib.hid hS3
  clear hm hS3
  go_wp2_with fail
  go_ret
  exact ⟨rfl, HS3.out⟩
set_option maxHeartbeats 3200000 in
theorem insert_form (W : World) (hG : G W) (s e x : Nat) (hx : W.heap.size ≤ x) (w : World) (hS : Ses W (E1 · W.heap.size e) s e w) (hW : WdAt w x [48, 32, 49, 32, 45, 49] false false) :
    Calls Tryz.prog 10 #[.pointer (some ⟨s, 0, none⟩), .pointer (some ⟨x, 0, none⟩)] w fun en w' => en = .returned (.string ⟨#[111, 107]⟩) ∧ Ses W (E2 · W.heap.size e) s e w' := by
  have h1 := number_any x [48, 32, 49, 32, 45, 49] false (by decide) [48] [49, 32, 45, 49] true (by decide) (by decide) 48 [] 0 (by decide) (by decide) (by decide) (by kernel_rfl) w (hS.g hG) hW
  have HS := Lib.hid hS
  have HG := Lib.hid hG
  have HW := Lib.hid hW
  have HX := Lib.hid hx
  clear hS hG hW hx
  go_enter Tryz.func10, Tryz.ntmps10
  go_wp2_with fail
  refine h1.mono ?_
  rintro en w1 ⟨rfl, hW1, hg1⟩
  have HS1 := Lib.hid (⟨HS.out.low.trans (low_words HS.out.low.size HX.out hg1), HS.out.ses.words HW.out hg1, HS.out.eng.words HW.out hg1⟩ : Ses W (E1 · W.heap.size e) s e w1)
  have h2 := number_any x [49, 32, 45, 49] false (by decide) [49] [45, 49] true (by decide) (by decide) 49 [] 1 (by decide) (by decide) (by decide) (by kernel_rfl) w1 (HS1.out.g HG.out) hW1
  have HW1 := Lib.hid hW1
  clear h1 hW1 hg1
  go_wp2_with fail
  refine h2.mono ?_
  rintro en w2 ⟨rfl, hW2, hg2⟩
  have HS2 := Lib.hid (⟨HS1.out.low.trans (low_words HS1.out.low.size HX.out hg2), HS1.out.ses.words HW1.out hg2, HS1.out.eng.words HW1.out hg2⟩ : Ses W (E1 · W.heap.size e) s e w2)
  have h3 := number_any x [45, 49] false (by decide) [45, 49] [] false (by decide) (by decide) 49 [] (-1) (by decide) (by decide) (by decide) (by kernel_rfl) w2 (HS2.out.g HG.out) hW2
  have HW2 := Lib.hid hW2
  clear h2 hW2 hg2
  go_wp2_with fail
  refine h3.mono ?_
  rintro en w3 ⟨rfl, hW3, hg3⟩
  have hS3 : Ses W (E1 · W.heap.size e) s e w3 := ⟨HS2.out.low.trans (low_words HS2.out.low.size HX.out hg3), HS2.out.ses.words HW2.out hg3, HS2.out.eng.words HW2.out hg3⟩
  have hw := whole_yes x [] w3 hW3
  have c0 := hS3.ses.c0
  have hi := einsert W.heap.size e w3 hS3.low.size hS3.eng
  have HS3 := Lib.hid hS3
  clear h3 hW3 hg3 hS3
  go_wp2_with fail
  refine hw.mono ?_
  rintro en w4 ⟨rfl, rfl⟩
  clear hw
  go_wp2_with fail
  refine hi.mono ?_
  rintro en w5 ⟨rfl, hE5, hf5⟩
  have HS5 := Lib.hid (⟨HS3.out.low.trans hf5.low, HS3.out.ses.eff hf5, hE5⟩ : Ses W (E2 · W.heap.size e) s e w5)
  have hd := done_ok w5
  clear hi hE5 hf5 c0
  go_wp2_with fail
  refine hd.mono ?_
  rintro en w6 ⟨rfl, rfl⟩
  clear hd
  go_wp2_with fail
  go_ret
  exact ⟨rfl, HS5.out⟩
set_option maxHeartbeats 1600000 in
theorem one_click (W : World) (hG : G W) (s e x : Nat) (hx : W.heap.size ≤ x) (w : World) (hS : Ses W (E2 · W.heap.size e) s e w) (hW : WdAt w x [57] false false) :
    Calls Tryz.prog 44 #[.pointer (some ⟨x, 0, none⟩), .func (.func 60) #[.pointer (some ⟨e, 0, none⟩)] #[]] w fun en w' => en = .returned (.string ⟨#[101, 114, 114, 111, 114, 32, 52]⟩) ∧ Ses W (E2 · W.heap.size e) s e w' := by
  have h1 := number_any x [57] false (by decide) [57] [] false (by decide) (by decide) 57 [] 9 (by decide) (by decide) (by decide) (by kernel_rfl) w (hS.g hG) hW
  have HS := Lib.hid hS
  have HG := Lib.hid hG
  have HW := Lib.hid hW
  have HX := Lib.hid hx
  clear hS hG hW hx
  go_enter Tryz.func44, Tryz.ntmps44
  go_wp2_with fail
  refine h1.mono ?_
  rintro en w1 ⟨rfl, hW1, hg1⟩
  have hS1 : Ses W (E2 · W.heap.size e) s e w1 := ⟨HS.out.low.trans (low_words HS.out.low.size HX.out hg1), HS.out.ses.words HW.out hg1, HS.out.eng.words HW.out hg1⟩
  have hw := whole_yes x [] w1 hW1
  have hc := eclick W.heap.size e w1 hS1.eng
  have hd := done_err 4 [52] (by kernel_rfl) (by decide) (by decide) (by decide) w1 (hS1.g HG.out)
  have HS1 := Lib.hid hS1
  clear h1 hW1 hg1 hS1
  go_wp2_with fail
  refine hw.mono ?_
  rintro en w2 ⟨rfl, rfl⟩
  clear hw
  go_wp2_with fail
  refine hc.mono ?_
  rintro en w3 ⟨rfl, rfl⟩
  clear hc
  go_wp2_with fail
  refine hd.mono ?_
  rintro en w4 ⟨rfl, hb4⟩
  have HS4 := Lib.hid (⟨HS1.out.low.trans (hb4.mono HS1.out.low.size), HS1.out.ses.below hb4, HS1.out.eng.below hb4⟩ : Ses W (E2 · W.heap.size e) s e w4)
  clear hd
  go_wp2_with fail
  go_ret
  exact ⟨rfl, HS4.out⟩
theorem click_nine (W : World) (hG : G W) (s e x : Nat) (hx : W.heap.size ≤ x) (w : World) (hS : Ses W (E2 · W.heap.size e) s e w) (hW : WdAt w x [57] false false) :
    Calls Tryz.prog 23 #[.pointer (some ⟨s, 0, none⟩), .pointer (some ⟨x, 0, none⟩)] w fun en w' => en = .returned (.string ⟨#[101, 114, 114, 111, 114, 32, 52]⟩) ∧ Ses W (E2 · W.heap.size e) s e w' := by
  have h := one_click W hG s e x hx w hS hW
  have c0 := hS.ses.c0
  clear hS hG hW hx
  go_enter Tryz.func23, Tryz.ntmps23
  go_wp2_with fail
  refine h.mono ?_
  rintro en w1 ⟨rfl, hS1⟩
  have HS1 := Lib.hid hS1
  clear h hS1 c0
  go_wp2_with fail
  go_ret
  exact ⟨rfl, HS1.out⟩
end Go.Proofs.YtkhgfngppcemlaaGreatDoor.scr
namespace Go.Proofs.YtkhgfngppcemlaaGreatDoor.scr
open Go Go.RowKit Go.ChangeShapes Go.WideShapes Go.ChangeAt Go.Lib Go.Proofs.YtkhgfngppcemlaaGreatDoor.doc Go.Proofs.YtkhgfngppcemlaaGreatDoor.atr Go.Proofs.YtkhgfngppcemlaaGreatDoor.ctl Go.Proofs.YtkhgfngppcemlaaGreatDoor.str

theorem own_of_blk {w : World} {H b : Nat} {E : TypeId} {size : Nat} {cs : Array Value} (h : w.heap[b]? = some (.cells cs E (0, 0))) (hb : H ≤ b) (hs : cs.size = size) (_hm : 1 ≤ size) (_h1 : size ≤ 100) : w.ownsRow H E size (.slice (some ⟨b, 0, none⟩) 1 1) 1 cs.toList := by
  refine ⟨by simp [hs], .inr ⟨b, 1, cs, rfl, hb, h, by omega, by unfold maxLen; omega, by omega, ?_⟩⟩
  rw [List.take_of_length_le (by simp [hs])]
theorem eng_of_ne {w : World} {H : Nat} {v : Value} (h : NE H v w) : ∃ e, v = .pointer (some ⟨e, 0, none⟩) ∧ E0 w H e := by
  obtain ⟨e, vn, vc, x0, x1, x2, x5, x6, x7, x8, x9, x10, x11, rfl, he, ⟨b, rfl, hb, hn⟩, ⟨c, rfl, hc, hk⟩, hx⟩ := h
  refine ⟨e, rfl, [vN], _, _, ⟨⟨_, _, _, _, _, _, _, _, _, _, hx⟩, he, ⟨rfl, own_of_blk hn hb rfl (by decide) (by decide), fun j a b => ?_, fun j a b => ?_⟩, ⟨rfl, own_of_blk hk hc rfl (by decide) (by decide), fun j a b => ?_, fun j a b hne => ?_⟩⟩⟩
  · match j, a with
    | 0, a => exact World.ownsRow_nil _ _ _ _
  · match j, a with
    | 0, a => exact World.ownsRow_nil _ _ _ _
  · match j, a with
    | 0, a => exact ents_nil _
  · match j, a with
    | 0, a => exact absurd rfl hne
set_option maxRecDepth 100000 in
theorem snew (W : World) : Calls Tryz.prog 6 #[.slice none 0 0] W fun en w' => ∃ s e, en = .returned (.pointer (some ⟨s, 0, none⟩)) ∧ Ses W (E0 · W.heap.size e) s e w' := by
  have h := new_ne W
  go_enter Tryz.func6, Tryz.ntmps6
  go_wp2_with fail
  refine h.mono ?_
  rintro en w1 ⟨v, rfl, hN, hb1⟩
  obtain ⟨e, rfl, hE⟩ := eng_of_ne hN
  have hbA : Below w1.heap.size w1 (w1.alloc (.cells #[.pointer (some ⟨e, 0, none⟩)] 39)) := (Below.refl _ _).alloc (Nat.le_refl _) _
  have HX : Hid (Ses W (E0 · W.heap.size e) w1.heap.size e (w1.alloc (.cells #[.pointer (some ⟨e, 0, none⟩)] 39))) := Lib.hid ⟨below_trans hb1 hbA, heap_alloc_new _ _, hE.below hbA⟩
  clear h hN hE hbA
  go_wp2_with fail
  go_ret
  exact ⟨_, e, rfl, HX.out⟩
/-- a line done: what it answers, and what stands behind it -/
theorem ses_below {W : World} {K : World → Prop} {s e : Nat} {w w' : World} (hS : Ses W K s e w) (hK : ∀ w', Below w.heap.size w w' → K w') (hb : Below w.heap.size w w') : Ses W K s e w' := ⟨hS.low.trans (hb.mono hS.low.size), hS.ses.below hb, hK w' hb⟩
theorem ret_one {P : Program} {f : FuncId} {args : Array Value} {w : World} {v : Value} {X : World → Prop} (t : List UInt8) (ht : v = .string ⟨t.toArray⟩) (h : Calls P f args w fun en w' => en = .returned v ∧ X w') : Calls P f args w fun en w' => ∃ u : List UInt8, en = .returned (.string ⟨u.toArray⟩) ∧ u = t ∧ X w' :=
  h.mono fun _ _ h => ⟨t, h.1.trans (by rw [ht]), rfl, h.2⟩
theorem do_add (W : World) (hG : G W) (s e : Nat) (w : World) (hS : Ses W (E0 · W.heap.size e) s e w) :
    Calls Tryz.prog 5 #[.pointer (some ⟨s, 0, none⟩), .string ⟨#[97, 100, 100, 32, 102, 111, 114, 109]⟩] w fun en w' => en = .returned (.string ⟨#[49]⟩) ∧ Ses W (E1 · W.heap.size e) s e w' :=
  (do_any s [97, 100, 100, 32, 102, 111, 114, 109] [97, 100, 100] [102, 111, 114, 109] true (by decide) (by decide) w (hS.g hG) (fun t w2 => t = [49] ∧ Ses W (E1 · W.heap.size e) s e w2)
    (.inr ⟨8, by kernel_rfl, fun s x w => by kernel_rfl, fun w' x hb hx hW => ret_one [49] rfl (add_form W hG s e x (Nat.le_trans hS.low.size hx) w' (ses_below hS (fun _ h => hS.eng.below h) hb) hW)⟩)).mono
    fun _ _ ⟨t, h1, h2, h3⟩ => ⟨h1.trans (by rw [h2]), h3⟩
theorem do_insert (W : World) (hG : G W) (s e : Nat) (w : World) (hS : Ses W (E1 · W.heap.size e) s e w) :
    Calls Tryz.prog 5 #[.pointer (some ⟨s, 0, none⟩), .string ⟨#[105, 110, 115, 101, 114, 116, 32, 48, 32, 49, 32, 45, 49]⟩] w fun en w' => en = .returned (.string ⟨#[111, 107]⟩) ∧ Ses W (E2 · W.heap.size e) s e w' :=
  (do_any s [105, 110, 115, 101, 114, 116, 32, 48, 32, 49, 32, 45, 49] [105, 110, 115, 101, 114, 116] [48, 32, 49, 32, 45, 49] true (by decide) (by decide) w (hS.g hG) (fun t w2 => t = [111, 107] ∧ Ses W (E2 · W.heap.size e) s e w2)
    (.inr ⟨10, by kernel_rfl, fun s x w => by kernel_rfl, fun w' x hb hx hW => ret_one [111, 107] rfl (insert_form W hG s e x (Nat.le_trans hS.low.size hx) w' (ses_below hS (fun _ h => hS.eng.below h) hb) hW)⟩)).mono
    fun _ _ ⟨t, h1, h2, h3⟩ => ⟨h1.trans (by rw [h2]), h3⟩
theorem do_click (W : World) (hG : G W) (s e : Nat) (w : World) (hS : Ses W (E2 · W.heap.size e) s e w) :
    Calls Tryz.prog 5 #[.pointer (some ⟨s, 0, none⟩), .string ⟨#[99, 108, 105, 99, 107, 32, 57]⟩] w fun en w' => en = .returned (.string ⟨#[101, 114, 114, 111, 114, 32, 52]⟩) ∧ Ses W (E2 · W.heap.size e) s e w' :=
  (do_any s [99, 108, 105, 99, 107, 32, 57] [99, 108, 105, 99, 107] [57] true (by decide) (by decide) w (hS.g hG) (fun t w2 => t = [101, 114, 114, 111, 114, 32, 52] ∧ Ses W (E2 · W.heap.size e) s e w2)
    (.inr ⟨23, by kernel_rfl, fun s x w => by kernel_rfl, fun w' x hb hx hW => ret_one [101, 114, 114, 111, 114, 32, 52] rfl (click_nine W hG s e x (Nat.le_trans hS.low.size hx) w' (ses_below hS (fun _ h => hS.eng.below h) hb) hW)⟩)).mono
    fun _ _ ⟨t, h1, h2, h3⟩ => ⟨h1.trans (by rw [h2]), h3⟩
theorem do_foo (W : World) (hG : G W) (s e : Nat) (w : World) (hS : Ses W (E2 · W.heap.size e) s e w) :
    Calls Tryz.prog 5 #[.pointer (some ⟨s, 0, none⟩), .string ⟨#[102, 111, 111]⟩] w fun en w' => en = .returned (.string ⟨#[101, 114, 114, 111, 114, 32, 49, 50]⟩) ∧ Below W.heap.size W w' :=
  (do_any s [102, 111, 111] [102, 111, 111] [] false (by decide) (by decide) w (hS.g hG) (fun t w2 => t = [101, 114, 114, 111, 114, 32, 49, 50] ∧ Below W.heap.size W w2)
    (.inl ⟨by kernel_rfl, fun w' hb => ⟨rfl, hS.low.trans (hb.mono hS.low.size)⟩⟩)).mono
    fun _ _ ⟨t, h1, h2, h3⟩ => ⟨h1.trans (by rw [h2]), h3⟩
set_option maxHeartbeats 3200000 in
set_option maxRecDepth 100000 in
theorem wakes_any (W : World) (hG : G W) : Calls Tryz.prog 4 #[] W fun en w' => en = .returned (.bool true) ∧ Below W.heap.size W w' := by
  have h := snew W
  have HA := Lib.hid (do_add W hG)
  have HI := Lib.hid (do_insert W hG)
  have HC := Lib.hid (do_click W hG)
  have HF := Lib.hid (do_foo W hG)
  clear hG
  go_enter Tryz.func4, Tryz.ntmps4
  go_wp2_with fail
  refine h.mono ?_
  rintro en w1 ⟨s, e, rfl, hS⟩
  have ha := HA.out s e w1 hS
  clear h hS
  go_wp2_with fail
  refine ha.mono ?_
  rintro en w2 ⟨rfl, hS⟩
  have hi := HI.out s e w2 hS
  clear ha hS
  go_wp2_with fail
  refine hi.mono ?_
  rintro en w3 ⟨rfl, hS⟩
  have hc := HC.out s e w3 hS
  clear hi hS
  go_wp2_with fail
  refine hc.mono ?_
  rintro en w4 ⟨rfl, hS⟩
  have hf := HF.out s e w4 hS
  clear hc hS
  go_wp2_with fail
  refine hf.mono ?_
  rintro en w5 ⟨rfl, hb⟩
  clear hf
  go_wp2_with fail
  go_ret
  exact ⟨rfl, hb⟩
end Go.Proofs.YtkhgfngppcemlaaGreatDoor.scr
namespace Go.Proofs.YtkhgfngppcemlaaGreatDoor.scr
open Go Go.RowKit Go.ChangeShapes Go.WideShapes Go.ChangeAt Go.Lib Go.Proofs.YtkhgfngppcemlaaGreatDoor.str

set_option maxHeartbeats 3200000 in
set_option maxRecDepth 100000 in
theorem nil_walk (l : List UInt8) (_hl : (⟨l.toArray⟩ : ByteArray).size ≤ 9223372036854775807) (W : World) (hG : G W) :
    Calls Tryz.prog 3 #[.string ⟨l.toArray⟩] W fun en w' => en = .returned (.bool true) ∧ Below W.heap.size W w' := by
  have h := wakes_any W hG
  have HG := Lib.hid hG
  clear hG
  go_enter Tryz.func3, Tryz.ntmps3
  go_wp2_with fail
  refine h.mono ?_
  rintro en w1 ⟨rfl, hb1⟩
  have hn := do_nil ⟨l.toArray⟩ w1 (HG.out.below hb1)
  clear h
  go_wp2_with fail
  refine hn.mono ?_
  rintro en w2 ⟨rfl, hb2⟩
  have hb := below_trans hb1 hb2
  clear hn hb1 hb2
  go_wp2_with fail
  go_ret
  exact ⟨rfl, hb⟩
end Go.Proofs.YtkhgfngppcemlaaGreatDoor.scr
