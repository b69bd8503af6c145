/- The contract of text.Collapse. -/
import Derived.BigQuiet
import Derived.ChangeAlike
import Derived.Deep.CutBlock
import Derived.Deep.DeepCutAuto
import Derived.Deep.MidRow
import Derived.Deep.RegionHeld3
import Derived.Deep.SlicePairs
import Derived.Deep.Slices
import Derived.Ground.MpProg
import Derived.Laws.BytesArg
import Derived.Laws.IdiomStrings
import Derived.Laws.OwnMore
import Derived.Lib.Hide
import Derived.Lib.IndexBytes
import Derived.Lib.IndexMore
import Derived.Lib.ItoaMem
import Derived.Lib.ItoaNum
import Derived.Lib.Replace
import Derived.Lib.SlTrimSet
import Derived.Lib.Strings
import Derived.OpenShut
import Derived.ProofKit
import Derived.RegionTactic
import Derived.Shelf.SlicesQ.IndexFunc
import Derived.Shelf.Strings.BuilderK
import Derived.WalkKit
import Derived.WalkSmall
import Derived.WalkSpells
import Derived.WideKeyArgs
import Derived.Test.YtkhlfggnjcbniaaGreatDoorRows
import Derived.Test.YtkhlfggnjcbniaaGreatDoorShelf
import Derived.Test.YtkhlfggnjcbniaaGreatDoorP0
import Derived.Test.YtkhlfggnjcbniaaGreatDoorP1
import Derived.Test.YtkhlfggnjcbniaaGreatDoorP2
import Derived.Test.YtkhlfggnjcbniaaGreatDoorP3
import Derived.Test.YtkhlfggnjcbniaaGreatDoorP5
import Derived.Test.YtkhlfggnjcbniaaGreatDoorP6
import Derived.Test.YtkhlfggnjcbniaaGreatDoorP7
import Derived.Test.YtkhlfggnjcbniaaGreatDoorP8
import Derived.Test.YtkhlfggnjcbniaaGreatDoorP9
import Derived.Test.YtkhlfggnjcbniaaGreatDoorP10
import Derived.Test.YtkhlfggnjcbniaaGreatDoorP11
import Derived.Test.YtkhlfggnjcbniaaGreatDoorP12
import Derived.Test.YtkhlfggnjcbniaaGreatDoorP20
namespace Go.Proofs.YtkhlfggnjcbniaaGreatDoor.doc
open Go.ChangeShapes Go.WideShapes Go.ChangeAt Go.RowKit Go.Lib Go.Proofs.YtkhlfggnjcbniaaGreatDoor.atr Go.Proofs.YtkhlfggnjcbniaaGreatDoor.link Go.Proofs.YtkhlfggnjcbniaaGreatDoor.cln

theorem idx_blank (c : UInt8) : (0 ≤ Lib.indexByte [9, 10, 12, 13, 32] c) = (isB c = true) := by
  have : ∀ n : Fin 256, (0 ≤ Lib.indexByte [9, 10, 12, 13, 32] (UInt8.ofNat n.1)) = (isB (UInt8.ofNat n.1) = true) := by
    have h2 : ∀ n : Fin 256, decide (0 ≤ Lib.indexByte [9, 10, 12, 13, 32] (UInt8.ofNat n.1)) = isB (UInt8.ofNat n.1) := by decide +kernel
    intro n
    rw [← h2 n, decide_eq_true_eq]
  have h := this ⟨c.toNat, c.toNat_lt⟩
  simpa using h
theorem colS_nil (out : List UInt8) (a : Bool) : colS out a [] = out := by rw [colS]
theorem colS_blank (out : List UInt8) (a : Bool) (c : UInt8) (r : List UInt8) (h : isB c = true) : colS out a (c :: r) = colS out (decide (0 < out.length)) r := by rw [colS, if_pos h]
theorem colS_on (out : List UInt8) (c : UInt8) (r : List UInt8) (h : isB c = false) : colS out true (c :: r) = colS (out ++ [32] ++ [c]) false r := by rw [colS, if_neg (by rw [h]; simp), if_pos rfl]
theorem colS_off (out : List UInt8) (c : UInt8) (r : List UInt8) (h : isB c = false) : colS out false (c :: r) = colS (out ++ [c]) false r := by rw [colS, if_neg (by rw [h]; simp), if_neg (by simp), List.append_nil]

set_option maxHeartbeats 1600000 in
set_option maxRecDepth 100000 in
theorem collapse_any (s : List UInt8) (hs : s.length ≤ 2000000) (w : World) :
    Calls Tryz.prog 224 #[.string ⟨s.toArray⟩] w fun e w' => e = .returned (.string ⟨(collapseS s).toArray⟩) ∧ Below w.heap.size w w' := by
  obtain ⟨res, hres⟩ : ∃ r, r = collapseS s := ⟨_, rfl⟩
  rw [← hres]
  have HR : Hid (colS [] false s = res) := Lib.hid hres.symm
  clear hres
  have hfb := Lib.IsBuilderF.of (Lib.fresh_isBuilder 214 5 w)
  have hlow := (Below.refl w.heap.size w).alloc (Nat.le_refl _) (.cells #[.pointer none, .slice none 0 0] 214)
  go_enter Tryz.func224, Tryz.ntmps224
  go_wp2_with fail
  go_loopw [4, 8] (fun s4 s8 wr => ∃ (k : Nat) (out : List UInt8) (a : Bool), s8 = .int .i64 k ∧ s4 = .bool a ∧ k ≤ s.length ∧ out.length ≤ 2 * k ∧ Hid (colS out a (s.drop k) = res) ∧ Lib.IsBuilderF 214 5 w.heap.size w.heap.size (Lib.byteCells out) wr ∧ Below w.heap.size w wr) (fun _ s8 _ => s.length - (RowKit.intOf s8).toNat)
  case atStart => exact ⟨0, [], false, rfl, rfl, by omega, by simp, by simpa using HR, hfb, hlow⟩
  case round =>
    obtain ⟨k, out, a, rfl, rfl, hk, hol, hc, hI, hbw⟩ := hrel
    clear hfb hlow
    have hsz := hbw.size
    by_cases hlt : k < s.length
    · obtain ⟨c, rest, hd1, hd2, hidx⟩ := Go.Proofs.YtkhlfggnjcbniaaGreatDoor.link.byte_at s k hlt
      have hib := fun w => Tryz.strings_IndexByte ⟨#[9, 10, 12, 13, 32]⟩ (c.toNat : Int) w
      have e3 : (⟨#[9, 10, 12, 13, 32]⟩ : ByteArray).data.toList = [9, 10, 12, 13, 32] := rfl
      have e4 : ((c.toNat : Int).toNat).toUInt8 = c := by simp
      rw [e3, e4] at hib
      have HB := Lib.hid (idx_blank c)
      have hlt8 := c.toNat_lt
      rw [hd1] at hc
      have HD := Lib.hid hd2
      clear hd1 hd2 e3 e4
      generalize Lib.indexByte [9, 10, 12, 13, 32] c = r at *
      by_cases g : isB c = true
      · have hr : 0 ≤ r := by rw [HB.out]; exact g
        have HC : Hid (colS out (decide (0 < out.length)) (s.drop (k + 1)) = res) := Lib.hid (by rw [HD.out, ← colS_blank out a c rest g]; exact hc.out)
        have hln := bld_len w.heap.size w.heap.size (Lib.byteCells out) wr hI
        rw [Lib.byteCells_length] at hln
        clear g HB
        go_wp2_with fail
        refine (hib _).mono ?_
        rintro e w' ⟨rfl, rfl⟩
        go_wp2_with fail
        refine hln.mono ?_
        rintro e w' ⟨rfl, rfl⟩
        go_wp2_with fail
        go_roundw
        case rel => exact ⟨k + 1, out, decide (0 < out.length), by go_num, by first | rfl | exact congrArg Value.bool (decide_eq_decide.2 (by omega)), by omega, by omega, HC, hI, hbw⟩
        case measure => simp [RowKit.intOf]; omega
      · have hr : ¬ 0 ≤ r := by rw [HB.out]; exact g
        have g : isB c = false := by simpa using g
        cases a
        · have HC : Hid (colS (out ++ [c]) false (s.drop (k + 1)) = res) := Lib.hid (by rw [HD.out, ← colS_off out c rest g]; exact hc.out)
          have hwr := bld_write w.heap.size w.heap.size (Lib.byteCells out) (c.toNat : Int) wr hI (by rw [Lib.byteCells_length]; omega) hsz
          clear g HB
          go_wp2_with fail
          refine (hib _).mono ?_
          rintro e w' ⟨rfl, rfl⟩
          go_wp2_with fail
          refine hwr.mono ?_
          rintro e w' ⟨rfl, hI', hb'⟩
          go_wp2_with fail
          go_roundw
          case rel => exact ⟨k + 1, out ++ [c], false, by go_num, rfl, by omega, by simp; omega, HC, by rw [Lib.byteCells_append]; exact hI', hbw.trans hb'⟩
          case measure => simp [RowKit.intOf]; omega
        · have HC : Hid (colS (out ++ [32] ++ [c]) false (s.drop (k + 1)) = res) := Lib.hid (by rw [HD.out, ← colS_on out c rest g]; exact hc.out)
          have hwr := bld_write w.heap.size w.heap.size (Lib.byteCells out) 32 wr hI (by rw [Lib.byteCells_length]; omega) hsz
          clear g HB
          go_wp2_with fail
          refine (hib _).mono ?_
          rintro e w' ⟨rfl, rfl⟩
          go_wp2_with fail
          refine hwr.mono ?_
          rintro e w' ⟨rfl, hI', hb'⟩
          have hI' : Lib.IsBuilderF 214 5 w.heap.size w.heap.size (Lib.byteCells (out ++ [32])) w' := by rw [Lib.byteCells_append]; exact hI'
          have hwr2 := bld_write w.heap.size w.heap.size (Lib.byteCells (out ++ [32])) (c.toNat : Int) w' hI' (by rw [Lib.byteCells_length]; simp; omega) (hbw.trans hb').size
          clear hwr
          go_wp2_with fail
          refine hwr2.mono ?_
          rintro e w2 ⟨rfl, hI2, hb2⟩
          go_wp2_with fail
          go_roundw
          case rel => exact ⟨k + 1, out ++ [32] ++ [c], false, by go_num, rfl, by omega, by simp; omega, HC, by rw [Lib.byteCells_append]; exact hI2, (hbw.trans hb').trans hb2⟩
          case measure => simp [RowKit.intOf]; omega
    · obtain rfl : k = s.length := by omega
      have HX : Hid (out = res) := Lib.hid (by have := hc.out; rw [List.drop_length, colS_nil] at this; exact this)
      have hst := bld_string w.heap.size w.heap.size out wr hI hsz
      go_wp2_with fail
      refine hst.mono ?_
      rintro e w' ⟨rfl, hb'⟩
      go_wp2_with fail
      go_ret
      exact ⟨ret_str HX.out, hbw.trans hb'⟩
end Go.Proofs.YtkhlfggnjcbniaaGreatDoor.doc
