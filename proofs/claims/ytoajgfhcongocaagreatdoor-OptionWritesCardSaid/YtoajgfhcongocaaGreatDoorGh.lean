/- Contracts of strings.Builder at this translation: each is one application of a theorem of the kit. The contract of text.Collapse. The contract of the reference's Split. The contract of the reference's ends, NoBreaks. The contracts of the reference's Blank, Strip, Trim. The contracts of the reference's Words and Collapse. The contract of the reference's Collapse. -/
import Derived.Shelf.Strings.BuilderK
import Derived.Ground.MpProg
import Derived.Test.YtoajgfhcongocaaGreatDoorGa
import Derived.Test.YtoajgfhcongocaaGreatDoorGd
import Derived.Test.YtoajgfhcongocaaGreatDoorShelf
import Derived.WalkSpells
import Derived.Lib.AppendStr
namespace Go.Proofs.YtoajgfhcongocaaGreatDoor.doc
open Go.Shelf Go.ChangeShapes Go.WideShapes Go.ChangeAt Go.RowKit

def ren170 : Go.Shelf.Ren := ⟨fun | 170 => 86 | n => n, fun | 0 => 0 | 3 => 3 | 37 => 92 | 70 => 98 | 72 => 100 | n => n, fun | n => n⟩
theorem lays170 : Go.Proofs.Lays.n170 Tryz.prog ren170 := {
  mixed := by kernel_rfl
  f170 := Tryz.func86.trans (congrArg some (by kernel_rfl))
  t0 := Tryz.underlying0
  a0 := Tryz.isAgg0
  z0 := Tryz.sizeOf0
  v0 := Tryz.zeroValue0
  t3 := Tryz.underlying3
  a3 := Tryz.isAgg3
  z3 := Tryz.sizeOf3
  v3 := Tryz.zeroValue3
  t37 := Tryz.underlying92
  a37 := Tryz.isAgg92
  z37 := Tryz.sizeOf92
  v37 := Tryz.zeroValue92
  t70 := Tryz.underlying98
  a70 := Tryz.isAgg98
  z70 := Tryz.sizeOf98
  v70 := Tryz.zeroValue98
  t72 := Tryz.underlying100
  a72 := Tryz.isAgg100
  z72 := Tryz.sizeOf100
  v72 := Tryz.zeroValue100 }
def ren169 : Go.Shelf.Ren := ⟨fun | 169 => 88 | n => n, fun | 0 => 0 | 3 => 3 | 9 => 9 | 37 => 92 | 70 => 98 | 72 => 100 | 127 => 114 | n => n, fun | n => n⟩
theorem lays169 : Go.Proofs.Lays.n169 Tryz.prog ren169 := {
  mixed := by kernel_rfl
  f169 := Tryz.func88.trans (congrArg some (by kernel_rfl))
  t0 := Tryz.underlying0
  a0 := Tryz.isAgg0
  z0 := Tryz.sizeOf0
  v0 := Tryz.zeroValue0
  t3 := Tryz.underlying3
  a3 := Tryz.isAgg3
  z3 := Tryz.sizeOf3
  v3 := Tryz.zeroValue3
  t9 := Tryz.underlying9
  a9 := Tryz.isAgg9
  z9 := Tryz.sizeOf9
  v9 := Tryz.zeroValue9
  t37 := Tryz.underlying92
  a37 := Tryz.isAgg92
  z37 := Tryz.sizeOf92
  v37 := Tryz.zeroValue92
  t70 := Tryz.underlying98
  a70 := Tryz.isAgg98
  z70 := Tryz.sizeOf98
  v70 := Tryz.zeroValue98
  t72 := Tryz.underlying100
  a72 := Tryz.isAgg100
  z72 := Tryz.sizeOf100
  v72 := Tryz.zeroValue100
  t127 := Tryz.underlying114
  a127 := Tryz.isAgg114
  z127 := Tryz.sizeOf114
  v127 := Tryz.zeroValue114 }
def ren167 : Go.Shelf.Ren := ⟨fun | 167 => 87 | 240 => 103 | 276 => 114 | n => n, fun | 0 => 0 | 4 => 4 | 5 => 5 | 9 => 9 | 20 => 20 | 37 => 92 | 70 => 98 | 72 => 100 | 75 => 86 | 80 => 104 | 164 => 124 | n => n, fun | n => n⟩
theorem lays167 : Go.Proofs.Lays.n167 Tryz.prog ren167 := {
  mixed := by kernel_rfl
  f167 := Tryz.func87.trans (congrArg some (by kernel_rfl))
  f240 := Tryz.func103.trans (congrArg some (by kernel_rfl))
  f276 := Tryz.func114.trans (congrArg some (by kernel_rfl))
  t0 := Tryz.underlying0
  a0 := Tryz.isAgg0
  z0 := Tryz.sizeOf0
  v0 := Tryz.zeroValue0
  t4 := Tryz.underlying4
  a4 := Tryz.isAgg4
  z4 := Tryz.sizeOf4
  v4 := Tryz.zeroValue4
  t5 := Tryz.underlying5
  a5 := Tryz.isAgg5
  z5 := Tryz.sizeOf5
  v5 := Tryz.zeroValue5
  t9 := Tryz.underlying9
  a9 := Tryz.isAgg9
  z9 := Tryz.sizeOf9
  v9 := Tryz.zeroValue9
  t20 := Tryz.underlying20
  a20 := Tryz.isAgg20
  z20 := Tryz.sizeOf20
  v20 := Tryz.zeroValue20
  t37 := Tryz.underlying92
  a37 := Tryz.isAgg92
  z37 := Tryz.sizeOf92
  v37 := Tryz.zeroValue92
  t70 := Tryz.underlying98
  a70 := Tryz.isAgg98
  z70 := Tryz.sizeOf98
  v70 := Tryz.zeroValue98
  t72 := Tryz.underlying100
  a72 := Tryz.isAgg100
  z72 := Tryz.sizeOf100
  v72 := Tryz.zeroValue100
  t75 := Tryz.underlying86
  a75 := Tryz.isAgg86
  z75 := Tryz.sizeOf86
  v75 := Tryz.zeroValue86
  t164 := Tryz.underlying124
  a164 := Tryz.isAgg124
  z164 := Tryz.sizeOf124
  v164 := Tryz.zeroValue124 }
theorem extra169 : Builder.Extra Tryz.prog ren169 := {
  sizeBuilder := by kernel_rfl
  liesBuilder := by kernel_rfl
  t5 := Tryz.underlying5
  a5 := Tryz.isAgg5
  z5 := Tryz.sizeOf5
  v5 := Tryz.zeroValue5
  infoByte := by kernel_rfl
  cellsByte := by kernel_rfl
  sizeByte := by kernel_rfl
  neB5 := by decide }
theorem extra167 : Builder.Extra Tryz.prog ren167 := {
  sizeBuilder := by kernel_rfl
  liesBuilder := by kernel_rfl
  t5 := Tryz.underlying5
  a5 := Tryz.isAgg5
  z5 := Tryz.sizeOf5
  v5 := Tryz.zeroValue5
  infoByte := by kernel_rfl
  cellsByte := by kernel_rfl
  sizeByte := by kernel_rfl
  neB5 := by decide }
theorem bld_len (B b : Nat) (bs : List Value) (w : World) (h : Lib.IsBuilderF 100 5 B b bs w) :
    Calls Tryz.prog 86 #[.pointer (some ⟨b, 0, none⟩)] w fun e w' => e = .returned (.int .i64 bs.length) ∧ w' = w := Any.Builder_Len_f lays170 B b bs w h
theorem bld_write (B b : Nat) (bs : List Value) (c : Int) (w : World) (h : Lib.IsBuilderF 100 5 B b bs w) (hlen : bs.length + 1 ≤ 140737488355328) (hBw : B ≤ w.heap.size) :
    Calls Tryz.prog 87 #[.pointer (some ⟨b, 0, none⟩), .int .u8 c] w fun e w' => e = .returned .nilIface ∧ Lib.IsBuilderF 100 5 B b (bs ++ [.int .u8 c]) w' ∧ Below B w w' :=
  (Any.Builder_WriteByte_k lays167 extra167 B b bs c w h hlen hBw).mono fun _ _ h => ⟨h.1, .inr h.2.1, h.2.2.1⟩
theorem bld_string (B b : Nat) (l : List UInt8) (w : World) (h : Lib.IsBuilderF 100 5 B b (Lib.byteCells l) w) (hBw : B ≤ w.heap.size) :
    Calls Tryz.prog 88 #[.pointer (some ⟨b, 0, none⟩)] w fun e w' => e = .returned (.string ⟨l.toArray⟩) ∧ Below B w w' :=
  (Any.Builder_String_any_k lays169 extra169 B b l w h hBw).mono fun _ _ h => ⟨h.1, h.2.2.1⟩
end Go.Proofs.YtoajgfhcongocaaGreatDoor.doc

namespace Go.Proofs.YtoajgfhcongocaaGreatDoor.doc
open Go.ChangeShapes Go.WideShapes Go.ChangeAt Go.RowKit Go.Lib Go.Proofs.YtoajgfhcongocaaGreatDoor.atr Go.Proofs.YtoajgfhcongocaaGreatDoor.link Go.Proofs.YtoajgfhcongocaaGreatDoor.cln

theorem idx_blank (c : UInt8) : (0 ≤ Lib.indexByte [9, 10, 12, 13, 32] c) = (isB c = true) := by
  have : ∀ n : Fin 256, (0 ≤ Lib.indexByte [9, 10, 12, 13, 32] (UInt8.ofNat n.1)) = (isB (UInt8.ofNat n.1) = true) := by
    have h2 : ∀ n : Fin 256, decide (0 ≤ Lib.indexByte [9, 10, 12, 13, 32] (UInt8.ofNat n.1)) = isB (UInt8.ofNat n.1) := by decide +kernel
    intro n
    rw [← h2 n, decide_eq_true_eq]
  have h := this ⟨c.toNat, c.toNat_lt⟩
  simpa using h
theorem colS_nil (out : List UInt8) (a : Bool) : colS out a [] = out := by rw [colS]
theorem colS_blank (out : List UInt8) (a : Bool) (c : UInt8) (r : List UInt8) (h : isB c = true) : colS out a (c :: r) = colS out (decide (0 < out.length)) r := by rw [colS, if_pos h]
theorem colS_on (out : List UInt8) (c : UInt8) (r : List UInt8) (h : isB c = false) : colS out true (c :: r) = colS (out ++ [32] ++ [c]) false r := by rw [colS, if_neg (by rw [h]; simp), if_pos rfl]
theorem colS_off (out : List UInt8) (c : UInt8) (r : List UInt8) (h : isB c = false) : colS out false (c :: r) = colS (out ++ [c]) false r := by rw [colS, if_neg (by rw [h]; simp), if_neg (by simp), List.append_nil]

set_option maxHeartbeats 1600000 in
set_option maxRecDepth 100000 in
theorem collapse_any (s : List UInt8) (hs : s.length ≤ 2000000) (w : World) :
    Calls Tryz.prog 73 #[.string ⟨s.toArray⟩] w fun e w' => e = .returned (.string ⟨(collapseS s).toArray⟩) ∧ Below w.heap.size w w' := by
  obtain ⟨res, hres⟩ : ∃ r, r = collapseS s := ⟨_, rfl⟩
  rw [← hres]
  have HR : Hid (colS [] false s = res) := Lib.hid hres.symm
  clear hres
  have hfb := Lib.IsBuilderF.of (Lib.fresh_isBuilder 100 5 w)
  have hlow := (Below.refl w.heap.size w).alloc (Nat.le_refl _) (.cells #[.pointer none, .slice none 0 0] 100)
  go_enter Tryz.func73, Tryz.ntmps73
  go_wp2_with fail
  go_loopw [4, 8] (fun s4 s8 wr => ∃ (k : Nat) (out : List UInt8) (a : Bool), s8 = .int .i64 k ∧ s4 = .bool a ∧ k ≤ s.length ∧ out.length ≤ 2 * k ∧ Hid (colS out a (s.drop k) = res) ∧ Lib.IsBuilderF 100 5 w.heap.size w.heap.size (Lib.byteCells out) wr ∧ Below w.heap.size w wr) (fun _ s8 _ => s.length - (RowKit.intOf s8).toNat)
  case atStart => exact ⟨0, [], false, rfl, rfl, by omega, by simp, by simpa using HR, hfb, hlow⟩
  case round =>
    obtain ⟨k, out, a, rfl, rfl, hk, hol, hc, hI, hbw⟩ := hrel
    clear hfb hlow
    have hsz := hbw.size
    by_cases hlt : k < s.length
    · obtain ⟨c, rest, hd1, hd2, hidx⟩ := Go.Proofs.YtoajgfhcongocaaGreatDoor.link.byte_at s k hlt
      have hib := fun w => Tryz.strings_IndexByte ⟨#[9, 10, 12, 13, 32]⟩ (c.toNat : Int) w
      have e3 : (⟨#[9, 10, 12, 13, 32]⟩ : ByteArray).data.toList = [9, 10, 12, 13, 32] := rfl
      have e4 : ((c.toNat : Int).toNat).toUInt8 = c := by simp
      rw [e3, e4] at hib
      have HB := Lib.hid (idx_blank c)
      have hlt8 := c.toNat_lt
      rw [hd1] at hc
      have HD := Lib.hid hd2
      clear hd1 hd2 e3 e4
      generalize Lib.indexByte [9, 10, 12, 13, 32] c = r at *
      by_cases g : isB c = true
      · have hr : 0 ≤ r := by rw [HB.out]; exact g
        have HC : Hid (colS out (decide (0 < out.length)) (s.drop (k + 1)) = res) := Lib.hid (by rw [HD.out, ← colS_blank out a c rest g]; exact hc.out)
        have hln := bld_len w.heap.size w.heap.size (Lib.byteCells out) wr hI
        rw [Lib.byteCells_length] at hln
        clear g HB
        go_wp2_with fail
        refine (hib _).mono ?_
        rintro e w' ⟨rfl, rfl⟩
        go_wp2_with fail
        refine hln.mono ?_
        rintro e w' ⟨rfl, rfl⟩
        go_wp2_with fail
        go_roundw
        case rel => exact ⟨k + 1, out, decide (0 < out.length), by go_num, by first | rfl | exact congrArg Value.bool (decide_eq_decide.2 (by omega)), by omega, by omega, HC, hI, hbw⟩
        case measure => simp [RowKit.intOf]; omega
      · have hr : ¬ 0 ≤ r := by rw [HB.out]; exact g
        have g : isB c = false := by simpa using g
        cases a
        · have HC : Hid (colS (out ++ [c]) false (s.drop (k + 1)) = res) := Lib.hid (by rw [HD.out, ← colS_off out c rest g]; exact hc.out)
          have hwr := bld_write w.heap.size w.heap.size (Lib.byteCells out) (c.toNat : Int) wr hI (by rw [Lib.byteCells_length]; omega) hsz
          clear g HB
          go_wp2_with fail
          refine (hib _).mono ?_
          rintro e w' ⟨rfl, rfl⟩
          go_wp2_with fail
          refine hwr.mono ?_
          rintro e w' ⟨rfl, hI', hb'⟩
          go_wp2_with fail
          go_roundw
          case rel => exact ⟨k + 1, out ++ [c], false, by go_num, rfl, by omega, by simp; omega, HC, by rw [Lib.byteCells_append]; exact hI', hbw.trans hb'⟩
          case measure => simp [RowKit.intOf]; omega
        · have HC : Hid (colS (out ++ [32] ++ [c]) false (s.drop (k + 1)) = res) := Lib.hid (by rw [HD.out, ← colS_on out c rest g]; exact hc.out)
          have hwr := bld_write w.heap.size w.heap.size (Lib.byteCells out) 32 wr hI (by rw [Lib.byteCells_length]; omega) hsz
          clear g HB
          go_wp2_with fail
          refine (hib _).mono ?_
          rintro e w' ⟨rfl, rfl⟩
          go_wp2_with fail
          refine hwr.mono ?_
          rintro e w' ⟨rfl, hI', hb'⟩
          have hI' : Lib.IsBuilderF 100 5 w.heap.size w.heap.size (Lib.byteCells (out ++ [32])) w' := by rw [Lib.byteCells_append]; exact hI'
          have hwr2 := bld_write w.heap.size w.heap.size (Lib.byteCells (out ++ [32])) (c.toNat : Int) w' hI' (by rw [Lib.byteCells_length]; simp; omega) (hbw.trans hb').size
          clear hwr
          go_wp2_with fail
          refine hwr2.mono ?_
          rintro e w2 ⟨rfl, hI2, hb2⟩
          go_wp2_with fail
          go_roundw
          case rel => exact ⟨k + 1, out ++ [32] ++ [c], false, by go_num, rfl, by omega, by simp; omega, HC, by rw [Lib.byteCells_append]; exact hI2, (hbw.trans hb').trans hb2⟩
          case measure => simp [RowKit.intOf]; omega
    · obtain rfl : k = s.length := by omega
      have HX : Hid (out = res) := Lib.hid (by have := hc.out; rw [List.drop_length, colS_nil] at this; exact this)
      have hst := bld_string w.heap.size w.heap.size out wr hI hsz
      go_wp2_with fail
      refine hst.mono ?_
      rintro e w' ⟨rfl, hb'⟩
      go_wp2_with fail
      go_ret
      exact ⟨ret_str HX.out, hbw.trans hb'⟩
end Go.Proofs.YtoajgfhcongocaaGreatDoor.doc

namespace Go.Proofs.YtoajgfhcongocaaGreatDoor.link
open Go.ChangeShapes Go.WideShapes Go.ChangeAt Go.RowKit Go.Lib

/-- the pieces of a text, the piece under way ahead -/
def spl (c : UInt8) : List UInt8 → List UInt8 → List (List UInt8)
  | acc, [] => [acc]
  | acc, b :: r => if b = c then acc :: spl c [] r else spl c (acc ++ [b]) r
def strsOf (ls : List (List UInt8)) : List Value := ls.map fun x => Value.string ⟨x.toArray⟩

theorem infoStr : (Tryz.prog.info? 9).map (fun i => (i.zero, i.size, i.bytes)) = some (some (.string ⟨#[]⟩), 1, 16) := by kernel_rfl

theorem piece_step (l : List UInt8) (f k : Nat) (b : UInt8) (r : List UInt8) (hf : f ≤ k) (h : l.drop k = b :: r) : (l.drop f).take (k + 1 - f) = (l.drop f).take (k - f) ++ [b] := by
  have hk : k < l.length := by
    have := congrArg List.length h
    simp at this; omega
  have e : l[k] = b := by
    have := List.drop_eq_getElem_cons hk
    rw [h] at this
    exact (List.cons.inj this).1.symm
  have h2 : k - f < (l.drop f).length := by simp; omega
  rw [show k + 1 - f = (k - f) + 1 from by omega, List.take_succ_eq_append_getElem h2]
  congr 1
  rw [List.getElem_drop]
  congr 1
  rw [← e]
  congr 1
  omega

end Go.Proofs.YtoajgfhcongocaaGreatDoor.link

namespace Go.Proofs.YtoajgfhcongocaaGreatDoor.cln
open Go.ChangeShapes Go.WideShapes Go.ChangeAt Go.RowKit Go.Lib Go.Proofs.YtoajgfhcongocaaGreatDoor.link

/-- a text with each end of a line as another text -/
def endsS (wt : List UInt8) : List UInt8 → List UInt8
  | [] => []
  | [c] => if c = 13 ∨ c = 10 then wt else [c]
  | c :: d :: r => if c = 13 ∧ d = 10 then wt ++ endsS wt r else if c = 13 ∨ c = 10 then wt ++ endsS wt (d :: r) else c :: endsS wt (d :: r)
theorem ends_nil (wt : List UInt8) : endsS wt [] = [] := by rw [endsS]
theorem ends_single (wt : List UInt8) (c : UInt8) : endsS wt [c] = if c = 13 ∨ c = 10 then wt else [c] := by rw [endsS]
theorem ends_more (wt : List UInt8) (c d : UInt8) (r : List UInt8) : endsS wt (c :: d :: r) = if c = 13 ∧ d = 10 then wt ++ endsS wt r else if c = 13 ∨ c = 10 then wt ++ endsS wt (d :: r) else c :: endsS wt (d :: r) := by rw [endsS]
theorem ends_keep (wt : List UInt8) (c : UInt8) (r : List UInt8) (h1 : c ≠ 13) (h2 : c ≠ 10) : endsS wt (c :: r) = c :: endsS wt r := by
  cases r with
  | nil => rw [ends_single, if_neg (by simp [h1, h2]), ends_nil]
  | cons d r => rw [ends_more, if_neg (by simp [h1]), if_neg (by simp [h1, h2])]
theorem ends_two (wt r : List UInt8) : endsS wt (13 :: 10 :: r) = wt ++ endsS wt r := by rw [ends_more, if_pos ⟨rfl, rfl⟩]
theorem ends_one (wt : List UInt8) (c : UInt8) (r : List UInt8) (h : c = 13 ∨ c = 10) (h2 : ¬ (c = 13 ∧ r.head? = some 10)) : endsS wt (c :: r) = wt ++ endsS wt r := by
  cases r with
  | nil => rw [ends_single, if_pos h, ends_nil, List.append_nil]
  | cons d r => rw [ends_more, if_neg (by simpa using h2), if_pos h]
theorem noBr_nil : noBr [] = [] := rfl
theorem noBr_out (c : UInt8) (r : List UInt8) (h : c = 13 ∨ c = 10) : noBr (c :: r) = noBr r := by
  unfold noBr
  rcases h with rfl | rfl
  · rw [List.filter_cons, if_neg (by decide)]
  · rw [List.filter_cons, if_neg (by decide)]
theorem noBr_in (c : UInt8) (r : List UInt8) (h : ¬ (c = 13 ∨ c = 10)) : noBr (c :: r) = c :: noBr r := by
  unfold noBr
  rw [List.filter_cons, if_pos (by simp [not_or.1 h])]
theorem ends_none (s : List UInt8) : endsS [] s = noBr s := by
  have key : ∀ n (s : List UInt8), s.length ≤ n → endsS [] s = noBr s := by
    intro n
    induction n with
    | zero =>
      intro s h
      have : s = [] := List.length_eq_zero_iff.1 (by omega)
      rw [this, ends_nil]; rfl
    | succ n ih =>
      intro s h
      match s, h with
      | [], _ => rw [ends_nil]; rfl
      | [c], _ =>
        rw [ends_single]
        by_cases g : c = 13 ∨ c = 10
        · rw [if_pos g, noBr_out c [] g]; rfl
        · rw [if_neg g, noBr_in c [] g]; rfl
      | c :: d :: r, h =>
        rw [ends_more]
        by_cases g : c = 13 ∧ d = 10
        · rw [if_pos g, List.nil_append, ih r (by simp at h; omega), noBr_out c _ (Or.inl g.1), noBr_out d _ (Or.inr g.2)]
        · rw [if_neg g]
          have e := ih (d :: r) (by simp at h ⊢; omega)
          by_cases g2 : c = 13 ∨ c = 10
          · rw [if_pos g2, List.nil_append, e, noBr_out c _ g2]
          · rw [if_neg g2, e, noBr_in c _ g2]
  exact key s.length s (Nat.le_refl _)

theorem strCells_of (s : List UInt8) : strCells ⟨s.toArray⟩ = link.cellsOf s := rfl
theorem cells_app (a b : List UInt8) : link.cellsOf (a ++ b) = link.cellsOf a ++ link.cellsOf b := by unfold link.cellsOf; rw [List.map_append]
theorem grown_rel (w wr w1 : World) (B : Nat) (e : TypeId) (v : Value) (k : Nat) (xs : List Value) (hown : wr.ownsRow B e 1 v k xs) (hb : Below B w wr) (hbs : B ≤ wr.heap.size) (hg : wr.grownBy w1 v.ownBlock) :
    Below B w w1 ∧ B ≤ w1.heap.size := by
  constructor
  · refine Below.grown hb hg (by omega) ?_
    intro j hj
    obtain ⟨_, ⟨rfl, _⟩ | ⟨g, cap, cur, rfl, hge, _⟩⟩ := hown
    · cases hj
    · cases hj; exact hge
  · have := hg.size; omega


end Go.Proofs.YtoajgfhcongocaaGreatDoor.cln

namespace Go.Proofs.YtoajgfhcongocaaGreatDoor.cln
open Go.ChangeShapes Go.WideShapes Go.ChangeAt Go.RowKit Go.Lib Go.Proofs.YtoajgfhcongocaaGreatDoor.link

theorem isB_iff (c : UInt8) : isB c = true ↔ (c = 9 ∨ c = 10 ∨ c = 12 ∨ c = 13 ∨ c = 32) := by
  unfold isB blanks
  simp
theorem tb_ret {a b : Bool} (h : a = b) : Ending.returned (.bool a) = .returned (.bool b) := by rw [h]
theorem byte_eqd (c d : UInt8) (n : Int) (h : (d.toNat : Int) = n) : ((c.toNat : Int) == n) = decide (c = d) := by
  rw [byteq c d n h, Bool.eq_iff_iff]; simp

set_option maxHeartbeats 800000 in
set_option maxRecDepth 100000 in
theorem rblank_any (c : UInt8) (w : World) :
    Calls Tryz.prog 99 #[.int .u8 c.toNat] w fun e w' => e = .returned (.bool (isB c)) ∧ w = w' := by
  have t9 := byte_eqd c 9 9 rfl
  have t10 := byte_eqd c 10 10 rfl
  have t12 := byte_eqd c 12 12 rfl
  have t13 := byte_eqd c 13 13 rfl
  have t32 := byte_eqd c 32 32 rfl
  have hi := isB_iff c
  obtain ⟨r, hr⟩ : ∃ r, r = isB c := ⟨_, rfl⟩
  rw [← hr] at hi ⊢
  clear hr
  have HI := Lib.hid hi
  clear hi
  by_cases c9 : c = 9
  · have HX : Hid (r = true) := Lib.hid (HI.out.2 (Or.inl c9))
    rw [decide_eq_true c9] at t9
    clear c9 t10 t12 t13 t32
    go_enter Tryz.func99, Tryz.ntmps99
    go_wp2_with fail
    go_ret
    exact ⟨tb_ret HX.out.symm, rfl⟩
  by_cases c10 : c = 10
  · have HX : Hid (r = true) := Lib.hid (HI.out.2 (Or.inr (Or.inl c10)))
    rw [decide_eq_false c9] at t9
    rw [decide_eq_true c10] at t10
    clear c9 c10 t12 t13 t32
    go_enter Tryz.func99, Tryz.ntmps99
    go_wp2_with fail
    go_ret
    exact ⟨tb_ret HX.out.symm, rfl⟩
  by_cases c12 : c = 12
  · have HX : Hid (r = true) := Lib.hid (HI.out.2 (Or.inr (Or.inr (Or.inl c12))))
    rw [decide_eq_false c9] at t9
    rw [decide_eq_false c10] at t10
    rw [decide_eq_true c12] at t12
    clear c9 c10 c12 t13 t32
    go_enter Tryz.func99, Tryz.ntmps99
    go_wp2_with fail
    go_ret
    exact ⟨tb_ret HX.out.symm, rfl⟩
  by_cases c13 : c = 13
  · have HX : Hid (r = true) := Lib.hid (HI.out.2 (Or.inr (Or.inr (Or.inr (Or.inl c13)))))
    rw [decide_eq_false c9] at t9
    rw [decide_eq_false c10] at t10
    rw [decide_eq_false c12] at t12
    rw [decide_eq_true c13] at t13
    clear c9 c10 c12 c13 t32
    go_enter Tryz.func99, Tryz.ntmps99
    go_wp2_with fail
    go_ret
    exact ⟨tb_ret HX.out.symm, rfl⟩
  rw [decide_eq_false c9] at t9
  rw [decide_eq_false c10] at t10
  rw [decide_eq_false c12] at t12
  rw [decide_eq_false c13] at t13
  have HX : Hid (r = decide (c = 32)) := Lib.hid (by
    rw [Bool.eq_iff_iff, decide_eq_true_eq, HI.out]
    constructor
    · rintro (h | h | h | h | h)
      · exact absurd h c9
      · exact absurd h c10
      · exact absurd h c12
      · exact absurd h c13
      · exact h
    · intro h; exact Or.inr (Or.inr (Or.inr (Or.inr h))))
  clear c9 c10 c12 c13 HI
  generalize decide (c = 32) = q at *
  go_enter Tryz.func99, Tryz.ntmps99
  go_wp2_with fail
  go_ret
  exact ⟨tb_ret HX.out.symm, rfl⟩

theorem dropW_all (p : UInt8 → Bool) (A X : List UInt8) (h : A.all p = true) : (A ++ X).dropWhile p = X.dropWhile p := by
  induction A with
  | nil => rfl
  | cons c r ih =>
    rw [List.all_cons, Bool.and_eq_true] at h
    rw [List.cons_append, List.dropWhile_cons, if_pos h.1, ih h.2]
theorem dropW_stop (p : UInt8 → Bool) (c : UInt8) (r : List UInt8) (h : p c = false) : (c :: r).dropWhile p = c :: r := by
  rw [List.dropWhile_cons, h]; rfl
theorem strip_parts (A M C : List UInt8) (hA : A.all isB = true) (hC : C.all isB = true) (hM : M = [] ∨ (∃ a r, M = a :: r ∧ isB a = false) ∧ (∃ q z, M = q ++ [z] ∧ isB z = false)) : stripB (A ++ (M ++ C)) = M := by
  have e : (fun c => blanks.contains c) = isB := rfl
  unfold stripB trimS trimLeftS trimRightS
  rw [e, List.reverse_append, List.reverse_append, List.append_assoc, dropW_all isB C.reverse _ (by rw [List.all_reverse]; exact hC)]
  rcases hM with rfl | ⟨⟨a, r, h1, ha⟩, q, z, h2, hz⟩
  · have h0 : (([] : List UInt8).reverse ++ A.reverse).dropWhile isB = [] := by
      have := dropW_all isB A.reverse [] (by rw [List.all_reverse]; exact hA)
      rw [List.append_nil] at this
      exact this
    rw [h0]; rfl
  · have h3 : (M.reverse ++ A.reverse).dropWhile isB = M.reverse ++ A.reverse := by
      rw [h2, List.reverse_append]
      exact dropW_stop isB z _ hz
    rw [h3, List.reverse_append, List.reverse_reverse, List.reverse_reverse, dropW_all isB A M hA, h1, dropW_stop isB a r ha]

/-- where the blanks at the ends are -/
theorem strip_at (l : List UInt8) (k m : Nat) (hk : k ≤ m) (hm : m ≤ l.length) (h1 : (l.take k).all isB = true) (h2 : (l.drop m).all isB = true)
    (h3 : k = m ∨ (∃ c, l[k]? = some c ∧ isB c = false) ∧ (∃ c, l[m - 1]? = some c ∧ isB c = false ∧ k < m)) : stripB l = (l.drop k).take (m - k) := by
  have e : l = l.take k ++ ((l.drop k).take (m - k) ++ l.drop m) := by
    have e1 : l.drop m = (l.drop k).drop (m - k) := by rw [List.drop_drop]; congr 1; omega
    rw [e1, List.take_append_drop, List.take_append_drop]
  have h := strip_parts (l.take k) ((l.drop k).take (m - k)) (l.drop m) h1 h2 (by
    rcases h3 with rfl | ⟨⟨c, hc, hc2⟩, d, hd, hd2, hlt⟩
    · left; rw [Nat.sub_self]; rfl
    · right
      constructor
      · have hkl : k < l.length := by omega
        refine ⟨c, ((l.drop k).take (m - k)).tail, ?_, hc2⟩
        have e1 := List.drop_eq_getElem_cons hkl
        rw [List.getElem?_eq_getElem hkl] at hc
        rw [Option.some.inj hc] at e1
        rw [e1]
        obtain ⟨n, hn⟩ : ∃ n, m - k = n + 1 := ⟨m - k - 1, by omega⟩
        rw [hn]; rfl
      · refine ⟨(l.drop k).take (m - 1 - k), d, ?_, hd2⟩
        have e2 := List.take_add_one (l := l.drop k) (i := m - 1 - k)
        rw [show m - 1 - k + 1 = m - k from by omega, List.getElem?_drop, show k + (m - 1 - k) = m - 1 from by omega, hd] at e2
        exact e2)
  rw [← e] at h
  exact h
end Go.Proofs.YtoajgfhcongocaaGreatDoor.cln

namespace Go.Proofs.YtoajgfhcongocaaGreatDoor.doc
open Go.ChangeShapes Go.WideShapes Go.ChangeAt Go.RowKit Go.Lib Go.Proofs.YtoajgfhcongocaaGreatDoor.atr Go.Proofs.YtoajgfhcongocaaGreatDoor.link Go.Proofs.YtoajgfhcongocaaGreatDoor.cln

/-- the run so far: from where it began -/
def curF (s : List UInt8) (f : Int) (k : Nat) : List UInt8 := if f < 0 then [] else (s.drop f.toNat).take (k - f.toNat)
theorem cur_none (s : List UInt8) (k : Nat) : curF s (-1) k = [] := rfl
theorem cur_some (s : List UInt8) (f k : Nat) : curF s (f : Int) k = (s.drop f).take (k - f) := by unfold curF; rw [if_neg (by omega), Int.toNat_natCast]
theorem cur_ne (s : List UInt8) (f k : Nat) (h : f < k) (hk : k ≤ s.length) : curF s (f : Int) k ≠ [] := by
  rw [cur_some]
  intro e
  have := congrArg List.length e
  rw [List.length_take, List.length_drop] at this
  simp at this
  omega
theorem cur_step (s : List UInt8) (f k : Nat) (c : UInt8) (r : List UInt8) (hf : f ≤ k) (h : s.drop k = c :: r) : curF s (f : Int) (k + 1) = curF s (f : Int) k ++ [c] := by
  rw [cur_some, cur_some]; exact piece_step s f k c r hf h
theorem cur_begin (s : List UInt8) (k : Nat) (c : UInt8) (r : List UInt8) (h : s.drop k = c :: r) : curF s (k : Int) (k + 1) = [c] := by
  rw [cur_step s k k c r (Nat.le_refl _) h, cur_some, Nat.sub_self, List.take_zero, List.nil_append]

theorem wrd_nil0 : wrdS [] [] = [] := by rw [wrdS, if_pos rfl]
theorem wrd_nil1 (cur : List UInt8) (h : cur ≠ []) : wrdS cur [] = [cur] := by rw [wrdS, if_neg h]
theorem wrd_b0 (c : UInt8) (r : List UInt8) (h : isB c = true) : wrdS [] (c :: r) = wrdS [] r := by rw [wrdS, if_pos h, if_pos rfl]
theorem wrd_b1 (cur : List UInt8) (c : UInt8) (r : List UInt8) (h : isB c = true) (hc : cur ≠ []) : wrdS cur (c :: r) = cur :: wrdS [] r := by rw [wrdS, if_pos h, if_neg hc]
theorem wrd_c (cur : List UInt8) (c : UInt8) (r : List UInt8) (h : isB c = false) : wrdS cur (c :: r) = wrdS (cur ++ [c]) r := by rw [wrdS, if_neg (by rw [h]; simp)]

set_option maxHeartbeats 3200000 in
set_option maxRecDepth 100000 in
theorem rwords_any (s : List UInt8) (hl : s.length ≤ 2000000) (w : World) :
    Calls Tryz.prog 78 #[.string ⟨s.toArray⟩] w fun e w' => ∃ v, e = .returned v ∧ w'.ownsRow w.heap.size 9 1 v (wrdS [] s).length (strsOf (wrdS [] s)) ∧ Below w.heap.size w w' := by
  obtain ⟨i0, hi, hz0, hz1, hz2⟩ := info_parts infoStr
  obtain ⟨B, hB⟩ : ∃ B, B = w.heap.size := ⟨_, rfl⟩
  rw [← hB]
  have HB := Lib.hid hB
  clear hB
  obtain ⟨full, hfull⟩ : ∃ full, full = wrdS [] s := ⟨_, rfl⟩
  rw [← hfull]
  have HF := Lib.hid hfull
  clear hfull
  go_enter Tryz.func78, Tryz.ntmps78
  go_wp2_with fail
  go_loopw [3, 4, 5] (fun v x y wr => ∃ (k : Nat) (f : Int) (ps : List (List UInt8)), y = .int .i64 k ∧ x = .int .i64 f ∧ k ≤ s.length + 1 ∧ -1 ≤ f ∧ f < (k : Int) + 1 ∧ (0 ≤ f → f < (k : Int) ∧ k ≤ s.length) ∧ wr.ownsRow B 9 1 v ps.length (strsOf ps) ∧ Hid (full = ps ++ wrdS (curF s f k) (s.drop k) ∧ ps.length ≤ k) ∧ Below B w wr ∧ B ≤ wr.heap.size) (fun _ _ y _ => s.length + 1 - (RowKit.intOf y).toNat)
  case atStart => exact ⟨0, -1, [], rfl, rfl, by omega, by omega, by omega, fun h => by omega, World.ownsRow_nil _ _ _ _, Lib.hid ⟨by rw [HF.out, cur_none]; simp, by simp⟩, by rw [HB.out]; exact Below.refl _ _, by rw [HB.out]; omega⟩
  case round =>
    obtain ⟨k, f, ps, rfl, rfl, hk, hf1, hf2, hf3, hown, hh, hb, hbs⟩ := hrel
    by_cases hle : k ≤ s.length
    · by_cases hlt : k < s.length
      · obtain ⟨c, rest, hd1, hd2, hidx⟩ := Go.Proofs.YtoajgfhcongocaaGreatDoor.link.byte_at s k hlt
        have hbl := fun w => rblank_any c w
        have HE := Lib.hid hh.out.1
        have HP := Lib.hid hh.out.2
        have HD1 := Lib.hid hd1
        have HD2 := Lib.hid hd2
        have HG := Lib.hid (show isB c = isB c from rfl)
        obtain ⟨q, hq⟩ : ∃ q, q = isB c := ⟨_, rfl⟩
        rw [← hq] at hbl
        have HQ := Lib.hid hq
        clear hd1 hd2 hh hq HG
        by_cases g : f < 0
        · obtain rfl : f = -1 := by omega
          clear hf1 hf2 hf3 g
          cases q
          · have HX : Hid (full = ps ++ wrdS (curF s (k : Int) (k + 1)) (s.drop (k + 1))) := Lib.hid (by rw [HE.out, HD1.out, cur_none, wrd_c _ c rest HQ.out.symm, cur_begin s k c rest HD1.out, HD2.out]; rfl)
            go_upto_region 6 with fail
            go_cut [22] (fun s22 wx => s22 = .bool true ∧ wx = wr)
            case first =>
              go_wp2_with fail
              refine (hbl _).mono ?_
              rintro e w' ⟨rfl, rfl⟩
              go_wp2_with fail
              go_meet
              exact ⟨rfl, rfl⟩
            case rest =>
            obtain ⟨rfl, rfl⟩ := hcut
            go_wp2_with fail
            go_roundw
            case rel => exact ⟨k + 1, k, ps, by go_num, rfl, by omega, by omega, by omega, fun _ => ⟨by omega, by omega⟩, hown, Lib.hid ⟨HX.out, by have := HP.out; omega⟩, hb, hbs⟩
            case measure => simp [RowKit.intOf]; omega
          · have HX : Hid (full = ps ++ wrdS (curF s (-1) (k + 1)) (s.drop (k + 1))) := Lib.hid (by rw [HE.out, HD1.out, cur_none, wrd_b0 c rest HQ.out.symm, HD2.out]; rfl)
            go_upto_region 6 with fail
            go_cut [22] (fun s22 wx => s22 = .bool false ∧ wx = wr)
            case first =>
              go_wp2_with fail
              refine (hbl _).mono ?_
              rintro e w' ⟨rfl, rfl⟩
              go_wp2_with fail
              go_meet
              exact ⟨rfl, rfl⟩
            case rest =>
            obtain ⟨rfl, rfl⟩ := hcut
            go_wp2_with fail
            go_roundw
            case rel => exact ⟨k + 1, -1, ps, by go_num, rfl, by omega, by omega, by omega, fun h => by omega, hown, Lib.hid ⟨HX.out, by have := HP.out; omega⟩, hb, hbs⟩
            case measure => simp [RowKit.intOf]; omega
        · obtain ⟨fn, rfl⟩ : ∃ fn : Nat, f = (fn : Int) := ⟨f.toNat, by omega⟩
          obtain ⟨h1, h2⟩ := hf3 (by omega)
          have HC := Lib.hid (cur_some s fn k)
          have HNe := Lib.hid (cur_ne s fn k (by omega) h2)
          clear hf3
          cases q
          · have HX : Hid (full = ps ++ wrdS (curF s (fn : Int) (k + 1)) (s.drop (k + 1))) := Lib.hid (by rw [HE.out, HD1.out, wrd_c _ c rest HQ.out.symm, cur_step s fn k c rest (by omega) HD1.out, HD2.out])
            go_upto_region 6 with fail
            go_cut [22] (fun s22 wx => s22 = .bool true ∧ wx = wr)
            case first =>
              go_wp2_with fail
              refine (hbl _).mono ?_
              rintro e w' ⟨rfl, rfl⟩
              go_wp2_with fail
              go_meet
              exact ⟨rfl, rfl⟩
            case rest =>
            obtain ⟨rfl, rfl⟩ := hcut
            go_wp2_with fail
            go_roundw
            case rel => exact ⟨k + 1, fn, ps, by go_num, rfl, by omega, by omega, by omega, fun _ => ⟨by omega, by omega⟩, hown, Lib.hid ⟨HX.out, by have := HP.out; omega⟩, hb, hbs⟩
            case measure => simp [RowKit.intOf]; omega
          · have HX : Hid (full = (ps ++ [(s.drop fn).take (k - fn)]) ++ wrdS (curF s (-1) (k + 1)) (s.drop (k + 1))) := Lib.hid (by rw [HE.out, HD1.out, wrd_b1 _ c rest HQ.out.symm HNe.out, HC.out, cur_none, HD2.out]; simp)
            go_upto_region 6 with fail
            go_cut [22] (fun s22 wx => s22 = .bool false ∧ wx = wr)
            case first =>
              go_wp2_with fail
              refine (hbl _).mono ?_
              rintro e w' ⟨rfl, rfl⟩
              go_wp2_with fail
              go_meet
              exact ⟨rfl, rfl⟩
            case rest =>
            obtain ⟨rfl, rfl⟩ := hcut
            go_wp2_with (first
              | (at_builtin; refine wpList_append_own _ rfl _ _ 90 rfl B 9 i0 (.string ⟨#[]⟩) 1 16 Tryz.underlying90 hi hz0 hz1 hz2 rfl (by decide) _ _ _ rfl (hown.alloc _) ⟨wc.heap.size, 0, none⟩ 1 1 [.string ⟨((s.drop fn).take (k - fn)).toArray⟩] rfl rfl ?_ ?_ ?_ ?_ ?_ ?_)
              | go_in)
            all_goals first | exact cell_one_new _ _ _ | (show Value.oneCell' _ = true; rfl) | (intro u hu; simp at hu; subst hu; rfl) | (have := HP.out; unfold maxLen; omega) | (have := HP.out; omega) | (simp; omega) | skip
            intro v' w1 hown' hgrow _
            have hr := low_rel w wc w1 B _ _ _ _ _ hown hb hbs hgrow
            have ho2 : w1.ownsRow B 9 1 v' (ps ++ [(s.drop fn).take (k - fn)]).length (strsOf (ps ++ [(s.drop fn).take (k - fn)])) := by
              rw [show strsOf (ps ++ [(s.drop fn).take (k - fn)]) = strsOf ps ++ [.string ⟨((s.drop fn).take (k - fn)).toArray⟩] from by simp [strsOf], List.length_append]
              exact hown'
            clear hown' hgrow hown
            go_wp2_with fail
            go_roundw
            case rel => exact ⟨k + 1, -1, _, by go_num, rfl, by omega, by omega, by omega, fun h => by omega, ho2, Lib.hid ⟨HX.out, by have := HP.out; rw [List.length_append]; simp; omega⟩, hr.1, hr.2⟩
            case measure => simp [RowKit.intOf]; omega
      · obtain rfl : k = s.length := by omega
        have HE := Lib.hid hh.out.1
        have HP := Lib.hid hh.out.2
        clear hh
        by_cases g : f < 0
        · obtain rfl : f = -1 := by omega
          have HX : Hid (full = ps ++ wrdS (curF s (-1) (s.length + 1)) (s.drop (s.length + 1))) := Lib.hid (by rw [HE.out, List.drop_length, List.drop_eq_nil_of_le (by omega), cur_none, cur_none])
          clear hf1 hf2 hf3 g
          go_wp2_with fail
          go_roundw
          case rel => exact ⟨s.length + 1, -1, ps, by go_num, rfl, by omega, by omega, by omega, fun h => by omega, hown, Lib.hid ⟨HX.out, by have := HP.out; omega⟩, hb, hbs⟩
          case measure => first | (simp [RowKit.intOf]; done) | (simp [RowKit.intOf]; omega)
        · obtain ⟨fn, rfl⟩ : ∃ fn : Nat, f = (fn : Int) := ⟨f.toNat, by omega⟩
          obtain ⟨h1, h2⟩ := hf3 (by omega)
          have HX : Hid (full = (ps ++ [s.drop fn]) ++ wrdS (curF s (-1) (s.length + 1)) (s.drop (s.length + 1))) := Lib.hid (by
            rw [HE.out, List.drop_length, List.drop_eq_nil_of_le (Nat.le_succ _), wrd_nil1 _ (cur_ne s fn s.length (by omega) (Nat.le_refl _)), cur_some, take_drop_all, cur_none, wrd_nil0]; simp)
          clear hf3
          go_wp2_with (first
            | (at_builtin; refine wpList_append_own _ rfl _ _ 90 rfl B 9 i0 (.string ⟨#[]⟩) 1 16 Tryz.underlying90 hi hz0 hz1 hz2 rfl (by decide) _ _ _ rfl (hown.alloc _) ⟨wr.heap.size, 0, none⟩ 1 1 [.string ⟨(s.drop fn).toArray⟩] rfl rfl ?_ ?_ ?_ ?_ ?_ ?_)
            | go_in)
          all_goals first | exact cell_one_new _ _ _ | (show Value.oneCell' _ = true; rfl) | (intro u hu; simp at hu; subst hu; rfl) | (have := HP.out; unfold maxLen; omega) | (have := HP.out; omega) | (simp; omega) | skip
          intro v' w1 hown' hgrow _
          have hr := low_rel w wr w1 B _ _ _ _ _ hown hb hbs hgrow
          have ho2 : w1.ownsRow B 9 1 v' (ps ++ [s.drop fn]).length (strsOf (ps ++ [s.drop fn])) := by
            rw [show strsOf (ps ++ [s.drop fn]) = strsOf ps ++ [.string ⟨(s.drop fn).toArray⟩] from by simp [strsOf], List.length_append]
            exact hown'
          clear hown' hgrow hown
          go_wp2_with fail
          go_roundw
          case rel => exact ⟨s.length + 1, -1, _, by go_num, rfl, by omega, by omega, by omega, fun h => by omega, ho2, Lib.hid ⟨HX.out, by have := HP.out; rw [List.length_append]; simp; omega⟩, hr.1, hr.2⟩
          case measure => first | (simp [RowKit.intOf]; done) | (simp [RowKit.intOf]; omega)
    · obtain rfl : k = s.length + 1 := by omega
      have hf4 : f = -1 := by
        by_cases g : 0 ≤ f
        · have := hf3 g; omega
        · omega
      have HX : Hid (full = ps) := Lib.hid (by rw [hh.out.1, hf4, cur_none, List.drop_eq_nil_of_le (by omega), wrd_nil0, List.append_nil])
      clear hh hf4 hf3
      go_wp2_with fail
      go_ret
      exact ⟨_, rfl, by rw [HX.out]; exact hown, hb⟩
end Go.Proofs.YtoajgfhcongocaaGreatDoor.doc

namespace Go.Proofs.YtoajgfhcongocaaGreatDoor.doc
open Go.ChangeShapes Go.WideShapes Go.ChangeAt Go.RowKit Go.Lib Go.Proofs.YtoajgfhcongocaaGreatDoor.atr Go.Proofs.YtoajgfhcongocaaGreatDoor.link Go.Proofs.YtoajgfhcongocaaGreatDoor.cln

theorem jn_drop (l : List (List UInt8)) : jnW l = (spW l).drop 1 := by
  cases l with
  | nil => rfl
  | cons x r => rw [spW_cons]; rfl
theorem sp_take (l : List (List UInt8)) (m : Nat) (h : m < l.length) : spW (l.take (m + 1)) = spW (l.take m) ++ 32 :: l[m] := by
  unfold spW
  rw [List.take_succ_eq_append_getElem h, List.flatMap_append]; simp
theorem sp_pos (l : List (List UInt8)) (h : 0 < l.length) : 1 ≤ (spW l).length := by
  cases l with
  | nil => exact absurd h (Nat.lt_irrefl _)
  | cons x r => rw [spW_cons]; simp
theorem sp_take_le (l : List (List UInt8)) (m : Nat) : (spW (l.take m)).length ≤ (spW l).length := by
  have e : spW l = spW (l.take m) ++ spW (l.drop m) := by
    unfold spW
    rw [← List.flatMap_append, List.take_append_drop]
  rw [e, List.length_append]; omega
theorem jn_take_le (l : List (List UInt8)) (m : Nat) : (jnW (l.take m)).length ≤ (jnW l).length := by
  rw [jn_drop, jn_drop, List.length_drop, List.length_drop]
  have := sp_take_le l m
  omega
theorem jn_first (l : List (List UInt8)) (h : 0 < l.length) : jnW (l.take 1) = l[0] := by
  rw [jn_drop, sp_take l 0 h]; rfl
theorem jn_next (l : List (List UInt8)) (m : Nat) (h : m < l.length) (h0 : 0 < m) : jnW (l.take (m + 1)) = jnW (l.take m) ++ [32] ++ l[m] := by
  rw [jn_drop, jn_drop, sp_take l m h, List.drop_append_of_le_length (sp_pos _ (by rw [List.length_take]; omega))]
  simp

set_option maxHeartbeats 3200000 in
set_option maxRecDepth 100000 in
theorem rcollapse_any (s : List UInt8) (hl : s.length ≤ 2000000) (w : World) :
    Calls Tryz.prog 57 #[.string ⟨s.toArray⟩] w fun e w' => e = .returned (.string ⟨(collapseS s).toArray⟩) ∧ Below w.heap.size w w' := by
  obtain ⟨i0, hi, hz0, hz1, hz2⟩ := info_parts infoU8
  have hw := rwords_any s hl w
  have hwl := wrd_len s []
  have hcl := collapse_le s
  rw [col_is] at hcl ⊢
  generalize wrdS [] s = ws at *
  have HLe := Lib.hid (fun m => jn_take_le ws m)
  have HFi := Lib.hid (jn_first ws)
  have HNx := Lib.hid (jn_next ws)
  obtain ⟨res, hres⟩ : ∃ r, r = jnW ws := ⟨_, rfl⟩
  rw [← hres] at hcl HLe ⊢
  have HR := Lib.hid hres
  clear hres
  go_enter Tryz.func57, Tryz.ntmps57
  go_wp2_with fail
  refine hw.mono ?_
  rintro e w1 ⟨v1, rfl, hown1, hb1⟩
  have hr1 := RowAt.of_owns hown1
  obtain ⟨oa, oc, rfl⟩ := RowAt.lenN hr1
  have hl1 : (strsOf ws).length = ws.length := by unfold strsOf; rw [List.length_map]
  have HCell : Hid (∀ (wr : World), Below w1.heap.size w1 wr → ∀ k (hk : k < ws.length), ∃ b o, oa = some ⟨b, o, none⟩ ∧ wr.cell? ⟨b, o + k, none⟩ = some (.string ⟨(ws[k]).toArray⟩)) := Lib.hid (fun wr hb k hk => by
    rcases hr1 with ⟨h0, _⟩ | ⟨b, off, cap, e, h0, h2, h3⟩
    · omega
    · cases e
      refine ⟨b, off, rfl, (hb.cell (p := ⟨b, off + k, none⟩) h2).trans (h3 k _ ?_)⟩
      unfold strsOf
      rw [List.getElem?_map, List.getElem?_eq_getElem hk]; rfl)
  clear hw hown1 hr1 hl1
  obtain ⟨B, hB⟩ : ∃ B, B = w1.heap.size := ⟨_, rfl⟩
  have HB := Lib.hid hB
  rw [← hB] at HCell
  clear hB
  go_wp2_with fail
  go_loopw [4, 5] (fun v y wr => ∃ k : Nat, y = .int .i64 k ∧ k ≤ ws.length ∧ wr.ownsRow B 5 1 v (jnW (ws.take k)).length (cellsOf (jnW (ws.take k))) ∧ Below B w1 wr ∧ B ≤ wr.heap.size) (fun _ y _ => ws.length - (RowKit.intOf y).toNat)
  case atStart => exact ⟨0, rfl, by omega, World.ownsRow_nil _ _ _ _, by rw [HB.out]; exact Below.refl _ _, by rw [HB.out]; omega⟩
  case round =>
    obtain ⟨k, rfl, hk, hown, hb, hbs⟩ := hrel
    by_cases hlt : k < ws.length
    · obtain ⟨b, off, e, hc⟩ := HCell.out wr hb k hlt
      cases e
      have hle1 := HLe.out (k + 1)
      cases k with
      | zero =>
        have hX := HFi.out (by omega)
        have hle1 := HLe.out 1
        rw [hX] at hle1
        rw [Nat.add_zero] at hc
        have HX := Lib.hid hX
        clear hX
        generalize ws[0] = wt at *
        have hsz : (⟨wt.toArray⟩ : ByteArray).size = wt.length := rfl
        go_wp2_with (first
          | (at_builtin; refine wpList_append_own_string _ rfl _ _ 92 9 rfl B 5 i0 Tryz.underlying92 Tryz.underlying9 hi hz0 hz1 hz2 _ _ _ rfl hown ⟨wt.toArray⟩ rfl ?_ ?_ ?_ ?_)
          | go_in)
        all_goals first | (rw [hsz]; simp [jnW]; unfold maxLen; omega) | (rw [hsz]; simp [jnW]; omega) | omega | skip
        intro v' w2 hown' hgrow _
        have hr := grown_rel w1 wr w2 B _ _ _ _ hown hb hbs hgrow
        have ho2 : w2.ownsRow B 5 1 v' (jnW (ws.take (0 + 1))).length (cellsOf (jnW (ws.take (0 + 1)))) := by
          rw [show (0 : Nat) + 1 = 1 from rfl, HX.out]
          rw [strCells_of, ← cells_app] at hown'
          simpa [jnW] using hown'
        clear hgrow hown hown'
        go_wp2_with fail
        go_roundw
        case rel => exact ⟨0 + 1, by go_num, by omega, ho2, hr.1, hr.2⟩
        case measure => simp [RowKit.intOf]; omega
      | succ k =>
        have hX := HNx.out (k + 1) hlt (by omega)
        rw [hX, List.length_append, List.length_append] at hle1
        have HX := Lib.hid hX
        obtain ⟨wt, hwt⟩ : ∃ wt, ws[k + 1] = wt := ⟨_, rfl⟩
        rw [hwt] at hle1 HX hc
        have HWt := Lib.hid hwt
        clear hX hwt
        have hsz : (⟨wt.toArray⟩ : ByteArray).size = wt.length := rfl
        have hone : ([32] : List UInt8).length = 1 := rfl
        rw [hone] at hle1
        go_upto_if 15 with fail
        go_cut [4] (fun s4 wx => wx.ownsRow B 5 1 s4 (jnW (ws.take (k + 1)) ++ [32]).length (cellsOf (jnW (ws.take (k + 1)) ++ [32])) ∧ Below B w1 wx ∧ B ≤ wx.heap.size)
        case first =>
          go_wp2_with (first
            | (at_builtin; refine wpList_append_own _ rfl _ _ 92 rfl B 5 i0 (.int .u8 0) 1 1 Tryz.underlying92 hi hz0 hz1 hz2 rfl (by decide) _ _ _ rfl (hown.alloc _) ⟨wr.heap.size, 0, none⟩ 1 1 [.int .u8 32] rfl rfl ?_ ?_ ?_ ?_ ?_ ?_)
            | go_in)
          all_goals first | exact cell_one_new _ _ _ | (show Value.oneCell' _ = true; rfl) | (intro u hu; simp at hu; subst hu; rfl) | (unfold maxLen; omega) | omega | (simp; omega) | skip
          intro v' w2 hown' hgrow _
          have hr := low_rel w1 wr w2 B _ _ _ _ _ hown hb hbs hgrow
          have ho2 : w2.ownsRow B 5 1 v' (jnW (ws.take (k + 1)) ++ [32]).length (cellsOf (jnW (ws.take (k + 1)) ++ [32])) := by
            rw [cells_app, List.length_append]; exact hown'
          clear hgrow hown hown'
          go_wp2_with fail
          go_meet
          exact ⟨ho2, hr.1, hr.2⟩
        case rest =>
        obtain ⟨hown2, hb2, hbs2⟩ := hcut
        clear hown hb hbs hc
        have hX2 := HX.out
        have hcc := HCell.out wc hb2 (k + 1) hlt
        obtain ⟨b2, off2, e2, hc3⟩ := hcc
        cases e2
        rw [HWt.out] at hc3
        clear hX2
        go_wp2_with (first
          | (at_builtin; refine wpList_append_own_string _ rfl _ _ 92 9 rfl B 5 i0 Tryz.underlying92 Tryz.underlying9 hi hz0 hz1 hz2 _ _ _ rfl hown2 ⟨wt.toArray⟩ rfl ?_ ?_ ?_ ?_)
          | go_in)
        all_goals first | (rw [hsz]; simp; unfold maxLen; omega) | (rw [hsz]; simp; omega) | omega | skip
        intro v' w2 hown' hgrow _
        have hr := grown_rel w1 wc w2 B _ _ _ _ hown2 hb2 hbs2 hgrow
        have ho2 : w2.ownsRow B 5 1 v' (jnW (ws.take (k + 1 + 1))).length (cellsOf (jnW (ws.take (k + 1 + 1)))) := by
          have e1 : (jnW (ws.take (k + 1)) ++ [32]).length = (jnW (ws.take (k + 1))).length + 1 := by simp
          rw [HX.out, cells_app, List.length_append, e1]
          rw [strCells_of] at hown'
          exact hown'
        clear hgrow hown2 hown'
        go_wp2_with fail
        go_roundw
        case rel => exact ⟨k + 1 + 1, by go_num, by omega, ho2, hr.1, hr.2⟩
        case measure => simp [RowKit.intOf]; omega
    · obtain rfl : k = ws.length := by omega
      rw [List.take_length] at hown
      rw [← HR.out] at hown
      have hcv := own_string wr B _ res res.length rfl hown
      clear hown
      go_wp2_with fail
      go_ret
      exact ⟨rfl, hb1.trans (hb.mono (by have := HB.out; have := hb1.size; omega))⟩
end Go.Proofs.YtoajgfhcongocaaGreatDoor.doc
