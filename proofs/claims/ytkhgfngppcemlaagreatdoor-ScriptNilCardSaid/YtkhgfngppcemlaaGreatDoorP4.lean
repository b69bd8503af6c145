/- The words of a line, and the answers. Do, up to the call of what the line's first word names. -/
import Derived.Carry
import Derived.ChangeMaps5
import Derived.Laws.Rows
import Derived.Lib.AppendIntMem
import Derived.Lib.Hide
import Derived.Lib.IndexBytes
import Derived.Lib.IndexMore
import Derived.Lib.ItoaMem
import Derived.Lib.SlTrimSet
import Derived.Lib.Strings
import Derived.MapKept
import Derived.Maps.AppendAt
import Derived.ProofKit
import Derived.Shelf.Strings.SlTrimAscii
import Derived.WalkKit
import Derived.WalkSmall
import Derived.Test.YtkhgfngppcemlaaGreatDoorRows
import Derived.Test.YtkhgfngppcemlaaGreatDoorShelf
import Derived.Test.YtkhgfngppcemlaaGreatDoorP1
import Derived.Test.YtkhgfngppcemlaaGreatDoorP2
import Derived.Test.YtkhgfngppcemlaaGreatDoorP3
namespace Go.Proofs.YtkhgfngppcemlaaGreatDoor.scr
open Go Go.RowKit Go.ChangeShapes Go.WideShapes Go.ChangeAt Go.Lib Go.Proofs.YtkhgfngppcemlaaGreatDoor.str

/-- the words at block x -/
def WdAt (w : World) (x : Nat) (r : List UInt8) (e b : Bool) : Prop := w.heap[x]? = some (.cells #[.string ⟨r.toArray⟩, .bool e, .bool b] 31 (0, 0))
theorem WdAt.c0 {w : World} {x : Nat} {r : List UInt8} {e b : Bool} (h : WdAt w x r e b) : w.cell? ⟨x, 0, none⟩ = some (.string ⟨r.toArray⟩) := by unfold WdAt at h; simp [World.cell?, h]
theorem WdAt.c1 {w : World} {x : Nat} {r : List UInt8} {e b : Bool} (h : WdAt w x r e b) : w.cell? ⟨x, 1, none⟩ = some (.bool e) := by unfold WdAt at h; simp [World.cell?, h]
theorem WdAt.c2 {w : World} {x : Nat} {r : List UInt8} {e b : Bool} (h : WdAt w x r e b) : w.cell? ⟨x, 2, none⟩ = some (.bool b) := by unfold WdAt at h; simp [World.cell?, h]
theorem WdAt.z {w : World} {x : Nat} {r : List UInt8} {e b : Bool} (h : WdAt w x r e b) (i : Nat) : w.frozen? ⟨x, i, none⟩ = false := by unfold WdAt at h; simp [World.frozen?, h]
theorem WdAt.lt {w : World} {x : Nat} {r : List UInt8} {e b : Bool} (h : WdAt w x r e b) : x < w.heap.size := (Array.getElem?_eq_some_iff.1 h).1
theorem WdAt.below {w w' : World} {x : Nat} {r : List UInt8} {e b : Bool} (h : WdAt w x r e b) (hb : Below w.heap.size w w') : WdAt w' x r e b := (hb.block x h.lt).trans h
theorem WdAt.set {w : World} {x : Nat} {r : List UInt8} {e b : Bool} (h : WdAt w x r e b) (r' : List UInt8) (e' : Bool) : WdAt ((w.setCell ⟨x, 0, none⟩ (.string ⟨r'.toArray⟩)).setCell ⟨x, 1, none⟩ (.bool e')) x r' e' b := by
  have h1 := heap_setCell_same w x 0 _ _ (.string ⟨r'.toArray⟩) h
  exact heap_setCell_same _ x 1 _ _ (.bool e') h1
theorem grown_set1 (w : World) (x i : Nat) (v : Value) : w.grownBy (w.setCell ⟨x, i, none⟩ v) (some x) :=
  ⟨rfl, rfl, rfl, by simp [World.setCell], fun k _ hk => Below.heap_setCell _ _ _ k (fun e => hk (by rw [e]))⟩
theorem grown_of {w w' : World} (h : Below w.heap.size w w') (x : Option Nat) : w.grownBy w' x := ⟨h.os, h.tape, h.output, h.size, fun i hi _ => h.block i hi⟩
theorem cut_sp (l : List UInt8) (hl : l.length ≤ 1000000000) (w : World) (hG : G w) :
    Calls Tryz.prog 80 #[.string ⟨l.toArray⟩, .string ⟨#[32]⟩] w fun e w' => e = .returned (.tuple #[.string ⟨(cut1 32 l).1.toArray⟩, .string ⟨(cut1 32 l).2.1.toArray⟩, .bool (cut1 32 l).2.2]) ∧ Below w.heap.size w w' := by
  obtain ⟨m, hm⟩ := hG.ml
  have := Tryz.strings_Cut ⟨l.toArray⟩ ⟨#[32]⟩ m w (by rw [bsize]; omega) hm
  have e3 : (⟨l.toArray⟩ : ByteArray).data.toList = l := rfl
  have e4 : (⟨#[32]⟩ : ByteArray).data.toList = [32] := rfl
  rw [e3, e4, cut_one] at this
  exact this.mono fun e w' ⟨he, n, hw⟩ => ⟨he, by rw [hw]; exact below_drewN (Below.refl _ _) n⟩
theorem word_any (x : Nat) (r : List UInt8) (b : Bool) (hl : r.length ≤ 1000) (a r' : List UInt8) (m : Bool) (hc : cut1 32 r = (a, r', m)) (w : World) (hG : G w) (hW : WdAt w x r false b) :
    Calls Tryz.prog 35 #[.pointer (some ⟨x, 0, none⟩)] w fun e w' => e = .returned (.string ⟨a.toArray⟩) ∧ WdAt w' x r' (!m) b ∧ w.grownBy w' (some x) := by
  have h := cut_sp r (by omega) w hG
  rw [hc] at h
  dsimp only at h
  have c0 := hW.c0
  have c1 := hW.c1
  have HW := Lib.hid hW
  clear hc hW hG
  go_enter Tryz.func35, Tryz.ntmps35
  go_wp2_with fail
  refine h.mono ?_
  rintro e w1 ⟨rfl, hb⟩
  have hW1 := HW.out.below hb
  have z0 := hW1.z 0
  have z1 := hW1.z 1
  have d0 := hW1.c0
  have d1 := hW1.c1
  have H1 := Lib.hid (hW1.set r' (!m))
  clear hW1 h c0 c1
  go_wp2_with fail
  go_ret
  exact ⟨rfl, H1.out, ((grown_of hb _).trans (grown_set1 _ _ _ _)).trans (grown_set1 _ _ _ _)⟩
set_option maxRecDepth 100000 in
theorem name_any (x : Nat) (r : List UInt8) (b : Bool) (hl : r.length ≤ 1000) (a r' : List UInt8) (m : Bool) (hc : cut1 32 r = (a, r', m)) (ha : a ≠ []) (ha2 : a.length ≤ 200) (w : World) (hG : G w) (hW : WdAt w x r false b) :
    Calls Tryz.prog 38 #[.pointer (some ⟨x, 0, none⟩)] w fun e w' => e = .returned (.string ⟨a.toArray⟩) ∧ WdAt w' x r' (!m) b ∧ w.grownBy w' (some x) := by
  have h := word_any x r b hl a r' m hc w hG hW
  clear hc hW hG
  cases a with
  | nil => exact absurd rfl ha
  | cons c s =>
    clear ha
    have hn : ¬ (200 : Int) < (s.length : Int) + 1 := by have h' := ha2; rw [List.length_cons] at h'; omega
    go_enter Tryz.func38, Tryz.ntmps38
    go_wp2_with fail
    refine h.mono ?_
    rintro e w1 ⟨rfl, hW1, hg⟩
    have HW := Lib.hid hW1
    have HG := Lib.hid hg
    clear h hW1 hg
    go_wp2_with fail
    go_ret
    exact ⟨rfl, HW.out, HG.out⟩
def digS9 : List UInt8 := [48, 49, 50, 51, 52, 53, 54, 55, 56, 57]
theorem trim_dig9 (l : List UInt8) (hl : l.length ≤ 1000000000) (w : World) :
    Calls Tryz.prog 140 #[.string ⟨l.toArray⟩, .string ⟨#[48, 49, 50, 51, 52, 53, 54, 55, 56, 57]⟩] w fun e w' => e = .returned (.string ⟨(trimS l digS9).toArray⟩) ∧ Below w.heap.size w w' :=
  Any.strings_Trim_laid Tryz.lays160 (by kernel_rfl) ⟨l.toArray⟩ ⟨#[48, 49, 50, 51, 52, 53, 54, 55, 56, 57]⟩ w (by rw [bsize]; omega) (by decide) (ascii_of_all (by decide))
set_option maxRecDepth 100000 in
theorem num_ok (s : List UInt8) (c : UInt8) (d : List UInt8) (n : Int) (hs : s.length ≤ 100) (hd : Lib.trimPrefix s [45] = c :: d) (h6 : (c :: d).length ≤ 6) (ht : trimS (c :: d) digS9 = []) (hn : atoiAll s = .ok n) (w : World) :
    Calls Tryz.prog 84 #[.string ⟨s.toArray⟩] w fun e w' => e = .returned (.tuple #[.int .i64 n, .bool true]) ∧ Below w.heap.size w w' := by
  have hp := Tryz.strings_TrimPrefix ⟨s.toArray⟩ ⟨#[45]⟩ w
  have e1 : (⟨s.toArray⟩ : ByteArray).data.toList = s := rfl
  have e2 : (⟨#[45]⟩ : ByteArray).data.toList = [45] := rfl
  rw [e1, e2, hd] at hp
  have htr := fun w => trim_dig9 (c :: d) (by omega) w
  rw [ht] at htr
  have hat := fun w => Tryz.strconv_Atoi_ok ⟨s.toArray⟩ (by rw [bsize]; omega) n hn w
  have h6' : ¬ (6 : Int) < (d.length : Int) + 1 := by have h' := h6; rw [List.length_cons] at h'; omega
  clear hd ht hn e1 e2
  go_enter Tryz.func84, Tryz.ntmps84
  go_wp2_with fail
  refine hp.mono ?_
  rintro e w1 ⟨rfl, rfl⟩
  go_wp2_with fail
  refine (htr _).mono ?_
  rintro e w2 ⟨rfl, hb2⟩
  go_wp2_with fail
  refine (hat _).mono ?_
  rintro e w3 ⟨rfl, hw3⟩
  have hb3 : Below w2.heap.size w2 w3 := by
    rcases hw3 with rfl | ⟨t, rfl⟩
    · exact Below.refl _ _
    · exact Lib.bytesWorld_below _ _ _
  have hb := below_trans hb2 hb3
  clear hw3 hat htr hp
  go_wp2_with fail
  go_ret2
  exact ⟨rfl, hb⟩
theorem number_any (x : Nat) (r : List UInt8) (b : Bool) (hl : r.length ≤ 100) (a r' : List UInt8) (m : Bool) (hc : cut1 32 r = (a, r', m)) (ha : a.length ≤ 100) (c : UInt8) (d : List UInt8) (n : Int) (hd : Lib.trimPrefix a [45] = c :: d) (h6 : (c :: d).length ≤ 6) (ht : trimS (c :: d) digS9 = []) (hn : atoiAll a = .ok n)
    (w : World) (hG : G w) (hW : WdAt w x r false b) :
    Calls Tryz.prog 42 #[.pointer (some ⟨x, 0, none⟩)] w fun e w' => e = .returned (.int .i64 n) ∧ WdAt w' x r' (!m) b ∧ w.grownBy w' (some x) := by
  have h := word_any x r b (by omega) a r' m hc w hG hW
  have h2 := fun w => num_ok a c d n ha hd h6 ht hn w
  clear hc hW hG hd ht hn
  go_enter Tryz.func42, Tryz.ntmps42
  go_wp2_with fail
  refine h.mono ?_
  rintro e w1 ⟨rfl, hW1, hg⟩
  go_wp2_with fail
  refine (h2 _).mono ?_
  rintro e w2 ⟨rfl, hb⟩
  have HW := Lib.hid (hW1.below hb)
  have HG := Lib.hid (hg.trans (grown_of hb _))
  clear h h2 hW1 hg
  go_wp2_with fail
  go_ret
  exact ⟨rfl, HW.out, HG.out⟩
theorem whole_yes (x : Nat) (r : List UInt8) (w : World) (hW : WdAt w x r true false) :
    Calls Tryz.prog 39 #[.pointer (some ⟨x, 0, none⟩)] w fun e w' => e = .returned (.bool true) ∧ w = w' := by
  have c1 := hW.c1
  have c2 := hW.c2
  clear hW
  go_enter Tryz.func39, Tryz.ntmps39
  go_wp2_with fail
  go_ret
  exact ⟨rfl, rfl⟩
theorem digits_any (n : Nat) (hn : n ≤ 1000) (w : World) (hG : G w) :
    Calls Tryz.prog 37 #[.int .i64 (n : Int)] w fun e w' => e = .returned (.string ⟨(decDigits n).toArray⟩) ∧ Below w.heap.size w w' := by
  have h : Calls Tryz.prog 82 #[.int .i64 (n : Int)] w fun e w' => e = .returned (.string ⟨(decDigits n).toArray⟩) ∧ Below w.heap.size w w' := by
    refine (Tryz.strconv_Itoa (n : Int) (by omega) (by omega) w hG.p10).mono ?_
    rintro e w' ⟨rfl, k, os, rfl⟩
    refine ⟨?_, below_grow _ _ (Nat.le_refl _) _ _⟩
    have : Lib.itoa (n : Int) = decDigits n := by unfold Lib.itoa; rw [if_neg (by omega)]; simp
    rw [this]
  clear hG
  go_enter Tryz.func37, Tryz.ntmps37
  go_wp2_with fail
  refine h.mono ?_
  rintro e w1 ⟨rfl, hb⟩
  go_wp2_with fail
  go_ret
  exact ⟨rfl, hb⟩
theorem done_ok (w : World) : Calls Tryz.prog 7 #[.int .i64 0] w fun e w' => e = .returned (.string ⟨#[111, 107]⟩) ∧ w = w' := by
  go_enter Tryz.func7, Tryz.ntmps7
  go_wp2_with fail
  go_ret
  exact ⟨rfl, rfl⟩
theorem done_err (n : Nat) (t : List UInt8) (ht : decDigits n = t) (hl : t.length ≤ 100) (hn : n ≤ 1000) (h0 : 0 < n) (w : World) (hG : G w) :
    Calls Tryz.prog 7 #[.int .i64 (n : Int)] w fun e w' => e = .returned (.string ⟨([101, 114, 114, 111, 114, 32] ++ t).toArray⟩) ∧ Below w.heap.size w w' := by
  have h := digits_any n hn w hG
  rw [ht] at h
  have hl' : ¬ (9223372036854775807 : Nat) < 6 + t.length := by omega
  have hne : ¬ (n : Int) = 0 := by omega
  clear hG
  go_enter Tryz.func7, Tryz.ntmps7
  go_wp2_with fail
  refine h.mono ?_
  rintro e w1 ⟨rfl, hb⟩
  go_wp2_with fail
  go_ret
  exact ⟨rfl, hb⟩
end Go.Proofs.YtkhgfngppcemlaaGreatDoor.scr
namespace Go.Proofs.YtkhgfngppcemlaaGreatDoor.scr
open Go Go.RowKit Go.ChangeShapes Go.WideShapes Go.ChangeAt Go.Lib Go.Proofs.YtkhgfngppcemlaaGreatDoor.str

/-- a method with its receiver -/
def mv (f s : Nat) : Value := .func (.func f) #[.pointer (some ⟨s, 0, none⟩)] #[]
def table (s : Nat) : List (List UInt8 × Value) :=
  [ ([97, 100, 100], mv 8 s),
    ([116, 101, 120, 116], mv 9 s),
    ([105, 110, 115, 101, 114, 116], mv 10 s),
    ([114, 101, 109, 111, 118, 101], mv 11 s),
    ([115, 101, 116], mv 12 s),
    ([117, 110, 115, 101, 116], mv 13 s),
    ([119, 114, 105, 116, 101], mv 14 s),
    ([99, 117, 115, 116, 111, 109], mv 15 s),
    ([116, 121, 112, 101], mv 16 s),
    ([99, 104, 101, 99, 107], mv 17 s),
    ([117, 110, 99, 104, 101, 99, 107], mv 18 s),
    ([99, 104, 111, 111, 115, 101], mv 19 s),
    ([117, 110, 99, 104, 111, 111, 115, 101], mv 20 s),
    ([102, 105, 108, 101], mv 21 s),
    ([110, 111, 102, 105, 108, 101], mv 22 s),
    ([99, 108, 105, 99, 107], mv 23 s),
    ([101, 110, 116, 101, 114], mv 24 s),
    ([114, 101, 115, 101, 116], mv 25 s),
    ([115, 117, 98, 109, 105, 116], mv 26 s),
    ([97, 115, 107], mv 27 s),
    ([111, 110], mv 28 s),
    ([118, 97, 108, 117, 101], mv 29 s),
    ([102, 108, 97, 103, 115], mv 30 s),
    ([102, 111, 114, 109], mv 31 s),
    ([108, 111, 103], mv 32 s),
    ([112, 108, 97, 110, 115], mv 33 s),
    ([112, 108, 97, 110], mv 34 s) ]
theorem tabT : Tryz.prog.underlying 33 = some (.map 9 32) := by kernel_rfl
theorem tabS : Tryz.prog.underlying 9 = some .string := by kernel_rfl
theorem tabZ (u : World) : (zeroValue 32).run Tryz.prog u = .ok .nilFunc u := by kernel_rfl
theorem fn_nil (fn : Fn) (a b : Array Value) (w : World) : (binOp .eql 32 (.func fn a b) .nilFunc).run Tryz.prog w = .ok (.bool false) w := by
  kernel_rfl
theorem fn_nil2 (w : World) : (binOp .eql 32 .nilFunc .nilFunc).run Tryz.prog w = .ok (.bool true) w := by
  kernel_rfl
theorem upon_insert {P : Program} {w0 w : World} {o : Oper} {a : Act} {K : Act → World → Prop} {Q : Exit → Act → World → Prop} {t k e : TypeId} (ht : P.underlying t = some (.map k e)) (hk : P.underlying k = some .string) {b : Nat} {ps : List (List UInt8 × Value)} (hM : MapG w0 w b ps) (key : List UInt8) (val : Value)
    (hn : (ps.map (·.1)).contains key = false) (h : ∀ w', MapG w0 w' b (ps ++ [(key, val)]) → K (a.put o.dst undef) w') :
    Oper.upon P o a K Q (((Instr.mapUpdate t (.map (some b)) (.string ⟨key.toArray⟩) val).run P w).andThen fun _ w' => .ok .skip w') := by
  obtain ⟨w', hrun, r1, r2, r3⟩ := run_update (P := P) ht hk hM.is key val (has_no hn)
  unfold strV at hrun
  rw [hrun]
  exact h w' ⟨r1, hM.grown.trans r2⟩
set_option maxHeartbeats 12800000 in
set_option maxRecDepth 100000 in
theorem do_any (s : Nat) (line k r : List UInt8) (m : Bool) (hl : line.length ≤ 1000) (hc : cut1 32 line = (k, r, m)) (w : World) (hG : G w) (R : List UInt8 → World → Prop)
    (hq : (assoc k .nilFunc (table s) = .nilFunc ∧ ∀ w' : World, Below w.heap.size w w' → R [101, 114, 114, 111, 114, 32, 49, 50] w') ∨
      ∃ f : Nat, assoc k .nilFunc (table s) = mv f s ∧ (∀ (s x : Nat) (w : World), (callFunc f #[.pointer (some ⟨s, 0, none⟩), .pointer (some ⟨x, 0, none⟩)]).run Tryz.prog w = .ok (.enter f #[.pointer (some ⟨s, 0, none⟩), .pointer (some ⟨x, 0, none⟩)]) w) ∧
        ∀ (w' : World) (x : Nat), Below w.heap.size w w' → w.heap.size ≤ x → WdAt w' x r (!m) false → Calls Tryz.prog f #[.pointer (some ⟨s, 0, none⟩), .pointer (some ⟨x, 0, none⟩)] w' fun e w2 => ∃ t, e = .returned (.string ⟨t.toArray⟩) ∧ R t w2) :
    Calls Tryz.prog 5 #[.pointer (some ⟨s, 0, none⟩), .string ⟨line.toArray⟩] w fun e w2 => ∃ t, e = .returned (.string ⟨t.toArray⟩) ∧ R t w2 := by
  have hmk := fun w => run_makeMap (P := Tryz.prog) 33 w
  have hlk := fun (w : World) (b : Nat) (h : MapIs w b (table s)) => run_look (P := Tryz.prog) tabT tabS tabZ h k
  have HLk := Lib.hid hlk
  have HQ := Lib.hid hq
  have HG := Lib.hid hG
  have HC := Lib.hid hc
  have hb0 : Below w.heap.size w (w.alloc (.cells #[.string ⟨line.toArray⟩, .bool false, .bool false] 31)) := (Below.refl _ _).alloc (Nat.le_refl _) _
  have hW0 : WdAt (w.alloc (.cells #[.string ⟨line.toArray⟩, .bool false, .bool false] 31)) w.heap.size line false false := heap_alloc_new _ _
  have hM : MapG (w.alloc (.cells #[.string ⟨line.toArray⟩, .bool false, .bool false] 31)) ((w.alloc (.cells #[.string ⟨line.toArray⟩, .bool false, .bool false] 31)).alloc (.map #[] 0)) (w.heap.size + 1) [] := by
    have e : (w.alloc (.cells #[.string ⟨line.toArray⟩, .bool false, .bool false] 31)).heap.size = w.heap.size + 1 := by simp
    refine ⟨?_, World.grownBy_alloc _ _ _⟩
    rw [← e]
    exact MapIs.made _
  have HB0 := Lib.hid hb0
  have HW0 := Lib.hid hW0
  clear hq hG hlk hc hb0 hW0
  go_enter Tryz.func5, Tryz.ntmps5
  go_wp2_with ((refine upon_insert tabT tabS hM _ _ (by kernel_rfl) ?_); clear hM; intro w7 hM)
  simp only [List.nil_append, List.cons_append] at hM
  have hM2 : MapG (w.alloc (.cells #[.string ⟨line.toArray⟩, .bool false, .bool false] 31)) w7 (w.heap.size + 1) (table s) := by unfold table mv; exact hM
  clear hM
  have hsz : (w.alloc (.cells #[.string ⟨line.toArray⟩, .bool false, .bool false] 31)).heap.size = w.heap.size + 1 := by simp
  have hb7 : Below w.heap.size w w7 := HB0.out.grown hM2.grown (by rw [hsz]; omega) (fun b e => by cases e; omega)
  have hW7 : WdAt w7 w.heap.size line false false := (hM2.grown.block _ HW0.out.lt (fun e => by injection e with e; omega)).trans HW0.out
  have hMI7 := hM2.is
  have HMI := Lib.hid hMI7
  clear hM2 hsz hMI7
  refine (word_any w.heap.size line false hl k r m HC.out w7 (HG.out.below hb7) hW7).mono ?_
  rintro e w8 ⟨rfl, hW8, hg8⟩
  have hMI8 : MapIs w8 (w.heap.size + 1) (table s) := (hg8.block _ (Array.getElem?_eq_some_iff.1 HMI.out).1 (fun e => by injection e with e; omega)).trans HMI.out
  have hlk8 := HLk.out w8 _ hMI8
  unfold strV at hlk8
  have hb8 : Below w.heap.size w w8 := hb7.grown hg8 hb7.size (fun b e => by cases e; omega)
  rcases HQ.out with ⟨hv, hR⟩ | ⟨f, hv, hen, hf⟩
  · rw [hv] at hlk8
    have q32 := fun w => fn_nil2 w
    have HR := Lib.hid (hR w8 hb8)
    clear hW7 hMI8 hW8 hg8 hb7 hv hR
    go_wp2_with fail
    go_ret
    exact ⟨_, rfl, HR.out⟩
  · rw [hv] at hlk8
    unfold mv at hlk8
    have q32 := fun w => fn_nil (.func f) #[.pointer (some ⟨s, 0, none⟩)] #[] w
    have hcall := hf w8 w.heap.size hb8 (Nat.le_refl _) hW8
    clear hW7 hMI8 hW8 hg8 hb7 hv hf
    go_wp2_with fail
    refine hcall.mono ?_
    rintro e w9 ⟨t, rfl, hR⟩
    have HR := Lib.hid hR
    clear hR hcall
    go_wp2_with fail
    go_ret
    exact ⟨t, rfl, HR.out⟩
theorem do_nil (line : ByteArray) (w : World) (hG : G w) :
    Calls Tryz.prog 5 #[.pointer none, .string line] w fun e w2 => e = .returned (.string ⟨#[101, 114, 114, 111, 114, 32, 49, 49]⟩) ∧ Below w.heap.size w w2 := by
  have h := done_err 11 [49, 49] (by kernel_rfl) (by decide) (by decide) (by decide) w hG
  clear hG
  go_enter Tryz.func5, Tryz.ntmps5
  go_wp2_with fail
  refine h.mono ?_
  rintro e w1 ⟨rfl, hb⟩
  go_wp2_with fail
  go_ret
  exact ⟨rfl, hb⟩
end Go.Proofs.YtkhgfngppcemlaaGreatDoor.scr
