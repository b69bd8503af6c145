/- A part of the proofs: lemmas and contracts. -/
import Derived.ProofKit
import Derived.Shelf.Strings.SlTrimAscii
import Derived.WalkSmall
import Derived.Test.YtkhlfggnjcbniaaGreatDoorRows
import Derived.Test.YtkhlfggnjcbniaaGreatDoorShelf
set_option maxHeartbeats 12800000
set_option maxRecDepth 1000000
namespace Go.Proofs.YtkhlfggnjcbniaaGreatDoor
open Go.RowKit

structure G (w : World) : Prop where
 ml : ∃ m, w.cell? ⟨6, 0, none⟩ = some (.int .i64 m)
 p10 : Lib.TabIs Tryz.prog w "internal/strconv.uint64pow10" .u64 Lib.pow10Tab
structure GE (w : World) : Prop where
 er : ∃ ev, w.cell? ⟨5, 0, none⟩ = some ev ∧ (ev = .nilIface ∨ ∃ te pe, ev = .iface te pe)
 es : ∃ ev, w.cell? ⟨4, 0, none⟩ = some ev ∧ (ev = .nilIface ∨ ∃ te pe, ev = .iface te pe)

theorem gPow : Tryz.prog.globalNamed "internal/strconv.uint64pow10" = some 7 := by kernel_rfl

theorem lt_of_cell {w : World} {b o : Nat} {v : Value} (h : w.cell? ⟨b, o, none⟩ = some v) : b < w.heap.size := by
 apply Nat.lt_of_not_le; intro g
 simp [World.cell?, Array.getElem?_eq_none g] at h

theorem lt_of_var {P : Program} {w : World} {n : String} {g : Nat} {cs : Array Value} (hg : P.globalNamed n = some g) (hv : w.var? P n = some cs) : g < w.heap.size := by
 apply Nat.lt_of_not_le; intro h
 unfold World.var? at hv
 simp [hg, Array.getElem?_eq_none h] at hv

theorem cell_below {w w' : World} (h : Below w.heap.size w w') {b o : Nat} {v : Value} (hc : w.cell? ⟨b, o, none⟩ = some v) : w'.cell? ⟨b, o, none⟩ = some v := by
 rw [h.cell (lt_of_cell hc)]; exact hc

theorem G.below {w w' : World} (h : G w) (hb : Below w.heap.size w w') : G w' where
 ml := h.ml.elim fun m hm => ⟨m, cell_below hb hm⟩
 p10 := var?_below hb gPow (lt_of_var gPow h.p10) h.p10
theorem GE.below {w w' : World} (h : GE w) (hb : Below w.heap.size w w') : GE w' where
 er := h.er.elim fun ev he => ⟨ev, cell_below hb he.1, he.2⟩
 es := h.es.elim fun ev he => ⟨ev, cell_below hb he.1, he.2⟩
theorem below_trans {a b c : World} (h : Below a.heap.size a b) (k : Below b.heap.size b c) : Below a.heap.size a c := h.trans (k.mono h.size)

theorem bapp0 (a b : Array UInt8) : (⟨a⟩ : ByteArray) ++ ⟨b⟩ = ⟨a ++ b⟩ := by
 apply ByteArray.ext
 rw [ByteArray.data_append]
@[go_sem] theorem bapp (a b : List UInt8) : (⟨a.toArray⟩ : ByteArray) ++ ⟨b.toArray⟩ = ⟨(a ++ b).toArray⟩ := by rw [bapp0]; simp
@[go_sem] theorem bapp1 (c : UInt8) (b : List UInt8) : (⟨#[c]⟩ : ByteArray) ++ ⟨b.toArray⟩ = ⟨(c :: b).toArray⟩ := by rw [bapp0]; simp
@[go_sem] theorem bapp2 (a : List UInt8) (c : UInt8) : (⟨a.toArray⟩ : ByteArray) ++ ⟨#[c]⟩ = ⟨(a ++ [c]).toArray⟩ := by rw [bapp0]; simp

@[go_sem] theorem bext (x : List UInt8) (a b : Nat) : (⟨x.toArray⟩ : ByteArray).extract a b = ⟨((x.drop a).take (b - a)).toArray⟩ := by rw [ByteArray.extract_mk]
@[go_sem] theorem take_drop_all (x : List UInt8) (a : Nat) : (x.drop a).take (x.length - a) = x.drop a := List.take_of_length_le (by simp)

@[go_sem] theorem take_tail_all (x : List UInt8) : x.tail.take (x.length - 1) = x.tail := List.take_of_length_le (by simp)

theorem bsize (x : List UInt8) : (⟨x.toArray⟩ : ByteArray).size = x.length := rfl

end Go.Proofs.YtkhlfggnjcbniaaGreatDoor
namespace Go.Proofs.YtkhlfggnjcbniaaGreatDoor.link
open Go.ChangeShapes Go.WideShapes Go.ChangeAt Go.RowKit Go.Lib

theorem ret_bool {a b : Bool} (h : a = b) : Ending.returned (.bool a) = .returned (.bool b) := by rw [h]
theorem ret_int {k : IntKind} {a b : Int} (h : a = b) : Ending.returned (.int k a) = .returned (.int k b) := by rw [h]

theorem byte_at (l : List UInt8) (i : Nat) (h : i < l.length) : ∃ c rest, l.drop i = c :: rest ∧ l.drop (i + 1) = rest ∧ ∀ h', (⟨l.toArray⟩ : ByteArray)[i]'h' = c :=
 ⟨l[i], l.drop (i + 1), List.drop_eq_getElem_cons h, rfl, fun _ => rfl⟩

theorem byteq (c d : UInt8) (n : Int) (h : (d.toNat : Int) = n) : ((c.toNat : Int) == n) = (c == d) := by
 subst h
 rw [Bool.eq_iff_iff]
 simp only [beq_iff_eq]
 constructor
 ·intro h; exact UInt8.toNat_inj.1 (by omega)
 ·rintro rfl; rfl


def hexN (c : Nat) : Int := if 48 ≤ c ∧ c ≤ 57 then (c : Int) - 48 else if 65 ≤ c ∧ c ≤ 70 then (c : Int) - 55 else if 97 ≤ c ∧ c ≤ 102 then (c : Int) - 87 else -1

def hexL : List UInt8 := [48, 49, 50, 51, 52, 53, 54, 55, 56, 57, 65, 66, 67, 68, 69, 70, 97, 98, 99, 100, 101, 102]
theorem hexL_no (c : UInt8) (h : ¬ c ∈ hexL) : hexN c.toNat = -1 := by
 have : ∀ n : Fin 256, ¬ (UInt8.ofNat n.1) ∈ hexL → hexN (UInt8.ofNat n.1).toNat = -1 := by decide +kernel
 have h2 := this ⟨c.toNat, c.toNat_lt⟩
 simp at h2
 exact h2 h
theorem hexL_at (k : Nat) (hk : k < 22) (c : UInt8) (h : hexL[k]? = some c) : hexN c.toNat = if 15 < k then (k : Int) - 6 else k := by
 have : ∀ n : Fin 22, hexN (hexL[n.1]?.getD 0).toNat = if 15 < n.1 then (n.1 : Int) - 6 else n.1 := by decide +kernel
 have h2 := this ⟨k, hk⟩
 simp only at h2
 rw [h] at h2
 exact h2

theorem digit_any (c : UInt8) (w : World) :
  Calls Tryz.prog 270 #[.int .u8 c.toNat] w fun e w' => e = .returned (.int .i64 (hexN c.toNat)) ∧ w = w' := by
 obtain ⟨v, hv⟩ : ∃ v, v = hexN c.toNat := ⟨_, rfl⟩
 rw [← hv]
 have HV := Lib.hid hv
 clear hv
 go_enter Tryz.func270, Tryz.ntmps270
 go_wp2_with fail
 go_loop [4] (fun s => ∃ k : Nat, s = .int .i64 k ∧ k ≤ 22 ∧ Hid (c ∈ hexL → c ∈ hexL.drop k)) (fun s => 22 - (RowKit.intOf s).toNat)
 case atStart => exact ⟨0, rfl, by omega, Lib.hid id⟩
 case round =>
  obtain ⟨k, rfl, hk, hh⟩ := hrel
  by_cases hlt : k < 22
  ·obtain ⟨b, rest, h1, h2, h3⟩ := byte_at hexL k hlt
   have h3' : ∀ h', (⟨#[48, 49, 50, 51, 52, 53, 54, 55, 56, 57, 65, 66, 67, 68, 69, 70, 97, 98, 99, 100, 101, 102]⟩ : ByteArray)[k]'h' = b := h3
   have hkb : hexL[k]? = some b := by
    have := List.drop_eq_getElem_cons (l := hexL) hlt
    rw [h1] at this
    rw [List.getElem?_eq_getElem hlt, (List.cons.inj this).1]
   cases hb : (b == c) with
   | true =>
    have t1 : ((b.toNat : Int) == (c.toNat : Int)) = true := by rw [byteq b c _ rfl]; exact hb
    have hv := hexL_at k hlt b hkb
    rw [eq_of_beq hb, ← HV.out] at hv
    by_cases h15 : 15 < k
    ·rw [if_pos h15] at hv
     have H := Lib.hid hv
     clear hv h1 h2 h3 hh hkb hb HV
     go_wp2_with fail
     go_ret
     exact ⟨ret_int H.out.symm, rfl⟩
    ·rw [if_neg h15] at hv
     have H := Lib.hid hv
     clear hv h1 h2 h3 hh hkb hb HV
     go_wp2_with fail
     go_ret
     exact ⟨ret_int H.out.symm, rfl⟩
   | false =>
    have t1 : ((b.toNat : Int) == (c.toNat : Int)) = false := by rw [byteq b c _ rfl]; exact hb
    have H : Hid (c ∈ hexL → c ∈ hexL.drop (k + 1)) := Lib.hid (fun g => by
     have := hh.out g
     rw [h1] at this
     rw [h2]
     rcases List.mem_cons.1 this with e | e
     ·rw [e] at hb; simp at hb
     ·exact e)
    clear h1 h2 h3 hh hkb hb
    go_wp2_with fail
    go_round
    case rel => exact ⟨k + 1, by go_num, by omega, H⟩
    case measure => simp [RowKit.intOf]; omega
  ·have H : Hid (v = -1) := Lib.hid (by
    rw [HV.out]
    refine hexL_no c (fun g => ?_)
    have := hh.out g
    rw [List.drop_eq_nil_of_le (by show 22 ≤ k; omega)] at this
    cases this)
   clear hh HV
   go_wp2_with fail
   go_ret
   exact ⟨ret_int H.out.symm, rfl⟩

def plainN (c : Nat) : Bool := (decide (97 ≤ c) && decide (c ≤ 122)) || (decide (65 ≤ c) && decide (c ≤ 90)) || (decide (48 ≤ c) && decide (c ≤ 57))
def plainB (c : UInt8) : Bool := plainN c.toNat

theorem plain_ways (c : Nat) : (c < 48 ∧ plainN c = false) ∨ (48 ≤ c ∧ c ≤ 57 ∧ plainN c = true) ∨ (57 < c ∧ c < 65 ∧ plainN c = false) ∨ (65 ≤ c ∧ c ≤ 90 ∧ plainN c = true) ∨ (90 < c ∧ c < 97 ∧ plainN c = false) ∨ (97 ≤ c ∧ c ≤ 122 ∧ plainN c = true) ∨ (122 < c ∧ plainN c = false) := by
 unfold plainN
 by_cases a1 : c < 48
 ·left; exact ⟨a1, by simp; omega⟩
 by_cases a2 : c ≤ 57
 ·right; left; exact ⟨by omega, a2, by simp; omega⟩
 by_cases a3 : c < 65
 ·right; right; left; exact ⟨by omega, a3, by simp; omega⟩
 by_cases a4 : c ≤ 90
 ·right; right; right; left; exact ⟨by omega, a4, by simp; omega⟩
 by_cases a5 : c < 97
 ·right; right; right; right; left; exact ⟨by omega, a5, by simp; omega⟩
 by_cases a6 : c ≤ 122
 ·right; right; right; right; right; left; exact ⟨by omega, a6, by simp; omega⟩
 ·right; right; right; right; right; right; exact ⟨by omega, by simp; omega⟩

theorem plain_any (c : UInt8) (w : World) :
  Calls Tryz.prog 228 #[.int .u8 c.toNat] w fun e w' => e = .returned (.bool (plainB c)) ∧ w = w' := by
 have hw := plain_ways c.toNat
 unfold plainB
 have hc := c.toNat_lt
 generalize c.toNat = n at *
 rcases hw with ⟨h1, h⟩ | ⟨h1, h2, h⟩ | ⟨h1, h2, h⟩ | ⟨h1, h2, h⟩ | ⟨h1, h2, h⟩ | ⟨h1, h2, h⟩ | ⟨h1, h⟩
 all_goals
  have H := Lib.hid h
  clear h
  go_enter Tryz.func228, Tryz.ntmps228
  go_wp2_with fail
  go_ret
  exact ⟨ret_bool (Eq.trans (by first | rfl | (simp; omega)) H.out.symm), rfl⟩

theorem rplain_any (c : UInt8) (w : World) :
  Calls Tryz.prog 199 #[.int .u8 c.toNat] w fun e w' => e = .returned (.bool (plainB c)) ∧ w = w' := by
 have hw := plain_ways c.toNat
 unfold plainB
 have hc := c.toNat_lt
 generalize c.toNat = n at *
 rcases hw with ⟨h1, h⟩ | ⟨h1, h2, h⟩ | ⟨h1, h2, h⟩ | ⟨h1, h2, h⟩ | ⟨h1, h2, h⟩ | ⟨h1, h2, h⟩ | ⟨h1, h⟩
 all_goals
  have H := Lib.hid h
  clear h
  go_enter Tryz.func199, Tryz.ntmps199
  go_wp2_with fail
  go_ret
  exact ⟨ret_bool (Eq.trans (by first | rfl | (simp; omega)) H.out.symm), rfl⟩

def hasB : List UInt8 → UInt8 → Bool
 | [], _ => false
 | b :: l, c => (b == c) || hasB l c
theorem hasB_contains (l : List UInt8) (c : UInt8) : hasB l c = l.contains c := by
 induction l with
 | nil => rfl
 | cons b l ih =>
  rw [hasB, ih, List.contains_cons]
  congr 1
  rw [Bool.eq_iff_iff]; simp; exact eq_comm

theorem in_any (c : UInt8) (l : List UInt8) (hl : l.length ≤ 1000000000) (w : World) :
  Calls Tryz.prog 200 #[.int .u8 c.toNat, .string ⟨l.toArray⟩] w fun e w' => e = .returned (.bool (hasB l c)) ∧ w = w' := by
 obtain ⟨v, hv⟩ : ∃ v, v = hasB l c := ⟨_, rfl⟩
 rw [← hv]
 have HV := Lib.hid hv
 clear hv
 go_enter Tryz.func200, Tryz.ntmps200
 go_wp2_with fail
 go_loop [5] (fun s => ∃ k : Nat, s = .int .i64 k ∧ k ≤ l.length ∧ Hid (v = hasB (l.drop k) c)) (fun s => l.length - (RowKit.intOf s).toNat)
 case atStart => exact ⟨0, rfl, by omega, HV⟩
 case round =>
  obtain ⟨k, rfl, hk, hh⟩ := hrel
  by_cases hlt : k < l.length
  ·obtain ⟨b, rest, h1, h2, h3⟩ := byte_at l k hlt
   have hx := hh.out
   rw [h1, hasB, ← h2] at hx
   cases hb : (b == c) with
   | true =>
    have t1 : ((b.toNat : Int) == (c.toNat : Int)) = true := by rw [byteq b c _ rfl]; exact hb
    rw [hb, Bool.true_or] at hx
    have H := Lib.hid hx
    clear hx hh h1 h2 hb
    go_wp2_with fail
    go_ret
    exact ⟨ret_bool H.out.symm, rfl⟩
   | false =>
    have t1 : ((b.toNat : Int) == (c.toNat : Int)) = false := by rw [byteq b c _ rfl]; exact hb
    rw [hb, Bool.false_or] at hx
    have H := Lib.hid hx
    clear hx hh h1 h2 hb
    go_wp2_with fail
    go_round
    case rel => exact ⟨k + 1, by go_num, by omega, H⟩
    case measure => simp [RowKit.intOf]; omega
  ·have hx := hh.out
   rw [List.drop_eq_nil_of_le (by omega)] at hx
   have H : Hid (v = false) := Lib.hid hx
   clear hx hh
   go_wp2_with fail
   go_ret
   exact ⟨ret_bool H.out.symm, rfl⟩


theorem index_has (l : List UInt8) (c : UInt8) : (0 ≤ indexByte l c ∧ hasB l c = true) ∨ (indexByte l c = -1 ∧ hasB l c = false) := by
 have h := contains_iff_indexByte l c
 rw [← hasB_contains] at h
 have hg := indexByte_ge l c
 by_cases g : 0 ≤ indexByte l c
 ·left; exact ⟨g, by rw [h, decide_eq_true g]⟩
 ·right; exact ⟨by omega, by rw [h, decide_eq_false g]⟩

def amongB (ls : List (List UInt8)) (c : UInt8) : Bool := ls.any (fun l => hasB l c)

theorem idx_call (l : List UInt8) (c : UInt8) (w : World) :
  Calls Tryz.prog 160 #[.string ⟨l.toArray⟩, .int .u8 c.toNat] w fun e w' => e = .returned (.int .i64 (indexByte l c)) ∧ w' = w := by
 have h := Tryz.strings_IndexByte ⟨l.toArray⟩ (c.toNat : Int) w
 have e : ((c.toNat : Int).toNat).toUInt8 = c := by simp
 rw [e] at h
 exact h

theorem among_any (c : UInt8) (ls : List (List UInt8)) (b cap : Nat) (w : World) (hn : ls.length ≤ 100)
  (hc : ∀ j (h : j < ls.length), w.cell? ⟨b, j, none⟩ = some (.string ⟨(ls[j]).toArray⟩)) (hpos : 0 < ls.length) :
  Calls Tryz.prog 229 #[.int .u8 c.toNat, .slice (some ⟨b, 0, none⟩) ls.length cap] w fun e w' => e = .returned (.bool (amongB ls c)) ∧ w = w' := by
 obtain ⟨v, hv⟩ : ∃ v, v = amongB ls c := ⟨_, rfl⟩
 rw [← hv]
 have HV := Lib.hid hv
 have HC := Lib.hid hc
 clear hv hc
 go_enter Tryz.func229, Tryz.ntmps229
 go_wp2_with fail
 go_loop [9] (fun s => ∃ k : Nat, s = .int .i64 k ∧ k ≤ ls.length ∧ Hid (v = amongB (ls.drop k) c)) (fun s => ls.length - (RowKit.intOf s).toNat)
 case atStart => exact ⟨0, rfl, by omega, HV⟩
 case round =>
  obtain ⟨k, rfl, hk, hh⟩ := hrel
  by_cases hlt : k < ls.length
  ·have hcell := HC.out k hlt
   have hx := hh.out
   rw [List.drop_eq_getElem_cons hlt] at hx
   unfold amongB at hx
   rw [List.any_cons] at hx
   generalize ls[k] = l at *
   have hcall := idx_call l c w
   rcases index_has l c with ⟨g1, g2⟩ | ⟨g1, g2⟩
   ·rw [g2, Bool.true_or] at hx
    generalize indexByte l c = i at *
    have H := Lib.hid hx
    clear hx hh g2
    go_wp2_with fail
    refine hcall.mono ?_
    rintro e w' ⟨rfl, rfl⟩
    clear hcall
    go_wp2_with fail
    go_ret
    exact ⟨ret_bool H.out.symm, rfl⟩
   ·rw [g2, Bool.false_or] at hx
    rw [g1] at hcall
    have H : Hid (v = amongB (ls.drop (k + 1)) c) := Lib.hid hx
    clear hx hh g2 g1
    go_wp2_with fail
    refine hcall.mono ?_
    rintro e w' ⟨rfl, rfl⟩
    clear hcall
    go_wp2_with fail
    go_round
    case rel => exact ⟨k + 1, by go_num, by omega, H⟩
    case measure => simp [RowKit.intOf]; omega
  ·have H : Hid (v = false) := Lib.hid (by rw [hh.out, List.drop_eq_nil_of_le (by omega)]; rfl)
   go_wp2_with fail
   go_ret
   exact ⟨ret_bool H.out.symm, rfl⟩
end Go.Proofs.YtkhlfggnjcbniaaGreatDoor.link
