/- A part of the proofs: lemmas and contracts. -/
import Derived.Test.YtkhlfggnjcbniaaGreatDoorP4
set_option maxHeartbeats 12800000
set_option maxRecDepth 1000000
namespace Go.Proofs.YtkhlfggnjcbniaaGreatDoor.link
open Go.ChangeShapes Go.WideShapes Go.ChangeAt Go.RowKit Go.Lib

def plainN (c : Nat) : Bool := (decide (97 ≤ c) && decide (c ≤ 122)) || (decide (65 ≤ c) && decide (c ≤ 90)) || (decide (48 ≤ c) && decide (c ≤ 57))
def plainB (c : UInt8) : Bool := plainN c.toNat

theorem plain_ways (c : Nat) : (c < 48 ∧ plainN c = false) ∨ (48 ≤ c ∧ c ≤ 57 ∧ plainN c = true) ∨ (57 < c ∧ c < 65 ∧ plainN c = false) ∨ (65 ≤ c ∧ c ≤ 90 ∧ plainN c = true) ∨ (90 < c ∧ c < 97 ∧ plainN c = false) ∨ (97 ≤ c ∧ c ≤ 122 ∧ plainN c = true) ∨ (122 < c ∧ plainN c = false) := by
 unfold plainN
 by_cases a1 : c < 48
 ·left; exact ⟨a1, by simp; omega⟩
 by_cases a2 : c ≤ 57
 ·right; left; exact ⟨by omega, a2, by simp; omega⟩
 by_cases a3 : c < 65
 ·right; right; left; exact ⟨by omega, a3, by simp; omega⟩
 by_cases a4 : c ≤ 90
 ·right; right; right; left; exact ⟨by omega, a4, by simp; omega⟩
 by_cases a5 : c < 97
 ·right; right; right; right; left; exact ⟨by omega, a5, by simp; omega⟩
 by_cases a6 : c ≤ 122
 ·right; right; right; right; right; left; exact ⟨by omega, a6, by simp; omega⟩
 ·right; right; right; right; right; right; exact ⟨by omega, by simp; omega⟩

theorem plain_any (c : UInt8) (w : World) :
  Calls Tryz.prog 228 #[.int .u8 c.toNat] w fun e w' => e = .returned (.bool (plainB c)) ∧ w = w' := by
 have hw := plain_ways c.toNat
 unfold plainB
 have hc := c.toNat_lt
 generalize c.toNat = n at *
 rcases hw with ⟨h1, h⟩ | ⟨h1, h2, h⟩ | ⟨h1, h2, h⟩ | ⟨h1, h2, h⟩ | ⟨h1, h2, h⟩ | ⟨h1, h2, h⟩ | ⟨h1, h⟩
 all_goals
  have H := Lib.hid h
  clear h
  go_enter Tryz.func228, Tryz.ntmps228
  go_wp2_with fail
  go_ret
  exact ⟨ret_bool (Eq.trans (by first | rfl | (simp; omega)) H.out.symm), rfl⟩

def hasB : List UInt8 → UInt8 → Bool
 | [], _ => false
 | b :: l, c => (b == c) || hasB l c
theorem hasB_contains (l : List UInt8) (c : UInt8) : hasB l c = l.contains c := by
 induction l with
 | nil => rfl
 | cons b l ih =>
  rw [hasB, ih, List.contains_cons]
  congr 1
  rw [Bool.eq_iff_iff]; simp; exact eq_comm


theorem index_has (l : List UInt8) (c : UInt8) : (0 ≤ indexByte l c ∧ hasB l c = true) ∨ (indexByte l c = -1 ∧ hasB l c = false) := by
 have h := contains_iff_indexByte l c
 rw [← hasB_contains] at h
 have hg := indexByte_ge l c
 by_cases g : 0 ≤ indexByte l c
 ·left; exact ⟨g, by rw [h, decide_eq_true g]⟩
 ·right; exact ⟨by omega, by rw [h, decide_eq_false g]⟩

def amongB (ls : List (List UInt8)) (c : UInt8) : Bool := ls.any (fun l => hasB l c)

theorem idx_call (l : List UInt8) (c : UInt8) (w : World) :
  Calls Tryz.prog 160 #[.string ⟨l.toArray⟩, .int .u8 c.toNat] w fun e w' => e = .returned (.int .i64 (indexByte l c)) ∧ w' = w := by
 have h := Tryz.strings_IndexByte ⟨l.toArray⟩ (c.toNat : Int) w
 have e : ((c.toNat : Int).toNat).toUInt8 = c := by simp
 rw [e] at h
 exact h

theorem among_any (c : UInt8) (ls : List (List UInt8)) (b cap : Nat) (w : World) (hn : ls.length ≤ 100)
  (hc : ∀ j (h : j < ls.length), w.cell? ⟨b, j, none⟩ = some (.string ⟨(ls[j]).toArray⟩)) (hpos : 0 < ls.length) :
  Calls Tryz.prog 229 #[.int .u8 c.toNat, .slice (some ⟨b, 0, none⟩) ls.length cap] w fun e w' => e = .returned (.bool (amongB ls c)) ∧ w = w' := by
 obtain ⟨v, hv⟩ : ∃ v, v = amongB ls c := ⟨_, rfl⟩
 rw [← hv]
 have HV := Lib.hid hv
 have HC := Lib.hid hc
 clear hv hc
 go_enter Tryz.func229, Tryz.ntmps229
 go_wp2_with fail
 go_loop [9] (fun s => ∃ k : Nat, s = .int .i64 k ∧ k ≤ ls.length ∧ Hid (v = amongB (ls.drop k) c)) (fun s => ls.length - (RowKit.intOf s).toNat)
 case atStart => exact ⟨0, rfl, by omega, HV⟩
 case round =>
  obtain ⟨k, rfl, hk, hh⟩ := hrel
  by_cases hlt : k < ls.length
  ·have hcell := HC.out k hlt
   have hx := hh.out
   rw [List.drop_eq_getElem_cons hlt] at hx
   unfold amongB at hx
   rw [List.any_cons] at hx
   generalize ls[k] = l at *
   have hcall := idx_call l c w
   rcases index_has l c with ⟨g1, g2⟩ | ⟨g1, g2⟩
   ·rw [g2, Bool.true_or] at hx
    generalize indexByte l c = i at *
    have H := Lib.hid hx
    clear hx hh g2
    go_wp2_with fail
    refine hcall.mono ?_
    rintro e w' ⟨rfl, rfl⟩
    clear hcall
    go_wp2_with fail
    go_ret
    exact ⟨ret_bool H.out.symm, rfl⟩
   ·rw [g2, Bool.false_or] at hx
    rw [g1] at hcall
    have H : Hid (v = amongB (ls.drop (k + 1)) c) := Lib.hid hx
    clear hx hh g2 g1
    go_wp2_with fail
    refine hcall.mono ?_
    rintro e w' ⟨rfl, rfl⟩
    clear hcall
    go_wp2_with fail
    go_round
    case rel => exact ⟨k + 1, by go_num, by omega, H⟩
    case measure => simp [RowKit.intOf]; omega
  ·have H : Hid (v = false) := Lib.hid (by rw [hh.out, List.drop_eq_nil_of_le (by omega)]; rfl)
   go_wp2_with fail
   go_ret
   exact ⟨ret_bool H.out.symm, rfl⟩
end Go.Proofs.YtkhlfggnjcbniaaGreatDoor.link
