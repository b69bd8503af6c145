/- A part of the proofs: lemmas and contracts. -/
import Derived.Test.YtkhlfggnjcbniaaGreatDoorP7
set_option maxHeartbeats 12800000
set_option maxRecDepth 1000000
namespace Go.Proofs.YtkhlfggnjcbniaaGreatDoor.utf
open Go.ChangeShapes Go.WideShapes Go.ChangeAt Go.RowKit Go.Lib

def unitsF : Nat → List UInt8 → Nat
 | 0, _ => 0
 | f + 1, l => if l = [] then 0 else (if 65535 < (decodeL l).1 then 2 else 1) + unitsF f (l.drop (decodeL l).2)
def unitsS (l : List UInt8) : Nat := unitsF l.length l
theorem unitsF_nil (f : Nat) : unitsF f [] = 0 := by cases f <;> simp [unitsF]
theorem unitsF_great (f : Nat) (l : List UInt8) (h : l ≠ []) (g : 65535 < (decodeL l).1) : unitsF (f + 1) l = 2 + unitsF f (l.drop (decodeL l).2) := by
 rw [unitsF, if_neg h, if_pos g]
theorem unitsF_small (f : Nat) (l : List UInt8) (h : l ≠ []) (g : ¬ 65535 < (decodeL l).1) : unitsF (f + 1) l = 1 + unitsF f (l.drop (decodeL l).2) := by
 rw [unitsF, if_neg h, if_neg g]
theorem unitsF_le : ∀ (f : Nat) (l : List UInt8), unitsF f l ≤ 2 * l.length := by
 intro f
 induction f with
 | zero => intro l; unfold unitsF; omega
 | succ f ih =>
  intro l
  by_cases h : l = []
  ·rw [h, unitsF_nil]; exact Nat.zero_le _
  ·have h1 := decodeL_width l
   have h2 := ih (l.drop (decodeL l).2)
   have h3 : 0 < l.length := List.length_pos_iff.2 h
   rw [List.length_drop] at h2
   by_cases g : 65535 < (decodeL l).1
   ·rw [unitsF_great f l h g]; omega
   ·rw [unitsF_small f l h g]; omega
theorem units_any (l : List UInt8) (hl : l.length ≤ 140737488355328) (w : World) :
  Calls Tryz.prog 43 #[.string ⟨l.toArray⟩] w fun e w' => e = .returned (.int .i64 (unitsS l : Nat)) ∧ Below w.heap.size w w' := by
 obtain ⟨v, hv⟩ : ∃ v, v = unitsS l := ⟨_, rfl⟩
 rw [← hv]
 have hvl : v ≤ 2 * l.length := by rw [hv]; exact unitsF_le _ _
 have HV : Hid (0 + unitsF l.length (l.drop 0) = v) := Lib.hid (by rw [hv, Nat.zero_add]; rfl)
 clear hv
 go_enter Tryz.func43, Tryz.ntmps43
 go_wp2_with fail
 go_loopw [3] (fun n w' => ∃ (pos b acc : Nat), w' = w.iter ⟨l.toArray⟩ pos ∧ n = .int .i64 acc ∧ Hid (acc + unitsF b (l.drop pos) = v) ∧ acc ≤ v ∧ l.length ≤ pos + b) (fun _ w' => l.length - w'.iterPos w.heap.size)
 case atStart => exact ⟨0, l.length, 0, rfl, rfl, HV, by omega, by omega⟩
 case round =>
  obtain ⟨pos, b, acc, rfl, rfl, hc, hacc, hb⟩ := hrel
  have hsz : (⟨l.toArray⟩ : ByteArray).size = l.length := rfl
  by_cases hp : pos < l.length
  ·have hnx : ∀ ty, (Instr.next (.pointer (some ⟨w.heap.size, 0, none⟩)) true ty).run Tryz.prog (w.iter ⟨l.toArray⟩ pos) = _ := fun ty => run_next_any w ⟨l.toArray⟩ pos ty (by rw [hsz]; exact hp)
   have hde : decodeL (l.drop pos) = Utf8.decode ⟨l.toArray⟩ pos := decodeL_drop ⟨l.toArray⟩ pos
   rw [← hde] at hnx
   have hwd := decodeL_width (l.drop pos)
   have hne : l.drop pos ≠ [] := by
    intro e
    have := congrArg List.length e
    simp at this; omega
   obtain ⟨b2, rfl⟩ : ∃ b2, b = b2 + 1 := ⟨b - 1, by omega⟩
   have HG := Lib.hid (fun g => unitsF_great b2 (l.drop pos) hne g)
   have HS := Lib.hid (fun g => unitsF_small b2 (l.drop pos) hne g)
   rw [List.drop_drop] at HG HS
   clear hde hne hsz
   generalize (decodeL (l.drop pos)).1 = r at *
   generalize (decodeL (l.drop pos)).2 = wd at *
   by_cases g : 65535 < r
   ·have hgi : (65535 : Int) < (r : Int) := by omega
    have hH := HG.out g
    have hX : Hid ((acc + 1 + 1) + unitsF b2 (l.drop (pos + wd)) = v ∧ acc + 1 + 1 ≤ v) := Lib.hid (by have := hc.out; omega)
    clear HG HS hc g hH
    go_wp2_with fail
    go_roundw
    case rel => exact ⟨pos + wd, b2, acc + 1 + 1, rfl, by go_num, Lib.hid hX.out.1, hX.out.2, by omega⟩
    case measure => simp; omega
   ·have hgi : ¬ (65535 : Int) < (r : Int) := by omega
    have hH := HS.out g
    have hX : Hid ((acc + 1) + unitsF b2 (l.drop (pos + wd)) = v ∧ acc + 1 ≤ v) := Lib.hid (by have := hc.out; omega)
    clear HG HS hc g hH
    go_wp2_with fail
    go_roundw
    case rel => exact ⟨pos + wd, b2, acc + 1, rfl, by go_num, Lib.hid hX.out.1, hX.out.2, by omega⟩
    case measure => simp; omega
  ·have hnx : ∀ ty, (Instr.next (.pointer (some ⟨w.heap.size, 0, none⟩)) true ty).run Tryz.prog (w.iter ⟨l.toArray⟩ pos) = _ := fun ty => run_next_end w ⟨l.toArray⟩ pos ty (by rw [hsz]; exact hp)
   have hX : Hid (acc = v) := Lib.hid (by have := hc.out; rw [List.drop_eq_nil_of_le (by omega), unitsF_nil] at this; omega)
   clear hc
   go_wp2_with fail
   go_ret
   exact ⟨by rw [hX.out]; rfl, (Below.refl _ _).alloc (Nat.le_refl _) _⟩

theorem told_none (l : List UInt8) (hne : l ≠ []) (h : (signS l).1 = 0) : ¬ 65535 < (decodeL l).1 ∧ (decodeL l).2 = 1 ∧ (signS l).2 = false := by
 rw [signS_decode l hne] at h ⊢
 unfold told at h ⊢
 by_cases g : (decodeL l).1 = 65533 ∧ (decodeL l).2 = 1
 ·rw [if_pos g]; exact ⟨by omega, g.2, rfl⟩
 ·rw [if_neg g] at h
  have := decodeL_width l
  omega
theorem told_some (l : List UInt8) (hne : l ≠ []) (h : (signS l).1 ≠ 0) : (signS l).1 = (decodeL l).2 ∧ (signS l).2 = decide (65535 < (decodeL l).1) := by
 rw [signS_decode l hne] at h ⊢
 unfold told at h ⊢
 by_cases g : (decodeL l).1 = 65533 ∧ (decodeL l).2 = 1
 ·rw [if_pos g] at h; exact absurd rfl h
 ·rw [if_neg g]; exact ⟨rfl, rfl⟩

theorem runits_any (l : List UInt8) (hl : l.length ≤ 140737488355328) (w : World) :
  Calls Tryz.prog 49 #[.string ⟨l.toArray⟩] w fun e w' => e = .returned (.int .i64 (unitsS l : Nat)) ∧ w = w' := by
 obtain ⟨v, hv⟩ : ∃ v, v = unitsS l := ⟨_, rfl⟩
 rw [← hv]
 have hvl : v ≤ 2 * l.length := by rw [hv]; exact unitsF_le _ _
 have HV : Hid (0 + unitsF l.length (l.drop 0) = v) := Lib.hid (by rw [hv, Nat.zero_add]; rfl)
 have HSg := Lib.hid (fun k (hk : k < l.length) => sign_any l k k rfl hk (by omega) w)
 clear hv
 go_enter Tryz.func49, Tryz.ntmps49
 go_wp2_with fail
 go_loop [3, 4] (fun s3 s4 => ∃ (pos b acc : Nat), s4 = .int .i64 pos ∧ s3 = .int .i64 acc ∧ Hid (acc + unitsF b (l.drop pos) = v) ∧ acc ≤ v ∧ l.length ≤ pos + b ∧ pos ≤ l.length) (fun _ s4 => l.length - (RowKit.intOf s4).toNat)
 case atStart => exact ⟨0, l.length, 0, rfl, rfl, HV, by omega, by omega, by omega⟩
 case round =>
  obtain ⟨pos, b, acc, rfl, rfl, hc, hacc, hb, hpl⟩ := hrel
  by_cases hp : pos < l.length
  ·have hne : l.drop pos ≠ [] := by
    intro e
    have := congrArg List.length e
    simp at this; omega
   have hsg := HSg.out pos hp
   have hle := signS_le (l.drop pos) hne
   rw [List.length_drop] at hle
   obtain ⟨b2, rfl⟩ : ∃ b2, b = b2 + 1 := ⟨b - 1, by omega⟩
   have HG := Lib.hid (fun g => unitsF_great b2 (l.drop pos) hne g)
   have HS := Lib.hid (fun g => unitsF_small b2 (l.drop pos) hne g)
   rw [List.drop_drop] at HG HS
   have HN := Lib.hid (told_none (l.drop pos) hne)
   have HT := Lib.hid (told_some (l.drop pos) hne)
   generalize (decodeL (l.drop pos)).1 = r at *
   generalize (decodeL (l.drop pos)).2 = wd at *
   generalize (signS (l.drop pos)).1 = n at *
   generalize (signS (l.drop pos)).2 = gr at *
   clear hne
   by_cases hn : n = 0
   ·obtain ⟨a1, a2, a3⟩ := HN.out hn
    have hH := HS.out a1
    have hX : Hid ((acc + 1) + unitsF b2 (l.drop (pos + 1)) = v ∧ acc + 1 ≤ v) := Lib.hid (by rw [a2] at hH; have := hc.out; omega)
    subst hn
    subst a3
    clear HG HS HN HT hc hH a1 a2
    go_wp2_with fail
    refine hsg.mono ?_
    rintro e w1 ⟨rfl, rfl⟩
    go_wp2_with fail
    go_round
    case rel => exact ⟨pos + 1, b2, acc + 1, by go_num, by go_num, Lib.hid hX.out.1, hX.out.2, by omega, by omega⟩
    case measure => simp [RowKit.intOf]; omega
   ·obtain ⟨a1, a2⟩ := HT.out hn
    have tn : ((n : Int) == 0) = false := by simp; omega
    by_cases g : 65535 < r
    ·have hH := HG.out g
     have hX : Hid ((acc + 1 + 1) + unitsF b2 (l.drop (pos + n)) = v ∧ acc + 1 + 1 ≤ v) := Lib.hid (by rw [a1]; have := hc.out; omega)
     rw [decide_eq_true g] at a2
     subst a2
     clear HG HS HN HT hc hH a1 g
     go_wp2_with fail
     refine hsg.mono ?_
     rintro e w1 ⟨rfl, rfl⟩
     go_wp2_with fail
     go_round
     case rel => exact ⟨pos + n, b2, acc + 1 + 1, by go_num, by go_num, Lib.hid hX.out.1, hX.out.2, by omega, by omega⟩
     case measure => simp [RowKit.intOf]; omega
    ·have hH := HS.out g
     have hX : Hid ((acc + 1) + unitsF b2 (l.drop (pos + n)) = v ∧ acc + 1 ≤ v) := Lib.hid (by rw [a1]; have := hc.out; omega)
     rw [decide_eq_false g] at a2
     subst a2
     clear HG HS HN HT hc hH a1 g
     go_wp2_with fail
     refine hsg.mono ?_
     rintro e w1 ⟨rfl, rfl⟩
     go_wp2_with fail
     go_round
     case rel => exact ⟨pos + n, b2, acc + 1, by go_num, by go_num, Lib.hid hX.out.1, hX.out.2, by omega, by omega⟩
     case measure => simp [RowKit.intOf]; omega
  ·have hX : Hid (acc = v) := Lib.hid (by have := hc.out; rw [List.drop_eq_nil_of_le (by omega), unitsF_nil] at this; omega)
   clear hc
   go_wp2_with fail
   go_ret
   exact ⟨by rw [hX.out]; rfl, rfl⟩
end Go.Proofs.YtkhlfggnjcbniaaGreatDoor.utf
