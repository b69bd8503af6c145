/- A part of the proofs: lemmas and contracts. -/
import Derived.Deep.CutBlock
import Derived.Deep.DeepCutAuto
import Derived.WalkSpells
import Derived.Test.YtkhlfggnjcbniaaGreatDoorP1
set_option maxHeartbeats 12800000
set_option maxRecDepth 1000000
namespace Go.Proofs.YtkhlfggnjcbniaaGreatDoor.doc
open Go.ChangeShapes Go.WideShapes Go.ChangeAt Go.RowKit Go.Lib atr

theorem small_ok (c : UInt8) (h : smallC c = true) : okC c = true := by unfold okC; rw [h]; rfl
theorem named_cons (c : UInt8) (r : List UInt8) : namedP (c :: r) = (decide ((c :: r).length ≤ 20) && smallC c && (c :: r).all okC) := by
 rw [namedP, List.all_cons, List.length_cons]
 cases h : smallC c
 ·cases decide (r.length + 1 ≤ 20) <;> rfl
 ·rw [small_ok c h]
  cases r.all okC <;> cases decide (r.length + 1 ≤ 20) <;> rfl
inductive Sp (c : UInt8) : Bool → Bool → Prop
 | small : 97 ≤ (c.toNat : Int) → (c.toNat : Int) ≤ 122 → Sp c true true
 | digit : 48 ≤ (c.toNat : Int) → (c.toNat : Int) ≤ 57 → Sp c false true
 | minus : (c.toNat : Int) = 45 → Sp c false true
 | a : (c.toNat : Int) < 45 → Sp c false false
 | b : 45 < (c.toNat : Int) → (c.toNat : Int) < 48 → Sp c false false
 | d : 57 < (c.toNat : Int) → (c.toNat : Int) < 97 → Sp c false false
 | e : 122 < (c.toNat : Int) → Sp c false false
theorem sp_of (c : UInt8) : Sp c (smallC c) (okC c) := by
 have e45 : (c == 45) = decide (c.toNat = 45) := by
  rw [Bool.eq_iff_iff, beq_iff_eq, decide_eq_true_eq]
  exact ⟨fun h => by rw [h]; rfl, fun h => UInt8.toNat_inj.1 h⟩
 unfold okC
 rw [e45]
 unfold smallC digitC
 by_cases h1 : c.toNat < 45
 ·rw [decide_eq_false (show ¬ 97 ≤ c.toNat by omega), decide_eq_false (show ¬ 48 ≤ c.toNat by omega), decide_eq_false (show ¬ c.toNat = 45 by omega)]
  exact .a (by omega)
 by_cases h2 : c.toNat = 45
 ·rw [decide_eq_false (show ¬ 97 ≤ c.toNat by omega), decide_eq_true h2, Bool.or_true]
  exact .minus (by omega)
 rw [decide_eq_false h2, Bool.or_false]
 by_cases h3 : c.toNat < 48
 ·rw [decide_eq_false (show ¬ 97 ≤ c.toNat by omega), decide_eq_false (show ¬ 48 ≤ c.toNat by omega)]
  exact .b (by omega) (by omega)
 by_cases h4 : c.toNat ≤ 57
 ·rw [decide_eq_false (show ¬ 97 ≤ c.toNat by omega), decide_eq_true (show 48 ≤ c.toNat by omega), decide_eq_true h4]
  exact .digit (by omega) (by omega)
 by_cases h5 : c.toNat < 97
 ·rw [decide_eq_false (show ¬ 97 ≤ c.toNat by omega), decide_eq_false h4, Bool.and_false, Bool.false_and, Bool.false_or]
  exact .d (by omega) (by omega)
 by_cases h6 : c.toNat ≤ 122
 ·rw [decide_eq_true (show 97 ≤ c.toNat by omega), decide_eq_true h6]
  exact .small (by omega) (by omega)
 ·rw [decide_eq_false h6, decide_eq_false h4, Bool.and_false, Bool.and_false]
  exact .e (by omega)
theorem all_step (p : UInt8 → Bool) (l : List UInt8) (k : Nat) (c : UInt8) (r : List UInt8) (h : l.drop k = c :: r) : (l.take (k + 1)).all p = ((l.take k).all p && p c) := by
 have hk : k < l.length := by
  apply Nat.lt_of_not_le; intro g
  rw [List.drop_eq_nil_of_le g] at h; cases h
 have e : l[k] = c := by
  have := List.drop_eq_getElem_cons hk
  rw [h] at this
  exact (List.cons.inj this).1.symm
 rw [List.take_succ_eq_append_getElem hk, e, List.all_append]; simp
theorem all_bad (p : UInt8 → Bool) (l : List UInt8) (k : Nat) (c : UInt8) (r : List UInt8) (h : l.drop k = c :: r) (g : p c = false) : l.all p = false := by
 rw [← List.take_append_drop k l, List.all_append, h, List.all_cons, g]; simp

theorem named_any (s : List UInt8) (hs : s.length ≤ 140737488355328) (w : World) :
  Calls Tryz.prog 131 #[.string ⟨s.toArray⟩] w fun e w' => e = .returned (.bool (namedP s)) ∧ w = w' := by
 cases s with
 | nil =>
  go_enter Tryz.func131, Tryz.ntmps131
  go_wp2_with fail
  go_ret
  exact ⟨rfl, rfl⟩
 | cons c r =>
  have hP := Lib.hid (named_cons c r)
  have hc0 : ∀ h', (⟨(c :: r).toArray⟩ : ByteArray)[0]'h' = c := fun _ => rfl
  have hlen : (c :: r).length = r.length + 1 := rfl
  by_cases h20 : (c :: r).length ≤ 20
  ·obtain ⟨x, hx⟩ : ∃ x, x = smallC c := ⟨_, rfl⟩
   have hsp := sp_of c
   rw [← hx] at hsp hP
   have HX := Lib.hid hx
   clear hx
   generalize okC c = y at hsp
   cases x
   ·have HR : Hid (namedP (c :: r) = false) := Lib.hid (by rw [hP.out, Bool.and_false, Bool.false_and])
    clear hP HX
    generalize namedP (c :: r) = res at *
    obtain rfl := HR.out
    cases hsp <;>
    ·go_enter Tryz.func131, Tryz.ntmps131
     go_wp2_with fail
     go_ret
     exact ⟨rfl, rfl⟩
   ·cases hsp with | small h1 h2 =>
    have HR : Hid (namedP (c :: r) = (c :: r).all okC) := Lib.hid (by rw [hP.out, decide_eq_true h20]; rfl)
    clear hP HX
    generalize namedP (c :: r) = res at *
    have h0 : (1:Int) ≤ ((c :: r).length : Int) := by rw [hlen]; omega
    have he : (c :: r).isEmpty = false := rfl
    have hne : ¬ (c :: r) = [] := by simp
    have h20' : ((c :: r).length : Int) ≤ 20 := by omega
    generalize c :: r = l at *
    clear hlen
    go_enter Tryz.func131, Tryz.ntmps131
    go_wp2_with fail
    clear hc0 h1 h2 he hne h20'
    go_loopw [24] (fun s24 wr => ∃ k : Nat, s24 = .int .i64 k ∧ k ≤ l.length ∧ Hid ((l.take k).all okC = true) ∧ w = wr) (fun s _ => (21 - RowKit.intOf s).toNat)
    case atStart => exact ⟨0, rfl, by omega, Lib.hid rfl, rfl⟩
    case round =>
     obtain ⟨k, rfl, hk, ha, rfl⟩ := hrel
     by_cases hlt : k < l.length
     ·obtain ⟨d, rest, hd1, hd2, hidx⟩ := Go.Proofs.YtkhlfggnjcbniaaGreatDoor.link.byte_at l k hlt
      have HS := Lib.hid (all_step okC l k d rest hd1)
      have HB := Lib.hid (all_bad okC l k d rest hd1)
      have hsp := sp_of d
      generalize smallC d = x at hsp
      have hok := Lib.hid (show okC d = okC d from rfl)
      obtain ⟨y, hy⟩ : ∃ y, y = okC d := ⟨_, rfl⟩
      rw [← hy] at hsp
      have HY := Lib.hid hy
      clear hd1 hd2 hy hok
      cases y
      ·have HF : Hid (res = false) := Lib.hid (by rw [HR.out]; exact HB.out HY.out.symm)
       cases hsp with
       | a h1 =>
        have e45 : ((d.toNat : Int) != 45) = true := by simp; omega
        go_wp2_with fail
        go_ret
        exact ⟨Go.Proofs.YtkhlfggnjcbniaaGreatDoor.link.ret_bool HF.out.symm, rfl⟩
       | b h1 h2 =>
        have e45 : ((d.toNat : Int) != 45) = true := by simp; omega
        go_wp2_with fail
        go_ret
        exact ⟨Go.Proofs.YtkhlfggnjcbniaaGreatDoor.link.ret_bool HF.out.symm, rfl⟩
       | d h1 h2 =>
        have e45 : ((d.toNat : Int) != 45) = true := by simp; omega
        go_wp2_with fail
        go_ret
        exact ⟨Go.Proofs.YtkhlfggnjcbniaaGreatDoor.link.ret_bool HF.out.symm, rfl⟩
       | e h1 =>
        have e45 : ((d.toNat : Int) != 45) = true := by simp; omega
        go_wp2_with fail
        go_ret
        exact ⟨Go.Proofs.YtkhlfggnjcbniaaGreatDoor.link.ret_bool HF.out.symm, rfl⟩
      ·have HN : Hid ((l.take (k + 1)).all okC = true) := Lib.hid (by rw [HS.out, ha.out, ← HY.out]; rfl)
       cases hsp with
       | small h1 h2 =>
        go_wp2_with fail
        go_roundw
        case rel => exact ⟨k + 1, by go_num, by omega, HN, by first | rfl | trivial⟩
        case measure => simp [RowKit.intOf]; omega
       | digit h1 h2 =>
        go_wp2_with fail
        go_roundw
        case rel => exact ⟨k + 1, by go_num, by omega, HN, by first | rfl | trivial⟩
        case measure => simp [RowKit.intOf]; omega
       | minus h1 =>
        have e45 : ((d.toNat : Int) != 45) = false := by simp [h1]
        go_wp2_with fail
        go_roundw
        case rel => exact ⟨k + 1, by go_num, by omega, HN, by first | rfl | trivial⟩
        case measure => simp [RowKit.intOf]; omega
     ·obtain rfl : k = l.length := by omega
      have HT : Hid (res = true) := Lib.hid (by rw [HR.out]; have := ha.out; rw [List.take_length] at this; exact this)
      go_wp2_with fail
      go_ret
      exact ⟨Go.Proofs.YtkhlfggnjcbniaaGreatDoor.link.ret_bool HT.out.symm, rfl⟩
  ·have HR : Hid (namedP (c :: r) = false) := Lib.hid (by rw [hP.out, decide_eq_false h20, Bool.false_and, Bool.false_and])
   clear hP
   generalize namedP (c :: r) = res at *
   obtain rfl := HR.out
   go_enter Tryz.func131, Tryz.ntmps131
   go_wp2_with fail
   go_ret
   exact ⟨rfl, rfl⟩

theorem named_end (l : List UInt8) (ha : l.all okC = true) (hf : ∀ c r, l = c :: r → smallC c = true) : namedP l = (decide (0 < l.length) && decide (l.length ≤ 20)) := by
 cases l with
 | nil => rfl
 | cons c r => rw [named_cons, ha, hf c r rfl, decide_eq_true (show 0 < (c :: r).length from Nat.succ_pos _), Bool.and_true, Bool.and_true]; rfl
theorem named_bad (l : List UInt8) (k : Nat) (c : UInt8) (r : List UInt8) (h : l.drop k = c :: r) (g : okC c = false) : namedP l = false := by
 cases l with
 | nil => rfl
 | cons d s => rw [named_cons, all_bad okC _ k c r h g, Bool.and_false]
theorem named_bad0 (l : List UInt8) (c : UInt8) (r : List UInt8) (h : l.drop 0 = c :: r) (g : smallC c = false) : namedP l = false := by
 rw [List.drop_zero] at h
 rw [h, namedP, g]; rfl
theorem rname_any (l : List UInt8) (hs : l.length ≤ 140737488355328) (w : World) :
  Calls Tryz.prog 211 #[.string ⟨l.toArray⟩] w fun e w' => e = .returned (.bool (namedP l)) ∧ w = w' := by
 have HE := Lib.hid (named_end l)
 obtain ⟨res, hres⟩ : ∃ r, r = namedP l := ⟨_, rfl⟩
 have HR := Lib.hid hres
 rw [← hres] at HE ⊢
 clear hres
 go_enter Tryz.func211, Tryz.ntmps211
 go_wp2_with fail
 go_loopw [3] (fun s3 wr => ∃ k : Nat, s3 = .int .i64 k ∧ k ≤ l.length ∧ Hid ((l.take k).all okC = true) ∧ Hid (0 < k → ∀ c r, l = c :: r → smallC c = true) ∧ w = wr) (fun s _ => (140737488355329 - RowKit.intOf s).toNat)
 case atStart => exact ⟨0, rfl, by omega, Lib.hid rfl, Lib.hid (fun h => absurd h (Nat.lt_irrefl _)), rfl⟩
 case round =>
  obtain ⟨k, rfl, hk, ha, hf, rfl⟩ := hrel
  by_cases hlt : k < l.length
  ·obtain ⟨d, rest, hd1, hd2, hidx⟩ := Go.Proofs.YtkhlfggnjcbniaaGreatDoor.link.byte_at l k hlt
   have HS := Lib.hid (all_step okC l k d rest hd1)
   have HB := Lib.hid (named_bad l k d rest hd1)
   have HB0 : Hid (k = 0 → smallC d = false → namedP l = false) := Lib.hid (fun h g => by subst h; exact named_bad0 l d rest hd1 g)
   have HF0 : Hid (smallC d = true → ∀ c r, l = c :: r → (k = 0 → smallC c = true)) := Lib.hid (fun h c r e h0 => by
    subst h0
    rw [List.drop_zero, e] at hd1
    rw [(List.cons.inj hd1).1]; exact h)
   have hsp := sp_of d
   obtain ⟨x, hx⟩ : ∃ x, x = smallC d := ⟨_, rfl⟩
   obtain ⟨y, hy⟩ : ∃ y, y = okC d := ⟨_, rfl⟩
   rw [← hx, ← hy] at hsp
   have HX := Lib.hid hx
   have HY := Lib.hid hy
   clear hd1 hd2 hx hy
   go_upto_region 4 with fail
   go_cut [4] (fun s4 wx => s4 = .bool x ∧ wx = w)
   case first =>
    cases hsp with
    | a h1 =>
     have e45 : ((d.toNat : Int) == 45) = false := by simp; omega
     go_wp2_with fail
     go_meet
     exact ⟨by first | rfl | exact congrArg Value.bool (decide_eq_false (by omega)), rfl⟩
    | b h1 h2 =>
     have e45 : ((d.toNat : Int) == 45) = false := by simp; omega
     go_wp2_with fail
     go_meet
     exact ⟨by first | rfl | exact congrArg Value.bool (decide_eq_false (by omega)), rfl⟩
    | d h1 h2 =>
     have e45 : ((d.toNat : Int) == 45) = false := by simp; omega
     go_wp2_with fail
     go_meet
     exact ⟨by first | rfl | exact congrArg Value.bool (decide_eq_false (by omega)), rfl⟩
    | e h1 =>
     have e45 : ((d.toNat : Int) == 45) = false := by simp; omega
     go_wp2_with fail
     go_meet
     exact ⟨by first | rfl | exact congrArg Value.bool (decide_eq_false (by omega)), rfl⟩
    | small h1 h2 =>
     have e45 : ((d.toNat : Int) == 45) = false := by simp; omega
     go_wp2_with fail
     go_meet
     exact ⟨by first | rfl | exact congrArg Value.bool (decide_eq_false (by omega)), rfl⟩
    | digit h1 h2 =>
     have e45 : ((d.toNat : Int) == 45) = false := by simp; omega
     go_wp2_with fail
     go_meet
     exact ⟨by first | rfl | exact congrArg Value.bool (decide_eq_false (by omega)), rfl⟩
    | minus h1 =>
     have e45 : ((d.toNat : Int) == 45) = true := by simp [h1]
     go_wp2_with fail
     go_meet
     exact ⟨by first | rfl | exact congrArg Value.bool (decide_eq_false (by omega)), rfl⟩
   case rest =>
   obtain ⟨rfl, rfl⟩ := hcut
   go_upto_region 5 with fail
   go_cut [5] (fun s5 wx => ∃ z, s5 = .bool z ∧ (x = false → z = y) ∧ wx = wc)
   case first =>
    cases hsp with
    | a h1 =>
     have e45 : ((d.toNat : Int) == 45) = false := by simp; omega
     go_wp2_with fail
     go_meet
     exact ⟨_, rfl, fun _ => (by first | rfl | exact decide_eq_false (by omega)), rfl⟩
    | b h1 h2 =>
     have e45 : ((d.toNat : Int) == 45) = false := by simp; omega
     go_wp2_with fail
     go_meet
     exact ⟨_, rfl, fun _ => (by first | rfl | exact decide_eq_false (by omega)), rfl⟩
    | d h1 h2 =>
     have e45 : ((d.toNat : Int) == 45) = false := by simp; omega
     go_wp2_with fail
     go_meet
     exact ⟨_, rfl, fun _ => (by first | rfl | exact decide_eq_false (by omega)), rfl⟩
    | e h1 =>
     have e45 : ((d.toNat : Int) == 45) = false := by simp; omega
     go_wp2_with fail
     go_meet
     exact ⟨_, rfl, fun _ => (by first | rfl | exact decide_eq_false (by omega)), rfl⟩
    | small h1 h2 =>
     have e45 : ((d.toNat : Int) == 45) = false := by simp; omega
     go_wp2_with fail
     go_meet
     exact ⟨_, rfl, fun h => (by cases h), rfl⟩
    | digit h1 h2 =>
     have e45 : ((d.toNat : Int) == 45) = false := by simp; omega
     go_wp2_with fail
     go_meet
     exact ⟨_, rfl, fun _ => (by first | rfl | exact decide_eq_false (by omega)), rfl⟩
    | minus h1 =>
     have e45 : ((d.toNat : Int) == 45) = true := by simp [h1]
     go_wp2_with fail
     go_meet
     exact ⟨_, rfl, fun _ => (by first | rfl | exact decide_eq_false (by omega)), rfl⟩
   case rest =>
   obtain ⟨z, rfl, hz, rfl⟩ := hcut
   clear hsp
   cases x
   ·obtain rfl : z = y := hz rfl
    clear hz
    cases k with
    | zero =>
     have HF : Hid (res = false) := Lib.hid (by rw [HR.out]; exact HB0.out rfl HX.out.symm)
     go_wp2_with fail
     go_ret
     exact ⟨Go.Proofs.YtkhlfggnjcbniaaGreatDoor.link.ret_bool HF.out.symm, rfl⟩
    | succ k =>
     have ek : (((k + 1 : Nat) : Int) == 0) = false := by simp; omega
     cases z
     ·have HF : Hid (res = false) := Lib.hid (by rw [HR.out]; exact HB.out HY.out.symm)
      go_wp2_with fail
      go_ret
      exact ⟨Go.Proofs.YtkhlfggnjcbniaaGreatDoor.link.ret_bool HF.out.symm, rfl⟩
     ·have HN : Hid ((l.take (k + 1 + 1)).all okC = true) := Lib.hid (by rw [HS.out, ha.out, ← HY.out]; rfl)
      go_wp2_with fail
      go_roundw
      case rel => exact ⟨k + 1 + 1, by go_num, by omega, HN, Lib.hid (fun _ => hf.out (Nat.succ_pos _)), by first | rfl | trivial⟩
      case measure => simp [RowKit.intOf]; omega
   ·have HN : Hid ((l.take (k + 1)).all okC = true) := Lib.hid (by rw [HS.out, ha.out, small_ok d HX.out.symm]; rfl)
    clear hz
    go_wp2_with fail
    go_roundw
    case rel => exact ⟨k + 1, by go_num, by omega, HN, Lib.hid (fun _ c r e => by
     rcases Nat.eq_zero_or_pos k with g | g
     ·exact HF0.out HX.out.symm c r e g
     ·exact hf.out g c r e), by first | rfl | trivial⟩
    case measure => simp [RowKit.intOf]; omega
  ·obtain rfl : k = l.length := by omega
   have HT : Hid (res = (decide (0 < l.length) && decide (l.length ≤ 20))) := Lib.hid (by
    refine HE.out (by have := ha.out; rw [List.take_length] at this; exact this) (fun c r e => hf.out (by rw [e]; exact Nat.succ_pos _) c r e))
   clear ha hf HE HR
   by_cases g0 : 0 < l.length
   ·have g0' : (0 : Int) < (l.length : Int) := by omega
    by_cases g1 : l.length ≤ 20
    ·go_wp2_with fail
     go_ret
     exact ⟨Go.Proofs.YtkhlfggnjcbniaaGreatDoor.link.ret_bool (by rw [HT.out, decide_eq_true g0, decide_eq_true g1]; exact decide_eq_true (by omega)), rfl⟩
    ·go_wp2_with fail
     go_ret
     exact ⟨Go.Proofs.YtkhlfggnjcbniaaGreatDoor.link.ret_bool (by rw [HT.out, decide_eq_true g0, decide_eq_false g1]; exact decide_eq_false (by omega)), rfl⟩
   ·go_wp2_with fail
    go_ret
    exact ⟨Go.Proofs.YtkhlfggnjcbniaaGreatDoor.link.ret_bool (by rw [HT.out, decide_eq_false g0]; rfl), rfl⟩
end Go.Proofs.YtkhlfggnjcbniaaGreatDoor.doc
