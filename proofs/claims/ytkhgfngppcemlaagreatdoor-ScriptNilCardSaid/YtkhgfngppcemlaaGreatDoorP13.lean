/- The contracts of tree.named, and of the reference's Name. -/
import Derived.ChangeAlike
import Derived.Deep.CutBlock
import Derived.Deep.DeepCutAuto
import Derived.Lib.Hide
import Derived.Lib.ItoaMem
import Derived.ProofKit
import Derived.RegionTactic
import Derived.WalkKit
import Derived.WalkSmall
import Derived.WalkSpells
import Derived.Test.YtkhgfngppcemlaaGreatDoorRows
import Derived.Test.YtkhgfngppcemlaaGreatDoorP1
import Derived.Test.YtkhgfngppcemlaaGreatDoorP6
namespace Go.Proofs.YtkhgfngppcemlaaGreatDoor.doc
open Go.ChangeShapes Go.WideShapes Go.ChangeAt Go.RowKit Go.Lib Go.Proofs.YtkhgfngppcemlaaGreatDoor.atr

theorem small_ok (c : UInt8) (h : smallC c = true) : okC c = true := by unfold okC; rw [h]; rfl
theorem named_cons (c : UInt8) (r : List UInt8) : namedP (c :: r) = (decide ((c :: r).length ≤ 20) && smallC c && (c :: r).all okC) := by
  rw [namedP, List.all_cons, List.length_cons]
  cases h : smallC c
  · cases decide (r.length + 1 ≤ 20) <;> rfl
  · rw [small_ok c h]
    cases r.all okC <;> cases decide (r.length + 1 ≤ 20) <;> rfl
/-- the five places where a byte can be -/
inductive Sp (c : UInt8) : Bool → Bool → Prop
  | small : 97 ≤ (c.toNat : Int) → (c.toNat : Int) ≤ 122 → Sp c true true
  | digit : 48 ≤ (c.toNat : Int) → (c.toNat : Int) ≤ 57 → Sp c false true
  | minus : (c.toNat : Int) = 45 → Sp c false true
  | a : (c.toNat : Int) < 45 → Sp c false false
  | b : 45 < (c.toNat : Int) → (c.toNat : Int) < 48 → Sp c false false
  | d : 57 < (c.toNat : Int) → (c.toNat : Int) < 97 → Sp c false false
  | e : 122 < (c.toNat : Int) → Sp c false false
theorem sp_of (c : UInt8) : Sp c (smallC c) (okC c) := by
  have e45 : (c == 45) = decide (c.toNat = 45) := by
    rw [Bool.eq_iff_iff, beq_iff_eq, decide_eq_true_eq]
    exact ⟨fun h => by rw [h]; rfl, fun h => UInt8.toNat_inj.1 h⟩
  unfold okC
  rw [e45]
  unfold smallC digitC
  by_cases h1 : c.toNat < 45
  · rw [decide_eq_false (show ¬ 97 ≤ c.toNat by omega), decide_eq_false (show ¬ 48 ≤ c.toNat by omega), decide_eq_false (show ¬ c.toNat = 45 by omega)]
    exact .a (by omega)
  by_cases h2 : c.toNat = 45
  · rw [decide_eq_false (show ¬ 97 ≤ c.toNat by omega), decide_eq_true h2, Bool.or_true]
    exact .minus (by omega)
  rw [decide_eq_false h2, Bool.or_false]
  by_cases h3 : c.toNat < 48
  · rw [decide_eq_false (show ¬ 97 ≤ c.toNat by omega), decide_eq_false (show ¬ 48 ≤ c.toNat by omega)]
    exact .b (by omega) (by omega)
  by_cases h4 : c.toNat ≤ 57
  · rw [decide_eq_false (show ¬ 97 ≤ c.toNat by omega), decide_eq_true (show 48 ≤ c.toNat by omega), decide_eq_true h4]
    exact .digit (by omega) (by omega)
  by_cases h5 : c.toNat < 97
  · rw [decide_eq_false (show ¬ 97 ≤ c.toNat by omega), decide_eq_false h4, Bool.and_false, Bool.false_and, Bool.false_or]
    exact .d (by omega) (by omega)
  by_cases h6 : c.toNat ≤ 122
  · rw [decide_eq_true (show 97 ≤ c.toNat by omega), decide_eq_true h6]
    exact .small (by omega) (by omega)
  · rw [decide_eq_false h6, decide_eq_false h4, Bool.and_false, Bool.and_false]
    exact .e (by omega)
theorem all_step (p : UInt8 → Bool) (l : List UInt8) (k : Nat) (c : UInt8) (r : List UInt8) (h : l.drop k = c :: r) : (l.take (k + 1)).all p = ((l.take k).all p && p c) := by
  have hk : k < l.length := by
    apply Nat.lt_of_not_le; intro g
    rw [List.drop_eq_nil_of_le g] at h; cases h
  have e : l[k] = c := by
    have := List.drop_eq_getElem_cons hk
    rw [h] at this
    exact (List.cons.inj this).1.symm
  rw [List.take_succ_eq_append_getElem hk, e, List.all_append]; simp
theorem all_bad (p : UInt8 → Bool) (l : List UInt8) (k : Nat) (c : UInt8) (r : List UInt8) (h : l.drop k = c :: r) (g : p c = false) : l.all p = false := by
  rw [← List.take_append_drop k l, List.all_append, h, List.all_cons, g]; simp

set_option maxHeartbeats 1600000 in
set_option maxRecDepth 100000 in
theorem named_any (s : List UInt8) (hs : s.length ≤ 140737488355328) (w : World) :
    Calls Tryz.prog 235 #[.string ⟨s.toArray⟩] w fun e w' => e = .returned (.bool (namedP s)) ∧ w = w' := by
  cases s with
  | nil =>
    go_enter Tryz.func235, Tryz.ntmps235
    go_wp2_with fail
    go_ret
    exact ⟨rfl, rfl⟩
  | cons c r =>
    have hP := Lib.hid (named_cons c r)
    have hc0 : ∀ h', (⟨(c :: r).toArray⟩ : ByteArray)[0]'h' = c := fun _ => rfl
    have hlen : (c :: r).length = r.length + 1 := rfl
    by_cases h20 : (c :: r).length ≤ 20
    · obtain ⟨x, hx⟩ : ∃ x, x = smallC c := ⟨_, rfl⟩
      have hsp := sp_of c
      rw [← hx] at hsp hP
      have HX := Lib.hid hx
      clear hx
      generalize okC c = y at hsp
      cases x
      · have HR : Hid (namedP (c :: r) = false) := Lib.hid (by rw [hP.out, Bool.and_false, Bool.false_and])
        clear hP HX
        generalize namedP (c :: r) = res at *
        obtain rfl := HR.out
        cases hsp <;>
        · go_enter Tryz.func235, Tryz.ntmps235
          go_wp2_with fail
          go_ret
          exact ⟨rfl, rfl⟩
      · cases hsp with | small h1 h2 =>
        have HR : Hid (namedP (c :: r) = (c :: r).all okC) := Lib.hid (by rw [hP.out, decide_eq_true h20]; rfl)
        clear hP HX
        generalize namedP (c :: r) = res at *
        have h0 : (1:Int) ≤ ((c :: r).length : Int) := by rw [hlen]; omega
        have he : (c :: r).isEmpty = false := rfl
        have hne : ¬ (c :: r) = [] := by simp
        have h20' : ((c :: r).length : Int) ≤ 20 := by omega
        generalize c :: r = l at *
        clear hlen
        go_enter Tryz.func235, Tryz.ntmps235
        go_wp2_with fail
        clear hc0 h1 h2 he hne h20'
        go_loopw [24] (fun s24 wr => ∃ k : Nat, s24 = .int .i64 k ∧ k ≤ l.length ∧ Hid ((l.take k).all okC = true) ∧ w = wr) (fun s _ => (21 - RowKit.intOf s).toNat)
        case atStart => exact ⟨0, rfl, by omega, Lib.hid rfl, rfl⟩
        case round =>
          obtain ⟨k, rfl, hk, ha, rfl⟩ := hrel
          by_cases hlt : k < l.length
          · obtain ⟨d, rest, hd1, hd2, hidx⟩ := Go.Proofs.YtkhgfngppcemlaaGreatDoor.link.byte_at l k hlt
            have HS := Lib.hid (all_step okC l k d rest hd1)
            have HB := Lib.hid (all_bad okC l k d rest hd1)
            have hsp := sp_of d
            generalize smallC d = x at hsp
            have hok := Lib.hid (show okC d = okC d from rfl)
            obtain ⟨y, hy⟩ : ∃ y, y = okC d := ⟨_, rfl⟩
            rw [← hy] at hsp
            have HY := Lib.hid hy
            clear hd1 hd2 hy hok
            cases y
            · have HF : Hid (res = false) := Lib.hid (by rw [HR.out]; exact HB.out HY.out.symm)
              cases hsp with
              | a h1 =>
                have e45 : ((d.toNat : Int) != 45) = true := by simp; omega
                go_wp2_with fail
                go_ret
                exact ⟨Go.Proofs.YtkhgfngppcemlaaGreatDoor.link.ret_bool HF.out.symm, rfl⟩
              | b h1 h2 =>
                have e45 : ((d.toNat : Int) != 45) = true := by simp; omega
                go_wp2_with fail
                go_ret
                exact ⟨Go.Proofs.YtkhgfngppcemlaaGreatDoor.link.ret_bool HF.out.symm, rfl⟩
              | d h1 h2 =>
                have e45 : ((d.toNat : Int) != 45) = true := by simp; omega
                go_wp2_with fail
                go_ret
                exact ⟨Go.Proofs.YtkhgfngppcemlaaGreatDoor.link.ret_bool HF.out.symm, rfl⟩
              | e h1 =>
                have e45 : ((d.toNat : Int) != 45) = true := by simp; omega
                go_wp2_with fail
                go_ret
                exact ⟨Go.Proofs.YtkhgfngppcemlaaGreatDoor.link.ret_bool HF.out.symm, rfl⟩
            · have HN : Hid ((l.take (k + 1)).all okC = true) := Lib.hid (by rw [HS.out, ha.out, ← HY.out]; rfl)
              cases hsp with
              | small h1 h2 =>
                go_wp2_with fail
                go_roundw
                case rel => exact ⟨k + 1, by go_num, by omega, HN, by first | rfl | trivial⟩
                case measure => simp [RowKit.intOf]; omega
              | digit h1 h2 =>
                go_wp2_with fail
                go_roundw
                case rel => exact ⟨k + 1, by go_num, by omega, HN, by first | rfl | trivial⟩
                case measure => simp [RowKit.intOf]; omega
              | minus h1 =>
                have e45 : ((d.toNat : Int) != 45) = false := by simp [h1]
                go_wp2_with fail
                go_roundw
                case rel => exact ⟨k + 1, by go_num, by omega, HN, by first | rfl | trivial⟩
                case measure => simp [RowKit.intOf]; omega
          · obtain rfl : k = l.length := by omega
            have HT : Hid (res = true) := Lib.hid (by rw [HR.out]; have := ha.out; rw [List.take_length] at this; exact this)
            go_wp2_with fail
            go_ret
            exact ⟨Go.Proofs.YtkhgfngppcemlaaGreatDoor.link.ret_bool HT.out.symm, rfl⟩
    · have HR : Hid (namedP (c :: r) = false) := Lib.hid (by rw [hP.out, decide_eq_false h20, Bool.false_and, Bool.false_and])
      clear hP
      generalize namedP (c :: r) = res at *
      obtain rfl := HR.out
      go_enter Tryz.func235, Tryz.ntmps235
      go_wp2_with fail
      go_ret
      exact ⟨rfl, rfl⟩

end Go.Proofs.YtkhgfngppcemlaaGreatDoor.doc
