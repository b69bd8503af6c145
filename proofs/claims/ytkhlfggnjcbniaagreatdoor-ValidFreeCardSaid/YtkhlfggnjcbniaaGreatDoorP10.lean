/- A part of the proofs: lemmas and contracts. -/
import Derived.Test.YtkhlfggnjcbniaaGreatDoorP3
set_option maxHeartbeats 12800000
set_option maxRecDepth 1000000
namespace Go.Proofs.YtkhlfggnjcbniaaGreatDoor.cln
open Go.ChangeShapes Go.WideShapes Go.ChangeAt Go.RowKit Go.Lib link

theorem isB_iff (c : UInt8) : isB c = true ↔ (c = 9 ∨ c = 10 ∨ c = 12 ∨ c = 13 ∨ c = 32) := by
 unfold isB blanks
 simp
theorem tb_ret {a b : Bool} (h : a = b) : Ending.returned (.bool a) = .returned (.bool b) := by rw [h]
theorem byte_eqd (c d : UInt8) (n : Int) (h : (d.toNat : Int) = n) : ((c.toNat : Int) == n) = decide (c = d) := by
 rw [byteq c d n h, Bool.eq_iff_iff]; simp

theorem rblank_any (c : UInt8) (w : World) :
  Calls Tryz.prog 273 #[.int .u8 c.toNat] w fun e w' => e = .returned (.bool (isB c)) ∧ w = w' := by
 have t9 := byte_eqd c 9 9 rfl
 have t10 := byte_eqd c 10 10 rfl
 have t12 := byte_eqd c 12 12 rfl
 have t13 := byte_eqd c 13 13 rfl
 have t32 := byte_eqd c 32 32 rfl
 have hi := isB_iff c
 obtain ⟨r, hr⟩ : ∃ r, r = isB c := ⟨_, rfl⟩
 rw [← hr] at hi ⊢
 clear hr
 have HI := Lib.hid hi
 clear hi
 by_cases c9 : c = 9
 ·have HX : Hid (r = true) := Lib.hid (HI.out.2 (Or.inl c9))
  rw [decide_eq_true c9] at t9
  clear c9 t10 t12 t13 t32
  go_enter Tryz.func273, Tryz.ntmps273
  go_wp2_with fail
  go_ret
  exact ⟨tb_ret HX.out.symm, rfl⟩
 by_cases c10 : c = 10
 ·have HX : Hid (r = true) := Lib.hid (HI.out.2 (Or.inr (Or.inl c10)))
  rw [decide_eq_false c9] at t9
  rw [decide_eq_true c10] at t10
  clear c9 c10 t12 t13 t32
  go_enter Tryz.func273, Tryz.ntmps273
  go_wp2_with fail
  go_ret
  exact ⟨tb_ret HX.out.symm, rfl⟩
 by_cases c12 : c = 12
 ·have HX : Hid (r = true) := Lib.hid (HI.out.2 (Or.inr (Or.inr (Or.inl c12))))
  rw [decide_eq_false c9] at t9
  rw [decide_eq_false c10] at t10
  rw [decide_eq_true c12] at t12
  clear c9 c10 c12 t13 t32
  go_enter Tryz.func273, Tryz.ntmps273
  go_wp2_with fail
  go_ret
  exact ⟨tb_ret HX.out.symm, rfl⟩
 by_cases c13 : c = 13
 ·have HX : Hid (r = true) := Lib.hid (HI.out.2 (Or.inr (Or.inr (Or.inr (Or.inl c13)))))
  rw [decide_eq_false c9] at t9
  rw [decide_eq_false c10] at t10
  rw [decide_eq_false c12] at t12
  rw [decide_eq_true c13] at t13
  clear c9 c10 c12 c13 t32
  go_enter Tryz.func273, Tryz.ntmps273
  go_wp2_with fail
  go_ret
  exact ⟨tb_ret HX.out.symm, rfl⟩
 rw [decide_eq_false c9] at t9
 rw [decide_eq_false c10] at t10
 rw [decide_eq_false c12] at t12
 rw [decide_eq_false c13] at t13
 have HX : Hid (r = decide (c = 32)) := Lib.hid (by
  rw [Bool.eq_iff_iff, decide_eq_true_eq, HI.out]
  constructor
  ·rintro (h | h | h | h | h)
   ·exact absurd h c9
   ·exact absurd h c10
   ·exact absurd h c12
   ·exact absurd h c13
   ·exact h
  ·intro h; exact Or.inr (Or.inr (Or.inr (Or.inr h))))
 clear c9 c10 c12 c13 HI
 generalize decide (c = 32) = q at *
 go_enter Tryz.func273, Tryz.ntmps273
 go_wp2_with fail
 go_ret
 exact ⟨tb_ret HX.out.symm, rfl⟩

theorem dropW_all (p : UInt8 → Bool) (A X : List UInt8) (h : A.all p = true) : (A ++ X).dropWhile p = X.dropWhile p := by
 induction A with
 | nil => rfl
 | cons c r ih =>
  rw [List.all_cons, Bool.and_eq_true] at h
  rw [List.cons_append, List.dropWhile_cons, if_pos h.1, ih h.2]
theorem dropW_stop (p : UInt8 → Bool) (c : UInt8) (r : List UInt8) (h : p c = false) : (c :: r).dropWhile p = c :: r := by
 rw [List.dropWhile_cons, h]; rfl
theorem strip_parts (A M C : List UInt8) (hA : A.all isB = true) (hC : C.all isB = true) (hM : M = [] ∨ (∃ a r, M = a :: r ∧ isB a = false) ∧ (∃ q z, M = q ++ [z] ∧ isB z = false)) : stripB (A ++ (M ++ C)) = M := by
 have e : (fun c => blanks.contains c) = isB := rfl
 unfold stripB trimS trimLeftS trimRightS
 rw [e, List.reverse_append, List.reverse_append, List.append_assoc, dropW_all isB C.reverse _ (by rw [List.all_reverse]; exact hC)]
 rcases hM with rfl | ⟨⟨a, r, h1, ha⟩, q, z, h2, hz⟩
 ·have h0 : (([] : List UInt8).reverse ++ A.reverse).dropWhile isB = [] := by
   have := dropW_all isB A.reverse [] (by rw [List.all_reverse]; exact hA)
   rw [List.append_nil] at this
   exact this
  rw [h0]; rfl
 ·have h3 : (M.reverse ++ A.reverse).dropWhile isB = M.reverse ++ A.reverse := by
   rw [h2, List.reverse_append]
   exact dropW_stop isB z _ hz
  rw [h3, List.reverse_append, List.reverse_reverse, List.reverse_reverse, dropW_all isB A M hA, h1, dropW_stop isB a r ha]

theorem strip_at (l : List UInt8) (k m : Nat) (hk : k ≤ m) (hm : m ≤ l.length) (h1 : (l.take k).all isB = true) (h2 : (l.drop m).all isB = true)
  (h3 : k = m ∨ (∃ c, l[k]? = some c ∧ isB c = false) ∧ (∃ c, l[m - 1]? = some c ∧ isB c = false ∧ k < m)) : stripB l = (l.drop k).take (m - k) := by
 have e : l = l.take k ++ ((l.drop k).take (m - k) ++ l.drop m) := by
  have e1 : l.drop m = (l.drop k).drop (m - k) := by rw [List.drop_drop]; congr 1; omega
  rw [e1, List.take_append_drop, List.take_append_drop]
 have h := strip_parts (l.take k) ((l.drop k).take (m - k)) (l.drop m) h1 h2 (by
  rcases h3 with rfl | ⟨⟨c, hc, hc2⟩, d, hd, hd2, hlt⟩
  ·left; rw [Nat.sub_self]; rfl
  ·right
   constructor
   ·have hkl : k < l.length := by omega
    refine ⟨c, ((l.drop k).take (m - k)).tail, ?_, hc2⟩
    have e1 := List.drop_eq_getElem_cons hkl
    rw [List.getElem?_eq_getElem hkl] at hc
    rw [Option.some.inj hc] at e1
    rw [e1]
    obtain ⟨n, hn⟩ : ∃ n, m - k = n + 1 := ⟨m - k - 1, by omega⟩
    rw [hn]; rfl
   ·refine ⟨(l.drop k).take (m - 1 - k), d, ?_, hd2⟩
    have e2 := List.take_add_one (l := l.drop k) (i := m - 1 - k)
    rw [show m - 1 - k + 1 = m - k from by omega, List.getElem?_drop, show k + (m - 1 - k) = m - 1 from by omega, hd] at e2
    exact e2)
 rw [← e] at h
 exact h

theorem rstrip_any (l : List UInt8) (hl : l.length ≤ 10000000) (w : World) :
  Calls Tryz.prog 198 #[.string ⟨l.toArray⟩] w fun e w' => e = .returned (.string ⟨(stripB l).toArray⟩) ∧ w = w' := by
 obtain ⟨tx, htx⟩ : ∃ tx, tx = stripB l := ⟨_, rfl⟩
 rw [← htx]
 have HTX := Lib.hid htx
 clear htx
 go_enter Tryz.func198, Tryz.ntmps198
 go_upto_block 0 with fail
 go_cut [3] (fun s3 wx => ∃ k : Nat, s3 = .int .i64 k ∧ k ≤ l.length ∧ Hid ((l.take k).all isB = true ∧ (k = l.length ∨ ∃ c, l[k]? = some c ∧ isB c = false)) ∧ w = wx)
 case first =>
  go_wp2_with fail
  go_loop [3] (fun s => ∃ k : Nat, s = .int .i64 k ∧ k ≤ l.length ∧ Hid ((l.take k).all isB = true)) (fun s => l.length - (RowKit.intOf s).toNat)
  case atStart => exact ⟨0, rfl, by omega, Lib.hid rfl⟩
  case round =>
   obtain ⟨k, rfl, hk, hh⟩ := hrel
   by_cases hlt : k < l.length
   ·obtain ⟨c, r, hd1, hd2, hidx⟩ := link.byte_at l k hlt
    have hget : l[k]? = some c := by rw [← List.head?_drop, hd1]; rfl
    have hcall := rblank_any c w
    cases hb : isB c
    ·rw [hb] at hcall
     have HX : Hid ((l.take k).all isB = true ∧ (k = l.length ∨ ∃ c, l[k]? = some c ∧ isB c = false)) := Lib.hid ⟨hh.out, Or.inr ⟨c, hget, hb⟩⟩
     clear hh hd1 hd2 hget hb
     go_wp2_with fail
     refine hcall.mono ?_
     rintro e w1 ⟨rfl, rfl⟩
     go_wp2_with fail
     go_meet
     exact ⟨k, rfl, by omega, HX, rfl⟩
    ·rw [hb] at hcall
     have HX : Hid ((l.take (k + 1)).all isB = true) := Lib.hid (by rw [List.take_add_one, hget, List.all_append, hh.out]; simp [hb])
     clear hh hd1 hd2 hget hb
     go_wp2_with fail
     refine hcall.mono ?_
     rintro e w1 ⟨rfl, rfl⟩
     go_wp2_with fail
     go_round
     case rel => exact ⟨k + 1, by go_num, by omega, HX⟩
     case measure => simp [RowKit.intOf]; omega
   ·have HX : Hid ((l.take k).all isB = true ∧ (k = l.length ∨ ∃ c, l[k]? = some c ∧ isB c = false)) := Lib.hid ⟨hh.out, Or.inl (by omega)⟩
    clear hh
    go_wp2_with fail
    go_meet
    exact ⟨k, rfl, by omega, HX, rfl⟩
 case rest =>
  obtain ⟨k, rfl, hk, hh, rfl⟩ := hcut
  go_wp2_with fail
  go_loop [4] (fun s => ∃ m : Nat, s = .int .i64 m ∧ k ≤ m ∧ m ≤ l.length ∧ Hid ((l.drop m).all isB = true)) (fun s => (RowKit.intOf s).toNat)
  case atStart => exact ⟨l.length, rfl, by omega, by omega, Lib.hid (by rw [List.drop_length]; rfl)⟩
  case round =>
   obtain ⟨m, rfl, hkm, hm, hd⟩ := hrel
   by_cases hlt : k < m
   ·obtain ⟨j, rfl⟩ : ∃ j, m = j + 1 := ⟨m - 1, by omega⟩
    obtain ⟨c, r, hd1, hd2, hidx⟩ := link.byte_at l j (by omega)
    have hget : l[j]? = some c := by rw [← List.head?_drop, hd1]; rfl
    have hcall := rblank_any c w
    cases hb : isB c
    ·rw [hb] at hcall
     have HX : Hid (tx = (l.drop k).take (j + 1 - k)) := Lib.hid (by
      rw [HTX.out]
      refine strip_at l k (j + 1) (by omega) hm hh.out.1 hd.out (Or.inr ⟨?_, c, hget, hb, hlt⟩)
      rcases hh.out.2 with h | h
      ·omega
      ·exact h)
     clear hh hd hd1 hd2 hget hb
     go_wp2_with fail
     refine hcall.mono ?_
     rintro e w1 ⟨rfl, rfl⟩
     go_wp2_with fail
     go_ret
     exact ⟨by rw [HX.out]; rfl, rfl⟩
    ·rw [hb] at hcall
     have HX : Hid ((l.drop j).all isB = true) := Lib.hid (by rw [hd1, List.all_cons, hb, ← hd2, hd.out]; rfl)
     clear hd hd1 hd2 hget hb
     go_wp2_with fail
     refine hcall.mono ?_
     rintro e w1 ⟨rfl, rfl⟩
     go_wp2_with fail
     go_round
     case rel => exact ⟨j, by go_num, by omega, by omega, HX⟩
     case measure => simp [RowKit.intOf] <;> omega
   ·obtain rfl : m = k := by omega
    have HX : Hid (tx = (l.drop m).take (m - m)) := Lib.hid (by
     rw [HTX.out]
     exact strip_at l m m (by omega) hm hh.out.1 hd.out (Or.inl rfl))
    clear hh hd
    go_wp2_with fail
    go_ret
    exact ⟨by rw [HX.out, Nat.sub_self]; rfl, rfl⟩

end Go.Proofs.YtkhlfggnjcbniaaGreatDoor.cln
