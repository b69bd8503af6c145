/- A part of the proofs: lemmas and contracts. -/
import Derived.Test.YtkhlfggnjcbniaaGreatDoorP26
set_option maxHeartbeats 12800000
set_option maxRecDepth 1000000
namespace Go.Proofs.YtkhlfggnjcbniaaGreatDoor.link
open Go.ChangeShapes Go.WideShapes Go.ChangeAt Go.RowKit Go.Lib str

def chk : Bool → List UInt8 → Bool
 | first, [] => !first
 | first, c :: r => (plainB c || markB c) && (!first || (plainB c && !digC c)) && chk false r

theorem sch_cut (l : List UInt8) : ∀ first, sch first l = if (cut1 58 l).2.2 && chk first (cut1 58 l).1 then some (cut1 58 l).1.length else none := by
 induction l with
 | nil => intro first; rfl
 | cons c r ih =>
  intro first
  by_cases h : c = 58
  ·subst h
   rw [sch_colon]
   cases first <;> rfl
  ·rw [sch_cons _ c r h, ih false]
   have e : cut1 58 (c :: r) = (c :: (cut1 58 r).1, (cut1 58 r).2.1, (cut1 58 r).2.2) := by rw [cut1, if_neg h]
   rw [e]
   simp only [chk]
   have key : ∀ (x y z : Bool) (n : Nat), (if x = true then Option.map (· + 1) (if (y && z) = true then some n else none) else none) = if (y && (x && z)) = true then some (n + 1) else none := by
    intro x y z n
    cases x <;> cases y <;> cases z <;> rfl
   exact key _ _ _ _

theorem chk_true (c : UInt8) (r : List UInt8) : chk true (c :: r) = ((plainB c && !digC c) && chk false (c :: r)) := by
 simp only [chk]
 generalize plainB c = p
 generalize markB c = q
 generalize digC c = d
 generalize chk false r = z
 cases p <;> cases q <;> cases d <;> cases z <;> rfl

theorem cut_any (l : List UInt8) (c : UInt8) (hl : l.length ≤ 1000000000) (w : World) (hG : G w) :
  Calls Tryz.prog 157 #[.string ⟨l.toArray⟩, .string ⟨#[c]⟩] w fun e w' => e = .returned (.tuple #[.string ⟨(cut1 c l).1.toArray⟩, .string ⟨(cut1 c l).2.1.toArray⟩, .bool (cut1 c l).2.2]) ∧ Below w.heap.size w w' := by
 obtain ⟨m, hm⟩ := hG.ml
 have := Tryz.strings_Cut ⟨l.toArray⟩ ⟨#[c]⟩ m w (by rw [bsize]; omega) hm
 have e3 : (⟨l.toArray⟩ : ByteArray).data.toList = l := rfl
 have e4 : (⟨#[c]⟩ : ByteArray).data.toList = [c] := rfl
 rw [e3, e4, cut_one] at this
 exact this.mono fun e w' ⟨he, n, hw⟩ => ⟨he, by rw [hw]; exact below_drewN (Below.refl _ _) n⟩

theorem among_mark (c : UInt8) (w : World) (t : TypeId) :
  Calls Tryz.prog 229 #[.int .u8 c.toNat, .slice (some ⟨w.heap.size, 0, none⟩) 1 1] (w.alloc (.cells #[.string ⟨#[43, 45, 46]⟩] t)) fun e w' => e = .returned (.bool (markB c)) ∧ (w.alloc (.cells #[.string ⟨#[43, 45, 46]⟩] t)) = w' := by
 have h := among_any c [[43, 45, 46]] w.heap.size 1 (w.alloc (.cells #[.string ⟨#[43, 45, 46]⟩] t)) (by decide) (by
  intro j hj
  have hj2 : j < 1 := hj
  match j, hj2 with
  | 0, _ => simp) (by decide)
 have e : amongB [[43, 45, 46]] c = markB c := by simp [amongB, markB]
 rw [e] at h
 exact h

theorem scheme_any (l : List UInt8) (hl : l.length ≤ 1000000000) (w : World) (hG : G w) :
  Calls Tryz.prog 156 #[.string ⟨l.toArray⟩] w fun e w' => e = .returned (.tuple #[.string ⟨(schT l (sch true l)).toArray⟩, .bool (sch true l).isSome]) ∧ Below w.heap.size w w' := by
 have hcut := cut_any l 58 hl w hG
 have hv := sch_cut l true
 have hsp := cut1_spec 58 l
 have hle := (cut1_le 58 l).1
 generalize sch true l = v at *
 obtain ⟨h, t, ok, hcc⟩ : ∃ h t ok, cut1 58 l = (h, t, ok) := ⟨_, _, _, rfl⟩
 rw [hcc] at hcut hv hsp hle
 clear hcc
 dsimp only at hcut hv hsp hle
 cases ok
 ·have HZ : Hid (v = none) := Lib.hid (by rw [hv]; rfl)
  clear hv hsp
  go_enter Tryz.func156, Tryz.ntmps156
  go_wp2_with fail
  refine hcut.mono ?_
  rintro e w' ⟨rfl, hB⟩
  clear hcut
  go_wp2_with fail
  go_ret2
  exact ⟨ret_sch _ _ _ _ (by rw [HZ.out]; rfl) (by rw [HZ.out]; rfl), hB⟩
 ·have hlt : l.take h.length = h := by
   rcases hsp with ⟨_, e, _⟩ | ⟨e, _⟩
   ·rw [e]; simp
   ·cases e
  have HT := Lib.hid hlt
  clear hlt hsp
  cases h with
  | nil =>
   have HZ : Hid (v = none) := Lib.hid (by rw [hv]; rfl)
   clear hv
   go_enter Tryz.func156, Tryz.ntmps156
   go_wp2_with fail
   refine hcut.mono ?_
   rintro e w' ⟨rfl, hB⟩
   clear hcut
   go_wp2_with fail
   go_ret2
   exact ⟨ret_sch _ _ _ _ (by rw [HZ.out]; rfl) (by rw [HZ.out]; rfl), hB⟩
  | cons c r =>
   rw [chk_true, Bool.true_and] at hv
   have hidx : ∀ h', (⟨(c :: r).toArray⟩ : ByteArray)[0]'h' = c := fun _ => rfl
   have hp := fun wx => plain_any c wx
   have hpl : plainB c = true → 48 ≤ c.toNat := by
    intro g
    unfold plainB at g
    rcases plain_ways c.toNat with ⟨h1, h⟩ | ⟨h1, h2, h⟩ | ⟨h1, h2, h⟩ | ⟨h1, h2, h⟩ | ⟨h1, h2, h⟩ | ⟨h1, h2, h⟩ | ⟨h1, h⟩ <;> first | omega | (rw [h] at g; cases g)
   have hw := dig_ways c
   have hlt8 := c.toNat_lt
   have hpv := hp
   have hloop : ∀ j (hj : j < (c :: r).length), True := fun _ _ => trivial
   clear hloop
   cases hpc : plainB c
   ·rw [hpc] at hp hv
    have HZ : Hid (v = none) := Lib.hid (by rw [hv]; rfl)
    clear hv hpv hpc hpl hw
    go_enter Tryz.func156, Tryz.ntmps156
    go_wp2_with fail
    refine hcut.mono ?_
    rintro e w' ⟨rfl, hB⟩
    clear hcut
    go_wp2_with fail
    refine (hp w').mono ?_
    rintro e w' ⟨rfl, rfl⟩
    go_wp2_with fail
    go_ret2
    exact ⟨ret_sch _ _ _ _ (by rw [HZ.out]; rfl) (by rw [HZ.out]; rfl), hB⟩
   ·have g48 := hpl hpc
    rw [hpc] at hp hv
    by_cases g57 : c.toNat ≤ 57
    ·have hdg : digC c = true := by
      rcases hw with ⟨h1, _⟩ | ⟨_, _, h⟩ | ⟨h1, _⟩ <;> first | exact h | omega
     rw [hdg] at hv
     have HZ : Hid (v = none) := Lib.hid (by rw [hv]; rfl)
     clear hv hpv hpc hpl hw hdg
     go_enter Tryz.func156, Tryz.ntmps156
     go_wp2_with fail
     refine hcut.mono ?_
     rintro e w' ⟨rfl, hB⟩
     clear hcut
     go_wp2_with fail
     refine (hp w').mono ?_
     rintro e w' ⟨rfl, rfl⟩
     go_wp2_with fail
     go_ret2
     exact ⟨ret_sch _ _ _ _ (by rw [HZ.out]; rfl) (by rw [HZ.out]; rfl), hB⟩
    ·have hdg : digC c = false := by
      rcases hw with ⟨_, h⟩ | ⟨_, h1, _⟩ | ⟨_, h⟩ <;> first | exact h | omega
     rw [hdg] at hv
     have HV : Hid (v = if chk false (c :: r) = true then some (c :: r).length else none) := Lib.hid (by rw [hv]; simp only [Bool.not_false, Bool.and_true, Bool.true_and])
     clear hv hpv hpc hpl hw hdg
     obtain ⟨hd, hhd⟩ : ∃ hd, hd = c :: r := ⟨_, rfl⟩
     have HH := Lib.hid hhd
     have hne : 0 < hd.length := by rw [hhd]; simp
     rw [← hhd] at hcut hle HT HV hidx
     clear hhd
     go_enter Tryz.func156, Tryz.ntmps156
     go_wp2_with fail
     refine hcut.mono ?_
     rintro e w' ⟨rfl, hB⟩
     clear hcut
     have hne2 : ¬ hd = [] := by rw [HH.out]; simp
     have hemp : hd.isEmpty = false := by rw [HH.out]; rfl
     go_wp2_with fail
     refine (hp w').mono ?_
     rintro e w' ⟨rfl, rfl⟩
     clear hp
     go_wp2_with fail
     clear hidx hemp
     go_loopw [33] (fun s wr => ∃ k : Nat, s = .int .i64 k ∧ k ≤ hd.length ∧ Hid (v = if chk false (hd.drop k) = true then some hd.length else none) ∧ Below w.heap.size w wr) (fun s _ => hd.length - (RowKit.intOf s).toNat)
     case atStart => exact ⟨0, rfl, by omega, HV, hB⟩
     case round =>
      obtain ⟨k, rfl, hk, hh, hb⟩ := hrel
      clear HV hne hne2 hB g48 g57 hlt8
      by_cases hlt : k < hd.length
      ·obtain ⟨c2, r2, hd1, hd2, hidx⟩ := byte_at hd k hlt
       have hx := hh.out
       rw [hd1] at hx
       simp only [chk, Bool.not_false, Bool.true_or, Bool.and_true] at hx
       rw [← hd2] at hx
       have hlt8 := c2.toNat_lt
       have hp := plain_any c2 wr
       have ham := fun t => among_mark c2 wr t
       clear hd1 hd2 hh
       cases hpc : plainB c2
       ·rw [hpc] at hp hx
        cases hmc : markB c2
        ·rw [hmc] at ham hx
         have HZ : Hid (v = none) := Lib.hid (by rw [hx]; rfl)
         clear hx hpc hmc
         have hB2 := hb.alloc (by simpa using hb.size) (.cells #[.string ⟨#[43, 45, 46]⟩] 9)
         go_wp2_with fail
         refine hp.mono ?_
         rintro e w' ⟨rfl, rfl⟩
         go_wp2_with fail
         refine (ham _).mono ?_
         rintro e w' ⟨rfl, rfl⟩
         go_wp2_with fail
         go_ret2
         exact ⟨ret_sch _ _ _ _ (by rw [HZ.out]; rfl) (by rw [HZ.out]; rfl), hB2⟩
        ·rw [hmc] at ham hx
         have HZ : Hid (v = if chk false (hd.drop (k + 1)) = true then some hd.length else none) := Lib.hid (by rw [hx]; simp only [Bool.or_true, Bool.true_and])
         clear hx hpc hmc
         have hB2 := hb.alloc (by simpa using hb.size) (.cells #[.string ⟨#[43, 45, 46]⟩] 9)
         go_wp2_with fail
         refine hp.mono ?_
         rintro e w' ⟨rfl, rfl⟩
         go_wp2_with fail
         refine (ham _).mono ?_
         rintro e w' ⟨rfl, rfl⟩
         go_wp2_with fail
         go_roundw
         case rel => exact ⟨k + 1, by go_num, by omega, HZ, hB2⟩
         case measure => simp [RowKit.intOf]; omega
       ·rw [hpc] at hp hx
        have HZ : Hid (v = if chk false (hd.drop (k + 1)) = true then some hd.length else none) := Lib.hid (by rw [hx]; simp only [Bool.true_or, Bool.true_and])
        clear hx hpc
        go_wp2_with fail
        refine hp.mono ?_
        rintro e w' ⟨rfl, rfl⟩
        go_wp2_with fail
        go_roundw
        case rel => exact ⟨k + 1, by go_num, by omega, HZ, hb⟩
        case measure => simp [RowKit.intOf]; omega
      ·have HZ : Hid (v = some hd.length) := Lib.hid (by rw [hh.out, List.drop_eq_nil_of_le (by omega)]; rfl)
       have hlow := tlower_any hd (by omega) wr
       clear hh
       go_wp2_with fail
       refine hlow.mono ?_
       rintro e w2 ⟨rfl, hb2⟩
       clear hlow
       go_wp2_with fail
       go_ret2
       exact ⟨ret_sch _ _ _ _ (by rw [HZ.out]; show lowS hd = lowS (l.take hd.length); rw [HT.out]) (by rw [HZ.out]; rfl), below_trans hb hb2⟩
end Go.Proofs.YtkhlfggnjcbniaaGreatDoor.link
