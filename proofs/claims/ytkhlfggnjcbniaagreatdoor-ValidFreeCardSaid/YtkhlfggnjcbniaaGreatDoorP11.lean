/- A part of the proofs: lemmas and contracts. -/
import Derived.Test.YtkhlfggnjcbniaaGreatDoorP9
set_option maxHeartbeats 12800000
set_option maxRecDepth 1000000
namespace Go.Proofs.YtkhlfggnjcbniaaGreatDoor.link
open Go.ChangeShapes Go.WideShapes Go.ChangeAt Go.RowKit Go.Lib str

def chk : Bool → List UInt8 → Bool
 | first, [] => !first
 | first, c :: r => (plainB c || markB c) && (!first || (plainB c && !digC c)) && chk false r

theorem sch_cut (l : List UInt8) : ∀ first, sch first l = if (cut1 58 l).2.2 && chk first (cut1 58 l).1 then some (cut1 58 l).1.length else none := by
 induction l with
 | nil => intro first; rfl
 | cons c r ih =>
  intro first
  by_cases h : c = 58
  ·subst h
   rw [sch_colon]
   cases first <;> rfl
  ·rw [sch_cons _ c r h, ih false]
   have e : cut1 58 (c :: r) = (c :: (cut1 58 r).1, (cut1 58 r).2.1, (cut1 58 r).2.2) := by rw [cut1, if_neg h]
   rw [e]
   simp only [chk]
   have key : ∀ (x y z : Bool) (n : Nat), (if x = true then Option.map (· + 1) (if (y && z) = true then some n else none) else none) = if (y && (x && z)) = true then some (n + 1) else none := by
    intro x y z n
    cases x <;> cases y <;> cases z <;> rfl
   exact key _ _ _ _

theorem chk_true (c : UInt8) (r : List UInt8) : chk true (c :: r) = ((plainB c && !digC c) && chk false (c :: r)) := by
 simp only [chk]
 generalize plainB c = p
 generalize markB c = q
 generalize digC c = d
 generalize chk false r = z
 cases p <;> cases q <;> cases d <;> cases z <;> rfl

theorem cut_any (l : List UInt8) (c : UInt8) (hl : l.length ≤ 1000000000) (w : World) (hG : G w) :
  Calls Tryz.prog 157 #[.string ⟨l.toArray⟩, .string ⟨#[c]⟩] w fun e w' => e = .returned (.tuple #[.string ⟨(cut1 c l).1.toArray⟩, .string ⟨(cut1 c l).2.1.toArray⟩, .bool (cut1 c l).2.2]) ∧ Below w.heap.size w w' := by
 obtain ⟨m, hm⟩ := hG.ml
 have := Tryz.strings_Cut ⟨l.toArray⟩ ⟨#[c]⟩ m w (by rw [bsize]; omega) hm
 have e3 : (⟨l.toArray⟩ : ByteArray).data.toList = l := rfl
 have e4 : (⟨#[c]⟩ : ByteArray).data.toList = [c] := rfl
 rw [e3, e4, cut_one] at this
 exact this.mono fun e w' ⟨he, n, hw⟩ => ⟨he, by rw [hw]; exact below_drewN (Below.refl _ _) n⟩

theorem among_mark (c : UInt8) (w : World) (t : TypeId) :
  Calls Tryz.prog 229 #[.int .u8 c.toNat, .slice (some ⟨w.heap.size, 0, none⟩) 1 1] (w.alloc (.cells #[.string ⟨#[43, 45, 46]⟩] t)) fun e w' => e = .returned (.bool (markB c)) ∧ (w.alloc (.cells #[.string ⟨#[43, 45, 46]⟩] t)) = w' := by
 have h := among_any c [[43, 45, 46]] w.heap.size 1 (w.alloc (.cells #[.string ⟨#[43, 45, 46]⟩] t)) (by decide) (by
  intro j hj
  have hj2 : j < 1 := hj
  match j, hj2 with
  | 0, _ => simp) (by decide)
 have e : amongB [[43, 45, 46]] c = markB c := by simp [amongB, markB]
 rw [e] at h
 exact h

theorem scheme_any (l : List UInt8) (hl : l.length ≤ 1000000000) (w : World) (hG : G w) :
  Calls Tryz.prog 156 #[.string ⟨l.toArray⟩] w fun e w' => e = .returned (.tuple #[.string ⟨(schT l (sch true l)).toArray⟩, .bool (sch true l).isSome]) ∧ Below w.heap.size w w' := by
 have hcut := cut_any l 58 hl w hG
 have hv := sch_cut l true
 have hsp := cut1_spec 58 l
 have hle := (cut1_le 58 l).1
 generalize sch true l = v at *
 obtain ⟨h, t, ok, hcc⟩ : ∃ h t ok, cut1 58 l = (h, t, ok) := ⟨_, _, _, rfl⟩
 rw [hcc] at hcut hv hsp hle
 clear hcc
 dsimp only at hcut hv hsp hle
 cases ok
 ·have HZ : Hid (v = none) := Lib.hid (by rw [hv]; rfl)
  clear hv hsp
  go_enter Tryz.func156, Tryz.ntmps156
  go_wp2_with fail
  refine hcut.mono ?_
  rintro e w' ⟨rfl, hB⟩
  clear hcut
  go_wp2_with fail
  go_ret2
  exact ⟨ret_sch _ _ _ _ (by rw [HZ.out]; rfl) (by rw [HZ.out]; rfl), hB⟩
 ·have hlt : l.take h.length = h := by
   rcases hsp with ⟨_, e, _⟩ | ⟨e, _⟩
   ·rw [e]; simp
   ·cases e
  have HT := Lib.hid hlt
  clear hlt hsp
  cases h with
  | nil =>
   have HZ : Hid (v = none) := Lib.hid (by rw [hv]; rfl)
   clear hv
   go_enter Tryz.func156, Tryz.ntmps156
   go_wp2_with fail
   refine hcut.mono ?_
   rintro e w' ⟨rfl, hB⟩
   clear hcut
   go_wp2_with fail
   go_ret2
   exact ⟨ret_sch _ _ _ _ (by rw [HZ.out]; rfl) (by rw [HZ.out]; rfl), hB⟩
  | cons c r =>
   rw [chk_true, Bool.true_and] at hv
   have hidx : ∀ h', (⟨(c :: r).toArray⟩ : ByteArray)[0]'h' = c := fun _ => rfl
   have hp := fun wx => plain_any c wx
   have hpl : plainB c = true → 48 ≤ c.toNat := by
    intro g
    unfold plainB at g
    rcases plain_ways c.toNat with ⟨h1, h⟩ | ⟨h1, h2, h⟩ | ⟨h1, h2, h⟩ | ⟨h1, h2, h⟩ | ⟨h1, h2, h⟩ | ⟨h1, h2, h⟩ | ⟨h1, h⟩ <;> first | omega | (rw [h] at g; cases g)
   have hw := dig_ways c
   have hlt8 := c.toNat_lt
   have hpv := hp
   have hloop : ∀ j (hj : j < (c :: r).length), True := fun _ _ => trivial
   clear hloop
   cases hpc : plainB c
   ·rw [hpc] at hp hv
    have HZ : Hid (v = none) := Lib.hid (by rw [hv]; rfl)
    clear hv hpv hpc hpl hw
    go_enter Tryz.func156, Tryz.ntmps156
    go_wp2_with fail
    refine hcut.mono ?_
    rintro e w' ⟨rfl, hB⟩
    clear hcut
    go_wp2_with fail
    refine (hp w').mono ?_
    rintro e w' ⟨rfl, rfl⟩
    go_wp2_with fail
    go_ret2
    exact ⟨ret_sch _ _ _ _ (by rw [HZ.out]; rfl) (by rw [HZ.out]; rfl), hB⟩
   ·have g48 := hpl hpc
    rw [hpc] at hp hv
    by_cases g57 : c.toNat ≤ 57
    ·have hdg : digC c = true := by
      rcases hw with ⟨h1, _⟩ | ⟨_, _, h⟩ | ⟨h1, _⟩ <;> first | exact h | omega
     rw [hdg] at hv
     have HZ : Hid (v = none) := Lib.hid (by rw [hv]; rfl)
     clear hv hpv hpc hpl hw hdg
     go_enter Tryz.func156, Tryz.ntmps156
     go_wp2_with fail
     refine hcut.mono ?_
     rintro e w' ⟨rfl, hB⟩
     clear hcut
     go_wp2_with fail
     refine (hp w').mono ?_
     rintro e w' ⟨rfl, rfl⟩
     go_wp2_with fail
     go_ret2
     exact ⟨ret_sch _ _ _ _ (by rw [HZ.out]; rfl) (by rw [HZ.out]; rfl), hB⟩
    ·have hdg : digC c = false := by
      rcases hw with ⟨_, h⟩ | ⟨_, h1, _⟩ | ⟨_, h⟩ <;> first | exact h | omega
     rw [hdg] at hv
     have HV : Hid (v = if chk false (c :: r) = true then some (c :: r).length else none) := Lib.hid (by rw [hv]; simp only [Bool.not_false, Bool.and_true, Bool.true_and])
     clear hv hpv hpc hpl hw hdg
     obtain ⟨hd, hhd⟩ : ∃ hd, hd = c :: r := ⟨_, rfl⟩
     have HH := Lib.hid hhd
     have hne : 0 < hd.length := by rw [hhd]; simp
     rw [← hhd] at hcut hle HT HV hidx
     clear hhd
     go_enter Tryz.func156, Tryz.ntmps156
     go_wp2_with fail
     refine hcut.mono ?_
     rintro e w' ⟨rfl, hB⟩
     clear hcut
     have hne2 : ¬ hd = [] := by rw [HH.out]; simp
     have hemp : hd.isEmpty = false := by rw [HH.out]; rfl
     go_wp2_with fail
     refine (hp w').mono ?_
     rintro e w' ⟨rfl, rfl⟩
     clear hp
     go_wp2_with fail
     clear hidx hemp
     go_loopw [33] (fun s wr => ∃ k : Nat, s = .int .i64 k ∧ k ≤ hd.length ∧ Hid (v = if chk false (hd.drop k) = true then some hd.length else none) ∧ Below w.heap.size w wr) (fun s _ => hd.length - (RowKit.intOf s).toNat)
     case atStart => exact ⟨0, rfl, by omega, HV, hB⟩
     case round =>
      obtain ⟨k, rfl, hk, hh, hb⟩ := hrel
      clear HV hne hne2 hB g48 g57 hlt8
      by_cases hlt : k < hd.length
      ·obtain ⟨c2, r2, hd1, hd2, hidx⟩ := byte_at hd k hlt
       have hx := hh.out
       rw [hd1] at hx
       simp only [chk, Bool.not_false, Bool.true_or, Bool.and_true] at hx
       rw [← hd2] at hx
       have hlt8 := c2.toNat_lt
       have hp := plain_any c2 wr
       have ham := fun t => among_mark c2 wr t
       clear hd1 hd2 hh
       cases hpc : plainB c2
       ·rw [hpc] at hp hx
        cases hmc : markB c2
        ·rw [hmc] at ham hx
         have HZ : Hid (v = none) := Lib.hid (by rw [hx]; rfl)
         clear hx hpc hmc
         have hB2 := hb.alloc (by simpa using hb.size) (.cells #[.string ⟨#[43, 45, 46]⟩] 9)
         go_wp2_with fail
         refine hp.mono ?_
         rintro e w' ⟨rfl, rfl⟩
         go_wp2_with fail
         refine (ham _).mono ?_
         rintro e w' ⟨rfl, rfl⟩
         go_wp2_with fail
         go_ret2
         exact ⟨ret_sch _ _ _ _ (by rw [HZ.out]; rfl) (by rw [HZ.out]; rfl), hB2⟩
        ·rw [hmc] at ham hx
         have HZ : Hid (v = if chk false (hd.drop (k + 1)) = true then some hd.length else none) := Lib.hid (by rw [hx]; simp only [Bool.or_true, Bool.true_and])
         clear hx hpc hmc
         have hB2 := hb.alloc (by simpa using hb.size) (.cells #[.string ⟨#[43, 45, 46]⟩] 9)
         go_wp2_with fail
         refine hp.mono ?_
         rintro e w' ⟨rfl, rfl⟩
         go_wp2_with fail
         refine (ham _).mono ?_
         rintro e w' ⟨rfl, rfl⟩
         go_wp2_with fail
         go_roundw
         case rel => exact ⟨k + 1, by go_num, by omega, HZ, hB2⟩
         case measure => simp [RowKit.intOf]; omega
       ·rw [hpc] at hp hx
        have HZ : Hid (v = if chk false (hd.drop (k + 1)) = true then some hd.length else none) := Lib.hid (by rw [hx]; simp only [Bool.true_or, Bool.true_and])
        clear hx hpc
        go_wp2_with fail
        refine hp.mono ?_
        rintro e w' ⟨rfl, rfl⟩
        go_wp2_with fail
        go_roundw
        case rel => exact ⟨k + 1, by go_num, by omega, HZ, hb⟩
        case measure => simp [RowKit.intOf]; omega
      ·have HZ : Hid (v = some hd.length) := Lib.hid (by rw [hh.out, List.drop_eq_nil_of_le (by omega)]; rfl)
       have hlow := tlower_any hd (by omega) wr
       clear hh
       go_wp2_with fail
       refine hlow.mono ?_
       rintro e w2 ⟨rfl, hb2⟩
       clear hlow
       go_wp2_with fail
       go_ret2
       exact ⟨ret_sch _ _ _ _ (by rw [HZ.out]; show lowS hd = lowS (l.take hd.length); rw [HT.out]) (by rw [HZ.out]; rfl), below_trans hb hb2⟩

def lastB (c : UInt8) : List UInt8 → Option Nat
 | [] => none
 | b :: r => match lastB c r with
  | some k => some (k + 1)
  | none => if b = c then some 0 else none
def optI : Option Nat → Int
 | none => -1
 | some k => k

theorem lastB_snoc (c b : UInt8) (a : List UInt8) : lastB c (a ++ [b]) = if b = c then some a.length else lastB c a := by
 induction a with
 | nil => rfl
 | cons x r ih =>
  rw [List.cons_append, lastB, ih]
  by_cases h : b = c
  ·rw [if_pos h, if_pos h]; rfl
  ·rw [if_neg h, if_neg h]; rfl

theorem lastB_spec (c : UInt8) (l : List UInt8) : (lastB c l = none ∧ c ∉ l) ∨ ∃ k, lastB c l = some k ∧ k < l.length ∧ l[k]? = some c ∧ c ∉ l.drop (k + 1) := by
 induction l with
 | nil => left; exact ⟨rfl, by simp⟩
 | cons b r ih =>
  rcases ih with ⟨h1, h2⟩ | ⟨k, h1, h2, h3, h4⟩
  ·rw [lastB, h1]
   by_cases h : b = c
   ·right; exact ⟨0, by simp [h], by simp, by simp [h], by simpa using h2⟩
   ·left; refine ⟨by simp [h], ?_⟩
    simp only [List.mem_cons, not_or]; exact ⟨fun e => h e.symm, h2⟩
  ·right
   rw [lastB, h1]
   exact ⟨k + 1, rfl, by simp; omega, by simpa using h3, by simpa using h4⟩

theorem optI_ge (o : Option Nat) : -1 ≤ optI o := by
 cases o with
 | none => decide
 | some k => show (-1 : Int) ≤ k; omega

theorem byte_data (l : List UInt8) (k : Nat) (h : k < l.length) : (⟨l.toArray⟩ : ByteArray).data[k]! = l[k] := by
 show l.toArray[k]! = _
 rw [getElem!_pos _ _ (by simpa using h)]
 simp

theorem lastIdx_lastB (c : UInt8) (l : List UInt8) : ∀ k, k ≤ l.length → Lib.lastIdx ⟨l.toArray⟩ c.toNat k = optI (lastB c (l.take k)) := by
 intro k
 induction k with
 | zero => intro _; simp [Lib.lastIdx, lastB, optI]
 | succ k ih =>
  intro hk
  have hlt : k < l.length := by omega
  rw [Lib.lastIdx, List.take_succ_eq_append_getElem hlt, lastB_snoc, ih (by omega), byte_data l k hlt]
  by_cases h : l[k] = c
  ·rw [if_pos h]; simp [h, optI]; omega
  ·rw [if_neg h, if_neg]
   intro g
   exact h (UInt8.toNat_inj.1 (by omega))

theorem lastidx_any (l : List UInt8) (c : UInt8) (hl : l.length ≤ 1000000000) (w : World) :
  Calls Tryz.prog 235 #[.string ⟨l.toArray⟩, .int .u8 c.toNat] w fun e w' => e = .returned (.int .i64 (optI (lastB c l))) ∧ w = w' := by
 refine (Tryz.strings_LastIndexByte ⟨l.toArray⟩ c.toNat (by rw [bsize]; omega) w).mono ?_
 rintro e w' ⟨rfl, rfl⟩
 refine ⟨ret_int ?_, rfl⟩
 show Lib.lastIdx ⟨l.toArray⟩ c.toNat l.length = _
 rw [lastIdx_lastB c l l.length (Nat.le_refl _), List.take_length]

theorem contains_any (l : List UInt8) (c : UInt8) (w : World) :
  Calls Tryz.prog 236 #[.string ⟨l.toArray⟩, .string ⟨#[c]⟩] w fun e w' => e = .returned (.bool (hasB l c)) ∧ w = w' := by
 refine (Tryz.strings_Contains_one ⟨l.toArray⟩ c w).mono ?_
 rintro e w' ⟨rfl, rfl⟩
 refine ⟨ret_bool ?_, rfl⟩
 show decide (0 ≤ indexByte l c) = _
 rcases index_has l c with ⟨h1, h2⟩ | ⟨h1, h2⟩
 ·rw [h2, decide_eq_true h1]
 ·rw [h2, h1]; rfl

def firstN (c : UInt8) (l : List UInt8) : Nat := (cut1 c l).1.length
theorem firstN_cons (c b : UInt8) (r : List UInt8) : firstN c (b :: r) = if b = c then 0 else firstN c r + 1 := by
 unfold firstN
 rw [cut1]
 by_cases h : b = c
 ·rw [if_pos h, if_pos h]; rfl
 ·rw [if_neg h, if_neg h]; rfl
theorem firstN_le (c : UInt8) (l : List UInt8) : firstN c l ≤ l.length := (cut1_le c l).1


theorem rlast_any (l : List UInt8) (c : UInt8) (hl : l.length ≤ 1000000000) (w : World) :
  Calls Tryz.prog 271 #[.string ⟨l.toArray⟩, .int .u8 c.toNat] w fun e w' => e = .returned (.int .i64 (optI (lastB c l))) ∧ w = w' := by
 obtain ⟨v, hv⟩ : ∃ v, v = optI (lastB c l) := ⟨_, rfl⟩
 rw [← hv]
 have HV : Hid (v = optI (lastB c (l.take l.length))) := Lib.hid (by rw [hv, List.take_length])
 clear hv
 have hc8 := c.toNat_lt
 go_enter Tryz.func271, Tryz.ntmps271
 go_wp2_with fail
 go_loop [5] (fun s => ∃ (k : Nat) (i : Int), s = .int .i64 i ∧ i = (k : Int) - 1 ∧ k ≤ l.length ∧ Hid (v = optI (lastB c (l.take k)))) (fun s => (RowKit.intOf s + 1).toNat)
 case atStart => exact ⟨l.length, _, by go_num, by omega, by omega, HV⟩
 case round =>
  obtain ⟨k, i, rfl, hi, hk, hh⟩ := hrel
  cases k with
  | zero =>
   have HY : Hid (v = -1) := Lib.hid (by rw [hh.out]; rfl)
   have hneg : ¬ 0 ≤ i := by omega
   clear hh hi
   go_wp2_with fail
   go_ret
   exact ⟨ret_int HY.out.symm, rfl⟩
  | succ k =>
   obtain rfl : i = (k : Int) := by omega
   have hlt : k < l.length := by omega
   obtain ⟨b, rest, hd1, hd2, hidx⟩ := byte_at l k hlt
   have hb : l[k] = b := by
    have := List.drop_eq_getElem_cons hlt
    rw [hd1] at this
    exact (List.cons.inj this).1.symm
   have hx := hh.out
   rw [List.take_succ_eq_append_getElem hlt, lastB_snoc, hb, List.length_take, Nat.min_eq_left (by omega)] at hx
   have tb : ((b.toNat : Int) == c.toNat) = (b == c) := byteq b c _ rfl
   have hb8 := b.toNat_lt
   by_cases hbc : b = c
   ·rw [if_pos hbc] at hx
    have HY : Hid (v = (k : Int)) := Lib.hid hx
    have tb' : ((b.toNat : Int) == c.toNat) = true := by rw [tb]; simpa using hbc
    clear hx hh hd1 hd2 tb hb hbc hi
    go_wp2_with fail
    go_ret
    exact ⟨ret_int HY.out.symm, rfl⟩
   ·rw [if_neg hbc] at hx
    have HY := Lib.hid hx
    have tb' : ((b.toNat : Int) == c.toNat) = false := by rw [tb]; simpa using hbc
    clear hx hh hd1 hd2 tb hb hbc hi
    go_wp2_with fail
    go_round
    case rel => exact ⟨k, _, by go_num, by go_num, by omega, HY⟩
    case measure => first | (simp [RowKit.intOf]; done) | (simp [RowKit.intOf]; omega)

theorem rfirst_any (l : List UInt8) (c : UInt8) (hl : l.length ≤ 1000000000) (w : World) :
  Calls Tryz.prog 194 #[.string ⟨l.toArray⟩, .int .u8 c.toNat] w fun e w' => e = .returned (.int .i64 (firstN c l : Nat)) ∧ w = w' := by
 obtain ⟨v, hv⟩ : ∃ v, v = firstN c l := ⟨_, rfl⟩
 rw [← hv]
 have HV : Hid (v = 0 + firstN c (l.drop 0)) := Lib.hid (by rw [hv]; simp)
 clear hv
 have hc8 := c.toNat_lt
 go_enter Tryz.func194, Tryz.ntmps194
 go_wp2_with fail
 go_loop [5] (fun s => ∃ (k : Nat), s = .int .i64 k ∧ k ≤ l.length ∧ Hid (v = k + firstN c (l.drop k))) (fun s => l.length - (RowKit.intOf s).toNat)
 case atStart => exact ⟨0, rfl, by omega, HV⟩
 case round =>
  obtain ⟨k, rfl, hk, hh⟩ := hrel
  by_cases hlt : k < l.length
  ·obtain ⟨b, rest, hd1, hd2, hidx⟩ := byte_at l k hlt
   have hx := hh.out
   rw [hd1, firstN_cons, ← hd2] at hx
   have tb : ((b.toNat : Int) == c.toNat) = (b == c) := byteq b c _ rfl
   have hb8 := b.toNat_lt
   by_cases hbc : b = c
   ·rw [if_pos hbc] at hx
    have HY : Hid (v = k) := Lib.hid hx
    have tb' : ((b.toNat : Int) == c.toNat) = true := by rw [tb]; simpa using hbc
    clear hx hh hd1 hd2 tb hbc
    go_wp2_with fail
    go_ret
    exact ⟨ret_int (by rw [HY.out]), rfl⟩
   ·rw [if_neg hbc] at hx
    have HY : Hid (v = (k + 1) + firstN c (l.drop (k + 1))) := Lib.hid (by omega)
    have tb' : ((b.toNat : Int) == c.toNat) = false := by rw [tb]; simpa using hbc
    clear hx hh hd1 hd2 tb hbc
    go_wp2_with fail
    go_round
    case rel => exact ⟨k + 1, by go_num, by omega, HY⟩
    case measure => simp [RowKit.intOf]; omega
  ·have HY : Hid (v = l.length) := Lib.hid (by
    rw [hh.out, List.drop_eq_nil_of_le (by omega)]
    show k + 0 = _
    omega)
   clear hh
   go_wp2_with fail
   go_ret
   exact ⟨ret_int (by rw [HY.out]), rfl⟩
end Go.Proofs.YtkhlfggnjcbniaaGreatDoor.link
