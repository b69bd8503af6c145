/- A part of the proofs: lemmas and contracts. -/
import Derived.Test.YtkhlfggnjcbniaaGreatDoorP32
set_option maxHeartbeats 12800000
set_option maxRecDepth 1000000
namespace Go.Proofs.YtkhlfggnjcbniaaGreatDoor.pat
open Go.ChangeShapes Go.WideShapes Go.ChangeAt Go.RowKit Go.Lib

theorem crune_esc (c : Int) (hc : Rn c) (w : World) : Calls Tryz.prog 252 #[.string ⟨#[92, 94, 36, 46, 42, 43, 63, 40, 41, 91, 93, 123, 125, 124, 47, 45]⟩, .int .i32 c] w fun e w' => e = .returned (.bool (decide (c ∈ escAtom))) ∧ Below w.heap.size w w' :=
 crune_any [92, 94, 36, 46, 42, 43, 63, 40, 41, 91, 93, 123, 125, 124, 47, 45] (by decide) (by decide) c hc w
theorem crune_cls (c : Int) (hc : Rn c) (w : World) : Calls Tryz.prog 252 #[.string ⟨#[92, 91, 93, 94, 45, 47, 46]⟩, .int .i32 c] w fun e w' => e = .returned (.bool (decide (c ∈ ([92, 91, 93, 94, 45, 47, 46] : List Int)))) ∧ Below w.heap.size w w' :=
 crune_any [92, 91, 93, 94, 45, 47, 46] (by decide) (by decide) c hc w
theorem crune_bar (c : Int) (hc : Rn c) (w : World) : Calls Tryz.prog 252 #[.string ⟨#[91, 93, 94, 45]⟩, .int .i32 c] w fun e w' => e = .returned (.bool (decide (c ∈ barCls))) ∧ Below w.heap.size w w' :=
 crune_any [91, 93, 94, 45] (by decide) (by decide) c hc w
theorem crune_atom (c : Int) (hc : Rn c) (w : World) : Calls Tryz.prog 252 #[.string ⟨#[94, 36, 42, 43, 63, 41, 93, 123, 125, 124]⟩, .int .i32 c] w fun e w' => e = .returned (.bool (decide (c ∈ barAtom))) ∧ Below w.heap.size w w' :=
 crune_any [94, 36, 42, 43, 63, 41, 93, 123, 125, 124] (by decide) (by decide) c hc w
theorem runes_ht (s : List UInt8) (h : s ≠ []) : runes s = headC s :: runes (tailB s) := by
 rw [tailB_runes, headC_ne s h, runes_cons s h]; rfl
theorem cls_one {w : World} {lo : Nat} (c : Int) (neg : Bool) (hB : lo ≤ w.heap.size) : AtO 0 ((w.alloc (.cells #[.int .i32 c, .int .i32 c] 233)).alloc (.cells #[.slice (some ⟨w.heap.size, 0, none⟩) 1 1, .bool neg] 231)) (From lo) (clsV (w.heap.size + 1)) (.cls [(c, c)] neg) := by
 have h := sp_new (w := w) (S := From lo) [(c, c)] hB (by show 1 ≤ 1000; decide)
 have := cls_new (sv := .slice (some ⟨w.heap.size, 0, none⟩) 1 1) neg 231 (by rw [World.size_alloc]; exact Nat.le_succ_of_le hB) h 0
 rw [World.size_alloc] at this
 exact this
theorem cls_some {w : World} {lo : Nat} (c : Int) (neg : Bool) (hB : lo ≤ w.heap.size) (hn : (someS c).length ≤ 1000) : AtO 0 ((w.alloc (.cells (spC (someS c)).toArray 233)).alloc (.cells #[.slice (some ⟨w.heap.size, 0, none⟩) (someS c).length (someS c).length, .bool neg] 231)) (From lo) (clsV (w.heap.size + 1)) (.cls (someS c) neg) := by
 have h := sp_new (w := w) (S := From lo) (someS c) hB hn
 have := cls_new (sv := .slice (some ⟨w.heap.size, 0, none⟩) (someS c).length (someS c).length) neg 231 (by rw [World.size_alloc]; exact Nat.le_succ_of_le hB) h 0
 rw [World.size_alloc] at this
 exact this
theorem someS_len (c : Int) : (someS c).length ≤ 1000 := by
 unfold someS
 repeat' split
 all_goals decide
theorem someS_len4 (c : Int) : (someS c).length ≤ 4 := by
 unfold someS
 repeat' split
 all_goals decide
def EscP (B : Nat) (s : List UInt8) (d : Int) (bad : Bool) (w : World) (e : Ending) (w' : World) : Prop :=
 ∃ cb bad', e = .returned (clsV cb) ∧ Rd w B (tailB s) d bad' w' ∧ (bad = true → bad' = true) ∧ (bad = false → (∀ a r1, escR (runes s) = some (a, r1) → bad' = false ∧ runes (tailB s) = r1 ∧ AtO 0 w' (From w.heap.size) (clsV cb) a) ∧ (escR (runes s) = none → bad' = true))
theorem escR_named (c : Int) (r : List Int) (h : named6 c = true) : escR (c :: r) = some (.cls (someS c) (decide (c < 97)), r) := by
 show (if named6 c = true then _ else _) = _
 rw [if_pos h]
theorem escR_one (c : Int) (r : List Int) (h : named6 c = false) (g : c ∈ escAtom) : escR (c :: r) = some (.cls [(c, c)] false, r) := by
 show (if named6 c = true then _ else _) = _
 rw [if_neg (by rw [h]; exact Bool.false_ne_true), if_pos g]
theorem escR_bad (c : Int) (r : List Int) (h : named6 c = false) (g : c ∉ escAtom) : escR (c :: r) = none := by
 show (if named6 c = true then _ else _) = _
 rw [if_neg (by rw [h]; exact Bool.false_ne_true), if_neg g]
theorem escape_any (B : Nat) (s : List UInt8) (d : Int) (bad : Bool) (w : World) (h : RB w B s d bad) (hU : GU w) (hl : s.length ≤ 1000) :
  Calls Tryz.prog 348 #[.pointer (some ⟨B, 0, none⟩)] w (EscP B s d bad w) := by
 have ht := take_any B s d bad w h hU hl
 have hsm := fun w => some_any (headC s) w
 clear h hU hl
 by_cases hs : s = []
 ·subst hs
  go_enter Tryz.func348, Tryz.ntmps348
  go_wp2_with fail
  refine ht.mono ?_
  rintro e w1 ⟨rfl, hr⟩
  clear ht
  go_wp2_with fail
  refine (hsm w1).mono ?_
  rintro e w2 (⟨g, _, _⟩ | ⟨_, rfl, rfl⟩)
  ·exact absurd g (by decide)
  have hr2 := hr.s2 true
  have d2 := hr.rb.c2
  have k2 := hr.rb.frozen 2
  clear hsm
  have hgc : headC [] < 0 := by decide
  go_wp2_with fail
  go_ret
  refine ⟨_, true, rfl, (hr2.below ((Below.refl _ _).alloc (Nat.le_refl _) _)).below ((Below.refl _ _).alloc (Nat.le_refl _) _), fun _ => rfl, fun _ => ⟨fun a r1 e => (by cases e), fun _ => rfl⟩⟩
 ·have hrn := headC_rn s hs
  have HR := Lib.hid (runes_ht s hs)
  have hcr := fun w => crune_esc (headC s) hrn w
  rw [decide_eq_false hs, Bool.or_false] at ht
  have hlen := someS_len (headC s)
  have hneg : ¬ headC s < 0 := by have := hrn.1; omega
  clear hs hrn
  generalize headC s = c at *
  cases hn : named6 c with
  | true =>
   have HX : Hid (escR (c :: runes (tailB s)) = some (.cls (someS c) (decide (c < 97)), runes (tailB s))) := Lib.hid (escR_named c _ hn)
   clear hcr
   go_enter Tryz.func348, Tryz.ntmps348
   go_wp2_with fail
   refine ht.mono ?_
   rintro e w1 ⟨rfl, hr⟩
   clear ht
   go_wp2_with fail
   refine (hsm w1).mono ?_
   rintro e w2 (⟨_, rfl, rfl⟩ | ⟨g, _, _⟩)
   case no => rw [hn] at g; cases g
   clear hsm hn
   go_wp2_with fail
   go_ret
   refine ⟨_, bad, rfl, (hr.below ((Below.refl _ _).alloc (Nat.le_refl _) _)).below ((Below.refl _ _).alloc (Nat.le_refl _) _), id, fun hb => ⟨fun a r1 e => ?_, fun e => ?_⟩⟩
   ·rw [HR.out, HX.out] at e
    cases e
    exact ⟨hb, rfl, cls_some c _ hr.own.size hlen⟩
   ·rw [HR.out, HX.out] at e; cases e
  | false =>
   by_cases hm : c ∈ escAtom
   ·have HX : Hid (escR (c :: runes (tailB s)) = some (.cls [(c, c)] false, runes (tailB s))) := Lib.hid (escR_one c _ hn hm)
    rw [decide_eq_true hm] at hcr
    clear hm
    go_enter Tryz.func348, Tryz.ntmps348
    go_wp2_with fail
    refine ht.mono ?_
    rintro e w1 ⟨rfl, hr⟩
    clear ht
    go_wp2_with fail
    refine (hsm w1).mono ?_
    rintro e w2 (⟨g, _, _⟩ | ⟨_, rfl, rfl⟩)
    ·rw [hn] at g; cases g
    clear hsm hn
    go_wp2_with fail
    refine (hcr _).mono ?_
    rintro e w3 ⟨rfl, hb3⟩
    have hr := hr.below hb3
    go_wp2_with fail
    go_ret
    refine ⟨_, bad, rfl, (hr.below ((Below.refl _ _).alloc (Nat.le_refl _) _)).below ((Below.refl _ _).alloc (Nat.le_refl _) _), id, fun hb => ⟨fun a r1 e => ?_, fun e => ?_⟩⟩
    ·rw [HR.out, HX.out] at e
     cases e
     exact ⟨hb, rfl, cls_one c _ hr.own.size⟩
    ·rw [HR.out, HX.out] at e; cases e
   ·have HX : Hid (escR (c :: runes (tailB s)) = none) := Lib.hid (escR_bad c _ hn hm)
    rw [decide_eq_false hm] at hcr
    clear hm
    go_enter Tryz.func348, Tryz.ntmps348
    go_wp2_with fail
    refine ht.mono ?_
    rintro e w1 ⟨rfl, hr⟩
    clear ht
    go_wp2_with fail
    refine (hsm w1).mono ?_
    rintro e w2 (⟨g, _, _⟩ | ⟨_, rfl, rfl⟩)
    ·rw [hn] at g; cases g
    clear hsm hn
    go_wp2_with fail
    refine (hcr _).mono ?_
    rintro e w3 ⟨rfl, hb3⟩
    have hr := hr.below hb3
    have hr2 := hr.s2 true
    have d2 := hr.rb.c2
    have k2 := hr.rb.frozen 2
    go_wp2_with fail
    go_ret
    refine ⟨_, true, rfl, (hr2.below ((Below.refl _ _).alloc (Nat.le_refl _) _)).below ((Below.refl _ _).alloc (Nat.le_refl _) _), fun _ => rfl, fun hb => ⟨fun a r1 e => ?_, fun _ => rfl⟩⟩
    rw [HR.out, HX.out] at e; cases e

structure GUB (w : World) (B : Nat) : Prop where
 u : GU w
 b1 : 2 < B
 b2 : 3 < B
theorem GUB.kept {w w' : World} {B : Nat} (h : GUB w B) (hg : w.grownBy w' (some B)) : GUB w' B := by
 refine ⟨⟨fun c hc => ?_, fun i hi => ⟨?_, ?_⟩⟩, h.b1, h.b2⟩
 ·exact hg.cell (h.u.u8.1 c hc) (fun e => by have := h.b1; have := Option.some.inj e; dsimp only at this; omega)
 ·exact hg.cell (h.u.u8.2 i hi).1 (fun e => by have := h.b2; have := Option.some.inj e; dsimp only at this; omega)
 ·exact hg.cell (h.u.u8.2 i hi).2 (fun e => by have := h.b2; have := Option.some.inj e; dsimp only at this; omega)
theorem isgn_bar (c : Int) (r : List Int) (h : c ≠ 92) (g : c ∈ barCls) : itemSign (c :: r) = none := by unfold itemSign; dsimp only; rw [if_neg h, if_pos g]
theorem isgn_one (c : Int) (r : List Int) (h : c ≠ 92) (g : c ∉ barCls) : itemSign (c :: r) = some (c, false, r) := by unfold itemSign; dsimp only; rw [if_neg h, if_neg g]
theorem isgn_esc (d : Int) (r : List Int) (g : d ∈ escCls) : itemSign (92 :: d :: r) = some (d, named3 d, r) := by unfold itemSign; dsimp only; rw [if_pos rfl, if_pos g]
theorem isgn_no (d : Int) (r : List Int) (g : d ∉ escCls) : itemSign (92 :: d :: r) = none := by unfold itemSign; dsimp only; rw [if_pos rfl, if_neg g]
def esc7 : List Int := [92, 91, 93, 94, 45, 47, 46]
theorem esc7_mem (d : Int) : d ∈ escCls ↔ d ∈ esc7 ∨ named3 d = true := by
 unfold escCls esc7 named3
 simp only [List.mem_cons, List.not_mem_nil, or_false, Bool.or_eq_true, beq_iff_eq]
 omega
theorem someS_ne {c : Int} (h : named6 c = true) : someS c ≠ [] := by
 unfold named6 named3 at h
 simp only [Bool.or_eq_true, beq_iff_eq] at h
 unfold someS
 split
 ·exact List.cons_ne_nil _ _
 split
 ·exact List.cons_ne_nil _ _
 split
 ·exact List.cons_ne_nil _ _
 ·omega
structure SgnP (B : Nat) (s : List UInt8) (d : Int) (bad : Bool) (w : World) (sb : Nat) (sp : List (Int × Int)) (one : Bool) (s' : List UInt8) (bad' : Bool) (w' : World) : Prop where
 rd : Rd w B s' d bad' w'
 ne : sp ≠ []
 len : sp.length ≤ 4
 new : w.heap.size ≤ sb
 blk : Blk w' sb (spC sp)
 le : s'.length ≤ s.length ∧ (bad' = false → s'.length < s.length)
 stay : bad = true → bad' = true
 good : bad = false → ∀ c nm r1, itemSign (runes s) = some (c, nm, r1) → bad' = false ∧ runes s' = r1 ∧ one = !nm ∧ sp = if nm then someS c else [(c, c)]
 none : bad = false → itemSign (runes s) = none → bad' = true
def SgnE (B : Nat) (s : List UInt8) (d : Int) (bad : Bool) (w : World) (e : Ending) (w' : World) : Prop :=
 ∃ sb sp one s' bad', e = .returned (.tuple #[.slice (some ⟨sb, 0, none⟩) sp.length sp.length, .bool one]) ∧ SgnP B s d bad w sb sp one s' bad' w'
theorem sgn_one {w w1 : World} {B : Nat} {s' : List UInt8} {d : Int} {bad' : Bool} (c : Int) (hr : Rd w B s' d bad' w1) : Rd w B s' d bad' (w1.alloc (.cells #[.int .i32 c, .int .i32 c] 233)) ∧ [(c, c)] ≠ [] ∧ [(c, c)].length ≤ 4 ∧ w.heap.size ≤ w1.heap.size ∧ Blk (w1.alloc (.cells #[.int .i32 c, .int .i32 c] 233)) w1.heap.size (spC [(c, c)]) :=
 ⟨hr.below ((Below.refl _ _).alloc (Nat.le_refl _) _), List.cons_ne_nil _ _, by show 1 ≤ 4; decide, hr.own.size, Blk.fresh w1 _ _⟩
theorem sign_any (B : Nat) (s : List UInt8) (d : Int) (bad : Bool) (w : World) (h : RB w B s d bad) (hU : GUB w B) (hl : s.length ≤ 1000) :
  Calls Tryz.prog 362 #[.pointer (some ⟨B, 0, none⟩)] w (SgnE B s d bad w) := by
 have ht := take_any B s d bad w h hU.u hl
 have hl2 : (tailB s).length ≤ 1000 := Nat.le_trans (tailB_len s) hl
 have HT := Lib.hid (fun w1 b1 (h1 : RB w1 B (tailB s) d b1) (hU1 : GU w1) => take_any B (tailB s) d b1 w1 h1 hU1 hl2)
 have HLe := Lib.hid (tailB_len s)
 have HLe2 := Lib.hid (tailB_len (tailB s))
 have HB : Hid (∀ w1, w.grownBy w1 (some B) → GU w1) := Lib.hid (fun w1 hg => (hU.kept hg).u)
 clear hl hl2 hU
 by_cases hs : s = []
 ·subst hs
  clear HT HB h
  go_enter Tryz.func362, Tryz.ntmps362
  go_wp2_with fail
  refine ht.mono ?_
  rintro e w1 ⟨rfl, hr⟩
  clear ht
  have hr2 := hr.s2 true
  have d2 := hr.rb.c2
  have k2 := hr.rb.frozen 2
  have e1 : (headC [] == 92) = false := rfl
  have hgc : headC [] < 0 := by decide
  go_wp2_with fail
  go_ret2
  obtain ⟨a1, a2, a3, a4, a5⟩ := sgn_one (headC []) hr2
  exact ⟨_, [(headC [], headC [])], _, _, true, rfl, a1, a2, a3, by simpa using a4, by simpa using a5, ⟨Nat.le_refl _, fun g => (by cases g)⟩, fun _ => rfl, fun _ c nm r1 e => (by cases e), fun _ _ => rfl⟩
 have hrn := headC_rn s hs
 have HLt := Lib.hid (tailB_lt s hs)
 have HR := Lib.hid (runes_ht s hs)
 rw [decide_eq_false hs, Bool.or_false] at ht
 have hneg : ¬ headC s < 0 := by have := hrn.1; omega
 clear h
 by_cases g92 : headC s = 92
 case neg =>
  have hcr := fun w => crune_bar (headC s) hrn w
  have e1 : (headC s == 92) = false := by simpa using g92
  clear HT HB hs hrn
  generalize headC s = c at *
  by_cases hm : c ∈ barCls
  ·have HX : Hid (itemSign (c :: runes (tailB s)) = none) := Lib.hid (isgn_bar c _ g92 hm)
   rw [decide_eq_true hm] at hcr
   clear hm g92
   go_enter Tryz.func362, Tryz.ntmps362
   go_wp2_with fail
   refine ht.mono ?_
   rintro e w1 ⟨rfl, hr⟩
   clear ht
   go_wp2_with fail
   refine (hcr _).mono ?_
   rintro e w2 ⟨rfl, hb2⟩
   have hr := hr.below hb2
   have hr2 := hr.s2 true
   have d2 := hr.rb.c2
   have k2 := hr.rb.frozen 2
   go_wp2_with fail
   go_ret2
   obtain ⟨a1, a2, a3, a4, a5⟩ := sgn_one c hr2
   exact ⟨_, [(c, c)], _, _, true, rfl, a1, a2, a3, by simpa using a4, by simpa using a5, ⟨HLe.out, fun g => (by cases g)⟩, fun _ => rfl, fun _ c nm r1 e => (by rw [HR.out, HX.out] at e; cases e), fun _ _ => rfl⟩
  ·have HX : Hid (itemSign (c :: runes (tailB s)) = some (c, false, runes (tailB s))) := Lib.hid (isgn_one c _ g92 hm)
   rw [decide_eq_false hm] at hcr
   clear hm g92
   go_enter Tryz.func362, Tryz.ntmps362
   go_wp2_with fail
   refine ht.mono ?_
   rintro e w1 ⟨rfl, hr⟩
   clear ht
   go_wp2_with fail
   refine (hcr _).mono ?_
   rintro e w2 ⟨rfl, hb2⟩
   have hr := hr.below hb2
   go_wp2_with fail
   go_ret2
   obtain ⟨a1, a2, a3, a4, a5⟩ := sgn_one c hr
   exact ⟨_, [(c, c)], _, _, bad, rfl, a1, a2, a3, by simpa using a4, by simpa using a5, ⟨HLe.out, fun _ => HLt.out⟩, id, fun hb c nm r1 e => (by rw [HR.out, HX.out] at e; cases e; exact ⟨hb, rfl, rfl, rfl⟩), fun _ e => (by rw [HR.out, HX.out] at e; cases e)⟩
 rw [g92] at ht HR
 clear hneg hrn g92 hs
 by_cases hs2 : tailB s = []
 ·have HX : Hid (itemSign (runes s) = none) := Lib.hid (by rw [HR.out, hs2]; rfl)
  have HT2 : Hid (tailB s = []) := Lib.hid hs2
  rw [hs2] at HT
  have e1 : (headC [] == 100) = false := rfl
  have e2 : (headC [] == 119) = false := rfl
  have e3 : (headC [] == 115) = false := rfl
  have hgc : headC [] < 0 := by decide
  clear hs2
  go_enter Tryz.func362, Tryz.ntmps362
  go_wp2_with fail
  refine ht.mono ?_
  rintro e w1 ⟨rfl, hr⟩
  clear ht
  rw [HT2.out] at hr
  go_wp2_with fail
  refine (HT.out w1 _ hr.rb (HB.out w1 hr.own)).mono ?_
  rintro e w2 ⟨rfl, hr'⟩
  have hr2 := (hr.trans hr').s2 true
  have d2 := hr'.rb.c2
  have k2 := hr'.rb.frozen 2
  clear HT HB
  go_wp2_with fail
  go_ret2
  obtain ⟨a1, a2, a3, a4, a5⟩ := sgn_one (headC []) hr2
  exact ⟨_, [(headC [], headC [])], _, _, true, rfl, a1, a2, a3, by simpa using a4, by simpa using a5, ⟨Nat.zero_le _, fun g => (by cases g)⟩, fun _ => rfl, fun _ c nm r1 e => (by rw [HX.out] at e; cases e), fun _ _ => rfl⟩
 have hrn := headC_rn (tailB s) hs2
 have HR2 : Hid (runes s = 92 :: headC (tailB s) :: runes (tailB (tailB s))) := Lib.hid (by rw [HR.out, runes_ht _ hs2])
 have hcr := fun w => crune_cls (headC (tailB s)) hrn w
 have hsm := fun w => some_any (headC (tailB s)) w
 rw [decide_eq_false hs2] at HT
 have hneg : ¬ headC (tailB s) < 0 := by have := hrn.1; omega
 have HLL : Hid ((tailB (tailB s)).length < s.length) := Lib.hid (Nat.lt_of_le_of_lt HLe2.out HLt.out)
 clear hs2 hrn HR HLe HLe2
 generalize headC (tailB s) = c at *
 generalize tailB (tailB s) = s2 at *
 by_cases h3 : c = 100 ∨ c = 119 ∨ c = 115
 ·clear hcr hneg
  have HX : Hid (itemSign (92 :: c :: runes s2) = some (c, true, runes s2)) := Lib.hid (by rcases h3 with rfl | rfl | rfl <;> exact isgn_esc _ _ (by decide))
  have hlen := someS_len4 c
  have HNe : Hid (someS c ≠ []) := Lib.hid (someS_ne (by rcases h3 with rfl | rfl | rfl <;> rfl))
  have HN6 : Hid (named6 c = true) := Lib.hid (by rcases h3 with rfl | rfl | rfl <;> rfl)
  go_enter Tryz.func362, Tryz.ntmps362
  go_wp2_with fail
  refine ht.mono ?_
  rintro e w1 ⟨rfl, hr⟩
  clear ht
  go_wp2_with fail
  refine (HT.out w1 _ hr.rb (HB.out w1 hr.own)).mono ?_
  rintro e w2 ⟨rfl, hr'⟩
  rw [Bool.or_false] at hr'
  have hr := hr.trans hr'
  clear HT HB hr'
  go_upto_region 4 with fail
  go_cut [20] (fun s20 wx => s20 = .bool true ∧ wx = w2)
  case first =>
   rcases h3 with rfl | rfl | rfl
   all_goals
    go_wp2_with fail
    go_meet
    exact ⟨rfl, rfl⟩
  case rest =>
  obtain ⟨rfl, hwc⟩ := hcut
  subst hwc
  clear h3
  go_wp2_with fail
  refine (hsm _).mono ?_
  rintro e w3 (⟨_, rfl, rfl⟩ | ⟨g, _, _⟩)
  case no => rw [HN6.out] at g; cases g
  clear hsm
  go_wp2_with fail
  go_ret2
  exact ⟨_, someS c, _, s2, bad, rfl, hr.below ((Below.refl _ _).alloc (Nat.le_refl _) _), HNe.out, hlen, hr.own.size, Blk.fresh _ _ _, ⟨Nat.le_of_lt HLL.out, fun _ => HLL.out⟩, id, fun hb c nm r1 e => (by rw [HR2.out, HX.out] at e; cases e; exact ⟨hb, rfl, rfl, rfl⟩), fun _ e => (by rw [HR2.out, HX.out] at e; cases e)⟩
 have e1 : (c == 100) = false := by rw [beq_eq_false_iff_ne]; omega
 have e2 : (c == 119) = false := by rw [beq_eq_false_iff_ne]; omega
 have e3 : (c == 115) = false := by rw [beq_eq_false_iff_ne]; omega
 have hn3 : named3 c = false := by unfold named3; rw [e1, e2, e3]; rfl
 clear hsm h3
 by_cases hm : c ∈ ([92, 91, 93, 94, 45, 47, 46] : List Int)
 ·have HX : Hid (itemSign (92 :: c :: runes s2) = some (c, false, runes s2)) := Lib.hid (by rw [isgn_esc c _ ((esc7_mem c).2 (.inl hm)), hn3])
  rw [decide_eq_true hm] at hcr
  clear hm hn3
  go_enter Tryz.func362, Tryz.ntmps362
  go_wp2_with fail
  refine ht.mono ?_
  rintro e w1 ⟨rfl, hr⟩
  clear ht
  go_wp2_with fail
  refine (HT.out w1 _ hr.rb (HB.out w1 hr.own)).mono ?_
  rintro e w2 ⟨rfl, hr'⟩
  rw [Bool.or_false] at hr'
  have hr := hr.trans hr'
  clear HT HB hr'
  go_wp2_with fail
  refine (hcr _).mono ?_
  rintro e w3 ⟨rfl, hb3⟩
  have hr := hr.below hb3
  go_wp2_with fail
  go_ret2
  obtain ⟨a1, a2, a3, a4, a5⟩ := sgn_one c hr
  exact ⟨_, [(c, c)], _, s2, bad, rfl, a1, a2, a3, by simpa using a4, by simpa using a5, ⟨Nat.le_of_lt HLL.out, fun _ => HLL.out⟩, id, fun hb c nm r1 e => (by rw [HR2.out, HX.out] at e; cases e; exact ⟨hb, rfl, rfl, rfl⟩), fun _ e => (by rw [HR2.out, HX.out] at e; cases e)⟩
 ·have HX : Hid (itemSign (92 :: c :: runes s2) = none) := Lib.hid (isgn_no c _ (fun g => by
   rcases (esc7_mem c).1 g with g | g
   ·exact hm g
   ·rw [hn3] at g; cases g))
  rw [decide_eq_false hm] at hcr
  clear hm hn3
  go_enter Tryz.func362, Tryz.ntmps362
  go_wp2_with fail
  refine ht.mono ?_
  rintro e w1 ⟨rfl, hr⟩
  clear ht
  go_wp2_with fail
  refine (HT.out w1 _ hr.rb (HB.out w1 hr.own)).mono ?_
  rintro e w2 ⟨rfl, hr'⟩
  rw [Bool.or_false] at hr'
  have hr := hr.trans hr'
  clear HT HB hr'
  go_wp2_with fail
  refine (hcr _).mono ?_
  rintro e w3 ⟨rfl, hb3⟩
  have hr := hr.below hb3
  have hr2 := hr.s2 true
  have d2 := hr.rb.c2
  have k2 := hr.rb.frozen 2
  go_wp2_with fail
  go_ret2
  obtain ⟨a1, a2, a3, a4, a5⟩ := sgn_one c hr2
  exact ⟨_, [(c, c)], _, s2, true, rfl, a1, a2, a3, by simpa using a4, by simpa using a5, ⟨Nat.le_of_lt HLL.out, fun g => (by cases g)⟩, fun _ => rfl, fun hb c nm r1 e => (by rw [HR2.out, HX.out] at e; cases e), fun _ _ => rfl⟩

def contD : Nat → Int → Nat → List Int → Int × Nat × List Int
 | 0, n, k, r => (n, k, r)
 | _ + 1, n, k, [] => (n, k, [])
 | f + 1, n, k, c :: r => if isD c then contD f (10 * n + (c - 48)) (k + 1) r else (n, k, c :: r)
theorem digs_cont (r : List Int) : digs r = contD 2 0 0 r := by
 unfold digs
 cases r with
 | nil => rfl
 | cons a r =>
  dsimp only
  unfold contD
  by_cases h : isD a = true
  ·rw [if_pos h, if_pos h]
   cases r with
   | nil => show (a - 48, 1, ([] : List Int)) = (10 * 0 + (a - 48), 1, []); rw [show 10 * 0 + (a - 48) = a - 48 by omega]
   | cons b r2 =>
    dsimp only
    unfold contD
    by_cases g : isD b = true
    ·rw [if_pos g, if_pos g]
     show (10 * (a - 48) + (b - 48), 2, r2) = (10 * (10 * 0 + (a - 48)) + (b - 48), 2, r2)
     rw [show 10 * (10 * 0 + (a - 48)) + (b - 48) = 10 * (a - 48) + (b - 48) by omega]
    ·rw [if_neg g, if_neg g]
     show (a - 48, 1, b :: r2) = (10 * 0 + (a - 48), 1, b :: r2)
     rw [show 10 * 0 + (a - 48) = a - 48 by omega]
  ·rw [if_neg h, if_neg h]
theorem dec_big (b : UInt8) (r : List UInt8) (h : 128 ≤ b.toNat) : 128 ≤ (decodeL (b :: r)).1 := by
 have e : decodeL (b :: r) = Utf8.decode ⟨(b :: r).toArray⟩ 0 := rfl
 rw [e, decode_at]
 have hb : ((⟨(b :: r).toArray⟩ : ByteArray).get! 0).toNat = b.toNat := rfl
 rw [hb]
 generalize ((⟨(b :: r).toArray⟩ : ByteArray).get! (0 + 1)).toNat = b1
 generalize ((⟨(b :: r).toArray⟩ : ByteArray).get! (0 + 2)).toNat = b2
 generalize ((⟨(b :: r).toArray⟩ : ByteArray).get! (0 + 3)).toNat = b3
 unfold decodeN
 repeat' split
 all_goals (first | omega | (dsimp only; omega))
theorem runes_dig (b : UInt8) (r : List UInt8) (h : 48 ≤ b.toNat ∧ b.toNat ≤ 57) : runes (b :: r) = (b.toNat : Int) :: runes r := by
 rw [runes_cons _ (List.cons_ne_nil _ _), decodeL_ascii b r (by omega)]
 rfl
theorem runes_nodig (b : UInt8) (r : List UInt8) (h : ¬ (48 ≤ b.toNat ∧ b.toNat ≤ 57)) : ∃ c r', runes (b :: r) = c :: r' ∧ isD c = false := by
 refine ⟨_, _, runes_cons _ (List.cons_ne_nil _ _), ?_⟩
 unfold isD
 by_cases g : b.toNat < 128
 ·rw [decodeL_ascii b r g]
  by_cases g1 : (48 : Int) ≤ (b.toNat : Int)
  ·rw [decide_eq_true g1, decide_eq_false (show ¬ ((b.toNat : Nat) : Int) ≤ 57 by omega)]; rfl
  ·rw [decide_eq_false g1]; rfl
 ·have := dec_big b r (by omega)
  rw [decide_eq_false (show ¬ (((decodeL (b :: r)).1 : Nat) : Int) ≤ 57 by omega), Bool.and_false]
def NumP (B : Nat) (s : List UInt8) (d : Int) (bad : Bool) (w : World) (D : Int × Nat × List Int) (e : Ending) (w' : World) : Prop :=
 ∃ s', e = .returned (.int .i64 D.1) ∧ Rd w B s' d (bad || decide (D.2.1 = 0)) w' ∧ runes s' = D.2.2 ∧ s'.length ≤ s.length
theorem number_any (B : Nat) (s : List UInt8) (d : Int) (bad : Bool) (w : World) (h : RB w B s d bad) (_hl : s.length ≤ 1000) :
  Calls Tryz.prog 350 #[.pointer (some ⟨B, 0, none⟩)] w (NumP B s d bad w (digs (runes s))) := by
 have HR := Lib.hid (Rd.refl h)
 have hv := digs_val (runes s)
 have hk2 := (digs_len (runes s)).2.2
 obtain ⟨D, hD⟩ : ∃ D, D = digs (runes s) := ⟨_, rfl⟩
 rw [← hD] at hv hk2 ⊢
 rw [digs_cont] at hD
 have HD := Lib.hid hD.symm
 clear hD h
 go_enter Tryz.func350, Tryz.ntmps350
 go_wp2_with fail
 go_loopw [3, 4] (fun s3 s4 wr => ∃ (f k : Nat) (n : Int) (cur : List UInt8), s3 = .int .i64 n ∧ s4 = .int .i64 k ∧ f + k = 2 ∧ Rd w B cur d bad wr ∧ Hid (contD f n k (runes cur) = D) ∧ 0 ≤ n ∧ n ≤ 99 ∧ (f = 2 → n = 0) ∧ (f = 1 → n ≤ 9) ∧ cur.length ≤ s.length) (fun _ s4 _ => (2 - RowKit.intOf s4).toNat)
 case atStart => exact ⟨2, 0, 0, s, rfl, rfl, rfl, HR.out, HD, by decide, by decide, fun _ => rfl, fun _ => by decide, Nat.le_refl _⟩
 case round =>
  obtain ⟨f, k, n, cur, rfl, rfl, hfk, hr, hc, hn0, hn1, hf2, hf1, hle⟩ := hrel
  have d0 := hr.rb.c0
  have hf : f = 0 ∨ f = 1 ∨ f = 2 := by omega
  rcases hf with rfl | rfl | rfl
  ·obtain rfl : k = 2 := by omega
   have HX : Hid (D = (n, 2, runes cur)) := Lib.hid hc.out.symm
   clear hc
   go_wp2_with fail
   go_ret
   exact ⟨cur, by rw [HX.out]; rfl, by rw [HX.out]; show Rd w B cur d (bad || false) _; rw [Bool.or_false]; exact hr, by rw [HX.out], hle⟩
  ·obtain rfl : k = 1 := by omega
   cases hcur : cur with
   | nil =>
    have HX : Hid (D = (n, 1, runes cur)) := Lib.hid (by rw [← hc.out, hcur]; rfl)
    have he : cur.isEmpty = true := by rw [hcur]; rfl
    clear hc hcur
    go_wp2_with fail
    go_ret
    exact ⟨cur, by rw [HX.out]; rfl, by rw [HX.out]; show Rd w B cur d (bad || false) _; rw [Bool.or_false]; exact hr, by rw [HX.out], hle⟩
   | cons b r =>
    have he : cur.isEmpty = false := by rw [hcur]; rfl
    have hx : ∀ h, (⟨cur.toArray⟩ : ByteArray)[0]'h = b := fun h => by subst hcur; rfl
    have hlen : 1 ≤ cur.length := by rw [hcur]; simp
    have hlenI : (1 : Int) ≤ (cur.length : Int) := by omega
    have hdr : cur.tail = r := by rw [hcur]; rfl
    have HDr := Lib.hid hdr
    have hbt := b.toNat_lt
    by_cases hb1 : (48 : Int) ≤ (b.toNat : Int)
    ·by_cases hb2 : (b.toNat : Int) ≤ 57
     ·have HC : Hid (contD 0 (10 * n + ((b.toNat : Int) - 48)) (1 + 1) (runes cur.tail) = D) := Lib.hid (by
       rw [← hc.out, hdr, hcur, runes_dig b r ⟨by omega, by omega⟩]
       show _ = contD (0 + 1) _ _ (_ :: _)
       conv => rhs; unfold contD
       rw [if_pos (by unfold isD; rw [decide_eq_true hb1, decide_eq_true hb2]; rfl)])
      have hr2 := hr.s0 cur.tail
      have k0 := hr.rb.frozen 0
      clear hc hcur hdr
      go_wp2_with fail
      go_roundw
      case rel => exact ⟨0, 1 + 1, 10 * n + ((b.toNat : Int) - 48), cur.tail, by go_num, by go_num, by omega, hr2, HC, by omega, by omega, by omega, by omega, by rw [List.length_tail]; omega⟩
      case measure => simp [RowKit.intOf]
     ·have HX : Hid (D = (n, 1, runes cur)) := Lib.hid (by
       obtain ⟨c, r', e1, e2⟩ := runes_nodig b r (by omega)
       rw [← hc.out, hcur, e1]
       show contD (0 + 1) _ _ (_ :: _) = _
       unfold contD
       rw [if_neg (by rw [e2]; exact Bool.false_ne_true)])
      clear hc hcur hdr
      go_wp2_with fail
      go_ret
      exact ⟨cur, by rw [HX.out]; rfl, by rw [HX.out]; show Rd w B cur d (bad || false) _; rw [Bool.or_false]; exact hr, by rw [HX.out], hle⟩
    ·have HX : Hid (D = (n, 1, runes cur)) := Lib.hid (by
      obtain ⟨c, r', e1, e2⟩ := runes_nodig b r (by omega)
      rw [← hc.out, hcur, e1]
      show contD (0 + 1) _ _ (_ :: _) = _
      unfold contD
      rw [if_neg (by rw [e2]; exact Bool.false_ne_true)])
     clear hc hcur hdr
     go_wp2_with fail
     go_ret
     exact ⟨cur, by rw [HX.out]; rfl, by rw [HX.out]; show Rd w B cur d (bad || false) _; rw [Bool.or_false]; exact hr, by rw [HX.out], hle⟩
  ·obtain rfl : k = 0 := by omega
   obtain rfl := hf2 rfl
   cases hcur : cur with
   | nil =>
    have HX : Hid (D = (0, 0, runes cur)) := Lib.hid (by rw [← hc.out, hcur]; rfl)
    have he : cur.isEmpty = true := by rw [hcur]; rfl
    clear hc hcur
    have hr2 := hr.s2 true
    have d2 := hr.rb.c2
    have k2 := hr.rb.frozen 2
    go_wp2_with fail
    go_ret
    exact ⟨cur, by rw [HX.out]; rfl, by rw [HX.out]; show Rd w B cur d (bad || true) _; rw [Bool.or_true]; exact hr2, by rw [HX.out], hle⟩
   | cons b r =>
    have he : cur.isEmpty = false := by rw [hcur]; rfl
    have hx : ∀ h, (⟨cur.toArray⟩ : ByteArray)[0]'h = b := fun h => by subst hcur; rfl
    have hlen : 1 ≤ cur.length := by rw [hcur]; simp
    have hlenI : (1 : Int) ≤ (cur.length : Int) := by omega
    have hdr : cur.tail = r := by rw [hcur]; rfl
    have HDr := Lib.hid hdr
    have hbt := b.toNat_lt
    by_cases hb1 : (48 : Int) ≤ (b.toNat : Int)
    ·by_cases hb2 : (b.toNat : Int) ≤ 57
     ·have HC : Hid (contD 1 (10 * 0 + ((b.toNat : Int) - 48)) (0 + 1) (runes cur.tail) = D) := Lib.hid (by
       rw [← hc.out, hdr, hcur, runes_dig b r ⟨by omega, by omega⟩]
       show _ = contD (1 + 1) _ _ (_ :: _)
       conv => rhs; unfold contD
       rw [if_pos (by unfold isD; rw [decide_eq_true hb1, decide_eq_true hb2]; rfl)])
      have hr2 := hr.s0 cur.tail
      have k0 := hr.rb.frozen 0
      clear hc hcur hdr
      go_wp2_with fail
      go_roundw
      case rel => exact ⟨1, 0 + 1, 10 * 0 + ((b.toNat : Int) - 48), cur.tail, by go_num, by go_num, by omega, hr2, HC, by omega, by omega, by omega, by omega, by rw [List.length_tail]; omega⟩
      case measure => simp [RowKit.intOf]
     ·have HX : Hid (D = (0, 0, runes cur)) := Lib.hid (by
       obtain ⟨c, r', e1, e2⟩ := runes_nodig b r (by omega)
       rw [← hc.out, hcur, e1]
       show contD (1 + 1) _ _ (_ :: _) = _
       unfold contD
       rw [if_neg (by rw [e2]; exact Bool.false_ne_true)])
      clear hc hcur hdr
      have hr2 := hr.s2 true
      have d2 := hr.rb.c2
      have k2 := hr.rb.frozen 2
      go_wp2_with fail
      go_ret
      exact ⟨cur, by rw [HX.out]; rfl, by rw [HX.out]; show Rd w B cur d (bad || true) _; rw [Bool.or_true]; exact hr2, by rw [HX.out], hle⟩
    ·have HX : Hid (D = (0, 0, runes cur)) := Lib.hid (by
      obtain ⟨c, r', e1, e2⟩ := runes_nodig b r (by omega)
      rw [← hc.out, hcur, e1]
      show contD (1 + 1) _ _ (_ :: _) = _
      unfold contD
      rw [if_neg (by rw [e2]; exact Bool.false_ne_true)])
     clear hc hcur hdr
     have hr2 := hr.s2 true
     have d2 := hr.rb.c2
     have k2 := hr.rb.frozen 2
     go_wp2_with fail
     go_ret
     exact ⟨cur, by rw [HX.out]; rfl, by rw [HX.out]; show Rd w B cur d (bad || true) _; rw [Bool.or_true]; exact hr2, by rw [HX.out], hle⟩

theorem brace_none (r : List Int) (h : (digs r).2.1 = 0) : brace r = none := by unfold brace; rw [if_pos h]
theorem brace_A (r : List Int) (h : (digs r).2.1 ≠ 0) (g : (digs r).2.2.headD (-1) ≠ 44) : brace r = if (digs r).2.2.headD (-1) = 125 then some ((digs r).1, (digs r).1, (digs r).2.2.tail) else none := by
 unfold brace
 rw [if_neg h]
 cases hq : (digs r).2.2 with
 | nil => rfl
 | cons x r3 =>
  rw [hq] at g
  have g : x ≠ 44 := g
  dsimp only
  by_cases g2 : x = 125
  ·rw [if_pos g2, if_pos (show (x :: r3).headD (-1) = 125 from g2)]; rfl
  ·rw [if_neg g2, if_pos g, if_neg (show ¬ (x :: r3).headD (-1) = 125 from g2)]
theorem brace_B1 (r r4 : List Int) (h : (digs r).2.1 ≠ 0) (g : (digs r).2.2 = 44 :: 125 :: r4) : brace r = some ((digs r).1, -1, r4) := by
 unfold brace
 rw [if_neg h, g]
 dsimp only
 rw [if_neg (by decide), if_neg (by decide), if_pos rfl]
theorem brace_B2 (r r3 : List Int) (h : (digs r).2.1 ≠ 0) (g : (digs r).2.2 = 44 :: r3) (g2 : r3.headD (-1) ≠ 125) : brace r = if (digs r3).2.1 = 0 ∨ (digs r3).1 < (digs r).1 then none else if (digs r3).2.2.headD (-1) = 125 then some ((digs r).1, (digs r3).1, (digs r3).2.2.tail) else none := by
 unfold brace
 rw [if_neg h, g]
 dsimp only
 rw [if_neg (by decide), if_neg (by decide)]
 cases r3 with
 | nil => rfl
 | cons y r4 =>
  dsimp only
  rw [if_neg (show ¬ y = 125 from g2)]
  by_cases g3 : (digs (y :: r4)).2.1 = 0 ∨ (digs (y :: r4)).1 < (digs r).1
  ·rw [if_pos g3, if_pos g3]
  ·rw [if_neg g3, if_neg g3]
   cases (digs (y :: r4)).2.2 with
   | nil => rfl
   | cons z r5 => rfl
theorem often_star (grp : Bool) (r : List Int) : often grp (42 :: r) = some (0, -1, r) := rfl
theorem often_plus (grp : Bool) (r : List Int) : often grp (43 :: r) = some (1, -1, r) := rfl
theorem often_ask (grp : Bool) (r : List Int) : often grp (63 :: r) = some (0, 1, r) := rfl
theorem often_else (grp : Bool) (c : Int) (r : List Int) (h : c ≠ 42 ∧ c ≠ 43 ∧ c ≠ 63 ∧ c ≠ 123) : often grp (c :: r) = some (1, 1, c :: r) := by unfold often; dsimp only; rw [if_neg h.1, if_neg h.2.1, if_neg h.2.2.1, if_neg h.2.2.2]
structure OftQ (B : Nat) (s : List UInt8) (d : Int) (bad grp : Bool) (w : World) (lo hi : Int) (s' : List UInt8) (bad' : Bool) (w' : World) : Prop where
 rd : Rd w B s' d bad' w'
 le : s'.length ≤ s.length
 stay : bad = true → bad' = true
 good : bad = false → ∀ lo1 hi1 r1, often grp (runes s) = some (lo1, hi1, r1) → bad' = false ∧ lo = lo1 ∧ hi = hi1 ∧ runes s' = r1
 none : bad = false → often grp (runes s) = none → bad' = true
def OftE (B : Nat) (s : List UInt8) (d : Int) (bad grp : Bool) (w : World) (e : Ending) (w' : World) : Prop :=
 ∃ lo hi s' bad', e = .returned (.tuple #[.int .i64 lo, .int .i64 hi]) ∧ OftQ B s d bad grp w lo hi s' bad' w'
theorem ta_grp (gb : Nat) (w : World) : (Instr.typeAssert (grpV gb) 182 138 true).run Tryz.prog w = .ok (.tuple #[.pointer (some ⟨gb, 0, none⟩), .bool true]) w := by kernel_rfl
theorem ta_cls (cb : Nat) (w : World) : (Instr.typeAssert (clsV cb) 182 138 true).run Tryz.prog w = .ok (.tuple #[.pointer none, .bool false]) w := by kernel_rfl
theorem headC_nn {s : List UInt8} {c : Int} (h : headC s = c) (hc : 0 ≤ c) : s ≠ [] := by
 rintro rfl
 rw [headC_nil] at h; omega
theorem runes_at {s : List UInt8} {c : Int} (h : headC s = c) (hc : 0 ≤ c) : runes s = c :: runes (tailB s) := by rw [runes_ht s (headC_nn h hc), h]
structure Leaf (bad : Bool) (r : List Int) (lo hi : Int) (bad' : Bool) (r' : List Int) : Prop where
 good : bad = false → ∀ lo1 hi1 r1, brace r = some (lo1, hi1, r1) → bad' = false ∧ lo = lo1 ∧ hi = hi1 ∧ r' = r1
 none : bad = false → brace r = none → bad' = true
 stay : bad = true → bad' = true
theorem leaf_A1 {bad bad2 : Bool} {r rest : List Int} {lo : Int} {k : Nat} (hD : digs r = (lo, k, rest)) (hb : (bad || decide (k = 0)) = bad2) (h : rest.headD (-1) = 125) : Leaf bad r lo lo bad2 rest.tail := by
 refine ⟨fun g lo1 hi1 r1 e => ?_, fun g e => ?_, fun g => by rw [← hb, g]; rfl⟩
 ·by_cases hk : k = 0
  ·rw [brace_none r (by rw [hD]; exact hk)] at e; cases e
  ·rw [brace_A r (by rw [hD]; exact hk) (by rw [hD]; dsimp only; rw [h]; decide), hD, if_pos h] at e
   cases e
   exact ⟨by rw [← hb, g, decide_eq_false hk]; rfl, rfl, rfl, rfl⟩
 ·by_cases hk : k = 0
  ·rw [← hb, decide_eq_true hk, Bool.or_true]
  ·rw [brace_A r (by rw [hD]; exact hk) (by rw [hD]; dsimp only; rw [h]; decide), hD, if_pos h] at e; cases e
theorem leaf_A2 {bad : Bool} {r rest r' : List Int} {lo hi lo' : Int} {k : Nat} (hD : digs r = (lo', k, rest)) (h4 : rest.headD (-1) ≠ 44) (h : rest.headD (-1) ≠ 125) : Leaf bad r lo hi true r' := by
 refine ⟨fun g lo1 hi1 r1 e => ?_, fun _ _ => rfl, fun _ => rfl⟩
 by_cases hk : k = 0
 ·rw [brace_none r (by rw [hD]; exact hk)] at e; cases e
 ·rw [brace_A r (by rw [hD]; exact hk) (by rw [hD]; exact h4), hD, if_neg h] at e; cases e
theorem leaf_B1 {bad bad2 : Bool} {r r4 : List Int} {lo : Int} {k : Nat} (hD : digs r = (lo, k, 44 :: 125 :: r4)) (hb : (bad || decide (k = 0)) = bad2) : Leaf bad r lo (-1) bad2 r4 := by
 refine ⟨fun g lo1 hi1 r1 e => ?_, fun g e => ?_, fun g => by rw [← hb, g]; rfl⟩
 ·by_cases hk : k = 0
  ·rw [brace_none r (by rw [hD]; exact hk)] at e; cases e
  ·rw [brace_B1 r r4 (by rw [hD]; exact hk) (by rw [hD]), hD] at e
   cases e
   exact ⟨by rw [← hb, g, decide_eq_false hk]; rfl, rfl, rfl, rfl⟩
 ·by_cases hk : k = 0
  ·rw [← hb, decide_eq_true hk, Bool.or_true]
  ·rw [brace_B1 r r4 (by rw [hD]; exact hk) (by rw [hD])] at e; cases e
theorem leaf_B2 {bad bad2 bad4 : Bool} {r r3 rest4 : List Int} {lo hi : Int} {k k4 : Nat} (hD : digs r = (lo, k, 44 :: r3)) (hb : (bad || decide (k = 0)) = bad2) (h3 : r3.headD (-1) ≠ 125) (hE : digs r3 = (hi, k4, rest4)) (hb4 : (bad2 || decide (k4 = 0)) = bad4) (hlt : ¬ hi < lo) (h : rest4.headD (-1) = 125) : Leaf bad r lo hi bad4 rest4.tail := by
 have key : k ≠ 0 → k4 ≠ 0 → brace r = some (lo, hi, rest4.tail) := by
  intro hk hk4
  rw [brace_B2 r r3 (by rw [hD]; exact hk) (by rw [hD]) h3, hD, hE]
  dsimp only
  rw [if_neg (fun g => g.elim hk4 hlt), if_pos h]
 refine ⟨fun g lo1 hi1 r1 e => ?_, fun g e => ?_, fun g => by rw [← hb4, ← hb, g]; rfl⟩
 ·by_cases hk : k = 0
  ·rw [brace_none r (by rw [hD]; exact hk)] at e; cases e
  ·by_cases hk4 : k4 = 0
   ·rw [brace_B2 r r3 (by rw [hD]; exact hk) (by rw [hD]) h3, hE, if_pos (.inl hk4)] at e; cases e
   ·rw [key hk hk4] at e
    cases e
    exact ⟨by rw [← hb4, ← hb, g, decide_eq_false hk, decide_eq_false hk4]; rfl, rfl, rfl, rfl⟩
 ·by_cases hk : k = 0
  ·rw [← hb4, ← hb, decide_eq_true hk, Bool.or_true]; rfl
  ·by_cases hk4 : k4 = 0
   ·rw [← hb4, decide_eq_true hk4, Bool.or_true]
   ·rw [key hk hk4] at e; cases e
theorem leaf_B3 {bad : Bool} {r r3 rest4 r' : List Int} {lo hi : Int} {lo' hi' : Int} {k k4 : Nat} (hD : digs r = (lo, k, 44 :: r3)) (h3 : r3.headD (-1) ≠ 125) (hE : digs r3 = (hi, k4, rest4)) (h : hi < lo ∨ rest4.headD (-1) ≠ 125) : Leaf bad r lo' hi' true r' := by
 refine ⟨fun g lo1 hi1 r1 e => ?_, fun _ _ => rfl, fun _ => rfl⟩
 by_cases hk : k = 0
 ·rw [brace_none r (by rw [hD]; exact hk)] at e; cases e
 ·rw [brace_B2 r r3 (by rw [hD]; exact hk) (by rw [hD]) h3, hD, hE] at e
  dsimp only at e
  split at e
  ·cases e
  ·rename_i g2
   rcases h with h | h
   ·exact absurd (.inr h) g2
   ·rw [if_neg h] at e; cases e
theorem leaf_oft {B : Nat} {s s' : List UInt8} {d : Int} {bad bad' : Bool} {w w' : World} {lo hi : Int} {r r' : List Int} (hX : often false (runes s) = brace r) (L : Leaf bad r lo hi bad' r') (hr : Rd w B s' d bad' w') (hle : s'.length ≤ s.length) (hs : runes s' = r') : OftQ B s d bad false w lo hi s' bad' w' :=
 ⟨hr, hle, L.stay, fun g lo1 hi1 r1 e => (by rw [hX] at e; rw [hs]; exact L.good g lo1 hi1 r1 e), fun g e => (by rw [hX] at e; exact L.none g e)⟩
theorem often_any (B : Nat) (s : List UInt8) (d : Int) (bad grp : Bool) (v : Value) (hv : IsAt v grp) (w : World) (h : RB w B s d bad) (hU : GUB w B) (hl : s.length ≤ 1000) :
  Calls Tryz.prog 329 #[.pointer (some ⟨B, 0, none⟩), v] w (OftE B s d bad grp w) := by
 have hn := next_any B s d bad w h hU.u
 have HU : Hid (∀ w1, w.grownBy w1 (some B) → GU w1) := Lib.hid (fun w1 hg => (hU.kept hg).u)
 have HR := Lib.hid (Rd.refl h)
 have HL := Lib.hid hl
 obtain ⟨vb, rfl⟩ := hv
 clear h hU hl
 obtain ⟨c, hc⟩ : ∃ c, c = headC s := ⟨_, rfl⟩
 rw [← hc] at hn
 have HC := Lib.hid hc.symm
 clear hc
 by_cases c1 : c = 42 ∨ c = 43 ∨ c = 63
 ·have h0 : 0 ≤ c := by omega
  have HX := Lib.hid (runes_at HC.out h0)
  have HN := Lib.hid (headC_nn HC.out h0)
  clear h0
  cases grp
  all_goals
   rcases c1 with rfl | rfl | rfl
   all_goals
    go_enter Tryz.func329, Tryz.ntmps329
    go_wp2_with fail
    refine hn.mono ?_
    rintro e w1 ⟨rfl, hb⟩
    have hr := HR.out.below hb
    clear hn
    go_wp2_with fail
    refine (take_any B s d bad w1 hr.rb (HU.out w1 hr.own) HL.out).mono ?_
    rintro e w2 ⟨rfl, hr2⟩
    rw [decide_eq_false HN.out, Bool.or_false] at hr2
    go_wp2_with fail
    go_ret2
    refine ⟨_, _, tailB s, bad, rfl, hr.trans hr2, tailB_len s, id, fun hb lo1 hi1 r1 e => ?_, fun hb e => ?_⟩
    ·rw [HX.out] at e
     first
      | (rw [often_star] at e; cases e; exact ⟨hb, rfl, rfl, rfl⟩)
      | (rw [often_plus] at e; cases e; exact ⟨hb, rfl, rfl, rfl⟩)
      | (rw [often_ask] at e; cases e; exact ⟨hb, rfl, rfl, rfl⟩)
    ·rw [HX.out] at e
     first
      | (rw [often_star] at e; cases e)
      | (rw [often_plus] at e; cases e)
      | (rw [often_ask] at e; cases e)
 have b42 : (c == 42) = false := by rw [beq_eq_false_iff_ne]; omega
 have b43 : (c == 43) = false := by rw [beq_eq_false_iff_ne]; omega
 have b63 : (c == 63) = false := by rw [beq_eq_false_iff_ne]; omega
 by_cases c4 : c = 123
 case neg =>
  have b123 : (c == 123) = false := by rw [beq_eq_false_iff_ne]; omega
  have HX : Hid (often grp (runes s) = some (1, 1, runes s)) := Lib.hid (by
   by_cases hs : s = []
   ·rw [hs]; rfl
   ·rw [runes_ht s hs, HC.out, often_else grp c _ ⟨by omega, by omega, by omega, c4⟩])
  clear c1 c4
  cases grp
  all_goals
   go_enter Tryz.func329, Tryz.ntmps329
   go_wp2_with fail
   refine hn.mono ?_
   rintro e w1 ⟨rfl, hb⟩
   have hr := HR.out.below hb
   clear hn
   go_wp2_with fail
   go_ret2
   exact ⟨1, 1, s, bad, rfl, hr, Nat.le_refl _, id, fun hb lo1 hi1 r1 e => (by rw [HX.out] at e; cases e; exact ⟨hb, rfl, rfl, rfl⟩), fun _ e => (by rw [HX.out] at e; cases e)⟩
 subst c4
 clear c1 b42 b43 b63
 have HRs := Lib.hid (runes_at HC.out (by decide))
 have HN := Lib.hid (headC_nn HC.out (by decide))
 cases grp with
 | true =>
  have HTa := ta_grp vb
  have HX : Hid (often true (runes s) = none) := Lib.hid (by rw [HRs.out]; rfl)
  rw [if_pos rfl]
  generalize grpV vb = v at *
  go_enter Tryz.func329, Tryz.ntmps329
  go_wp2_with fail
  refine hn.mono ?_
  rintro e w1 ⟨rfl, hb⟩
  have hr := HR.out.below hb
  clear hn
  have hr2 := hr.s2 true
  have d2 := hr.rb.c2
  have k2 := hr.rb.frozen 2
  go_wp2_with fail
  go_ret2
  exact ⟨1, 1, s, true, rfl, hr2, Nat.le_refl _, fun _ => rfl, fun hb lo1 hi1 r1 e => (by rw [HX.out] at e; cases e), fun _ _ => rfl⟩
 | false =>
  have HTa := ta_cls vb
  have HX : Hid (often false (runes s) = brace (runes (tailB s))) := Lib.hid (by rw [HRs.out]; rfl)
  rw [if_neg Bool.false_ne_true]
  generalize clsV vb = v at *
  have HL1 : Hid ((tailB s).length ≤ 1000) := Lib.hid (Nat.le_trans (tailB_len s) HL.out)
  obtain ⟨D, hD⟩ : ∃ D, D = digs (runes (tailB s)) := ⟨_, rfl⟩
  have HDe := Lib.hid hD.symm
  have HDv : Hid (0 ≤ D.1 ∧ D.1 ≤ 99) := Lib.hid (by rw [hD]; exact digs_val _)
  clear hD
  obtain ⟨lo, k, rest⟩ := D
  dsimp only at HDv
  go_enter Tryz.func329, Tryz.ntmps329
  go_wp2_with fail
  refine hn.mono ?_
  rintro e w1 ⟨rfl, hb⟩
  have hr := HR.out.below hb
  clear hn
  go_wp2_with fail
  refine (take_any B s d bad w1 hr.rb (HU.out w1 hr.own) HL.out).mono ?_
  rintro e w2 ⟨rfl, hr2⟩
  rw [decide_eq_false HN.out, Bool.or_false] at hr2
  have hr := hr.trans hr2
  clear hr2
  go_wp2_with fail
  have hnum := number_any B (tailB s) d bad w2 hr.rb HL1.out
  rw [HDe.out] at hnum
  refine hnum.mono ?_
  rintro e w3 ⟨s2, rfl, hr3, hs2, hle2⟩
  have hr := hr.trans hr3
  have HS2 := Lib.hid hs2
  have HL2 : Hid (s2.length ≤ 1000) := Lib.hid (Nat.le_trans hle2 HL1.out)
  have HLe : Hid (s2.length ≤ s.length) := Lib.hid (Nat.le_trans hle2 (tailB_len s))
  clear hr3 hs2 hle2
  clear hnum
  dsimp only at hr HS2
  generalize hb2 : (bad || decide (k = 0)) = bad2 at *
  have HB2 := Lib.hid hb2
  clear hb2
  go_wp2_with fail
  refine (next_any B s2 d bad2 w3 hr.rb (HU.out w3 hr.own)).mono ?_
  rintro e w4 ⟨rfl, hb4⟩
  have hr := hr.below hb4
  clear hb4
  obtain ⟨c2, hc2⟩ : ∃ c2, c2 = headC s2 := ⟨_, rfl⟩
  rw [← hc2]
  have HC2 := Lib.hid hc2.symm
  clear hc2
  by_cases g44 : c2 = 44
  case neg =>
   have b44 : (c2 == 44) = false := by simpa using g44
   by_cases g125 : c2 = 125
   ·have HN2 := Lib.hid (headC_nn (HC2.out.trans g125) (by decide))
    have HT2 := Lib.hid (runes_at (HC2.out.trans g125) (by decide))
    have ht := take_any B s2 d bad2 w4 hr.rb (HU.out w4 hr.own) HL2.out
    rw [HC2.out, decide_eq_false HN2.out, Bool.or_false] at ht
    have b125 : (c2 != 125) = false := by simpa using g125
    have HL := Lib.hid (leaf_A1 HDe.out HB2.out (by rw [← HS2.out, HT2.out]; rfl))
    clear g44 g125
    go_wp2_with fail
    refine ht.mono ?_
    rintro e w5 ⟨rfl, hr5⟩
    have hr := hr.trans hr5
    go_wp2_with fail
    go_ret2
    exact ⟨_, _, tailB s2, bad2, rfl, leaf_oft HX.out HL.out hr (Nat.le_trans (tailB_len s2) HLe.out) (by rw [← HS2.out, tailB_runes])⟩
   ·have ht := take_any B s2 d bad2 w4 hr.rb (HU.out w4 hr.own) HL2.out
    rw [HC2.out] at ht
    have b125 : (c2 != 125) = true := by simpa using g125
    have HL : Hid (∀ lo hi r', Leaf bad (runes (tailB s)) lo hi true r') := Lib.hid (fun lo hi r' => leaf_A2 HDe.out (by rw [← HS2.out]; show headC s2 ≠ 44; rw [HC2.out]; exact g44) (by rw [← HS2.out]; show headC s2 ≠ 125; rw [HC2.out]; exact g125))
    clear g44 g125
    go_wp2_with fail
    refine ht.mono ?_
    rintro e w5 ⟨rfl, hr5⟩
    have hr := hr.trans hr5
    have hr2 := hr.s2 true
    have d2 := hr.rb.c2
    have k2 := hr.rb.frozen 2
    go_wp2_with fail
    go_ret2
    exact ⟨_, _, tailB s2, true, rfl, leaf_oft HX.out (HL.out _ _ _) hr2 (Nat.le_trans (tailB_len s2) HLe.out) rfl⟩
  subst g44
  have HN2 := Lib.hid (headC_nn HC2.out (by decide))
  have HT2 := Lib.hid (runes_at HC2.out (by decide))
  have ht := take_any B s2 d bad2 w4 hr.rb (HU.out w4 hr.own) HL2.out
  rw [HC2.out, decide_eq_false HN2.out, Bool.or_false] at ht
  go_wp2_with fail
  refine ht.mono ?_
  rintro e w5 ⟨rfl, hr5⟩
  have hr := hr.trans hr5
  clear hr5 ht
  obtain ⟨s3, hs3⟩ : ∃ s3, s3 = tailB s2 := ⟨_, rfl⟩
  rw [← hs3] at hr
  have HL3 : Hid (s3.length ≤ 1000 ∧ s3.length ≤ s.length) := Lib.hid (by have h1 := tailB_len s2; have h2 := HL2.out; have h3 := HLe.out; rw [hs3]; exact ⟨by omega, by omega⟩)
  have HR3 : Hid (rest = 44 :: runes s3) := Lib.hid (by rw [← HS2.out, HT2.out, hs3])
  clear hs3
  obtain ⟨c3, hc3⟩ : ∃ c3, c3 = headC s3 := ⟨_, rfl⟩
  have hnx := next_any B s3 d bad2 w5 hr.rb (HU.out w5 hr.own)
  rw [← hc3] at hnx
  have HC3 := Lib.hid hc3.symm
  clear hc3
  go_wp2_with fail
  refine hnx.mono ?_
  rintro e w6 ⟨rfl, hb6⟩
  have hr := hr.below hb6
  clear hb6 hnx
  by_cases g125 : c3 = 125
  ·subst g125
   have HN3 := Lib.hid (headC_nn HC3.out (by decide))
   have HT3 := Lib.hid (runes_at HC3.out (by decide))
   have ht := take_any B s3 d bad2 w6 hr.rb (HU.out w6 hr.own) HL3.out.1
   rw [HC3.out, decide_eq_false HN3.out, Bool.or_false] at ht
   have HL := Lib.hid (leaf_B1 (r4 := runes (tailB s3)) (by rw [HDe.out, HR3.out, HT3.out]) HB2.out)
   go_wp2_with fail
   refine ht.mono ?_
   rintro e w7 ⟨rfl, hr7⟩
   have hr := hr.trans hr7
   go_wp2_with fail
   go_ret2
   exact ⟨_, _, tailB s3, bad2, rfl, leaf_oft HX.out HL.out hr (Nat.le_trans (tailB_len s3) HL3.out.2) rfl⟩
  have b3 : (c3 != 125) = true := by simpa using g125
  have H3 : Hid ((runes s3).headD (-1) ≠ 125) := Lib.hid (by show headC s3 ≠ 125; rw [HC3.out]; exact g125)
  obtain ⟨E, hE⟩ : ∃ E, E = digs (runes s3) := ⟨_, rfl⟩
  have HEe := Lib.hid hE.symm
  have HEv : Hid (0 ≤ E.1 ∧ E.1 ≤ 99) := Lib.hid (by rw [hE]; exact digs_val _)
  clear hE g125
  obtain ⟨hi, k4, rest4⟩ := E
  have hnum := number_any B s3 d bad2 w6 hr.rb HL3.out.1
  rw [HEe.out] at hnum
  go_wp2_with fail
  refine hnum.mono ?_
  rintro e w7 ⟨s4, rfl, hr7, hs4, hle4⟩
  have hr := hr.trans hr7
  clear hr7 hnum
  dsimp only at hr hs4
  have HS4 := Lib.hid hs4
  have HL4 : Hid (s4.length ≤ 1000 ∧ s4.length ≤ s.length) := Lib.hid (by have := HL3.out; exact ⟨by omega, by omega⟩)
  clear hs4 hle4
  generalize hb4 : (bad2 || decide (k4 = 0)) = bad4 at *
  have HB4 := Lib.hid hb4
  clear hb4
  obtain ⟨c4, hc4⟩ : ∃ c4, c4 = headC s4 := ⟨_, rfl⟩
  have HC4 := Lib.hid hc4.symm
  by_cases glt : hi < lo
  ·have HL : Hid (∀ lo' hi' r', Leaf bad (runes (tailB s)) lo' hi' true r') := Lib.hid (fun lo' hi' r' => leaf_B3 (by rw [HDe.out, HR3.out]) H3.out HEe.out (.inl glt))
   have hr2 := hr.s2 true
   have d2 := hr.rb.c2
   have k2 := hr.rb.frozen 2
   have ht := take_any B s4 d true _ hr2.rb (HU.out _ hr2.own) HL4.out.1
   rw [← hc4, Bool.true_or] at ht
   clear hc4
   by_cases g4 : c4 = 125
   ·have b4 : (c4 != 125) = false := by simpa using g4
    go_wp2_with fail
    refine ht.mono ?_
    rintro e w8 ⟨rfl, hr8⟩
    have hr := hr2.trans hr8
    go_wp2_with fail
    go_ret2
    exact ⟨_, _, tailB s4, true, rfl, leaf_oft HX.out (HL.out _ _ _) hr (Nat.le_trans (tailB_len s4) HL4.out.2) rfl⟩
   ·have b4 : (c4 != 125) = true := by simpa using g4
    go_wp2_with fail
    refine ht.mono ?_
    rintro e w8 ⟨rfl, hr8⟩
    have hr := hr2.trans hr8
    have hr3 := hr.s2 true
    have d2 := hr.rb.c2
    have k2 := hr.rb.frozen 2
    go_wp2_with fail
    go_ret2
    exact ⟨_, _, tailB s4, true, rfl, leaf_oft HX.out (HL.out _ _ _) hr3 (Nat.le_trans (tailB_len s4) HL4.out.2) rfl⟩
  ·have ht := take_any B s4 d bad4 w7 hr.rb (HU.out w7 hr.own) HL4.out.1
   rw [← hc4] at ht
   clear hc4
   by_cases g4 : c4 = 125
   ·have b4 : (c4 != 125) = false := by simpa using g4
    have HN4 := Lib.hid (headC_nn (HC4.out.trans g4) (by decide))
    rw [decide_eq_false HN4.out, Bool.or_false] at ht
    have HL := Lib.hid (leaf_B2 (by rw [HDe.out, HR3.out]) HB2.out H3.out HEe.out HB4.out glt (by rw [← HS4.out]; show headC s4 = 125; rw [HC4.out]; exact g4))
    clear g4
    go_wp2_with fail
    refine ht.mono ?_
    rintro e w8 ⟨rfl, hr8⟩
    have hr := hr.trans hr8
    go_wp2_with fail
    go_ret2
    exact ⟨_, _, tailB s4, bad4, rfl, leaf_oft HX.out HL.out hr (Nat.le_trans (tailB_len s4) HL4.out.2) (by rw [← HS4.out, tailB_runes])⟩
   ·have b4 : (c4 != 125) = true := by simpa using g4
    have HL : Hid (∀ lo' hi' r', Leaf bad (runes (tailB s)) lo' hi' true r') := Lib.hid (fun lo' hi' r' => leaf_B3 (by rw [HDe.out, HR3.out]) H3.out HEe.out (.inr (by rw [← HS4.out]; show headC s4 ≠ 125; rw [HC4.out]; exact g4)))
    clear g4
    go_wp2_with fail
    refine ht.mono ?_
    rintro e w8 ⟨rfl, hr8⟩
    have hr := hr.trans hr8
    have hr3 := hr.s2 true
    have d2 := hr.rb.c2
    have k2 := hr.rb.frozen 2
    go_wp2_with fail
    go_ret2
    exact ⟨_, _, tailB s4, true, rfl, leaf_oft HX.out (HL.out _ _ _) hr3 (Nat.le_trans (tailB_len s4) HL4.out.2) rfl⟩

structure CI (w : World) (B : Nat) (d : Int) (s1 : List UInt8) (b1 : Bool) (CB : Nat) (v : Value) (sp : List (Int × Int)) (neg : Bool) (wr : World) : Prop where
 rd : Rd w B s1 d b1 wr
 blk : Blk wr CB [v, .bool neg]
 own : wr.ownsRow w.heap.size 233 2 v sp.length (spC sp)
 ge : w.heap.size ≤ CB
 ne : v.ownBlock ≠ some CB
 lt : B < w.heap.size
theorem own_step {w w1 w2 : World} {B n : Nat} {v : Value} {xs : List Value} {e : TypeId} {size : Nat} (h : w1.ownsRow w.heap.size e size v n xs) (hB : B < w.heap.size) (g : w1.grownBy w2 (some B)) : w2.ownsRow w.heap.size e size v n xs := by
 refine h.kept g ?_
 cases hv : v.ownBlock with
 | none => exact .inl rfl
 | some k => exact .inr (fun e => by have := (h.lt k hv).1; have := Option.some.inj e; omega)
theorem CI.step {w : World} {B : Nat} {d d2 : Int} {s1 s2 : List UInt8} {b1 b2 : Bool} {CB : Nat} {v : Value} {sp : List (Int × Int)} {neg : Bool} {w1 w2 : World} (h : CI w B d s1 b1 CB v sp neg w1) (g : Rd w1 B s2 d2 b2 w2) : CI w B d2 s2 b2 CB v sp neg w2 :=
 ⟨h.rd.trans g, blk_kept h.blk g.own (by have := h.lt; have := h.ge; omega), own_step h.own h.lt g.own, h.ge, h.ne, h.lt⟩
theorem CI.below {w : World} {B : Nat} {d : Int} {s1 : List UInt8} {b1 : Bool} {CB : Nat} {v : Value} {sp : List (Int × Int)} {neg : Bool} {w1 w2 : World} (h : CI w B d s1 b1 CB v sp neg w1) (hb : Below w1.heap.size w1 w2) : CI w B d s1 b1 CB v sp neg w2 :=
 h.step ((Rd.refl h.rd.rb).below hb)
theorem CI.set2 {w : World} {B : Nat} {d : Int} {s1 : List UInt8} {b1 : Bool} {CB : Nat} {v : Value} {sp : List (Int × Int)} {neg : Bool} {w1 : World} (h : CI w B d s1 b1 CB v sp neg w1) (b2 : Bool) : CI w B d s1 b2 CB v sp neg (w1.setCell ⟨B, 2, none⟩ (.bool b2)) :=
 h.step ((Rd.refl h.rd.rb).s2 b2)
theorem Rd.far {w : World} {B : Nat} {d : Int} {s1 : List UInt8} {b1 : Bool} {w1 w2 : World} {row : Option Nat} (h : Rd w B s1 d b1 w1) (hB : B < w.heap.size) (hg : w1.grownBy w2 row) (hr : ∀ j, row = some j → w.heap.size ≤ j) : Rd w B s1 d b1 w2 := by
 refine ⟨?_, h.own.andThen hg (fun j e => .inl (hr j e))⟩
 have hl := Blk.lt h.rb
 obtain ⟨T, hb⟩ := h.rb
 exact ⟨T, by rw [hg.block B hl (fun e => by have := hr B e.symm; omega)]; exact hb⟩
theorem CI.app {w : World} {B : Nat} {d : Int} {s1 : List UInt8} {b1 : Bool} {CB : Nat} {v v' : Value} {sp sp2 : List (Int × Int)} {neg : Bool} {w1 w2 : World} (h : CI w B d s1 b1 CB v sp neg w1) (hne : sp2 ≠ []) (hg : w1.grownBy w2 v.ownBlock)
  (hown : w2.ownsRow w.heap.size 233 2 v' (sp.length + sp2.length) (spC sp ++ spC sp2)) : CI w B d s1 b1 CB v' (sp ++ sp2) neg (w2.setCell ⟨CB, 0, none⟩ v') := by
 have hCl := h.blk.lt
 have hrow : ∀ j, v.ownBlock = some j → w.heap.size ≤ j := fun j e => (h.own.lt j e).1
 have hb2 := blk_far h.blk hg h.ne
 have hr2 := h.rd.far h.lt hg hrow
 have hown2 : w2.ownsRow w.heap.size 233 2 v' (sp ++ sp2).length (spC (sp ++ sp2)) := by rw [List.length_append, spC_app]; exact hown
 have hv' : v'.ownBlock ≠ some CB := by
  intro e
  have hc := hown2.cells e 0
  have h0 : ∃ a r, spC (sp ++ sp2) = .int .i32 a :: r := by
   cases hs : sp ++ sp2 with
   | nil => exact absurd (List.append_eq_nil_iff.1 hs).2 hne
   | cons x r => exact ⟨x.1, _, rfl⟩
  obtain ⟨a, r, h0⟩ := h0
  rw [h0] at hc
  have hc := hc _ rfl
  have hb := hb2.cell 0
  have e1 : (⟨CB, 0, none⟩ : Addr).add 0 = ⟨CB, 0, none⟩ := rfl
  rw [e1, hb] at hc
  have hv : v = .int .i32 a := Option.some.inj hc
  have := h.own.2
  rcases this with ⟨g, _⟩ | ⟨g, c, cu, g, _⟩
  ·rw [hv] at g; cases g
  ·rw [hv] at g; cases g
 have hgs : w2.grownBy (w2.setCell ⟨CB, 0, none⟩ v') (some CB) := grownBy_setB (World.grownBy.refl _ _) 0 v'
 refine ⟨hr2.far h.lt hgs (fun j e => by have := Option.some.inj e; have := h.ge; omega), hb2.set 0 v', hown2.kept hgs ?_, h.ge, hv', h.lt⟩
 cases hv : v'.ownBlock with
 | none => exact .inl rfl
 | some k => exact .inr (fun e => hv' (by rw [hv, e]))
theorem CI.own_set {w : World} {B : Nat} {d : Int} {s1 : List UInt8} {b1 : Bool} {CB : Nat} {v : Value} {sp : List (Int × Int)} {neg : Bool} {w1 : World} (h : CI w B d s1 b1 CB v sp neg w1) (sb i : Nat) (u : Value) (h1 : w.heap.size ≤ sb) (h2 : sb ≠ CB) (h3 : v.ownBlock ≠ some sb) : CI w B d s1 b1 CB v sp neg (w1.setCell ⟨sb, i, none⟩ u) := by
 have hgs : w1.grownBy (w1.setCell ⟨sb, i, none⟩ u) (some sb) := grownBy_setB (World.grownBy.refl _ _) i u
 refine ⟨h.rd.far h.lt hgs (fun j e => by have := Option.some.inj e; omega), blk_far h.blk hgs (fun e => h2 (Option.some.inj e)), h.own.kept hgs ?_, h.ge, h.ne, h.lt⟩
 cases hv : v.ownBlock with
 | none => exact .inl rfl
 | some k => exact .inr (fun e => h3 (by rw [hv, e]))
theorem CI.cls {w : World} {B : Nat} {d : Int} {s1 : List UInt8} {b1 : Bool} {CB : Nat} {v : Value} {sp : List (Int × Int)} {neg : Bool} {w1 : World} (h : CI w B d s1 b1 CB v sp neg w1) : AtO 0 w1 (From w.heap.size) (clsV CB) (.cls sp neg) :=
 ⟨CB, v, sp, neg, rfl, rfl, h.ge, h.blk, OwS.of h.own (fun _ hb _ => hb)⟩
theorem infoS : (Tryz.prog.info? 233).map (fun i => (i.zero, i.size, i.bytes)) = some (some (.agg #[.int .i32 0, .int .i32 0]), 2, 8) := by kernel_rfl

def contX (M : Nat) (f : Bool) (r : List Int) (sp : List (Int × Int)) : Option (List (Int × Int) × List Int) := match items M f r with
 | none => none
 | some (sp2, r2) => some (sp ++ sp2, r2)
theorem cx_close (M : Nat) (hM : 1 ≤ M) (r : List Int) (sp : List (Int × Int)) : contX M false (93 :: r) sp = some (sp, r) := by
 obtain ⟨M, rfl⟩ : ∃ m, M = m + 1 := ⟨M - 1, by omega⟩
 unfold contX items
 rw [if_pos ⟨rfl, rfl⟩]
 show some (sp ++ [], r) = _
 rw [List.append_nil]
theorem cx_bad (M : Nat) (f : Bool) (r : List Int) (sp : List (Int × Int)) (h : ¬ (f = false ∧ r.head? = some 93)) (hi : item r = none) : contX M f r sp = none := by
 unfold contX
 cases M with
 | zero => rfl
 | succ M => unfold items; rw [if_neg h, hi]
theorem cx_go (M : Nat) (f : Bool) (r r1 : List Int) (sp sp1 : List (Int × Int)) (h : ¬ (f = false ∧ r.head? = some 93)) (hi : item r = some (sp1, r1)) : contX (M + 1) f r sp = contX M false r1 (sp ++ sp1) := by
 unfold contX
 conv => lhs; unfold items
 rw [if_neg h, hi]
 dsimp only
 cases items M false r1 with
 | none => rfl
 | some y =>
  obtain ⟨a, b⟩ := y
  dsimp only
  rw [List.append_assoc]
theorem item_alone (r r1 : List Int) (c : Int) (nm : Bool) (h : itemSign r = some (c, nm, r1)) (g : r1.headD (-1) ≠ 45) : item r = some (if nm then someS c else [(c, c)], r1) := by
 unfold item
 rw [h]
 cases r1 with
 | nil => rfl
 | cons x r2 =>
  dsimp only
  rw [if_neg (show ¬ x = 45 from g)]
theorem item_two (r r2 : List Int) (c : Int) (nm : Bool) (h : itemSign r = some (c, nm, 45 :: r2)) : item r = match itemSign r2 with
  | none => none
  | some (d, nm2, r3) => if nm || nm2 || decide (d < c) then none else some ([(c, d)], r3) := by
 unfold item
 rw [h]
 dsimp only
 rw [if_pos rfl]
 rfl
theorem item_none (r : List Int) (h : itemSign r = none) : item r = none := by unfold item; rw [h]
theorem item_len {r r1 : List Int} {sp : List (Int × Int)} (h : item r = some (sp, r1)) : r1.length < r.length := (item_left h).len
def Inv (X : Option (List (Int × Int) × List Int)) (f : Bool) (s1 : List UInt8) (b1 : Bool) (sp : List (Int × Int)) : Prop :=
 (b1 = false → ∃ M, (runes s1).length ≤ M ∧ X = contX M f (runes s1) sp) ∧ (b1 = true → X = none)
theorem inv_one {X : Option (List (Int × Int) × List Int)} {f b2 one : Bool} {s1 s2 : List UInt8} {sp sp1 : List (Int × Int)} (h : Inv X f s1 false sp) (hc : ¬ (f = false ∧ (runes s1).head? = some 93))
  (good : ∀ c nm r1, itemSign (runes s1) = some (c, nm, r1) → b2 = false ∧ runes s2 = r1 ∧ one = !nm ∧ sp1 = if nm then someS c else [(c, c)]) (hn : itemSign (runes s1) = none → b2 = true) (g : headC s2 ≠ 45) : Inv X false s2 b2 (sp ++ sp1) := by
 obtain ⟨M, hM, hX⟩ := h.1 rfl
 cases hi : itemSign (runes s1) with
 | none =>
  have hb := hn hi
  refine ⟨fun e => (by rw [hb] at e; cases e), fun _ => by rw [hX, cx_bad M f _ sp hc (item_none _ hi)]⟩
 | some y =>
  obtain ⟨c, nm, r1⟩ := y
  obtain ⟨e1, e2, e3, e4⟩ := good c nm r1 hi
  have hit := item_alone _ r1 c nm hi (by rw [← e2]; exact g)
  have hl := item_len hit
  obtain ⟨M, rfl⟩ : ∃ m, M = m + 1 := ⟨M - 1, by omega⟩
  refine ⟨fun _ => ⟨M, by rw [e2]; omega, by rw [hX, cx_go M f _ r1 sp _ hc hit, e2, e4]⟩, fun e => by rw [e1] at e; cases e⟩
theorem inv_two {X : Option (List (Int × Int) × List Int)} {f b2 b4 one other : Bool} {s1 s2 s4 : List UInt8} {sp sp1 sp3 : List (Int × Int)} (h : Inv X f s1 false sp) (hc : ¬ (f = false ∧ (runes s1).head? = some 93))
  (good : ∀ c nm r1, itemSign (runes s1) = some (c, nm, r1) → b2 = false ∧ runes s2 = r1 ∧ one = !nm ∧ sp1 = if nm then someS c else [(c, c)]) (hn : itemSign (runes s1) = none → b2 = true) (g : runes s2 = 45 :: runes (tailB s2))
  (good2 : b2 = false → ∀ c nm r1, itemSign (runes (tailB s2)) = some (c, nm, r1) → b4 = false ∧ runes s4 = r1 ∧ other = !nm ∧ sp3 = if nm then someS c else [(c, c)]) (hn2 : b2 = false → itemSign (runes (tailB s2)) = none → b4 = true) (st : b2 = true → b4 = true) :
  ((b4 = true ∨ one = false ∨ other = false ∨ (sp3.headD (0, 0)).1 < (sp1.headD (0, 0)).1) → X = none) ∧
  (b4 = false → one = true → other = true → ¬ (sp3.headD (0, 0)).1 < (sp1.headD (0, 0)).1 → sp1 = [((sp1.headD (0, 0)).1, (sp1.headD (0, 0)).1)] ∧ Inv X false s4 b4 (sp ++ [((sp1.headD (0, 0)).1, (sp3.headD (0, 0)).1)])) := by
 obtain ⟨M, hM, hX⟩ := h.1 rfl
 cases hi : itemSign (runes s1) with
 | none =>
  have hb := st (hn hi)
  refine ⟨fun _ => by rw [hX, cx_bad M f _ sp hc (item_none _ hi)], fun e => by rw [hb] at e; cases e⟩
 | some y =>
  obtain ⟨c, nm, r1⟩ := y
  obtain ⟨e1, e2, e3, e4⟩ := good c nm r1 hi
  have hr1 : r1 = 45 :: runes (tailB s2) := by rw [← e2, g]
  subst hr1
  have hit := item_two _ _ c nm hi
  cases hj : itemSign (runes (tailB s2)) with
  | none =>
   have hb := hn2 e1 hj
   rw [hj] at hit
   refine ⟨fun _ => by rw [hX, cx_bad M f _ sp hc hit], fun e => by rw [hb] at e; cases e⟩
  | some z =>
   obtain ⟨d, nm2, r3⟩ := z
   obtain ⟨j1, j2, j3, j4⟩ := good2 e1 d nm2 r3 hj
   rw [hj] at hit
   dsimp only at hit
   cases hnm : nm
   case true =>
    rw [hnm] at hit e3
    refine ⟨fun _ => by rw [hX, cx_bad M f _ sp hc hit], fun _ e => by rw [e3] at e; cases e⟩
   cases hnm2 : nm2
   case true =>
    rw [hnm2, Bool.or_true, Bool.true_or, if_pos rfl] at hit
    rw [hnm2] at j3
    refine ⟨fun _ => by rw [hX, cx_bad M f _ sp hc hit], fun _ _ e => by rw [j3] at e; cases e⟩
   rw [hnm] at e3 e4 hit
   rw [hnm2] at j3 j4 hit
   have e4 : sp1 = [(c, c)] := e4
   have j4 : sp3 = [(d, d)] := j4
   subst e4
   subst j4
   by_cases hlt : d < c
   ·rw [decide_eq_true hlt, Bool.or_true, if_pos rfl] at hit
    exact ⟨fun _ => by rw [hX, cx_bad M f _ sp hc hit], fun _ _ _ k => absurd hlt k⟩
   ·rw [decide_eq_false hlt, Bool.or_false, Bool.or_false, if_neg Bool.false_ne_true] at hit
    refine ⟨fun k => ?_, fun _ _ _ _ => ⟨rfl, ?_⟩⟩
    ·rcases k with k | k | k | k
     ·rw [j1] at k; cases k
     ·rw [e3] at k; cases k
     ·rw [j3] at k; cases k
     ·exact absurd k hlt
    ·have hl := item_len hit
     obtain ⟨M, rfl⟩ : ∃ m, M = m + 1 := ⟨M - 1, by omega⟩
     exact ⟨fun _ => ⟨M, by rw [j2]; omega, by rw [hX, cx_go M f _ r3 sp _ hc hit, j2]; rfl⟩, fun e => by rw [j1] at e; cases e⟩
def rdM (w : World) (B : Nat) : Nat := match w.cell? ⟨B, 0, none⟩, w.cell? ⟨B, 2, none⟩ with
 | some (.string s), some (.bool b) => 2 * s.size + (if b then 0 else 1)
 | _, _ => 0
theorem rdM_of {w : World} {B : Nat} {s : List UInt8} {d : Int} {b : Bool} (h : RB w B s d b) : rdM w B = 2 * s.length + (if b then 0 else 1) := by
 unfold rdM
 rw [h.c0, h.c2]
 rfl
def ClsE (B : Nat) (s : List UInt8) (d : Int) (w : World) (e : Ending) (w' : World) : Prop :=
 ∃ cb s' bad', e = .returned (clsV cb) ∧ Rd w B s' d bad' w' ∧ s'.length ≤ s.length ∧ (∀ a r1, clsR (runes s) = some (a, r1) → bad' = false ∧ runes s' = r1 ∧ AtO 0 w' (From w.heap.size) (clsV cb) a) ∧ (clsR (runes s) = none → bad' = true)
theorem clsR_X (s : List UInt8) (neg : Bool) (hn : neg = decide (headC s = 94)) (X : Option (List (Int × Int) × List Int)) (hX : X = if neg then items (runes s).length true (runes s).tail else items (runes s).length true (runes s)) : clsR (runes s) = X.map (fun x => (.cls x.1 neg, x.2)) := by
 have hh : ((runes s).head? = some 94) = (headC s = 94) := by
  unfold headC
  cases runes s with
  | nil => simp
  | cons x r => simp
 unfold clsR
 by_cases g : headC s = 94
 ·have g' : (runes s).head? = some 94 := by rw [hh]; exact g
  rw [if_pos g', decide_eq_true g']
  rw [decide_eq_true g] at hn
  subst hn
  rw [if_pos rfl] at hX
  rw [hX]
  cases items (runes s).length true (runes s).tail with
  | none => rfl
  | some y => rfl
 ·have g' : ¬ (runes s).head? = some 94 := by rw [hh]; exact g
  rw [if_neg g', decide_eq_false g']
  rw [decide_eq_false g] at hn
  subst hn
  rw [if_neg Bool.false_ne_true] at hX
  rw [hX]
  cases items (runes s).length true (runes s) with
  | none => rfl
  | some y => rfl

theorem CI.neg1 {w : World} {B : Nat} {d : Int} {s1 : List UInt8} {b1 : Bool} {CB : Nat} {v : Value} {sp : List (Int × Int)} {neg : Bool} {w1 : World} (h : CI w B d s1 b1 CB v sp neg w1) (n2 : Bool) : CI w B d s1 b1 CB v sp n2 (w1.setCell ⟨CB, 1, none⟩ (.bool n2)) := by
 have hgs : w1.grownBy (w1.setCell ⟨CB, 1, none⟩ (.bool n2)) (some CB) := grownBy_setB (World.grownBy.refl _ _) 1 _
 refine ⟨h.rd.far h.lt hgs (fun j e => by have := Option.some.inj e; have := h.ge; omega), h.blk.set 1 _, h.own.kept hgs ?_, h.ge, h.ne, h.lt⟩
 cases hv : v.ownBlock with
 | none => exact .inl rfl
 | some k => exact .inr (fun e => h.ne (by rw [hv, e]))
theorem inv_start (X : Option (List (Int × Int) × List Int)) (s s1 : List UInt8) (neg : Bool) (hX : X = if neg then items (runes s).length true (runes s).tail else items (runes s).length true (runes s)) (h1 : s1 = if neg then tailB s else s) : Inv X true s1 false [] := by
 refine ⟨fun _ => ⟨(runes s).length, ?_, ?_⟩, fun e => (by cases e)⟩
 ·rw [h1]
  cases neg with
  | true => rw [if_pos rfl, tailB_runes, List.length_tail]; omega
  | false => exact Nat.le_refl _
 ·rw [hX, h1]
  cases neg with
  | true =>
   rw [if_pos rfl, if_pos rfl, tailB_runes]
   unfold contX
   cases items (runes s).length true (runes s).tail with
   | none => rfl
   | some y => rfl
  | false =>
   rw [if_neg Bool.false_ne_true, if_neg Bool.false_ne_true]
   unfold contX
   cases items (runes s).length true (runes s) with
   | none => rfl
   | some y => rfl
def Nxt (w : World) (B : Nat) (d : Int) (CB sb n : Nat) (v : Value) (sp : List (Int × Int)) (neg : Bool) (X : Option (List (Int × Int) × List Int)) (_s s1 : List UInt8) (wx : World) : Prop :=
 ∃ spN s4 bN, CI w B d s4 bN CB v sp neg wx ∧ Blk wx sb (spC spN) ∧ spN.length = n ∧ spN ≠ [] ∧ spN.length ≤ 4 ∧ Hid (Inv X false s4 bN (sp ++ spN)) ∧ s4.length ≤ s1.length ∧ (bN = false → s4.length < s1.length)
theorem class_any (B : Nat) (s : List UInt8) (d : Int) (w : World) (h : RB w B s d false) (hU : GUB w B) (hl : s.length ≤ 1000) :
  Calls Tryz.prog 349 #[.pointer (some ⟨B, 0, none⟩)] w (ClsE B s d w) := by
 have hlt := Blk.lt h
 obtain ⟨i0, hi, hz0, hz1, hz2⟩ := info_parts infoS
 have HU : Hid (∀ w1, w.grownBy w1 (some B) → GUB w1 B) := Lib.hid (fun w1 hg => hU.kept hg)
 have HL := Lib.hid hl
 obtain ⟨wA, hwA⟩ : ∃ x, x = w.alloc (.cells #[.slice none 0 0, .bool false] 231) := ⟨_, rfl⟩
 have hci : CI w B d s false w.heap.size (.slice none 0 0) [] false wA := by
  rw [hwA]
  exact ⟨(Rd.refl h).below ((Below.refl _ _).alloc (Nat.le_refl _) _), Blk.fresh w _ _, ⟨rfl, .inl ⟨rfl, rfl⟩⟩, Nat.le_refl _, (fun e => by cases e), hlt⟩
 obtain ⟨c0, hc0⟩ : ∃ c, c = headC s := ⟨_, rfl⟩
 obtain ⟨neg, hneg⟩ : ∃ n, n = decide (headC s = 94) := ⟨_, rfl⟩
 have HNeg := Lib.hid hneg
 obtain ⟨X, hX⟩ : ∃ X, X = if neg then items (runes s).length true (runes s).tail else items (runes s).length true (runes s) := ⟨_, rfl⟩
 have HX := Lib.hid hX
 have HCR := Lib.hid (clsR_X s neg hneg X hX)
 have HC0 := Lib.hid hc0
 have hn := next_any B s d false wA hci.rd.rb (hU.kept hci.rd.own).u
 rw [← hc0] at hn
 clear h hU hl hX hneg hc0
 go_enter Tryz.func349, Tryz.ntmps349
 go_upto_region 2 with fail
 rw [← hwA]
 clear hwA
 go_wp2_with fail
 refine hn.mono ?_
 rintro e w1 ⟨rfl, hb1⟩
 have hci := hci.below hb1
 clear hn hb1
 go_upto_if 13 with fail
 go_cut [] (fun wx => ∃ s1, CI w B d s1 false w.heap.size (.slice none 0 0) [] neg wx ∧ s1 = if neg then tailB s else s)
 case first =>
  by_cases g : c0 = 94
  ·have HN : Hid (neg = true) := Lib.hid (by rw [HNeg.out, ← HC0.out]; exact decide_eq_true g)
   subst g
   have hnn := Lib.hid (headC_nn HC0.out.symm (by decide))
   have ht := take_any B s d false w1 hci.rd.rb (HU.out w1 hci.rd.own).u HL.out
   rw [← HC0.out, decide_eq_false hnn.out, Bool.or_false] at ht
   go_wp2_with fail
   refine ht.mono ?_
   rintro e w2 ⟨rfl, hr2⟩
   have hci := hci.step hr2
   have d1 : w2.cell? ⟨w.heap.size, 1, none⟩ = some (.bool false) := hci.blk.cell 1
   have k1 := hci.blk.frozen 1
   have hci2 := hci.neg1 true
   go_wp2_with fail
   go_meet
   exact ⟨tailB s, by rw [HN.out]; exact hci2, by rw [HN.out]; rfl⟩
  ·have HN : Hid (neg = false) := Lib.hid (by rw [HNeg.out, ← HC0.out]; exact decide_eq_false g)
   have gb : (c0 == 94) = false := by simpa using g
   go_wp2_with fail
   go_meet
   exact ⟨s, by rw [HN.out]; exact hci, by rw [HN.out]; rfl⟩
 case rest =>
 obtain ⟨s1, hci, hs1⟩ := hcut
 have HI := Lib.hid (inv_start X s s1 neg HX.out hs1)
 have HLe : Hid (s1.length ≤ s.length) := Lib.hid (by
  rw [hs1]
  cases neg with
  | false => exact Nat.le_refl _
  | true => exact tailB_len s)
 clear hs1 HX HNeg HC0
 go_wp2_with fail
 go_loopw [4] (fun s4 wr => ∃ f s1 b1 v sp, s4 = .bool f ∧ CI w B d s1 b1 w.heap.size v sp neg wr ∧ Hid (Inv X f s1 b1 sp) ∧ Hid (s1.length ≤ s.length ∧ sp.length ≤ 4 * s.length + 4 ∧ (b1 = false → sp.length + 4 * s1.length ≤ 4 * s.length))) (fun _ wr => rdM wr B)
 case atStart => exact ⟨true, s1, false, .slice none 0 0, [], rfl, hci, HI, Lib.hid ⟨HLe.out, Nat.zero_le _, fun _ => by have := HLe.out; show 0 + _ ≤ _; omega⟩⟩
 case round =>
  obtain ⟨f, s1, b1, v, sp, rfl, hci, hI, hB⟩ := hrel
  obtain ⟨q, hq⟩ : ∃ q, q = (!b1 && (f || (headC s1 != 93))) := ⟨_, rfl⟩
  have HQ := Lib.hid hq
  clear hq
  have hnx := next_any B s1 d b1 wr hci.rd.rb (HU.out wr hci.rd.own).u
  have d2 := hci.rd.rb.c2
  have hB0 : Hid (rdM wr B = 2 * s1.length + (if b1 then 0 else 1)) := Lib.hid (rdM_of hci.rd.rb)
  go_upto_region 6 with fail
  go_cut [31] (fun s31 wx => s31 = .bool q ∧ CI w B d s1 b1 w.heap.size v sp neg wx)
  case first =>
   cases b1 with
   | true =>
    have HX2 : Hid (q = false) := Lib.hid (by rw [HQ.out]; rfl)
    go_wp2_with fail
    go_meet
    exact ⟨by rw [HX2.out], hci⟩
   | false =>
    cases f with
    | true =>
     have HX2 : Hid (q = true) := Lib.hid (by rw [HQ.out]; rfl)
     go_wp2_with fail
     go_meet
     exact ⟨by rw [HX2.out], hci⟩
    | false =>
     have HX2 : Hid (q = (headC s1 != 93)) := Lib.hid (by rw [HQ.out]; rfl)
     generalize headC s1 = c1 at *
     go_wp2_with fail
     refine hnx.mono ?_
     rintro e w1 ⟨rfl, hb1⟩
     have hci := hci.below hb1
     go_wp2_with fail
     go_meet
     exact ⟨by rw [HX2.out], hci⟩
  case rest =>
  obtain ⟨rfl, hci⟩ := hcut
  clear hnx d2
  cases q with
  | false =>
   have ht := take_any B s1 d b1 wc hci.rd.rb (HU.out wc hci.rd.own).u (Nat.le_trans hB.out.1 HL.out)
   have HFin : Hid (∀ w2, CI w B d (tailB s1) (b1 || decide (s1 = [])) w.heap.size v sp neg w2 → ClsE B s d w (.returned (clsV w.heap.size)) w2) := Lib.hid (fun w2 hc2 => by
    refine ⟨w.heap.size, tailB s1, _, rfl, hc2.rd, Nat.le_trans (tailB_len s1) hB.out.1, fun a r1 e => ?_, fun e => ?_⟩
    ·rw [HCR.out] at e
     cases hb : b1 with
     | true => rw [hI.out.2 hb] at e; cases e
     | false =>
      have hq := HQ.out
      rw [hb] at hq
      have hf : f = false ∧ headC s1 = 93 := by
       cases f with
       | true => cases hq
       | false =>
        refine ⟨rfl, ?_⟩
        have : (headC s1 != 93) = false := hq.symm
        simpa using this
      obtain ⟨M, hM, hX⟩ := hI.out.1 hb
      have hr := runes_at hf.2 (by decide)
      rw [hr, hf.1, cx_close M (by rw [hr, List.length_cons] at hM; omega)] at hX
      rw [hX] at e
      cases e
      rw [decide_eq_false (headC_nn hf.2 (by decide)), Bool.or_false]
      exact ⟨rfl, rfl, hc2.cls⟩
    ·rw [HCR.out] at e
     cases hb : b1 with
     | true => rfl
     | false =>
      have hq := HQ.out
      rw [hb] at hq
      have hf : f = false ∧ headC s1 = 93 := by
       cases f with
       | true => cases hq
       | false =>
        refine ⟨rfl, ?_⟩
        have : (headC s1 != 93) = false := hq.symm
        simpa using this
      obtain ⟨M, hM, hX⟩ := hI.out.1 hb
      have hr := runes_at hf.2 (by decide)
      rw [hr, hf.1, cx_close M (by rw [hr, List.length_cons] at hM; omega)] at hX
      rw [hX] at e
      cases e)
   clear HQ hB hI hB0 HCR
   go_wp2_with fail
   refine ht.mono ?_
   rintro e w2 ⟨rfl, hr2⟩
   have hci := hci.step hr2
   go_wp2_with fail
   go_ret
   exact HFin.out _ hci
  | true =>
   have hb1 : b1 = false := by
    have := HQ.out
    cases b1 with
    | false => rfl
    | true => cases this
   subst hb1
   have HC : Hid (¬ (f = false ∧ (runes s1).head? = some 93)) := Lib.hid (fun hh => by
    have hq := HQ.out
    rw [hh.1] at hq
    have hq : (headC s1 != 93) = true := hq.symm
    have h2 := hh.2
    unfold headC at hq
    cases hr : runes s1 with
    | nil => rw [hr] at h2; cases h2
    | cons x r =>
     rw [hr] at h2 hq
     have : x = 93 := Option.some.inj h2
     subst this
     have hq : ((93 : Int) != 93) = true := hq
     exact absurd hq (by decide))
   clear HQ
   have hsg := sign_any B s1 d false wc hci.rd.rb (HU.out wc hci.rd.own) (Nat.le_trans hB.out.1 HL.out)
   go_wp2_with fail
   refine hsg.mono ?_
   rintro e w1 ⟨sb, sp1, one, s2, b2, rfl, hS⟩
   have HSg := Lib.hid hS
   have hci1 := hci.step hS.rd
   have hsb : wc.heap.size ≤ sb := hS.new
   have hblk := hS.blk
   have hvsb : v.ownBlock ≠ some sb := fun e => by have := (hci.own.lt sb e).2; omega
   have hsbC : sb ≠ w.heap.size := by have := hci.blk.lt; omega
   have hsbw : w.heap.size ≤ sb := by have := hci.blk.lt; omega
   have HNe := Lib.hid hS.ne
   have HL4 := Lib.hid hS.len
   obtain ⟨n1, hn1⟩ : ∃ n, n = sp1.length := ⟨_, rfl⟩
   rw [← hn1]
   have HN1 := Lib.hid hn1
   clear hS hsg hci hn1
   obtain ⟨c2, hc2⟩ : ∃ c, c = headC s2 := ⟨_, rfl⟩
   have hnx := next_any B s2 d b2 w1 hci1.rd.rb (HU.out w1 hci1.rd.own).u
   rw [← hc2] at hnx
   have HC2 := Lib.hid hc2
   clear hc2
   go_wp2_with fail
   refine hnx.mono ?_
   rintro e w2 ⟨rfl, hb2⟩
   have hci1 := hci1.below hb2
   have hblk := hblk.kept hb2
   clear hnx hb2
   go_upto_if 39 with fail
   go_cut [] (Nxt w B d w.heap.size sb n1 v sp neg X s s1)
   case first =>
    by_cases g : c2 = 45
    case neg =>
     have gb : (c2 == 45) = false := by simpa using g
     have HI2 := Lib.hid (inv_one hI.out HC.out (HSg.out.good rfl) (HSg.out.none rfl) (by rw [← HC2.out]; exact g))
     clear g
     go_wp2_with fail
     go_meet
     exact ⟨sp1, s2, b2, hci1, hblk, HN1.out.symm, HNe.out, HL4.out, HI2, HSg.out.le.1, HSg.out.le.2⟩
    subst g
    have HN2 := Lib.hid (headC_nn HC2.out.symm (by decide))
    have HR2 := Lib.hid (runes_at HC2.out.symm (by decide))
    have ht := take_any B s2 d b2 w2 hci1.rd.rb (HU.out w2 hci1.rd.own).u (Nat.le_trans HSg.out.le.1 (Nat.le_trans hB.out.1 HL.out))
    rw [← HC2.out, decide_eq_false HN2.out, Bool.or_false] at ht
    go_wp2_with fail
    refine ht.mono ?_
    rintro e w3 ⟨rfl, hr3⟩
    have hci3 := hci1.step hr3
    have hblk := blk_kept hblk hr3.own (by omega)
    have hsl3 := hblk.lt
    have hL3 : (tailB s2).length ≤ 1000 := Nat.le_trans (tailB_len s2) (Nat.le_trans HSg.out.le.1 (Nat.le_trans hB.out.1 HL.out))
    have hsg := sign_any B (tailB s2) d b2 w3 hci3.rd.rb (HU.out w3 hci3.rd.own) hL3
    clear ht hL3 hr3 hci1
    go_wp2_with fail
    refine hsg.mono ?_
    rintro e w4 ⟨sc, sp3, other, s4, b4, rfl, hS3⟩
    have HS3 := Lib.hid hS3
    have hci4 := hci3.step hS3.rd
    have hblk := blk_kept hblk hS3.rd.own (by omega)
    have hblk3 := hS3.blk
    have HTwo := Lib.hid (inv_two hI.out HC.out (HSg.out.good rfl) (HSg.out.none rfl) HR2.out hS3.good hS3.none hS3.stay)
    obtain ⟨x1, r1, hx1⟩ := List.exists_cons_of_ne_nil HNe.out
    obtain ⟨x3, r3, hx3⟩ := List.exists_cons_of_ne_nil hS3.ne
    have e1 : w4.cell? ⟨sb, 0, none⟩ = some (.int .i32 x1.1) := by rw [hx1] at hblk; exact hblk.cell 0
    have e3 : w4.cell? ⟨sc, 0, none⟩ = some (.int .i32 x3.1) := by rw [hx3] at hblk3; exact hblk3.cell 0
    have d2 := hci4.rd.rb.c2
    rw [hx1, hx3] at HTwo
    have HTwo : Hid (((b4 = true ∨ one = false ∨ other = false ∨ x3.1 < x1.1) → X = none) ∧ (b4 = false → one = true → other = true → ¬ x3.1 < x1.1 → x1 :: r1 = [(x1.1, x1.1)] ∧ Inv X false s4 b4 (sp ++ [(x1.1, x3.1)]))) := HTwo
    have hn3 : 1 ≤ sp3.length := by rw [hx3]; simp
    have hn1 : 1 ≤ n1 := by rw [HN1.out, hx1]; simp
    have hscb : sc ≠ sb := by have := hS3.new; omega
    have HX1 := Lib.hid hx1
    clear hsg hS3 hx1 hx3 hci3
    generalize sp3.length = n3 at *
    obtain ⟨T, hT⟩ : ∃ T, T = (b4 || !one || !other || decide (x3.1 < x1.1)) := ⟨_, rfl⟩
    have HT := Lib.hid hT
    clear hT
    go_upto_region 12 with fail
    go_cut [69] (fun s69 wx => s69 = .bool T ∧ wx = w4.drew)
    case first =>
     cases b4 with
     | true =>
      have HX2 : Hid (T = true) := Lib.hid (by rw [HT.out]; rfl)
      go_region
      all_goals
       go_wp2_with fail
       go_meet
       exact ⟨by rw [HX2.out], rfl⟩
     | false =>
      cases one with
      | false =>
       have HX2 : Hid (T = true) := Lib.hid (by rw [HT.out]; rfl)
       go_region
       all_goals
        go_wp2_with fail
        go_meet
        exact ⟨by rw [HX2.out], rfl⟩
      | true =>
       cases other with
       | false =>
        have HX2 : Hid (T = true) := Lib.hid (by rw [HT.out]; rfl)
        go_region
        all_goals
         go_wp2_with fail
         go_meet
         exact ⟨by rw [HX2.out], rfl⟩
       | true =>
        have d2' : w4.drew.cell? ⟨B, 2, none⟩ = some (.bool false) := d2
        have e1' : w4.drew.cell? ⟨sb, 0, none⟩ = some (.int .i32 x1.1) := e1
        have e3' : w4.drew.cell? ⟨sc, 0, none⟩ = some (.int .i32 x3.1) := e3
        have HX2 : Hid (T = decide (x3.1 < x1.1)) := Lib.hid (by rw [HT.out]; rfl)
        by_cases glt : x3.1 < x1.1
        ·have HX3 : Hid (T = true) := Lib.hid (by rw [HX2.out]; exact decide_eq_true glt)
         go_region
         all_goals
          go_wp2_with fail
          go_meet
          exact ⟨by rw [HX3.out], rfl⟩
        ·have HX3 : Hid (T = false) := Lib.hid (by rw [HX2.out]; exact decide_eq_false glt)
         go_region
         all_goals
          go_wp2_with fail
          go_meet
          exact ⟨by rw [HX3.out], rfl⟩
    case rest =>
    obtain ⟨rfl, hwc⟩ := hcut
    subst hwc
    have hci5 := hci4.below ((Below.refl _ w4).drew)
    have hblk5 : Blk w4.drew sb (spC sp1) := hblk
    have HLs : Hid (s4.length ≤ (tailB s2).length ∧ s4.length ≤ s1.length ∧ s4.length ≤ s.length) := Lib.hid (by have h1 := HS3.out.le.1; have h2 := tailB_len s2; have h3 := HSg.out.le.1; have h4 := hB.out.1; exact ⟨by omega, by omega, by omega⟩)
    have HLt : Hid (b4 = false → s4.length < s1.length) := Lib.hid (fun hb => by
     have h1 := HS3.out.le.2 hb
     have h2 := tailB_len s2
     have h3 := HSg.out.le.1
     omega)
    have e3' : w4.drew.cell? ⟨sc, 0, none⟩ = some (.int .i32 x3.1) := e3
    clear hblk hblk3 e1 e3 d2 hci4
    have d2 : w4.drew.cell? ⟨B, 2, none⟩ = some (.bool b4) := hci5.rd.rb.c2
    have k2 := hci5.rd.rb.frozen 2
    cases T with
    | true =>
     have HXn : Hid (X = none) := Lib.hid (HTwo.out.1 (by
      have := HT.out
      cases b4 with
      | true => exact .inl rfl
      | false =>
       cases one with
       | false => exact .inr (.inl rfl)
       | true =>
        cases other with
        | false => exact .inr (.inr (.inl rfl))
        | true =>
         refine .inr (.inr (.inr ?_))
         have this : true = decide (x3.1 < x1.1) := this
         exact of_decide_eq_true this.symm))
     have hci6 := hci5.set2 true
     clear HTwo HT
     go_wp2_with fail
     go_ret
     exact ⟨w.heap.size, s4, true, rfl, hci6.rd, HLs.out.2.2, fun a r1 e => (by rw [HCR.out, HXn.out] at e; cases e), fun _ => rfl⟩
    | false =>
     have hall : b4 = false ∧ one = true ∧ other = true ∧ ¬ x3.1 < x1.1 := by
      have := HT.out
      cases b4 with
      | true => cases this
      | false =>
       cases one with
       | false => cases this
       | true =>
        cases other with
        | false => cases this
        | true =>
         have this : false = decide (x3.1 < x1.1) := this
         exact ⟨rfl, rfl, rfl, of_decide_eq_false this.symm⟩
     obtain ⟨rfl, rfl, rfl, hnlt⟩ := hall
     obtain ⟨hs1, hI2⟩ := HTwo.out.2 rfl rfl rfl (by omega)
     have hb6 : Blk w4.drew sb [.int .i32 x1.1, .int .i32 x1.1] := by
      have := hblk5
      rw [HX1.out, hs1] at this
      exact this
     have hb7 := hb6.set 1 (.int .i32 x3.1)
     have e0 : w4.drew.cell? ⟨sb, 0, none⟩ = some (.int .i32 x1.1) := hb6.cell 0
     have e1 : w4.drew.cell? ⟨sb, 1, none⟩ = some (.int .i32 x1.1) := hb6.cell 1
     have k1 := hb6.frozen 1
     have hci7 := hci5.own_set sb 1 (.int .i32 x3.1) hsbw hsbC hvsb
     have HI3 := Lib.hid hI2
     have HN7 : Hid (n1 = 1) := Lib.hid (by rw [HN1.out, HX1.out, hs1]; rfl)
     clear HTwo HT hI2 hs1 hblk5 hb6 hnlt
     go_wp2_with fail
     go_meet
     exact ⟨[(x1.1, x3.1)], s4, false, hci7, hb7, HN7.out.symm, List.cons_ne_nil _ _, (by show 1 ≤ 4; decide), HI3, HLs.out.2.1, fun _ => (by have := HLt.out; first | exact this | exact this (by first | rfl | trivial))⟩
   case rest =>
   obtain ⟨spN, s4, bN, hci8, hblk8, hn8, hne8, hl8, HI8, hle8, hlt8⟩ := hcut
   obtain ⟨va, vn, vcap, hvs⟩ : ∃ a n c, v = .slice a n c := by
    rcases hci8.own.2 with ⟨g, _⟩ | ⟨g, c, cu, g1, _⟩
    ·exact ⟨_, _, _, g⟩
    ·exact ⟨_, _, _, g1⟩
   subst hvs
   have hBd : sp.length ≤ 4 * s.length + 4 ∧ sp.length + 4 * s1.length ≤ 4 * s.length ∧ s1.length ≤ s.length := ⟨hB.out.2.1, hB.out.2.2 (by first | rfl | trivial), hB.out.1⟩
   have hsl := HL.out
   have HBd := Lib.hid hBd
   have c0 : wc.cell? ⟨w.heap.size, 0, none⟩ = some (.slice va vn vcap) := hci8.blk.cell 0
   have hown8 := hci8.own
   have hmx : sp.length + n1 ≤ maxLen := by unfold maxLen; omega
   have hge8 : w.heap.size ≤ wc.heap.size := hci8.rd.own.size
   go_wp2_with (at_builtin; refine wpList_append_own _ rfl _ _ 229 rfl w.heap.size 233 i0 _ 2 8 Tryz.underlying229 hi hz0 hz1 hz2 rfl (by decide) _ _ _ rfl hown8 ⟨sb, 0, none⟩ n1 n1 (spC spN) rfl ?q1 ?q2 ?q3 ?q4 ?q5 ?q6 ?_)
   case q1 => rw [spC_len, hn8]
   case q2 =>
    intro j u hj
    have := hblk8.cell j
    rw [hj] at this
    have e : (⟨sb, 0, none⟩ : Addr).add j = ⟨sb, j, none⟩ := by
     unfold Addr.add
     split
     ·rename_i g; rw [g]
     ·rw [Nat.zero_add]
    rw [e]; exact this
   case q3 => exact spC_one spN
   case q4 => exact hmx
   case q5 => have := HBd.out; omega
   case q6 => exact hge8
   intro v' w9 hown9 hgrow9 _
   rw [← hn8] at hown9
   obtain ⟨va9, vn9, vc9, hvs⟩ : ∃ a n c, v' = .slice a n c := by
    rcases hown9.2 with ⟨g, _⟩ | ⟨g, c, cu, g1, _⟩
    ·exact ⟨_, _, _, g⟩
    ·exact ⟨_, _, _, g1⟩
   subst hvs
   have hci9 := hci8.app hne8 hgrow9 hown9
   have c9 : w9.cell? ⟨w.heap.size, 0, none⟩ = some (.slice va vn vcap) := (blk_far hci8.blk hgrow9 hci8.ne).cell 0
   have k9 := (blk_far hci8.blk hgrow9 hci8.ne).frozen 0
   clear hown9 hgrow9 hown8
   go_wp2_with fail
   go_roundw
   case rel => exact ⟨false, s4, bN, _, sp ++ spN, rfl, hci9, HI8, Lib.hid ⟨by have := HBd.out; omega, by have := HBd.out; rw [List.length_append]; omega, fun hb => by have := HBd.out; have := hlt8 hb; rw [List.length_append]; omega⟩⟩
   case measure =>
    rw [rdM_of hci9.rd.rb, hB0.out]
    cases hb : bN with
    | true => simp; omega
    | false => have := hlt8 hb; simp; omega

theorem row_form {w : World} {lo n : Nat} {e : TypeId} {size : Nat} {v : Value} {xs : List Value} (h : w.ownsRow lo e size v n xs) :
  ∃ a cap, v = .slice a n cap ∧ n ≤ maxLen ∧ (0 < n → ∃ g, a = some ⟨g, 0, none⟩ ∧ lo ≤ g ∧ g < w.heap.size ∧ ∀ j, j < n * size → w.cell? ⟨g, j, none⟩ = xs[j]?) := by
 rcases h.2 with ⟨g, g0⟩ | ⟨g, cap, cur, h1, hlo, hg, hnc, hcm, _⟩
 ·exact ⟨_, _, by rw [g, g0], by omega, fun k => by omega⟩
 ·subst h1
  refine ⟨_, _, rfl, Nat.le_trans hnc hcm, fun _ => ⟨g, rfl, hlo, ?_, fun j hj => h.cellAt j hj⟩⟩
  exact (h.lt g rfl).2
theorem spC_get (sp : List (Int × Int)) : ∀ k (h : k < sp.length), (spC sp)[k * 2]? = some (.int .i32 sp[k].1) ∧ (spC sp)[k * 2 + 1]? = some (.int .i32 sp[k].2) := by
 induction sp with
 | nil => intro k h; exact absurd h (Nat.not_lt_zero _)
 | cons x r ih =>
  intro k h
  show ((Value.int .i32 x.1 :: Value.int .i32 x.2 :: spC r)[k * 2]? = _ ∧ _)
  cases k with
  | zero => exact ⟨rfl, rfl⟩
  | succ k =>
   have := ih k (by simpa using h)
   rw [show (k + 1) * 2 = k * 2 + 1 + 1 by omega]
   exact this
theorem in_any (cb : Nat) (sv : Value) (sp : List (Int × Int)) (neg : Bool) (x : Int) (S : Nat → Prop) (w : World) (hb : Blk w cb [sv, .bool neg]) (ho : SpO w S sv sp) :
  Calls Tryz.prog 249 #[.pointer (some ⟨cb, 0, none⟩), .int .i32 x] w fun e w' => e = .returned (.bool (inC sp neg x)) ∧ Below w.heap.size w w' := by
 obtain ⟨a, cap, rfl, hmx, hrd⟩ := row_form ho.1
 have hmx : sp.length ≤ 9223372036854775807 := hmx
 have c0 : w.cell? ⟨cb, 0, none⟩ = some (.slice a sp.length cap) := hb.cell 0
 have HB := Lib.hid hb
 obtain ⟨R, hR⟩ : ∃ R, R = inC sp neg x := ⟨_, rfl⟩
 rw [← hR]
 have HR : Hid (R = if (sp.drop 0).any (fun s => decide (s.1 ≤ x) && decide (x ≤ s.2)) then !neg else neg) := Lib.hid hR
 have HRd := Lib.hid hrd
 clear hb hR ho hrd
 go_enter Tryz.func249, Tryz.ntmps249
 go_wp2_with fail
 go_loopw [12] (fun s12 wr => ∃ k : Nat, s12 = .int .i64 k ∧ k ≤ sp.length ∧ Hid (R = if (sp.drop k).any (fun s => decide (s.1 ≤ x) && decide (x ≤ s.2)) then !neg else neg) ∧ Below w.heap.size w wr) (fun s12 _ => sp.length - (RowKit.intOf s12).toNat)
 case atStart => exact ⟨0, rfl, Nat.zero_le _, HR, Below.refl _ _⟩
 case round =>
  obtain ⟨k, rfl, hk, hX, hbw⟩ := hrel
  by_cases hlt : k < sp.length
  ·obtain ⟨g, rfl, _, hg, hcs⟩ := HRd.out (by omega)
   have e0 := (hbw.cell (p := ⟨g, k * 2, none⟩) hg).trans (hcs (k * 2) (by omega))
   have e1 := (hbw.cell (p := ⟨g, k * 2 + 1, none⟩) hg).trans (hcs (k * 2 + 1) (by omega))
   obtain ⟨q0, q1⟩ := spC_get sp k hlt
   rw [q0] at e0
   rw [q1] at e1
   have hy := hX.out
   rw [List.drop_eq_getElem_cons hlt, List.any_cons] at hy
   have hlI : (k : Int) < (sp.length : Int) := by omega
   generalize sp[k] = y at *
   obtain ⟨lo, hi⟩ := y
   dsimp only at e0 e1 hy
   obtain ⟨W2, hW2⟩ : ∃ W2, W2 = wr.alloc (.cells #[.int .i32 lo, .int .i32 hi] 233) := ⟨_, rfl⟩
   have hb2 : Below wr.heap.size wr W2 := by rw [hW2]; exact (Below.refl _ _).alloc (Nat.le_refl _) _
   have f0 : W2.cell? ⟨wr.heap.size, 0, none⟩ = some (.int .i32 lo) := by rw [hW2, World.cell?_alloc_new]; rfl
   have f1 : W2.cell? ⟨wr.heap.size, 1, none⟩ = some (.int .i32 hi) := by rw [hW2, World.cell?_alloc_new]; rfl
   have hb02 := below_trans hbw hb2
   have hc1 : W2.cell? ⟨cb, 1, none⟩ = some (.bool neg) := (HB.out.kept hb02).cell 1
   have HY := Lib.hid hy
   clear hcs q0 q1 hX hy
   go_upto_region 4 with fail
   rw [← hW2]
   clear hW2 e0 e1
   go_cut [25] (fun s25 wx => s25 = .bool (decide (lo ≤ x) && decide (x ≤ hi)) ∧ wx = W2)
   case first =>
    by_cases g1 : lo ≤ x
    ·by_cases g2 : x ≤ hi
     ·have HE : Hid ((decide (lo ≤ x) && decide (x ≤ hi)) = true) := Lib.hid (by rw [decide_eq_true g1, decide_eq_true g2]; rfl)
      go_wp2_with fail
      go_meet
      exact ⟨by rw [HE.out], rfl⟩
     ·have HE : Hid ((decide (lo ≤ x) && decide (x ≤ hi)) = false) := Lib.hid (by rw [decide_eq_false g2, Bool.and_false])
      go_wp2_with fail
      go_meet
      exact ⟨by rw [HE.out], rfl⟩
    ·have HE : Hid ((decide (lo ≤ x) && decide (x ≤ hi)) = false) := Lib.hid (by rw [decide_eq_false g1, Bool.false_and])
     go_wp2_with fail
     go_meet
     exact ⟨by rw [HE.out], rfl⟩
   case rest =>
   obtain ⟨rfl, hwc⟩ := hcut
   subst hwc
   generalize (decide (lo ≤ x) && decide (x ≤ hi)) = t at *
   cases t with
   | true =>
    have HZ : Hid (R = !neg) := Lib.hid HY.out
    clear HY
    go_wp2_with fail
    go_ret
    exact ⟨by rw [HZ.out]; rfl, hb02⟩
   | false =>
    have HZ : Hid (R = if (sp.drop (k + 1)).any (fun s => decide (s.1 ≤ x) && decide (x ≤ s.2)) then !neg else neg) := Lib.hid HY.out
    clear HY
    go_wp2_with fail
    go_roundw
    case rel => exact ⟨k + 1, by go_num, by omega, HZ, hb02⟩
    case measure => simp [RowKit.intOf]; omega
  ·have HZ : Hid (R = neg) := Lib.hid (by have := hX.out; rw [List.drop_eq_nil_of_le (by omega)] at this; exact this)
   have hlI : ¬ (k : Int) < (sp.length : Int) := by omega
   have hc1 : wr.cell? ⟨cb, 1, none⟩ = some (.bool neg) := (HB.out.kept hbw).cell 1
   clear hX
   go_wp2_with fail
   go_ret
   exact ⟨by rw [HZ.out]; rfl, hbw⟩
theorem ta_cls2 (cb : Nat) (w : World) : (Instr.typeAssert (clsV cb) 182 186 false).run Tryz.prog w = .ok (.pointer (some ⟨cb, 0, none⟩)) w := by kernel_rfl
theorem infoR : (Tryz.prog.info? 21).map (fun i => (i.zero, i.size, i.bytes)) = some (some (.int .i32 0), 1, 4) := by kernel_rfl
theorem infoBl : (Tryz.prog.info? 4).map (fun i => (i.zero, i.size, i.bytes)) = some (some (.bool false), 1, 1) := by kernel_rfl
theorem mk_places (n : Nat) (hn : n ≤ 4000001) (w : World) : ∃ w1, (Instr.makeSlice 136 (.int .i64 (n : Int)) (.int .i64 (n : Int))).run Tryz.prog w = .ok (.slice (some ⟨w.heap.size, 0, none⟩) n n) w1 ∧ PlNew w1 w.heap.size (.slice (some ⟨w.heap.size, 0, none⟩) n n) (zeros n) ∧ Below w.heap.size w w1 := by
 obtain ⟨i0, hi, hz0, hz1, hz2⟩ := info_parts infoBl
 obtain ⟨w1, hmk, hown, hgrow⟩ := run_make_full (P := Tryz.prog) w w.heap.size 136 4 i0 (.bool false) 1 Tryz.underlying136 hi hz0 hz1 .i64 .i64 n (by rw [hz2]; omega) (by unfold maxLen; omega) (Nat.le_refl _)
 refine ⟨w1, hmk, ?_, (Below.refl _ w).grown hgrow (Nat.le_refl _) (fun k hk => by cases hk)⟩
 rw [show (madeCells (Value.bool false).cells (n * 1)).toList = (zeros n).map (fun x => Value.bool x) from by
  rw [Nat.mul_one, show (Value.bool false).cells = #[.bool false] from rfl, toList_madeCells_one]
  unfold zeros
  rw [List.map_replicate]] at hown
 unfold PlNew
 rw [zeros_len]
 exact hown
theorem pl_get {l : List Bool} {k : Nat} (h : k < l.length) : (l.map (fun x => Value.bool x))[k]? = some (.bool l[k]) := by
 rw [List.getElem?_map, List.getElem?_eq_getElem h]; rfl
theorem pl_set {l : List Bool} {k : Nat} {b : Bool} : (l.map (fun x => Value.bool x)).set k (.bool b) = (l.set k b).map (fun x => Value.bool x) := by
 rw [List.map_set]
theorem once_cls {S : Nat → Prop} {v : Value} {a : Atm} {tv : Value} {s : List Int} {av : Value} {p : List Bool} {w : World} (h : ClsR w S v a) (hf : Fits3 w tv s av p) :
  Calls Tryz.prog 171 #[v, tv, av] w (PlE w.heap.size (a.fn s p) w) := by
 obtain ⟨cb, sv, sp, neg, rfl, rfl, _, hb, ho⟩ := h
 obtain ⟨ht, ha, hlen, hs4⟩ := hf
 obtain ⟨ta, tc, rfl, _, htr⟩ := row_form ht
 obtain ⟨aa, ac, rfl, _, har⟩ := row_form ha
 obtain ⟨w1, hmk, hpl, hb1⟩ := mk_places p.length (by omega) w
 obtain ⟨R, hR⟩ : ∃ R, R = clsF (inC sp neg) s p := ⟨_, rfl⟩
 show Calls _ _ _ _ (PlE w.heap.size (clsF (inC sp neg) s p) w)
 rw [← hR]
 have hRl : R.length = p.length := by rw [hR, cls_len]; omega
 have HRn := Lib.hid (fun (i : Nat) (h1 : i < s.length) (h2 : i < p.length) (h3 : i + 1 < R.length) => (show R[i + 1] = (p[i] && inC sp neg s[i]) by subst hR; exact cls_succ _ _ _ _ _))
 have HR0 : Hid (∀ h : 0 < R.length, R[0] = false) := Lib.hid (fun h => by subst hR; exact cls_zero _ _ _ _)
 have HIn := Lib.hid (fun w' x (hb' : Below w.heap.size w w') => in_any cb sv sp neg x S w' (hb.kept hb') (OwS.kept (r := none) (grownBy_below (World.grownBy.refl _ _) hb') (fun k e => by cases e) ho))
 have HTr := Lib.hid htr
 have HAr := Lib.hid har
 have hta := ta_cls cb
 have hta2 := ta_cls2 cb
 obtain ⟨G, hG⟩ : ∃ G, G = w.heap.size := ⟨_, rfl⟩
 have HG : Hid (G = w.heap.size) := Lib.hid hG
 rw [← hG] at hmk hpl
 have hZl : (zeros p.length).length = p.length := zeros_len _
 have HSt : Hid (PlNew w1 w.heap.size (.slice (some ⟨G, 0, none⟩) p.length p.length) (mixL R (zeros p.length) (0 + 1))) := Lib.hid (by
  rw [mix_same (by rw [hRl, hZl]) (by rw [hZl]; omega) (by rw [HR0.out (by omega)]; unfold zeros; rw [List.getElem_replicate]), mix_zero, ← hG]; exact hpl)
 have HLen := Lib.hid hlen
 have HRl := Lib.hid hRl
 have hp4 : p.length ≤ 4000001 := by omega
 clear hb ho ht ha htr har hpl hR hG hlen hRl hZl hs4
 generalize clsV cb = v at *
 go_enter Tryz.func171, Tryz.ntmps171
 go_wp2_with fail
 go_loopw [62] (fun s62 wr => ∃ k : Nat, s62 = .int .i64 k ∧ k ≤ s.length ∧ Hid (PlNew wr w.heap.size (.slice (some ⟨G, 0, none⟩) p.length p.length) (mixL R (zeros p.length) (k + 1))) ∧ Below w.heap.size w wr) (fun s62 _ => s.length - (RowKit.intOf s62).toNat)
 case atStart => exact ⟨0, rfl, Nat.zero_le _, HSt, hb1⟩
 case round =>
  obtain ⟨k, rfl, hk, hpl, hbw⟩ := hrel
  have hlen := HLen.out
  have hRl := HRl.out
  have hZl : (zeros p.length).length = p.length := zeros_len _
  by_cases hlt : k < s.length
  ·obtain ⟨tg, rfl, _, htg, hts⟩ := HTr.out (by omega)
   obtain ⟨ag, rfl, _, hag, has⟩ := HAr.out (by omega)
   have e0 := (hbw.cell (p := ⟨tg, k, none⟩) htg).trans (hts k (by omega))
   have e1 := (hbw.cell (p := ⟨ag, k, none⟩) hag).trans (has k (by omega))
   rw [List.getElem?_map, List.getElem?_eq_getElem hlt] at e0
   rw [pl_get (by omega : k < p.length)] at e1
   have e0 : wr.cell? ⟨tg, k, none⟩ = some (.int .i32 s[k]) := e0
   have hRk := HRn.out k hlt (by omega) (by omega)
   have hin := HIn.out wr s[k] hbw
   have hk1 : k + 1 < p.length := by omega
   have hown : wr.ownsRow w.heap.size 4 1 (.slice (some ⟨G, 0, none⟩) p.length p.length) p.length ((mixL R (zeros p.length) (k + 1)).map (fun x => Value.bool x)) := by
    have := hpl.out
    unfold PlNew at this
    rw [mix_len (by rw [hRl, hZl]), hZl] at this
    exact this
   have HMs := Lib.hid (fun (w' : World) (hx : w'.ownsRow w.heap.size 4 1 (.slice (some ⟨G, 0, none⟩) p.length p.length) p.length ((mixL R (zeros p.length) (k + 1)).map (fun x => Value.bool x))) =>
    (show PlNew (w'.setCell ⟨G, k + 1, none⟩ (.bool (R[k + 1]'(by omega)))) w.heap.size (.slice (some ⟨G, 0, none⟩) p.length p.length) (mixL R (zeros p.length) (k + 1 + 1)) by
     have := (hx.stored (k + 1) (.bool (R[k + 1]'(by omega)))).1
     rw [pl_set, mix_set (by rw [hRl, hZl]) (by rw [hZl]; exact hk1)] at this
     unfold PlNew
     rw [mix_len (by rw [hRl, hZl]), hZl]
     exact this))
   have HMf : Hid (R[k + 1]'(by omega) = false → mixL R (zeros p.length) (k + 1 + 1) = mixL R (zeros p.length) (k + 1)) := Lib.hid (fun e => mix_same (by rw [hRl, hZl]) (by rw [hZl]; exact hk1) (by rw [e]; unfold zeros; rw [List.getElem_replicate]))
   have HRk := Lib.hid hRk
   have HOw := Lib.hid hown
   generalize s[k] = x at *
   generalize p[k] = pk at *
   generalize R[k + 1]'(by omega) = rk at *
   generalize inC sp neg x = ik at *
   have hkI : (k : Int) < (s.length : Int) := by omega
   have hkP : (k : Int) < (p.length : Int) := by omega
   have hkP1 : (k : Int) + 1 < (p.length : Int) := by omega
   clear hts has hRk hown hlen hRl hZl
   cases pk with
   | false =>
    have hf : rk = false := by rw [HRk.out]; rfl
    have HN2 : Hid (PlNew wr w.heap.size (.slice (some ⟨G, 0, none⟩) p.length p.length) (mixL R (zeros p.length) (k + 1 + 1))) := Lib.hid (by rw [HMf.out hf]; exact hpl.out)
    clear hf hin
    go_wp2_with fail
    go_roundw
    case rel => exact ⟨k + 1, by go_num, by omega, HN2, hbw⟩
    case measure => simp [RowKit.intOf]; omega
   | true =>
    cases ik with
    | false =>
     have hf : rk = false := by rw [HRk.out]; rfl
     have HN2 : Hid (mixL R (zeros p.length) (k + 1 + 1) = mixL R (zeros p.length) (k + 1)) := Lib.hid (HMf.out hf)
     clear hf
     go_wp2_with fail
     refine hin.mono ?_
     rintro e w3 ⟨rfl, hb3⟩
     have hpl3 : Hid (PlNew w3 w.heap.size (.slice (some ⟨G, 0, none⟩) p.length p.length) (mixL R (zeros p.length) (k + 1 + 1))) := Lib.hid (by rw [HN2.out]; exact own_below hpl.out hb3)
     clear hin
     go_wp2_with fail
     go_roundw
     case rel => exact ⟨k + 1, by go_num, by omega, hpl3, below_trans hbw hb3⟩
     case measure => simp [RowKit.intOf]; omega
    | true =>
     have hf : rk = true := by rw [HRk.out]; rfl
     subst hf
     go_wp2_with fail
     refine hin.mono ?_
     rintro e w3 ⟨rfl, hb3⟩
     have hw3 := own_below HOw.out hb3
     have efr := hw3.frozenAt (k + 1)
     obtain ⟨bv, ece⟩ : ∃ b, w3.cell? ⟨G, k + 1, none⟩ = some (.bool b) := ⟨_, by rw [hw3.cellAt (k + 1) (by have := HLen.out; omega), pl_get (by rw [mix_len (by rw [HRl.out, zeros_len]), zeros_len]; have := HLen.out; omega)]⟩
     have hb03 := below_trans hbw hb3
     have hbs := hb03.setCell (p := ⟨G, k + 1, none⟩) (Nat.le_of_eq HG.out.symm) (.bool true)
     have HN2 := Lib.hid (HMs.out w3 hw3)
     clear hin hw3
     go_wp2_with fail
     go_roundw
     case rel => exact ⟨k + 1, by go_num, by omega, HN2, hbs⟩
     case measure => simp [RowKit.intOf]; omega
  ·obtain rfl : k = s.length := by omega
   have hkI : ¬ (s.length : Int) < (s.length : Int) := by omega
   have HE : Hid (PlNew wr w.heap.size (.slice (some ⟨G, 0, none⟩) p.length p.length) R) := Lib.hid (by
    have := hpl.out
    rw [show s.length + 1 = (zeros p.length).length by omega, mix_all (by omega)] at this
    exact this)
   clear hpl hlen hRl hZl
   go_wp2_with fail
   go_ret
   exact ⟨_, rfl, HE.out, hbw⟩
end Go.Proofs.YtkhlfggnjcbniaaGreatDoor.pat
