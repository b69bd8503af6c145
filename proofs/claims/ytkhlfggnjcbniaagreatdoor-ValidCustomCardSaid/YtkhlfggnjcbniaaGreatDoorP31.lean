/- A part of the proofs: lemmas and contracts. -/
import Derived.Lib.BufferOwn
import Derived.Test.YtkhlfggnjcbniaaGreatDoorP26
set_option maxHeartbeats 12800000
set_option maxRecDepth 1000000
namespace Go.Proofs.YtkhlfggnjcbniaaGreatDoor.pat
open Go.ChangeShapes Go.WideShapes Go.ChangeAt Go.RowKit Go.Lib

def Rn (c : Int) : Prop := 0 ≤ c ∧ (c < 55296 ∨ (57343 < c ∧ c ≤ 1114111))
theorem enc_last (c : Int) (hc : Rn c) (h : 128 ≤ c) : ∃ l : List UInt8, Utf8.encode c = ⟨l.toArray⟩ ∧ 2 ≤ l.length ∧ l.length ≤ 4 ∧ ∀ g : l.length - 1 < l.length, 128 ≤ (l[l.length - 1]).toNat := by
 obtain ⟨h0, h1⟩ := hc
 have hv : Utf8.valid c = true := by
  unfold Utf8.valid
  simp only [Bool.or_eq_true, Bool.and_eq_true, decide_eq_true_eq]
  omega
 have e : ((c.toNat : Nat) : Int) = c := by omega
 have hb : ∀ x : Nat, 128 ≤ (UInt8.ofNat (128 + x % 64)).toNat := by
  intro x
  rw [UInt8.toNat_ofNat']
  omega
 unfold Utf8.encode
 rw [if_pos hv]
 by_cases c1 : c.toNat < 128
 ·omega
 by_cases c2 : c.toNat < 2048
 ·refine ⟨[UInt8.ofNat (192 + c.toNat / 64), UInt8.ofNat (128 + c.toNat % 64)], ?_, by show 2 ≤ 2; decide, by show 2 ≤ 4; decide, fun g => hb _⟩
  simp [c1, c2]
 by_cases c3 : c.toNat < 65536
 ·refine ⟨[UInt8.ofNat (224 + c.toNat / 4096), UInt8.ofNat (128 + c.toNat / 64 % 64), UInt8.ofNat (128 + c.toNat % 64)], ?_, by show 2 ≤ 3; decide, by show 3 ≤ 4; decide, fun g => hb _⟩
  simp [c1, c2, c3]
 ·refine ⟨[UInt8.ofNat (240 + c.toNat / 262144), UInt8.ofNat (128 + c.toNat / 4096 % 64), UInt8.ofNat (128 + c.toNat / 64 % 64), UInt8.ofNat (128 + c.toNat % 64)], ?_, by show 2 ≤ 4; decide, by show 4 ≤ 4; decide, fun g => hb _⟩
  simp [c1, c2, c3]
theorem index_no (l : List UInt8) (c : UInt8) (h : ∀ b ∈ l, b ≠ c) : indexByte l c = -1 := by
 have hw : -1 ≤ indexByte l c := indexByte_ge l c
 rcases Int.lt_or_le (indexByte l c) 0 with g | g
 ·omega
 ·obtain ⟨o, ho⟩ : ∃ o : Nat, indexByte l c = o := ⟨(indexByte l c).toNat, by omega⟩
  have := (indexByte_some ho).1
  exact absurd rfl (h c (List.mem_of_getElem? this))
theorem irune_big (s : List UInt8) (hs : ∀ b ∈ s, b.toNat < 128) (hl : s.length ≤ 100) (c : Int) (hc : Rn c) (h : 128 ≤ c) (h2 : c ≠ 65533) (w : World) :
  Calls Tryz.prog 298 #[.string ⟨s.toArray⟩, .int .i32 c] w fun e w' => e = .returned (.int .i64 (-1)) ∧ Below w.heap.size w w' := by
 have hv := Tryz.utf8_ValidRune c w
 have hvt : Lib.validRune c = true := by
  obtain ⟨h0, h1⟩ := hc
  unfold Lib.validRune
  simp only [decide_eq_true_eq]
  omega
 obtain ⟨l, hE, l2, l4, hlast⟩ := enc_last c hc h
 have b1 : (c == 65533) = false := by simpa using h2
 have b2 : ¬ c < 128 := by omega
 go_enter Tryz.func298, Tryz.ntmps298
 go_wp2_with fail
 refine hv.mono ?_
 rintro e w' ⟨rfl, rfl⟩
 rw [hvt]
 clear hv hvt
 have HLast := Lib.hid hlast
 have HS := Lib.hid hs
 clear hlast hs hc h2 h
 obtain ⟨n, hn⟩ : ∃ n, l.length = n + 1 := ⟨l.length - 1, by omega⟩
 have hln : (l.length : Int) = (n : Int) + 1 := by omega
 have hnl : n < l.length := by omega
 have HN := Lib.hid hn
 have HLn := Lib.hid hln
 clear hln hn l2
 go_wp2_with fail
 go_step3
 go_upto_region 2 with fail
 go_cut [8] (fun s8 wx => s8 = .int .i64 (n : Int) ∧ wx = w')
 case first =>
  go_wp2_with fail
  go_meet
  exact ⟨by rw [HLn.out]; go_num, rfl⟩
 case rest =>
 obtain ⟨rfl, rfl⟩ := hcut
 go_wp2_with fail
 go_loopw [9] (fun s9 wx => s9 = .int .i64 (n : Int) ∧ wx = wc) (fun _ _ => 0)
 case atStart => exact ⟨rfl, rfl⟩
 case round =>
  obtain ⟨rfl, rfl⟩ := hrel
  by_cases hlt : n < s.length
  ·have hx128 : 128 ≤ (l[n]'(by omega)).toNat := by
    have := HLast.out (by omega)
    simpa [HN.out] using this
   have hy : (s[n]'hlt).toNat < 128 := HS.out _ (List.getElem_mem _)
   have gb0 : ((s[n].toNat : Int) != (l[n].toNat : Int)) = true := by
    rw [bne_iff_ne]; omega
   have gb : ∀ h1 h2, ((((⟨s.toArray⟩ : ByteArray)[n]'h1).toNat : Int) != (((⟨l.toArray⟩ : ByteArray)[n]'h2).toNat : Int)) = true := fun _ _ => gb0
   clear gb0
   have hsl : (n : Int) + 1 ≤ (s.length : Int) := by omega
   have hwr : IntKind.i64.wrap ((n : Int) + 1) = (n : Int) + 1 := by rw [IntKind.wrap_i64]; omega
   have hsl2 : n + 1 ≤ s.length := by omega
   have hsl3 : ¬ ((s.length : Int) < (n : Int) + 1) := by omega
   have hsl4 : (0 : Int) ≤ (n : Int) + 1 := by omega
   have hib := fun w => link.idx_call (s.drop (n + 1)) l[n] w
   rw [index_no _ _ (fun b hb e => by
    have := HS.out b (List.mem_of_mem_drop hb)
    rw [e] at this; omega)] at hib
   go_wp2_with fail
   go_step3
   go_wp2_with fail
   go_region
   all_goals
    go_wp2_with fail
    go_region_with (go_at_call 160; refine (hib _).mono ?_; rintro e wl ⟨rfl, rfl⟩)
    all_goals
     go_wp2_with fail
     (try simp (config := { zetaDelta := true }) only [Exit.noGoto_ret, Exit.inBlock, Exit.then])
     go_ret
     exact ⟨rfl, (Below.refl _ _).drew.drew⟩
  ·go_wp2_with fail
   (try rw [Exit.noGoto_ret])
   go_ret
   exact ⟨rfl, Below.refl _ _⟩
theorem irune_bad (s : List UInt8) (hs : ∀ b ∈ s, b.toNat < 128) (_hl : s.length ≤ 100) (w : World) :
  Calls Tryz.prog 298 #[.string ⟨s.toArray⟩, .int .i32 65533] w fun e w' => e = .returned (.int .i64 (-1)) ∧ Below w.heap.size w w' := by
 have HS := Lib.hid hs
 clear hs
 go_enter Tryz.func298, Tryz.ntmps298
 go_wp2_with fail
 go_loopw [5] (fun _ w' => ∃ pos : Nat, w' = w.iter ⟨s.toArray⟩ pos) (fun _ w' => s.length - w'.iterPos w.heap.size)
 case atStart => exact ⟨0, rfl⟩
 case round =>
  obtain ⟨pos, rfl⟩ := hrel
  have hsz : (⟨s.toArray⟩ : ByteArray).size = s.length := rfl
  by_cases hp : pos < s.length
  ·have hnx : ∀ ty, (Instr.next (.pointer (some ⟨w.heap.size, 0, none⟩)) true ty).run Tryz.prog (w.iter ⟨s.toArray⟩ pos) = _ := fun ty => run_next_any w ⟨s.toArray⟩ pos ty (by rw [hsz]; exact hp)
   have hde : decodeL (s.drop pos) = Utf8.decode ⟨s.toArray⟩ pos := decodeL_drop ⟨s.toArray⟩ pos
   rw [← hde] at hnx
   have hwd := decodeL_width (s.drop pos)
   have hr : ((decodeL (s.drop pos)).1 : Int) ≠ 65533 := by
    have hne : s.drop pos ≠ [] := by
     intro e
     have := congrArg List.length e
     simp at this; omega
    obtain ⟨b, r, hb⟩ := List.exists_cons_of_ne_nil hne
    have hm := HS.out b (List.mem_of_mem_drop (by rw [hb]; exact List.mem_cons_self))
    rw [hb, decodeL_ascii b r hm]
    show (b.toNat : Int) ≠ 65533
    omega
   clear hde hsz
   generalize (decodeL (s.drop pos)).1 = r at *
   generalize (decodeL (s.drop pos)).2 = wd at *
   have gb : ((r : Int) == 65533) = false := by simpa using hr
   go_wp2_with fail
   go_roundw
   case rel => exact ⟨pos + wd, rfl⟩
   case measure => simp; omega
  ·have hnx : ∀ ty, (Instr.next (.pointer (some ⟨w.heap.size, 0, none⟩)) true ty).run Tryz.prog (w.iter ⟨s.toArray⟩ pos) = _ := fun ty => run_next_end w ⟨s.toArray⟩ pos ty (by rw [hsz]; exact hp)
   go_wp2_with fail
   go_ret
   exact ⟨rfl, (Below.refl _ _).alloc (Nat.le_refl _) _⟩
theorem index_in (s : List UInt8) (c : Int) (h0 : 0 ≤ c) (h1 : c < 128) : decide (0 ≤ indexByte s c.toNat.toUInt8) = decide (c ∈ s.map (fun b => (b.toNat : Int))) := by
 have hb : ((c.toNat.toUInt8).toNat : Int) = c := by
  have : (c.toNat.toUInt8).toNat = c.toNat % 256 := by simp
  rw [this]; omega
 generalize c.toNat.toUInt8 = b at *
 have hw := indexByte_ge s b
 by_cases g : 0 ≤ indexByte s b
 ·obtain ⟨o, ho⟩ : ∃ o : Nat, indexByte s b = o := ⟨(indexByte s b).toNat, by omega⟩
  have := (indexByte_some ho).1
  rw [decide_eq_true g, decide_eq_true (List.mem_map.2 ⟨b, List.mem_of_getElem? this, hb⟩)]
 ·have hn := indexByte_none (show indexByte s b = -1 by omega)
  rw [decide_eq_false g, decide_eq_false]
  intro hm
  obtain ⟨b', hb', e⟩ := List.mem_map.1 hm
  obtain ⟨k, hk, e2⟩ := List.mem_iff_getElem.1 hb'
  have : b' = b := UInt8.toNat_inj.1 (by omega)
  exact hn k (by rw [List.getElem?_eq_getElem hk, e2, this])
theorem crune_any (s : List UInt8) (hs : ∀ b ∈ s, b.toNat < 128) (hl : s.length ≤ 100) (c : Int) (hc : Rn c) (w : World) :
  Calls Tryz.prog 252 #[.string ⟨s.toArray⟩, .int .i32 c] w fun e w' => e = .returned (.bool (decide (c ∈ s.map (fun b => (b.toNat : Int))))) ∧ Below w.heap.size w w' := by
 by_cases h : c < 128
 ·refine (Tryz.strings_ContainsRune_ascii ⟨s.toArray⟩ c w hc.1 h).mono ?_
  rintro e w' ⟨rfl, rfl⟩
  exact ⟨by rw [index_in s c hc.1 h], Below.refl _ _⟩
 have hi : Calls Tryz.prog 298 #[.string ⟨s.toArray⟩, .int .i32 c] w fun e w' => e = .returned (.int .i64 (-1)) ∧ Below w.heap.size w w' := by
  by_cases h2 : c = 65533
  ·subst h2; exact irune_bad s hs hl w
  ·exact irune_big s hs hl c hc (by omega) h2 w
 have hm : decide (c ∈ s.map (fun b => (b.toNat : Int))) = false := by
  apply decide_eq_false
  intro hm
  obtain ⟨b, hb, rfl⟩ := List.mem_map.1 hm
  have := hs b hb
  omega
 rw [hm]
 clear hm hs hc h
 go_enter Tryz.func252, Tryz.ntmps252
 go_wp2_with fail
 refine hi.mono ?_
 rintro e w' ⟨rfl, hb⟩
 go_wp2_with fail
 go_ret
 exact ⟨rfl, hb⟩

def RB (w : World) (B : Nat) (s : List UInt8) (d : Int) (bad : Bool) : Prop := Blk w B [.string ⟨s.toArray⟩, .int .i64 d, .bool bad]
theorem RB.c0 {w : World} {B : Nat} {s : List UInt8} {d : Int} {bad : Bool} (h : RB w B s d bad) : w.cell? ⟨B, 0, none⟩ = some (.string ⟨s.toArray⟩) := h.cell 0
theorem RB.c1 {w : World} {B : Nat} {s : List UInt8} {d : Int} {bad : Bool} (h : RB w B s d bad) : w.cell? ⟨B, 1, none⟩ = some (.int .i64 d) := h.cell 1
theorem RB.c2 {w : World} {B : Nat} {s : List UInt8} {d : Int} {bad : Bool} (h : RB w B s d bad) : w.cell? ⟨B, 2, none⟩ = some (.bool bad) := h.cell 2
theorem RB.below {w w' : World} {B : Nat} {s : List UInt8} {d : Int} {bad : Bool} (h : RB w B s d bad) (hb : Below w.heap.size w w') : RB w' B s d bad := Blk.kept h hb
theorem RB.s0 {w : World} {B : Nat} {s : List UInt8} {d : Int} {bad : Bool} (h : RB w B s d bad) (s' : List UInt8) : RB (w.setCell ⟨B, 0, none⟩ (.string ⟨s'.toArray⟩)) B s' d bad := Blk.set h 0 _
theorem RB.s1 {w : World} {B : Nat} {s : List UInt8} {d : Int} {bad : Bool} (h : RB w B s d bad) (d' : Int) : RB (w.setCell ⟨B, 1, none⟩ (.int .i64 d')) B s d' bad := Blk.set h 1 _
theorem RB.s2 {w : World} {B : Nat} {s : List UInt8} {d : Int} {bad : Bool} (h : RB w B s d bad) (b' : Bool) : RB (w.setCell ⟨B, 2, none⟩ (.bool b')) B s d b' := Blk.set h 2 _
structure Rd (w : World) (B : Nat) (s : List UInt8) (d : Int) (bad : Bool) (w' : World) : Prop where
 rb : RB w' B s d bad
 own : w.grownBy w' (some B)
theorem Rd.refl {w : World} {B : Nat} {s : List UInt8} {d : Int} {bad : Bool} (h : RB w B s d bad) : Rd w B s d bad w := ⟨h, World.grownBy.refl _ _⟩
theorem Rd.trans {w w1 w2 : World} {B : Nat} {s s2 : List UInt8} {d d2 : Int} {bad bad2 : Bool} (h : Rd w B s d bad w1) (g : Rd w1 B s2 d2 bad2 w2) : Rd w B s2 d2 bad2 w2 := ⟨g.rb, h.own.trans g.own⟩
theorem Rd.below {w w1 w2 : World} {B : Nat} {s : List UInt8} {d : Int} {bad : Bool} (h : Rd w B s d bad w1) (hb : Below w1.heap.size w1 w2) : Rd w B s d bad w2 := ⟨h.rb.below hb, grownBy_below h.own hb⟩
theorem Rd.s0 {w w1 : World} {B : Nat} {s : List UInt8} {d : Int} {bad : Bool} (h : Rd w B s d bad w1) (s' : List UInt8) : Rd w B s' d bad (w1.setCell ⟨B, 0, none⟩ (.string ⟨s'.toArray⟩)) := ⟨h.rb.s0 s', grownBy_setB h.own 0 _⟩
theorem Rd.s1 {w w1 : World} {B : Nat} {s : List UInt8} {d : Int} {bad : Bool} (h : Rd w B s d bad w1) (d' : Int) : Rd w B s d' bad (w1.setCell ⟨B, 1, none⟩ (.int .i64 d')) := ⟨h.rb.s1 d', grownBy_setB h.own 1 _⟩
theorem Rd.s2 {w w1 : World} {B : Nat} {s : List UInt8} {d : Int} {bad : Bool} (h : Rd w B s d bad w1) (b' : Bool) : Rd w B s d b' (w1.setCell ⟨B, 2, none⟩ (.bool b')) := ⟨h.rb.s2 b', grownBy_setB h.own 2 _⟩

theorem decN_valid (n b0 b1 b2 b3 : Nat) (h0 : b0 < 256) : (decodeN n b0 b1 b2 b3).1 < 55296 ∨ (57343 < (decodeN n b0 b1 b2 b3).1 ∧ (decodeN n b0 b1 b2 b3).1 ≤ 1114111) := by
 unfold decodeN
 repeat' split
 all_goals (first | (show 65533 < 55296 ∨ (57343 < 65533 ∧ 65533 ≤ 1114111); omega) | (dsimp only; omega) | (rename_i h; have hv := h.2; unfold Utf8.valid at hv; simp only [Bool.or_eq_true, Bool.and_eq_true, decide_eq_true_eq] at hv; dsimp only; omega))
def headC (s : List UInt8) : Int := (runes s).headD (-1)
def tailB (s : List UInt8) : List UInt8 := if s = [] then [] else s.drop (decodeL s).2
theorem headC_nil : headC [] = -1 := rfl
theorem headC_ne (s : List UInt8) (h : s ≠ []) : headC s = ((decodeL s).1 : Int) := by unfold headC; rw [runes_cons s h]; rfl
theorem tailB_runes (s : List UInt8) : runes (tailB s) = (runes s).tail := by
 unfold tailB
 by_cases h : s = []
 ·rw [if_pos h, h]; rfl
 ·rw [if_neg h, runes_cons s h]; rfl
theorem tailB_len (s : List UInt8) : (tailB s).length ≤ s.length := by
 unfold tailB
 by_cases h : s = []
 ·rw [if_pos h, h]; exact Nat.le_refl _
 ·rw [if_neg h, List.length_drop]; omega
theorem tailB_lt (s : List UInt8) (h : s ≠ []) : (tailB s).length < s.length := by
 unfold tailB
 have := decodeL_width s
 have h0 : 0 < s.length := List.length_pos_iff.2 h
 rw [if_neg h, List.length_drop]; omega
theorem headC_rn (s : List UInt8) (h : s ≠ []) : Rn (headC s) := by
 rw [headC_ne s h]
 refine ⟨by omega, ?_⟩
 have e : decodeL s = Utf8.decode ⟨s.toArray⟩ 0 := rfl
 rw [e, decode_at]
 have := decN_valid ((⟨s.toArray⟩ : ByteArray).size - 0) ((⟨s.toArray⟩ : ByteArray).get! 0).toNat ((⟨s.toArray⟩ : ByteArray).get! (0 + 1)).toNat ((⟨s.toArray⟩ : ByteArray).get! (0 + 2)).toNat ((⟨s.toArray⟩ : ByteArray).get! (0 + 3)).toNat (UInt8.toNat_lt _)
 omega
theorem decode_lib (s : List UInt8) (w : World) (hU : GU w) :
  Calls Tryz.prog 251 #[.string ⟨s.toArray⟩] w fun e w' => e = .returned (.tuple #[.int .i32 (if s = [] then 65533 else ((decodeL s).1 : Int)), .int .i64 (if s = [] then 0 else ((decodeL s).2 : Int))]) ∧ Below w.heap.size w w' := by
 refine (Tryz.utf8_DecodeRuneInString ⟨s.toArray⟩ w hU.u8).mono ?_
 rintro e w' ⟨rfl, hb⟩
 refine ⟨?_, hb⟩
 unfold decodeGo
 by_cases h : s = []
 ·subst h; rfl
 ·rw [if_neg h, if_neg h, if_neg (by show ¬ s.length = 0; simpa using h)]; rfl
theorem next_any (B : Nat) (s : List UInt8) (d : Int) (bad : Bool) (w : World) (h : RB w B s d bad) (hU : GU w) :
  Calls Tryz.prog 292 #[.pointer (some ⟨B, 0, none⟩)] w fun e w' => e = .returned (.int .i32 (headC s)) ∧ Below w.heap.size w w' := by
 have c0 := h.c0
 have hd := decode_lib s w hU
 have HC := Lib.hid (headC_ne s)
 clear h hU
 by_cases hs : s = []
 ·subst hs
  go_enter Tryz.func292, Tryz.ntmps292
  go_wp2_with fail
  go_ret
  exact ⟨rfl, Below.refl _ _⟩
 ·rw [if_neg hs, if_neg hs, ← HC.out hs] at hd
  have hz : s.isEmpty = false := by simp [hs]
  clear hs
  generalize headC s = c at *
  go_enter Tryz.func292, Tryz.ntmps292
  go_wp2_with fail
  refine hd.mono ?_
  rintro e w' ⟨rfl, hb⟩
  go_wp2_with fail
  go_ret
  exact ⟨rfl, hb⟩
theorem take_any (B : Nat) (s : List UInt8) (d : Int) (bad : Bool) (w : World) (h : RB w B s d bad) (hU : GU w) (hl : s.length ≤ 1000) :
  Calls Tryz.prog 293 #[.pointer (some ⟨B, 0, none⟩)] w fun e w' => e = .returned (.int .i32 (headC s)) ∧ Rd w B (tailB s) d (bad || decide (s = [])) w' := by
 have c0 := h.c0
 have hd := decode_lib s w hU
 have HR := Lib.hid (Rd.refl h)
 have HC := Lib.hid (headC_ne s)
 clear h hU
 by_cases hs : s = []
 ·subst hs
  rw [if_pos rfl, if_pos rfl] at hd
  go_enter Tryz.func293, Tryz.ntmps293
  go_wp2_with fail
  refine hd.mono ?_
  rintro e w1 ⟨rfl, hb⟩
  have hr := HR.out.below hb
  have d0 := hr.rb.c0
  have d2 := hr.rb.c2
  have k2 := hr.rb.frozen 2
  have hr2 := hr.s2 true
  go_wp2_with fail
  go_ret
  exact ⟨rfl, by cases bad <;> exact hr2⟩
 ·rw [if_neg hs, if_neg hs, ← HC.out hs] at hd
  have hz : s.isEmpty = false := by simp [hs]
  have HT : Hid (tailB s = s.drop (decodeL s).2) := Lib.hid (by unfold tailB; rw [if_neg hs])
  have hle := decodeL_le s hs
  rw [decide_eq_false hs, Bool.or_false]
  clear hs HC
  generalize headC s = c at *
  rw [HT.out]
  generalize (decodeL s).2 = k at *
  have hk : (k : Int) ≤ (s.length : Int) := by omega
  go_enter Tryz.func293, Tryz.ntmps293
  go_wp2_with fail
  refine hd.mono ?_
  rintro e w1 ⟨rfl, hb⟩
  have hr := HR.out.below hb
  have d0 := hr.rb.c0
  have k0 := hr.rb.frozen 0
  have hr2 := hr.s0 (s.drop k)
  go_wp2_with fail
  go_ret
  exact ⟨rfl, hr2⟩

def spC (sp : List (Int × Int)) : List Value := sp.flatMap (fun s => [.int .i32 s.1, .int .i32 s.2])
theorem spC_len (sp : List (Int × Int)) : (spC sp).length = sp.length * 2 := by
 induction sp with
 | nil => rfl
 | cons s r ih => show (Value.int .i32 s.1 :: Value.int .i32 s.2 :: spC r).length = _; simp [ih]; omega
theorem spC_app (a b : List (Int × Int)) : spC (a ++ b) = spC a ++ spC b := by unfold spC; rw [List.flatMap_append]
theorem spC_one (sp : List (Int × Int)) : ∀ u ∈ spC sp, u.oneCell' = true := by
 intro u hu
 obtain ⟨s, _, hs⟩ := List.mem_flatMap.1 hu
 simp only [List.mem_cons, List.not_mem_nil, or_false] at hs
 rcases hs with rfl | rfl <;> rfl
inductive SomeP (c : Int) (w : World) (e : Ending) (w' : World) : Prop
 | yes (h : named6 c = true) (he : e = .returned (.slice (some ⟨w.heap.size, 0, none⟩) (someS c).length (someS c).length)) (hw : w' = w.alloc (.cells (spC (someS c)).toArray 233))
 | no (h : named6 c = false) (he : e = .returned (.slice none 0 0)) (hw : w' = w)
theorem some_any (c : Int) (w : World) : Calls Tryz.prog 361 #[.int .i32 c] w (SomeP c w) := by
 by_cases h : c = 100 ∨ c = 68 ∨ c = 119 ∨ c = 87 ∨ c = 115 ∨ c = 83
 ·rcases h with rfl | rfl | rfl | rfl | rfl | rfl
  all_goals
   go_enter Tryz.func361, Tryz.ntmps361
   go_wp2_with fail
   go_ret
   exact .yes rfl rfl rfl
 ·have e1 : (c == 100) = false := by rw [beq_eq_false_iff_ne]; omega
  have e2 : (c == 68) = false := by rw [beq_eq_false_iff_ne]; omega
  have e3 : (c == 119) = false := by rw [beq_eq_false_iff_ne]; omega
  have e4 : (c == 87) = false := by rw [beq_eq_false_iff_ne]; omega
  have e5 : (c == 115) = false := by rw [beq_eq_false_iff_ne]; omega
  have e6 : (c == 83) = false := by rw [beq_eq_false_iff_ne]; omega
  have HX : Hid (named6 c = false) := Lib.hid (by unfold named6 named3; rw [e1, e2, e3, e4, e5, e6]; rfl)
  clear h
  go_enter Tryz.func361, Tryz.ntmps361
  go_wp2_with fail
  go_ret
  exact .no HX.out rfl rfl
end Go.Proofs.YtkhlfggnjcbniaaGreatDoor.pat
