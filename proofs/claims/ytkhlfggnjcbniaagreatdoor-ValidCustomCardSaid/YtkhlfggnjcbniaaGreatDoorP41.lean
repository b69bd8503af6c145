/- A part of the proofs: lemmas and contracts. -/
import Derived.Test.YtkhlfggnjcbniaaGreatDoorP37
import Derived.Test.YtkhlfggnjcbniaaGreatDoorP38
import Derived.Test.YtkhlfggnjcbniaaGreatDoorP40
set_option maxHeartbeats 12800000
set_option maxRecDepth 1000000
namespace Go.Proofs.YtkhlfggnjcbniaaGreatDoor.doc
open Go.ChangeShapes Go.WideShapes Go.ChangeAt Go.RowKit Go.Lib atr link ctl pat str cln

def oddM (kd : Int) (a : List Attr) : Bool := decide (kd = 6) && hasA nMultiple a
def oddParts (kd : Int) (a : List Attr) (s : List UInt8) : List (List UInt8) := if oddM kd a then spl 44 [] s else [s]
def oddB (kd : Int) (a : List Attr) (s : List UInt8) : Bool := patP kd && hasA nPattern a && (readP ((fval nPattern a).getD [])).isSome && (oddParts kd a s).any (fun t => !fitsP ((fval nPattern a).getD []) t)
theorem pred_odd (p : List UInt8) (hp : p.length ≤ 1000000) (hr : (readP p).isSome = true) (ls : List (List UInt8)) (hls : ∀ x ∈ ls, x.length ≤ 4000) (B : Nat) (w : World) (hB : B < w.heap.size) (f0 : w.cell? ⟨B, 0, none⟩ = some (.string ⟨p.toArray⟩)) (hU : GU w) :
  PredS 93 #[.pointer (some ⟨B, 0, none⟩)] (fun t => !fitsP p t) ls w := fun W x hx hb => by
 have f0 : W.cell? ⟨B, 0, none⟩ = some (.string ⟨p.toArray⟩) := (hb.cell (p := ⟨B, 0, none⟩) hB).trans f0
 have hf := fits_any p x hp (hls x hx) W (hU.below hb)
 rw [hr, if_pos rfl] at hf
 show Calls Tryz.prog 93 #[.string ⟨x.toArray⟩, .pointer (some ⟨B, 0, none⟩)] W _
 dsimp only
 generalize fitsP p x = q at *
 clear hU hr hx hls
 go_enter Tryz.func93, Tryz.ntmps93
 go_wp2_with fail
 refine hf.mono ?_
 rintro e w1 ⟨rfl, hb1⟩
 clear hf
 go_wp2_with fail
 go_ret
 exact ⟨rfl, hb.trans (hb1.mono hb.size)⟩
theorem odd_any (n : Nd) (va vk : Value) (kd : Int) (s : List UInt8) (hn : n.attrs.length ≤ 140737488355328) (hp : ((fval nPattern n.attrs).getD []).length ≤ 1000000) (hs : patP kd = true → s.length ≤ 4000) (w : World) (hA : AttrsAt w va n.attrs) (hK : IntsAt w vk n.kids) (hG : G w) (hU : GU w) :
  Calls Tryz.prog 41 #[nodeV n va vk, .int .i64 kd, .string ⟨s.toArray⟩] w (RetB (oddB kd n.attrs s) w) := by
 have HAt := Lib.hid (fun w' (h : Below w.heap.size w w') => vattr_any n va vk nPattern hn w' (hA.below h) (hK.below h))
 have HHas := Lib.hid (fun w' (h : Below w.heap.size w w') => vhas_any n va vk nPattern hn w' (hA.below h) (hK.below h))
 have HMul := Lib.hid (fun w' (h : Below w.heap.size w w') => vhas_any n va vk nMultiple hn w' (hA.below h) (hK.below h))
 have hap := fun w => pattern_any kd w
 obtain ⟨oa, cap, rfl⟩ := AttrsAt.lenN hA
 obtain ⟨ka, kc, rfl⟩ := RowAt.lenN hK
 obtain ⟨R, hR⟩ : ∃ R, R = oddB kd n.attrs s := ⟨_, rfl⟩
 rw [← hR]
 unfold oddB at hR
 have HPt : Hid (oddParts kd n.attrs s = if oddM kd n.attrs then spl 44 [] s else [s]) := Lib.hid rfl
 have HMt : Hid (oddM kd n.attrs = (decide (kd = 6) && hasA nMultiple n.attrs)) := Lib.hid rfl
 unfold nodeV at HHas HAt HMul ⊢
 generalize (fval nPattern n.attrs).getD [] = p at *
 generalize patP kd = q at *
 generalize hasA nPattern n.attrs = ha at *
 generalize hasA nMultiple n.attrs = hm at *
 generalize oddParts kd n.attrs s = parts at *
 generalize oddM kd n.attrs = mu at *
 unfold nPattern at HHas HAt hap
 unfold nMultiple at HMul
 obtain ⟨w0, hw0⟩ : ∃ w0, w0 = w.alloc (.cells #[.string ⟨n.name.toArray⟩, .string ⟨n.text.toArray⟩, .slice oa n.attrs.length cap, .int .i64 n.parent, .slice ka n.kids.length kc] 41) := ⟨_, rfl⟩
 have hb0 : Below w.heap.size w w0 := by rw [hw0]; exact (Below.refl _ w).alloc (Nat.le_refl _) _
 have hblk : Blk w0 w.heap.size [.string ⟨n.name.toArray⟩, .string ⟨n.text.toArray⟩, .slice oa n.attrs.length cap, .int .i64 n.parent, .slice ka n.kids.length kc] := by rw [hw0]; exact Blk.fresh w _ _
 have HR := Lib.hid hR
 have HU := Lib.hid hU
 have HG := Lib.hid hG
 have HS := Lib.hid hs
 have HP := Lib.hid hp
 clear hA hK hR hU hG hs hp
 go_enter Tryz.func41, Tryz.ntmps41
 go_wp2_with fail
 rw [← hw0]
 clear hw0
 refine (HAt.out _ hb0).mono ?_
 rintro e w1 ⟨rfl, hb1⟩
 have hblk1 := hblk.kept hb1
 have hb01 := below_trans hb0 hb1
 clear hblk HAt
 obtain ⟨PB, hPB⟩ : ∃ PB, PB = w1.heap.size := ⟨_, rfl⟩
 obtain ⟨w2, hw2⟩ : ∃ w2, w2 = w1.alloc (.cells #[.string ⟨p.toArray⟩] 9) := ⟨_, rfl⟩
 have hb12 : Below w1.heap.size w1 w2 := by rw [hw2]; exact (Below.refl _ _).alloc (Nat.le_refl _) _
 have hpc : w2.cell? ⟨PB, 0, none⟩ = some (.string ⟨p.toArray⟩) := by rw [hw2, hPB, World.cell?_alloc_new]; rfl
 have hPl : PB < w2.heap.size := lt_of_cell hpc
 have hblk2 := hblk1.kept hb12
 have hb02 := below_trans hb01 hb12
 have HBk := Lib.hid (fun w' (h : Below w2.heap.size w2 w') => hblk2.kept h)
 have hB2 : ∀ w', Below w2.heap.size w2 w' → Below w.heap.size w w' := fun w' h => below_trans hb02 h
 have c0 := hblk2.cell 0
 have c1 := hblk2.cell 1
 have c2 := hblk2.cell 2
 have c3 := hblk2.cell 3
 have c4 := hblk2.cell 4
 simp only [List.getElem?_cons_zero, List.getElem?_cons_succ] at c0 c1 c2 c3 c4
 clear hblk1 hblk2 hb12 hb01 hb0 hb1
 go_upto_region 2 with fail
 rw [← hPB, ← hw2]
 clear hw2 hPB
 cases q with
 | false =>
  have HZ : Hid (R = false) := Lib.hid (by rw [HR.out]; rfl)
  go_wp2_with fail
  refine (hap _).mono ?_
  rintro e w3 ⟨rfl, rfl⟩
  go_wp2_with fail
  go_ret
  exact ⟨ret_bool HZ.out.symm, hb02⟩
 | true =>
  go_wp2_with fail
  refine (hap _).mono ?_
  rintro e w3 ⟨rfl, rfl⟩
  clear hap
  go_wp2_with fail
  refine (HHas.out _ hb02).mono ?_
  rintro e w4 ⟨rfl, hb4⟩
  have hb04 := hB2 _ hb4
  cases ha with
  | false =>
   have HZ : Hid (R = false) := Lib.hid (by rw [HR.out]; rfl)
   go_wp2_with fail
   go_ret
   exact ⟨ret_bool HZ.out.symm, hb04⟩
  | true =>
   have hri := pat.right_any p HP.out w4 (HU.out.below hb04)
   have hpc4 := cell_below hb4 hpc
   obtain ⟨rt, hrt⟩ : ∃ rt, rt = (readP p).isSome := ⟨_, rfl⟩
   rw [← hrt] at hri HR
   have HRt := Lib.hid hrt
   clear hrt c0 c1 c2 c3 c4 HHas
   go_wp2_with fail
   refine hri.mono ?_
   rintro e w5 ⟨rfl, hb5⟩
   have hb25 := below_trans hb4 hb5
   have hpc5 := cell_below hb5 hpc4
   clear hri hpc4 hb4 hb5
   cases rt with
   | false =>
    have HZ : Hid (R = false) := Lib.hid (by rw [HR.out]; rfl)
    go_wp2_with fail
    go_ret
    exact ⟨ret_bool HZ.out.symm, hB2 _ hb25⟩
   | true =>
    have HR2 : Hid (R = parts.any (fun t => !fitsP p t)) := Lib.hid (by rw [HR.out]; rfl)
    clear HR
    obtain ⟨w6, hw6⟩ : ∃ w6, w6 = w5.alloc (.cells #[.string ⟨s.toArray⟩] 9) := ⟨_, rfl⟩
    have hb56 : Below w5.heap.size w5 w6 := by rw [hw6]; exact (Below.refl _ _).alloc (Nat.le_refl _) _
    have hrow6 : StrRow w6 (.slice (some ⟨w5.heap.size, 0, none⟩) 1 1) [s] := by
     rw [hw6]
     refine ⟨w5.heap.size, 1, rfl, by rw [World.size_alloc]; omega, fun k hk => ?_⟩
     have : k = 0 := by have : k < 1 := hk; omega
     subst this
     exact World.cell?_alloc_new _ _ _ 0
    have hb26 := below_trans hb25 hb56
    have hblk6 := HBk.out _ hb26
    have c0 := hblk6.cell 0
    have c1 := hblk6.cell 1
    have c2 := hblk6.cell 2
    have c3 := hblk6.cell 3
    have c4 := hblk6.cell 4
    simp only [List.getElem?_cons_zero, List.getElem?_cons_succ] at c0 c1 c2 c3 c4
    have HRow := Lib.hid hrow6
    clear hblk6 hrow6
    go_upto_region 5 with fail
    rw [← hw6]
    clear hw6
    go_cut [31] (fun s31 wx => s31 = .bool mu ∧ Below w6.heap.size w6 wx)
    case first =>
     by_cases g6 : kd = 6
     ·have HE : Hid (mu = hm) := Lib.hid (by rw [HMt.out, decide_eq_true g6]; rfl)
      have gb : (kd == 6) = true := by simpa using g6
      clear g6
      go_wp2_with fail
      refine (HMul.out _ (hB2 _ hb26)).mono ?_
      rintro e w7 ⟨rfl, hb7⟩
      go_wp2_with fail
      go_meet
      exact ⟨by rw [HE.out], hb7⟩
     ·have HE : Hid (mu = false) := Lib.hid (by rw [HMt.out, decide_eq_false g6]; rfl)
      have gb : (kd == 6) = false := by simpa using g6
      clear g6
      go_wp2_with fail
      go_meet
      exact ⟨by rw [HE.out], Below.refl _ _⟩
    case rest =>
    obtain ⟨rfl, hb67⟩ := hcut
    clear c0 c1 c2 c3 c4
    have hb27 := below_trans hb26 hb67
    have hs4 := HS.out (by first | rfl | trivial)
    have hsp := split_row s 44 (by omega) wc (HG.out.below (hB2 _ hb27))
    go_upto_if 31 with fail
    go_cut [8] (fun s8 wx => StrRow wx s8 parts ∧ Below wc.heap.size wc wx)
    case first =>
     cases mu with
     | false =>
      have HE : Hid (parts = [s]) := Lib.hid (by rw [HPt.out]; rfl)
      have HRow2 : Hid (StrRow wc (.slice (some ⟨w5.heap.size, 0, none⟩) 1 1) [s]) := Lib.hid (by
       obtain ⟨b, c, e, hb, hc⟩ := HRow.out
       exact ⟨b, c, e, Nat.lt_of_lt_of_le hb hb67.size, fun k hk => (hb67.cell (p := ⟨b, k, none⟩) hb).trans (hc k hk)⟩)
      go_wp2_with fail
      go_meet
      exact ⟨by rw [HE.out]; exact HRow2.out, Below.refl _ _⟩
     | true =>
      have HE : Hid (parts = spl 44 [] s) := Lib.hid (by rw [HPt.out]; rfl)
      go_wp2_with fail
      refine hsp.mono ?_
      rintro e w8 ⟨b, c, rfl, hcs, hb8, _⟩
      have HRow3 : Hid (StrRow w8 (.slice (some ⟨b, 0, none⟩) (spl 44 [] s).length c) (spl 44 [] s)) := Lib.hid ⟨b, c, rfl, lt_of_cell (hcs 0 (by rw [spl_len]; omega)), hcs⟩
      clear hcs hsp
      go_wp2_with fail
      go_meet
      exact ⟨by rw [HE.out]; exact HRow3.out, hb8⟩
    case rest =>
    obtain ⟨hrow, hb8⟩ := hcut
    clear hsp
    have hb28 := below_trans hb27 hb8
    have hpc8 : wc.cell? ⟨PB, 0, none⟩ = some (.string ⟨p.toArray⟩) := cell_below hb28 hpc
    have hls : (∀ x ∈ parts, x.length ≤ 4000) ∧ parts.length ≤ 4001 := by
     rw [HPt.out]
     cases mu with
     | false => exact ⟨fun x hx => by rw [List.mem_singleton.1 hx]; exact hs4, by show 1 ≤ 4001; decide⟩
     | true =>
      refine ⟨fun x hx => ?_, ?_⟩
      ·have := spl_small 44 s [] x hx
       have e : ([] : List UInt8).length = 0 := rfl
       omega
      ·show (spl 44 [] s).length ≤ 4001
       have := List.count_le_length (a := (44 : UInt8)) (l := s)
       rw [spl_len]; omega
    have eg1 : ∀ args w, (callFunc 93 args).run Tryz.prog w = .ok (.enter 93 args) w := enters_of Tryz.func93 (by kernel_rfl) rfl
    have hct := conts_any _ _ eg1 (fun t => !fitsP p t) _ parts (by omega) wc hrow (pred_odd p HP.out HRt.out.symm parts hls.1 PB wc (Nat.lt_of_lt_of_le hPl hb28.size) hpc8 (HU.out.below (hB2 _ hb28)))
    rw [← HR2.out] at hct
    obtain ⟨rb, rcp, e8, _, _⟩ := hrow
    subst e8
    have hbf := hB2 _ hb28
    clear hls eg1 hs4 hpc hpc8 hpc5 hb28 hb8 hb27 hb26 hb25
    go_wp2_with fail
    refine hct.mono ?_
    rintro e w9 ⟨rfl, hb9⟩
    clear hct
    go_wp2_with fail
    go_ret
    exact ⟨rfl, below_trans hbf hb9⟩
end Go.Proofs.YtkhlfggnjcbniaaGreatDoor.doc
namespace Go.Proofs.YtkhlfggnjcbniaaGreatDoor.utf
open Go.ChangeShapes Go.WideShapes Go.ChangeAt Go.RowKit Go.Lib

def unitsF : Nat → List UInt8 → Nat
 | 0, _ => 0
 | f + 1, l => if l = [] then 0 else (if 65535 < (decodeL l).1 then 2 else 1) + unitsF f (l.drop (decodeL l).2)
def unitsS (l : List UInt8) : Nat := unitsF l.length l
theorem unitsF_nil (f : Nat) : unitsF f [] = 0 := by cases f <;> simp [unitsF]
theorem unitsF_great (f : Nat) (l : List UInt8) (h : l ≠ []) (g : 65535 < (decodeL l).1) : unitsF (f + 1) l = 2 + unitsF f (l.drop (decodeL l).2) := by
 rw [unitsF, if_neg h, if_pos g]
theorem unitsF_small (f : Nat) (l : List UInt8) (h : l ≠ []) (g : ¬ 65535 < (decodeL l).1) : unitsF (f + 1) l = 1 + unitsF f (l.drop (decodeL l).2) := by
 rw [unitsF, if_neg h, if_neg g]
theorem unitsF_le : ∀ (f : Nat) (l : List UInt8), unitsF f l ≤ 2 * l.length := by
 intro f
 induction f with
 | zero => intro l; unfold unitsF; omega
 | succ f ih =>
  intro l
  by_cases h : l = []
  ·rw [h, unitsF_nil]; exact Nat.zero_le _
  ·have h1 := decodeL_width l
   have h2 := ih (l.drop (decodeL l).2)
   have h3 : 0 < l.length := List.length_pos_iff.2 h
   rw [List.length_drop] at h2
   by_cases g : 65535 < (decodeL l).1
   ·rw [unitsF_great f l h g]; omega
   ·rw [unitsF_small f l h g]; omega
theorem units_any (l : List UInt8) (hl : l.length ≤ 140737488355328) (w : World) :
  Calls Tryz.prog 43 #[.string ⟨l.toArray⟩] w fun e w' => e = .returned (.int .i64 (unitsS l : Nat)) ∧ Below w.heap.size w w' := by
 obtain ⟨v, hv⟩ : ∃ v, v = unitsS l := ⟨_, rfl⟩
 rw [← hv]
 have hvl : v ≤ 2 * l.length := by rw [hv]; exact unitsF_le _ _
 have HV : Hid (0 + unitsF l.length (l.drop 0) = v) := Lib.hid (by rw [hv, Nat.zero_add]; rfl)
 clear hv
 go_enter Tryz.func43, Tryz.ntmps43
 go_wp2_with fail
 go_loopw [3] (fun n w' => ∃ (pos b acc : Nat), w' = w.iter ⟨l.toArray⟩ pos ∧ n = .int .i64 acc ∧ Hid (acc + unitsF b (l.drop pos) = v) ∧ acc ≤ v ∧ l.length ≤ pos + b) (fun _ w' => l.length - w'.iterPos w.heap.size)
 case atStart => exact ⟨0, l.length, 0, rfl, rfl, HV, by omega, by omega⟩
 case round =>
  obtain ⟨pos, b, acc, rfl, rfl, hc, hacc, hb⟩ := hrel
  have hsz : (⟨l.toArray⟩ : ByteArray).size = l.length := rfl
  by_cases hp : pos < l.length
  ·have hnx : ∀ ty, (Instr.next (.pointer (some ⟨w.heap.size, 0, none⟩)) true ty).run Tryz.prog (w.iter ⟨l.toArray⟩ pos) = _ := fun ty => run_next_any w ⟨l.toArray⟩ pos ty (by rw [hsz]; exact hp)
   have hde : decodeL (l.drop pos) = Utf8.decode ⟨l.toArray⟩ pos := decodeL_drop ⟨l.toArray⟩ pos
   rw [← hde] at hnx
   have hwd := decodeL_width (l.drop pos)
   have hne : l.drop pos ≠ [] := by
    intro e
    have := congrArg List.length e
    simp at this; omega
   obtain ⟨b2, rfl⟩ : ∃ b2, b = b2 + 1 := ⟨b - 1, by omega⟩
   have HG := Lib.hid (fun g => unitsF_great b2 (l.drop pos) hne g)
   have HS := Lib.hid (fun g => unitsF_small b2 (l.drop pos) hne g)
   rw [List.drop_drop] at HG HS
   clear hde hne hsz
   generalize (decodeL (l.drop pos)).1 = r at *
   generalize (decodeL (l.drop pos)).2 = wd at *
   by_cases g : 65535 < r
   ·have hgi : (65535 : Int) < (r : Int) := by omega
    have hH := HG.out g
    have hX : Hid ((acc + 1 + 1) + unitsF b2 (l.drop (pos + wd)) = v ∧ acc + 1 + 1 ≤ v) := Lib.hid (by have := hc.out; omega)
    clear HG HS hc g hH
    go_wp2_with fail
    go_roundw
    case rel => exact ⟨pos + wd, b2, acc + 1 + 1, rfl, by go_num, Lib.hid hX.out.1, hX.out.2, by omega⟩
    case measure => simp; omega
   ·have hgi : ¬ (65535 : Int) < (r : Int) := by omega
    have hH := HS.out g
    have hX : Hid ((acc + 1) + unitsF b2 (l.drop (pos + wd)) = v ∧ acc + 1 ≤ v) := Lib.hid (by have := hc.out; omega)
    clear HG HS hc g hH
    go_wp2_with fail
    go_roundw
    case rel => exact ⟨pos + wd, b2, acc + 1, rfl, by go_num, Lib.hid hX.out.1, hX.out.2, by omega⟩
    case measure => simp; omega
  ·have hnx : ∀ ty, (Instr.next (.pointer (some ⟨w.heap.size, 0, none⟩)) true ty).run Tryz.prog (w.iter ⟨l.toArray⟩ pos) = _ := fun ty => run_next_end w ⟨l.toArray⟩ pos ty (by rw [hsz]; exact hp)
   have hX : Hid (acc = v) := Lib.hid (by have := hc.out; rw [List.drop_eq_nil_of_le (by omega), unitsF_nil] at this; omega)
   clear hc
   go_wp2_with fail
   go_ret
   exact ⟨by rw [hX.out]; rfl, (Below.refl _ _).alloc (Nat.le_refl _) _⟩

end Go.Proofs.YtkhlfggnjcbniaaGreatDoor.utf
