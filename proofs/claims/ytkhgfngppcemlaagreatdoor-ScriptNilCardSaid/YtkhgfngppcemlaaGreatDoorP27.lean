/- tree.Insert of the form into the root. -/
import Derived.BigQuiet
import Derived.ChangeAlike
import Derived.Deep.AppendLies
import Derived.Deep.CutBlock
import Derived.Deep.DeepCutAuto
import Derived.Deep.MidRow
import Derived.Deep.RegionHeld
import Derived.Deep.RegionHeld3
import Derived.Deep.RegionLaw
import Derived.Deep.RegionLawGrows
import Derived.Deep.SlicePairs
import Derived.Deep.Slices
import Derived.Laws.BytesArg
import Derived.Laws.CopyRow
import Derived.Laws.IdiomStrings
import Derived.Laws.MakeOwn
import Derived.Laws.OwnMore
import Derived.Laws.Rows
import Derived.Lib.Hide
import Derived.Lib.IndexBytes
import Derived.Lib.IndexMore
import Derived.Lib.ItoaMem
import Derived.Lib.ItoaNum
import Derived.Lib.OwnKind
import Derived.Lib.Replace
import Derived.Lib.SlTrimSet
import Derived.Lib.SliceRun
import Derived.Lib.Strings
import Derived.LoopN
import Derived.OneCell
import Derived.OpenShut
import Derived.ProofKit
import Derived.RangeFuncBox
import Derived.RegionTactic
import Derived.Shelf.SlicesQ.IndexFunc
import Derived.WalkKit
import Derived.WalkSmall
import Derived.WalkSpells
import Derived.WideKeyArgs
import Derived.Test.YtkhgfngppcemlaaGreatDoorRows
import Derived.Test.YtkhgfngppcemlaaGreatDoorShelf
import Derived.Test.YtkhgfngppcemlaaGreatDoorP0
import Derived.Test.YtkhgfngppcemlaaGreatDoorP1
import Derived.Test.YtkhgfngppcemlaaGreatDoorP3
import Derived.Test.YtkhgfngppcemlaaGreatDoorP6
import Derived.Test.YtkhgfngppcemlaaGreatDoorP7
import Derived.Test.YtkhgfngppcemlaaGreatDoorP8
import Derived.Test.YtkhgfngppcemlaaGreatDoorP9
import Derived.Test.YtkhgfngppcemlaaGreatDoorP10
import Derived.Test.YtkhgfngppcemlaaGreatDoorP11
import Derived.Test.YtkhgfngppcemlaaGreatDoorP12
import Derived.Test.YtkhgfngppcemlaaGreatDoorP13
import Derived.Test.YtkhgfngppcemlaaGreatDoorP14
import Derived.Test.YtkhgfngppcemlaaGreatDoorP15
import Derived.Test.YtkhgfngppcemlaaGreatDoorP16
import Derived.Test.YtkhgfngppcemlaaGreatDoorP17
import Derived.Test.YtkhgfngppcemlaaGreatDoorP18
import Derived.Test.YtkhgfngppcemlaaGreatDoorP19
import Derived.Test.YtkhgfngppcemlaaGreatDoorP20
import Derived.Test.YtkhgfngppcemlaaGreatDoorP21
import Derived.Test.YtkhgfngppcemlaaGreatDoorP22
import Derived.Test.YtkhgfngppcemlaaGreatDoorP23
import Derived.Test.YtkhgfngppcemlaaGreatDoorP24
import Derived.Test.YtkhgfngppcemlaaGreatDoorP26
namespace Go.Proofs.YtkhgfngppcemlaaGreatDoor.scr
open Go Go.RowKit Go.ChangeShapes Go.WideShapes Go.ChangeAt Go.Lib Go.Proofs.YtkhgfngppcemlaaGreatDoor.doc Go.Proofs.YtkhgfngppcemlaaGreatDoor.atr Go.Proofs.YtkhgfngppcemlaaGreatDoor.ctl

def ndH2 : Nd := ⟨[104, 116, 109, 108], [], [], -1, [1]⟩
def ndF2 : Nd := ⟨[102, 111, 114, 109], [], [], 0, []⟩
theorem thas_yes (v : Value) (l : List Nd) (hF : LFine l) (hR : rightB l = true) (k : Int) (h0 : 0 ≤ k) (h1 : k < (l.length : Int)) (w : World) (hA : NodesAt w v l) :
    Calls Tryz.prog 142 #[v, .int .i64 k] w fun e w' => e = .returned (.bool true) ∧ Below w.heap.size w w' := by
  have hr := right_any v l hF w hA
  rw [hR] at hr
  obtain ⟨oa, cap0, rfl⟩ := NodesAt.lenN hA
  clear hA hR hF
  go_enter Tryz.func142, Tryz.ntmps142
  go_wp2_with fail
  refine hr.mono ?_
  rintro e w1 ⟨rfl, hb1⟩
  go_wp2_with fail
  go_ret
  exact ⟨rfl, hb1⟩
theorem inside_no (b off n cap : Nat) (hn : 1 < n) (w : World) (hc : w.cell? ⟨b, off + 3, none⟩ = some (.int .i64 (-1))) :
    Calls Tryz.prog 143 #[.slice (some ⟨b, off, none⟩) n cap, .int .i64 0, .int .i64 1] w fun e w' => e = .returned (.bool false) ∧ w = w' := by
  go_enter Tryz.func143, Tryz.ntmps143
  go_wp2_with fail
  refine wp_loop_rounds 2 ?_
  rw [rounds_succ]
  go_wp2_with fail
  rw [rounds_succ]
  go_wp2_with fail
  go_ret
  exact ⟨rfl, rfl⟩
theorem take_none (b off n cap : Nat) (hn : 1 < n) (w : World) (hc : w.cell? ⟨b, off + 8, none⟩ = some (.int .i64 (-1))) (_hb : b < w.heap.size) :
    Calls Tryz.prog 146 #[.slice (some ⟨b, off, none⟩) n cap, .int .i64 1] w fun e w' => (∃ v, e = .returned v) ∧ Below w.heap.size w w' := by
  have hb1 : Below w.heap.size w (w.alloc (.cells #[.int .i64 1] 3)) := (Below.refl _ _).alloc (Nat.le_refl _) _
  have hc1 := cell_below hb1 hc
  go_enter Tryz.func146, Tryz.ntmps146
  go_wp2_with fail
  first | go_end0 | ((try simp only [Exit.inBlock, Exit.then]); refine bodyPost_ret (results_none rfl _ _ _) rfl ?_)
  exact ⟨⟨_, rfl⟩, hb1⟩
set_option maxHeartbeats 1600000 in
theorem sinsert_nil (c : Int) (b cc : Nat) (w : World) (hc : w.cell? ⟨b, 0, none⟩ = some (.int .i64 c)) :
    Calls Tryz.prog 148 #[.slice none 0 0, .int .i64 0, .slice (some ⟨b, 0, none⟩) 1 cc] w fun e w' => ∃ v', e = .returned v' ∧ w'.ownsRow w.heap.size 3 1 v' 1 [.int .i64 c] ∧ Below w.heap.size w w' := by
  obtain ⟨i0, hi, hz0, hz1, hz2⟩ := info_parts infoI
  go_enter Tryz.func148, Tryz.ntmps148
  go_wp2_with (at_builtin; refine wpList_append_own _ rfl _ _ 82 rfl w.heap.size 3 i0 _ 1 8 Tryz.underlying82 hi hz0 hz1 hz2 rfl (by decide) _ _ _ rfl (World.ownsRow_nil _ _ _ _) ⟨b, 0, none⟩ 1 cc [.int .i64 c] rfl ?qc1 ?qc2 ?qc3 ?qc4 ?qc5 ?qc6 ?_)
  case qc1 => rfl
  case qc2 =>
    intro j u hj
    match j, hj with
    | 0, hj => simp at hj; subst hj; rw [Lib.add_plain]; exact hc
  case qc3 => intro u hu; simp at hu; subst hu; rfl
  case qc4 => unfold maxLen; omega
  case qc5 => omega
  case qc6 => simp
  intro v' w1 hown hgrow hnil
  go_wp2
  go_ret
  exact ⟨v', rfl, by simpa using hown, (Below.refl _ w).grown hgrow (Nat.le_refl _) (by intro k hk; cases hk)⟩
def l1 : List Nd := [ndH, ndF]
def l2 : List Nd := [ndH2, ndF2]
set_option maxHeartbeats 3200000 in
set_option maxRecDepth 100000 in
theorem tins (v : Value) (hF : LFine l1) (hR : rightB l1 = true) (B : Nat) (w : World) (hC : CpR w B v l1 [nilP, nilP]) :
    Calls Tryz.prog 85 #[v, .int .i64 0, .int .i64 1, .int .i64 (-1)] w fun e w' => ∃ g cap kv, e = .returned (.tuple #[.slice (some ⟨g, 0, none⟩) 2 cap, .int .i64 0]) ∧ CpR w' w.heap.size (.slice (some ⟨g, 0, none⟩) 2 cap) l2 [(.slice none 0 0, kv), nilP] ∧ Below w.heap.size w w' := by
  have h0 := fun w' (h : Below w.heap.size w w') => thas_yes v l1 hF hR 0 (by decide) (by decide) w' (hC.nodes.below h)
  have h1 := fun w' (h : Below w.heap.size w w') => thas_yes v l1 hF hR 1 (by decide) (by decide) w' (hC.nodes.below h)
  have hcp := fun w' (h : Below w.heap.size w w') => tcopied_nil l1 (by intro n hn; simp [l1] at hn; rcases hn with rfl | rfl <;> exact ⟨rfl, rfl⟩) (by decide) (by decide) v w' (by
    have := RowAt.of_owns (hC.below h).row
    exact this)
  have hv : ∃ b cap, v = .slice (some ⟨b, 0, none⟩) 2 cap := by
    rcases hC.row.2 with ⟨_, h0⟩ | ⟨g, cap, cur, e, _⟩
    · exact absurd h0 (by decide)
    · exact ⟨g, cap, e⟩
  obtain ⟨b, cap, rfl⟩ := hv
  have cN := fun w' (h : Below w.heap.size w w') => (hC.below h).cellX rfl 0 (by decide) (by decide) 0 (by decide)
  have cP := fun w' (h : Below w.heap.size w w') => (hC.below h).cellX rfl 0 (by decide) (by decide) 3 (by decide)
  have HN := Lib.hid cN
  have HP := Lib.hid cP
  have H1 := Lib.hid h1
  have HCp := Lib.hid hcp
  have h0' := h0 w (Below.refl _ _)
  clear h0 h1 hcp cN cP hF hR hC
  go_enter Tryz.func85, Tryz.ntmps85
  go_wp2_with fail
  refine h0'.mono ?_
  rintro e w1 ⟨rfl, hb1⟩
  go_wp2_with fail
  refine (H1.out _ hb1).mono ?_
  rintro e w2 ⟨rfl, hb2⟩
  have hb02 := below_trans hb1 hb2
  have cn : w2.cell? ⟨b, 0, none⟩ = some (.string ⟨#[104, 116, 109, 108]⟩) := HN.out _ hb02
  have cp : w2.cell? ⟨b, 0 + 3, none⟩ = some (.int .i64 (-1)) := HP.out _ hb02
  go_wp2_with fail
  refine (inside_no b 0 2 cap (by decide) _ cp).mono ?_
  rintro e w3 ⟨rfl, rfl⟩
  go_wp2_with fail
  refine (HCp.out _ hb02).mono ?_
  rintro e w4 ⟨g, cap4, rfl, hcp4, hb4⟩
  have hb04 := below_trans hb02 hb4
  have hlt : g < w4.heap.size := (hcp4.row.lt g rfl).2
  have p8 : w4.cell? ⟨g, 0 + 8, none⟩ = some (.int .i64 (-1)) := hcp4.cellX rfl 1 (by decide) (by decide) 3 (by decide)
  have HC4 := Lib.hid hcp4
  clear hcp4 cn cp
  go_wp2_with fail
  refine (take_none g 0 2 cap4 (by decide) _ p8 hlt).mono ?_
  rintro e w5 ⟨⟨uv, rfl⟩, hb5⟩
  have hcp5 := HC4.out.below hb5
  have hb05 := below_trans hb04 hb5
  have k4 : w5.cell? ⟨g, 4, none⟩ = some (.slice none 0 0) := hcp5.cellX rfl 0 (by decide) (by decide) 4 (by decide)
  have HC5 := Lib.hid hcp5
  clear hcp5 p8
  go_wp2_with fail
  refine (sinsert_nil 1 w5.heap.size 1 _ ?_).mono ?_
  · simp
  rintro e w6 ⟨kv, rfl, hown, hb6⟩
  have hbA : Below w5.heap.size w5 (w5.alloc (.cells #[.int .i64 1] 3)) := (Below.refl _ _).alloc (Nat.le_refl _) _
  have hb56 := below_trans hbA hb6
  have hcp6 := HC5.out.below hb56
  have hle : w2.heap.size ≤ (w5.alloc (.cells #[.int .i64 1] 3)).heap.size := by
    have := hb4.size; have := hb5.size; have := hbA.size; omega
  have hs1 := hcp6.setX rfl 0 (by decide) (by decide) 4 (by decide) kv ndH2 (.slice none 0 0, kv) rfl (World.ownsRow_nil _ _ _ _) (ownsRow_lower hown hle)
  have hs2 := hs1.setX rfl 1 (by decide) (by show 1 < 2; decide) 3 (by decide) (.int .i64 0) ndF2 nilP rfl (World.ownsRow_nil _ _ _ _) (World.ownsRow_nil _ _ _ _)
  have z4 := World.ownsRow.frozenAt hcp6.row 4
  have k44 : w6.cell? ⟨g, 4, none⟩ = some (.slice none 0 0) := hcp6.cellX rfl 0 (by decide) (by decide) 4 (by decide)
  have k8 : (w6.setCell ⟨g, 0 * 5 + 4, none⟩ kv).cell? ⟨g, 8, none⟩ = some (.int .i64 (-1)) := hs1.cellX rfl 1 (by decide) (by show 1 < 2; decide) 3 (by decide)
  have z8 := World.ownsRow.frozenAt hs1.row 8
  have hgB : w2.heap.size ≤ g := by
    rcases hcp6.row.2 with ⟨e1, _⟩ | ⟨g', cp', cur, e1, h2, _⟩
    · cases e1
    · cases e1; exact h2
  have hb06 := below_trans hb05 hb56
  have hle2 := hb02.size
  have hbF := (hb06.setCell (p := ⟨g, 0 * 5 + 4, none⟩) (Nat.le_trans hle2 hgB) kv).setCell (p := ⟨g, 1 * 5 + 3, none⟩) (Nat.le_trans hle2 hgB) (.int .i64 0)
  have HS := Lib.hid hs2
  obtain ⟨ka, kc, rfl⟩ := RowAt.lenN (RowAt.of_owns hown)
  clear hs1 hs2 hown hcp6
  go_wp2_with fail
  go_ret2
  exact ⟨g, cap4, _, rfl, ⟨HS.out.len, ownsRow_lower HS.out.row hle2, fun j a b => ownsRow_lower (HS.out.attrs j a b) hle2, fun j a b => ownsRow_lower (HS.out.kids j a b) hle2⟩, hbF⟩
end Go.Proofs.YtkhgfngppcemlaaGreatDoor.scr
