/- The engine's steps that the examples use: Add of a form, Insert of it, a click at a node that is not there. engine.Add of a form, to the document of the root alone. Printed by genadd.py. engine.Insert of the form into the root; engine.Click at a node that is not there. -/
import Derived.BigQuiet
import Derived.Carry
import Derived.ChangeAlike
import Derived.Deep.AppendLies
import Derived.Deep.CutBlock
import Derived.Deep.DeepCutAuto
import Derived.Deep.MidRow
import Derived.Deep.RegionHeld
import Derived.Deep.RegionHeld3
import Derived.Deep.RegionLaw
import Derived.Deep.RegionLawGrows
import Derived.Deep.SlicePairs
import Derived.Deep.Slices
import Derived.Ground.MpProg
import Derived.Laws.BytesArg
import Derived.Laws.CopyRow
import Derived.Laws.IdiomRangeMap
import Derived.Laws.IdiomStrings
import Derived.Laws.MakeOwn
import Derived.Laws.OwnMore
import Derived.Laws.Rows
import Derived.Lib.AppendStr
import Derived.Lib.Hide
import Derived.Lib.IndexBytes
import Derived.Lib.IndexMore
import Derived.Lib.ItoaMem
import Derived.Lib.ItoaNum
import Derived.Lib.OwnKind
import Derived.Lib.Replace
import Derived.Lib.SlTrimSet
import Derived.Lib.SliceRun
import Derived.Lib.Strings
import Derived.LoopIn
import Derived.LoopN
import Derived.LoopNIn
import Derived.MapKept
import Derived.Maps.AppendAt
import Derived.OneCell
import Derived.OpenShut
import Derived.Orders
import Derived.OwnWalkIn
import Derived.ProofKit
import Derived.RangeFuncBound
import Derived.RangeFuncBox
import Derived.RangeFuncCalls
import Derived.RangeFuncLeaves
import Derived.RangeFuncNested
import Derived.RegionTactic
import Derived.Shelf.Abstract
import Derived.Shelf.RegionOpen
import Derived.Shelf.SlicesQ.IndexFunc
import Derived.Shelf.Strconv.AtoiAll
import Derived.Shelf.Strings.BuilderK
import Derived.Shelf.Strings.SlTrimAscii
import Derived.TacticsInMore
import Derived.WalkKit
import Derived.WalkSmall
import Derived.WalkSpells
import Derived.WideKeyArgs
import Derived.Test.YtkhgfngppcemlaaGreatDoorRows
import Derived.Test.YtkhgfngppcemlaaGreatDoorShelf
import Derived.Test.YtkhgfngppcemlaaGreatDoorP0
import Derived.Test.YtkhgfngppcemlaaGreatDoorP1
import Derived.Test.YtkhgfngppcemlaaGreatDoorP3
import Derived.Test.YtkhgfngppcemlaaGreatDoorP5
import Derived.Test.YtkhgfngppcemlaaGreatDoorP6
import Derived.Test.YtkhgfngppcemlaaGreatDoorP7
import Derived.Test.YtkhgfngppcemlaaGreatDoorP8
import Derived.Test.YtkhgfngppcemlaaGreatDoorP9
import Derived.Test.YtkhgfngppcemlaaGreatDoorP10
import Derived.Test.YtkhgfngppcemlaaGreatDoorP11
import Derived.Test.YtkhgfngppcemlaaGreatDoorP12
import Derived.Test.YtkhgfngppcemlaaGreatDoorP13
import Derived.Test.YtkhgfngppcemlaaGreatDoorP14
import Derived.Test.YtkhgfngppcemlaaGreatDoorP15
import Derived.Test.YtkhgfngppcemlaaGreatDoorP16
import Derived.Test.YtkhgfngppcemlaaGreatDoorP17
import Derived.Test.YtkhgfngppcemlaaGreatDoorP18
import Derived.Test.YtkhgfngppcemlaaGreatDoorP19
import Derived.Test.YtkhgfngppcemlaaGreatDoorP20
import Derived.Test.YtkhgfngppcemlaaGreatDoorP21
import Derived.Test.YtkhgfngppcemlaaGreatDoorP22
import Derived.Test.YtkhgfngppcemlaaGreatDoorP23
import Derived.Test.YtkhgfngppcemlaaGreatDoorP24
import Derived.Test.YtkhgfngppcemlaaGreatDoorP25
import Derived.Test.YtkhgfngppcemlaaGreatDoorP26
import Derived.Test.YtkhgfngppcemlaaGreatDoorP27
import Derived.Test.YtkhgfngppcemlaaGreatDoorP28
import Derived.Test.YtkhgfngppcemlaaGreatDoorP29
import Derived.Test.YtkhgfngppcemlaaGreatDoorP30
import Derived.Test.YtkhgfngppcemlaaGreatDoorP31
import Derived.Test.YtkhgfngppcemlaaGreatDoorP32
namespace Go.Proofs.YtkhgfngppcemlaaGreatDoor.scr
open Go Go.RowKit Go.ChangeShapes Go.WideShapes Go.ChangeAt Go.Lib Go.Proofs.YtkhgfngppcemlaaGreatDoor.doc Go.Proofs.YtkhgfngppcemlaaGreatDoor.atr Go.Proofs.YtkhgfngppcemlaaGreatDoor.ctl

/-- of these kinds a settling does nothing -/
structure Still (l : List Nd) : Prop where
  fine : LFine l
  right : rightB l = true
  kind : ∀ k : Nat, k < l.length → kN l (k : Int) ≠ 17 ∧ kN l (k : Int) ≠ 23 ∧ kN l (k : Int) ≠ 24 ∧ kN l (k : Int) ≠ 28
def NoF (cs : List Ctl) : Prop := ∀ x ∈ cs, x.files = []
set_option maxHeartbeats 3200000 in
set_option maxRecDepth 100000 in
theorem settle_still (H e : Nat) (l : List Nd) (ps : List (Value × Value)) (cs : List Ctl) (fs : List Value) (vn vc : Value) (hS : Still l) (hlc : l.length = cs.length) (hcb : cs.length * 64 ≤ 140737488355328) (hf : NoF cs) (h1 : 1 ≤ l.length) (w : World) (hH : H ≤ w.heap.size) (hE : EngAt w H e l ps cs fs vn vc) :
    Calls Tryz.prog 86 #[.pointer (some ⟨e, 0, none⟩)] w fun en w' => (∃ v, en = .returned v) ∧ (∃ fs' vc', EngAt w' H e l ps cs fs' vn vc') ∧ Eff H w w' := by
  have hD : ∀ w', Below w.heap.size w w' → DocAt w' vn vc l cs := fun w' h => ⟨hS.fine, (hE.eff h).nodes.nodes, (hE.eff h).ctls.at, hcb, fun c hc => by rw [hf c hc]; decide⟩
  have HD := Lib.hid hD
  have HE := Lib.hid hE
  obtain ⟨b, off, cap, rfl, hb⟩ := nodes_addr hE.nodes.nodes h1
  have HN := Lib.hid (fun w' (h : Below w.heap.size w w') (j : Nat) (hj : j < l.length) => nodes_get ((hD w' h).nodes) j hj)
  have HF := Lib.hid hf
  have c3 := hE.c3
  have HLC := Lib.hid hlc
  have HS := Lib.hid hS
  have hL17 := hS.fine.len
  have HH := Lib.hid hH
  clear hD hE hS hlc hf hH
  go_enter Tryz.func86, Tryz.ntmps86
  go_wp2_with fail
  go_loopw [13] (fun s13 wr => ∃ k : Nat, s13 = .int .i64 k ∧ k ≤ l.length ∧ Below w.heap.size w wr) (fun s13 _ => l.length - (RowKit.intOf s13).toNat)
  case atStart => exact ⟨0, rfl, Nat.zero_le _, Below.refl _ _⟩
  case round =>
    obtain ⟨k, rfl, hk, hbw⟩ := hrel
    by_cases hlt : k < l.length
    case neg =>
      obtain rfl : k = l.length := by omega
      have hEr := HE.out.eff hbw
      have k3 := hEr.c3
      have k4 := hEr.c4
      have z4 := hEr.z 4
      obtain ⟨oc, cc, rfl⟩ := CtlsAt.lenN hEr.ctls.at
      have hgs := gsettle_none _ _ l cs (fun j hj => (HS.out.kind j hj).1) HLC.out HS.out.right wr (HD.out wr hbw)
      clear hEr
      go_wp2_with fail
      refine hgs.mono ?_
      rintro en w1 ⟨vc1, fs1, rfl, hO1, hb1⟩
      have hb01 := below_trans hbw hb1
      have hE1 := HE.out.eff hb01
      have d4 := hE1.c4
      have y4 := hE1.z 4
      have hle1 := hbw.size
      have hO1' : OwnC w1 H vc1 cs fs1 := ⟨hO1.len, ownsRow_lower hO1.row (by have := HH.out; omega), hO1.files, hO1.apart⟩
      have hE2 := hE1.setC HF.out hO1'
      obtain ⟨x0, x1, x2, x5, x6, x7, x8, x9, x10, x11, hx⟩ := hE1.blk
      have hfx := (Eff.of hb01 HH.out).set (o := 4) hx hE1.low vc1
      obtain ⟨o1, q1, rfl⟩ := CtlsAt.lenN hO1.at
      have g3 := hE2.c3
      have HE2 := Lib.hid hE2
      have HFx := Lib.hid hfx
      have HN2 := Lib.hid (fun w' (h : Below (w1.setCell ⟨e, 4, none⟩ (.slice o1 cs.length q1)).heap.size (w1.setCell ⟨e, 4, none⟩ (.slice o1 cs.length q1)) w') (j : Nat) (hj : j < l.length) => nodes_get ((hE2.eff h).nodes.nodes) j hj)
      clear hE1 hE2 hfx hO1 hO1' hx hgs
      go_wp2_with fail
      clear d4 y4
      generalize w1.setCell ⟨e, 4, none⟩ (.slice o1 cs.length q1) = w2 at *
      go_loopw [74] (fun s74 wx => ∃ j : Nat, s74 = .int .i64 j ∧ j ≤ l.length ∧ Below w2.heap.size w2 wx) (fun s74 _ => l.length - (RowKit.intOf s74).toNat)
      case atStart => exact ⟨0, rfl, Nat.zero_le _, Below.refl _ _⟩
      case round =>
        obtain ⟨j, rfl, hj, hbx⟩ := hrel
        by_cases hjl : j < l.length
        case neg =>
          obtain rfl : j = l.length := by omega
          go_wp2_with fail
          go_end0
          exact ⟨⟨_, rfl⟩, ⟨_, _, HE2.out.eff hbx⟩, HFx.out.step hbx HH.out⟩
        obtain ⟨va, vk, hnd⟩ := HN2.out wr hbx j hjl
        have hfn := HS.out.fine.nd (j : Int) (by omega) (by omega)
        have hk23 := (HS.out.kind j hjl).2.1
        have hof : ∀ w', Below wr.heap.size wr w' → Calls Tryz.prog 121 #[nodeV (nd l (j : Int)) va vk] w' fun e w'' => e = .returned (.int .i64 (kN l (j : Int))) ∧ Below w'.heap.size w' w'' := fun w' h => of_any (nd l (j : Int)) va vk hfn w' (hnd.attrs.below h) (IntsAt.below hnd.kids h)
        unfold nodeV at hof
        obtain ⟨c0, c1, c2, c3, c4, hat, hks, _⟩ := hnd
        obtain ⟨aa, ac, rfl⟩ := AttrsAt.lenN hat
        obtain ⟨ka, kc, rfl⟩ := RowAt.lenN hks
        have q23 : (kN l (j : Int) == 23) = false := by simpa using hk23
        generalize kN l (j : Int) = r at *
        generalize nd l (j : Int) = n at *
        clear hfn hk23 hat hks
        go_wp2_with fail
        refine (hof _ ((Below.refl _ _).alloc (Nat.le_refl _) _)).mono ?_
        rintro e w4 ⟨rfl, hb4⟩
        have hbn := below_trans hbx (below_trans ((Below.refl _ _).alloc (Nat.le_refl _) _) hb4)
        clear hof
        go_wp2_with fail
        go_roundw
        case rel => exact ⟨j + 1, by go_num, by omega, hbn⟩
        case measure => simp [RowKit.intOf]; omega
    obtain ⟨va, vk, hnd⟩ := HN.out wr hbw k hlt
    have hfn := HS.out.fine.nd (k : Int) (by omega) (by omega)
    obtain ⟨_, _, k24, k28⟩ := HS.out.kind k hlt
    have hof : ∀ w', Below wr.heap.size wr w' → Calls Tryz.prog 121 #[nodeV (nd l (k : Int)) va vk] w' fun e w'' => e = .returned (.int .i64 (kN l (k : Int))) ∧ Below w'.heap.size w' w'' := fun w' h => of_any (nd l (k : Int)) va vk hfn w' (hnd.attrs.below h) (IntsAt.below hnd.kids h)
    unfold nodeV at hof
    obtain ⟨c0, c1, c2, c3, c4, hat, hks, _⟩ := hnd
    obtain ⟨aa, ac, rfl⟩ := AttrsAt.lenN hat
    obtain ⟨ka, kc, rfl⟩ := RowAt.lenN hks
    have q24 : (kN l (k : Int) == 24) = false := by simpa using k24
    have q28 : (kN l (k : Int) == 28) = false := by simpa using k28
    generalize kN l (k : Int) = r at *
    generalize nd l (k : Int) = n at *
    clear hfn k24 k28 hat hks
    go_wp2_with fail
    refine (hof _ ((Below.refl _ _).alloc (Nat.le_refl _) _)).mono ?_
    rintro e w4 ⟨rfl, hb4⟩
    have hbn := below_trans hbw (below_trans ((Below.refl _ _).alloc (Nat.le_refl _) _) hb4)
    clear hof
    go_wp2_with fail
    go_roundw
    case rel => exact ⟨k + 1, by go_num, by omega, hbn⟩
    case measure => simp [RowKit.intOf]; omega
end Go.Proofs.YtkhgfngppcemlaaGreatDoor.scr
namespace Go.Proofs.YtkhgfngppcemlaaGreatDoor.scr
open Go Go.RowKit Go.ChangeShapes Go.WideShapes Go.ChangeAt Go.Lib Go.Proofs.YtkhgfngppcemlaaGreatDoor.doc Go.Proofs.YtkhgfngppcemlaaGreatDoor.atr Go.Proofs.YtkhgfngppcemlaaGreatDoor.ctl

def vN : Value := .slice none 0 0
theorem fineS (n : Nd) (h1 : n.name.length ≤ 100) (h2 : n.text.length ≤ 100) (h3 : n.attrs = []) (h4 : n.kids.length ≤ 100) (h5 : (Lit.int .i64 n.parent).wf = true) (h6 : ∀ k ∈ n.kids, (Lit.int .i64 k).wf = true) : NFine n := ⟨by omega, by omega, by rw [h3]; decide, by omega, by rw [h3]; simp, h5, h6⟩
theorem fineH : NFine ndH := fineS _ (by decide) (by decide) rfl (by decide) (by decide) (by decide)
theorem fineF : NFine ndF := fineS _ (by decide) (by decide) rfl (by decide) (by decide) (by decide)
theorem fineH2 : NFine ndH2 := fineS _ (by decide) (by decide) rfl (by decide) (by decide) (by decide)
theorem fineF2 : NFine ndF2 := fineS _ (by decide) (by decide) rfl (by decide) (by decide) (by decide)
theorem lf0 : LFine [ndH] := ⟨by decide, fun n hn => by simp at hn; subst hn; exact fineH⟩
theorem lf1 : LFine l1 := ⟨by decide, fun n hn => by simp [l1] at hn; rcases hn with rfl | rfl; exact fineH; exact fineF⟩
theorem lf2 : LFine l2 := ⟨by decide, fun n hn => by simp [l2] at hn; rcases hn with rfl | rfl; exact fineH2; exact fineF2⟩
theorem rt0 : rightB [ndH] = true := by decide
theorem rt1 : rightB l1 = true := by decide
theorem rt2 : rightB l2 = true := by decide
theorem still1 : Still l1 := ⟨lf1, rt1, fun k hk => by
  have h : k = 0 ∨ k = 1 := by simp [l1] at hk; omega
  rcases h with rfl | rfl <;> decide⟩
theorem still2 : Still l2 := ⟨lf2, rt2, fun k hk => by
  have h : k = 0 ∨ k = 1 := by simp [l2] at hk; omega
  rcases h with rfl | rfl <;> decide⟩
theorem ents_nil (w : World) : EntsAt w (.slice none 0 0) [] := .inl ⟨rfl, rfl, none, 0, rfl⟩
theorem nof1 : NoF [ctl0] := fun x hx => by simp at hx; subst hx; rfl
theorem nof2 : NoF [ctl0, ctl0] := fun x hx => by simp at hx; subst hx; rfl
theorem ownC_snoc {w w9 : World} {H : Nat} {v v9 f : Value} (h : OwnC w H v [ctl0] [f]) (h9 : w9.ownsRow H 105 10 v9 2 (([ctl0].zip [f]).flatMap (fun x => encC x.1 x.2) ++ encC ctl0 vN)) : OwnC w9 H v9 [ctl0, ctl0] [f, vN] :=
  ⟨rfl, h9, fun j a b => by
    match j, a, b with
    | 0, a, b => exact ents_any (h.files 0 Nat.one_pos Nat.one_pos)
    | 1, a, b => exact ents_nil _, fun j a b hn => by
    match j, a with
    | 0, a => exact absurd rfl hn
    | 1, a => exact absurd rfl hn⟩
/-- the engine's world between the append and the store -/
structure WB (H e : Nat) (vn v13 : Value) (w : World) : Prop where
  blk : ∃ x0 x1 x2 vc x5 x6 x7 x8 x9 x10 x11, w.heap[e]? = some (.cells #[x0, x1, x2, vn, vc, x5, x6, x7, x8, x9, x10, x11] 92 (0, 0))
  low : H ≤ e
  nodes : CpR w H vn l1 [nilP, nilP]
  ctls : ∃ fs, OwnC w H v13 [ctl0, ctl0] fs
theorem WB.below {H e : Nat} {vn v13 : Value} {w w' : World} (h : WB H e vn v13 w) (hb : Below w.heap.size w w') : WB H e vn v13 w' := by
  obtain ⟨x0, x1, x2, vc, x5, x6, x7, x8, x9, x10, x11, hx⟩ := h.blk
  obtain ⟨fs, hc⟩ := h.ctls
  exact ⟨⟨x0, x1, x2, vc, x5, x6, x7, x8, x9, x10, x11, (hb.block e (lt_of_blk hx)).trans hx⟩, h.low, h.nodes.below hb, fs, hc.below hb⟩
theorem WB.set {H e : Nat} {vn v13 : Value} {w : World} (h : WB H e vn v13 w) : ∃ fs, EngAt (w.setCell ⟨e, 4, none⟩ v13) H e l1 [nilP, nilP] [ctl0, ctl0] fs vn v13 := by
  obtain ⟨x0, x1, x2, vc, x5, x6, x7, x8, x9, x10, x11, hx⟩ := h.blk
  obtain ⟨fs, hc⟩ := h.ctls
  refine ⟨fs, ⟨x0, x1, x2, x5, x6, x7, x8, x9, x10, x11, ?_⟩, h.low, h.nodes.other hx (by decide) (by decide) (by decide) (set_grown _ _ _ _), hc.other nof2 hx (by decide) (set_grown _ _ _ _)⟩
  rw [heap_setCell_same w e 4 _ _ v13 hx]
  simp
theorem own_blk {w : World} {B : Nat} {E : TypeId} {size n : Nat} {v : Value} {xs : List Value} (h : w.ownsRow B E size v (n + 1) xs) : ∃ g cap cur, v = .slice (some ⟨g, 0, none⟩) (n + 1) cap ∧ B ≤ g ∧ w.heap[g]? = some (.cells cur E (0, 0)) := by
  rcases h.2 with ⟨_, h0⟩ | ⟨g, cap, cur, e, hg, hc, _⟩
  · cases h0
  · exact ⟨g, cap, cur, e, hg, hc⟩
theorem EngAt.grow {H e : Nat} {w w9 : World} {fs : List Value} {vn vc v9 : Value} (h : EngAt w H e l1 [nilP, nilP] [ctl0] fs vn vc) (hg : w.grownBy w9 vc.ownBlock)
    (h9 : w9.ownsRow H 105 10 v9 2 (([ctl0].zip fs).flatMap (fun x => encC x.1 x.2) ++ encC ctl0 vN)) : WB H e vn v9 w9 ∧ Eff H w w9 := by
  obtain ⟨x0, x1, x2, x5, x6, x7, x8, x9, x10, x11, hx⟩ := h.blk
  obtain ⟨f, rfl⟩ : ∃ f, fs = [f] := by
    have := h.ctls.len
    match fs, this with
    | [f], _ => exact ⟨f, rfl⟩
  obtain ⟨g, cap, cur, rfl, hgB, hgh⟩ := own_blk h.ctls.row
  have hg' : w.grownBy w9 (some g) := hg
  refine ⟨⟨⟨x0, x1, x2, _, x5, x6, x7, x8, x9, x10, x11, (hg'.block e (lt_of_blk hx) (fun e1 => ?_)).trans hx⟩, h.low, h.nodes.other hgh (by decide) (by decide) (by decide) hg', _, ownC_snoc h.ctls h9⟩, ?_⟩
  · injection e1 with e1
    subst e1
    rw [hx] at hgh
    cases hgh
  · exact (Eff.refl H w).grown hg' (Nat.le_of_lt (Nat.lt_of_le_of_lt hgB (lt_of_blk hgh))) (fun b e1 => by
      injection e1 with e1
      subst e1
      exact ⟨hgB, _, _, hgh⟩)
theorem of_form (w : World) : Calls Tryz.prog 121 #[.agg #[.string ⟨#[102, 111, 114, 109]⟩, .string ⟨#[]⟩, .slice none 0 0, .int .i64 (-1), .slice none 0 0]] w fun e w' => e = .returned (.int .i64 30) ∧ Below w.heap.size w w' :=
  (of_any ndF vN vN fineF w (.inl ⟨rfl, none, 0, rfl⟩) (IntsAt.nil w)).mono (fun e w' h => ⟨h.1.trans (by rw [show kindP ndF.name ndF.attrs = 30 from by decide]), h.2⟩)
def pE (e i : Nat) : Value := .pointer (some ⟨e, i, none⟩)
def nF : Value := .agg #[.string ⟨#[102, 111, 114, 109]⟩, .string ⟨#[]⟩, .slice none 0 0, .int .i64 (-1), .slice none 0 0]
def cF : Value := .agg #[.string ⟨#[]⟩, .bool false, .bool false, .bool false, .bool false, .bool false, .bool false, .bool false, .string ⟨#[]⟩, .slice none 0 0]
/-- what an operation's slot holds once it has been done -/
def AF (e g cg : Nat) (vc : Value) (i : Nat) (v : Value) : Prop :=
  match i with
  | 0 => v = pE e 0
  | 1 => v = pE e 0
  | 2 => v = pE e 0
  | 3 => v = pE e 3
  | 4 => v = pE e 4
  | 5 => v = vc
  | 6 => v = .slice (some ⟨g, 0, none⟩) 2 cg
  | 7 => v = .int .i64 1
  | 8 => v = pE g 5
  | 9 => v = nF
  | 10 => v = .int .i64 30
  | 11 => v = cF
  | 12 => ∃ b, v = .slice (some ⟨b, 0, none⟩) 1 1
  | 13 => ∃ b c, v = .slice (some ⟨b, 0, none⟩) 2 c
  | 14 => v = pE e 0
  | 15 => v = pE e 3
  | _ => v = pE e 4
def Ph (H e : Nat) (vn vc : Value) (w0 : World) (l : Array Bool) (T : Array Value) (w : World) : Prop :=
  Eff H w0 w ∧ w0.heap.size ≤ w.heap.size ∧
  ((l[13]? = some false ∧ (∃ fs, EngAt w H e l1 [nilP, nilP] [ctl0] fs vn vc) ∧ (l[12]? = some true → ∃ b, T[45]? = some (.slice (some ⟨b, 0, none⟩) 1 1) ∧ w.heap[b]? = some (.cells (encC ctl0 vN).toArray 105 (0, 0)))) ∨
   (l[13]? = some true ∧ l[17]? = some false ∧ ∃ v13, T[46]? = some v13 ∧ WB H e vn v13 w) ∨
   (l[17]? = some true ∧ ∃ fs v13, EngAt w H e l1 [nilP, nilP] [ctl0, ctl0] fs vn v13))
theorem Ph.next {H e : Nat} {vn vc v : Value} {w0 w w' : World} {l : Array Bool} {T : Array Value} {i : Nat} (h : Ph H e vn vc w0 l T w) (hi : i < 17) (h12 : i ≠ 12) (h13 : i ≠ 13) (hH : H ≤ w0.heap.size) (hb : Below w.heap.size w w') : Ph H e vn vc w0 (l.setIfInBounds i true) (T.setIfInBounds (33 + i) v) w' := by
  obtain ⟨hE, hs, h⟩ := h
  refine ⟨hE.trans (Eff.of hb (Nat.le_trans hH hs)), Nat.le_trans hs hb.size, ?_⟩
  rw [Array.getElem?_setIfInBounds_ne h13, Array.getElem?_setIfInBounds_ne h12, Array.getElem?_setIfInBounds_ne (show i ≠ 17 by omega), Array.getElem?_setIfInBounds_ne (show 33 + i ≠ 45 by omega), Array.getElem?_setIfInBounds_ne (show 33 + i ≠ 46 by omega)]
  rcases h with ⟨h1, ⟨fs, h2⟩, h3⟩ | ⟨h1, h2, v13, h3, h4⟩ | ⟨h1, fs, v13, h2⟩
  · refine .inl ⟨h1, ⟨fs, h2.eff hb⟩, fun h => ?_⟩
    obtain ⟨b, e1, e2⟩ := h3 h
    exact ⟨b, e1, (hb.block b (lt_of_blk e2)).trans e2⟩
  · exact .inr (.inl ⟨h1, h2, v13, h3, h4.below hb⟩)
  · exact .inr (.inr ⟨h1, fs, v13, h2.eff hb⟩)
theorem Ph.early {H e : Nat} {vn vc : Value} {w0 w : World} {l : Array Bool} {T : Array Value} (h : Ph H e vn vc w0 l T w) (hl : l[13]? = some false) (h17 : l[17]? = some false) : (∃ fs, EngAt w H e l1 [nilP, nilP] [ctl0] fs vn vc) ∧ (l[12]? = some true → ∃ b, T[45]? = some (.slice (some ⟨b, 0, none⟩) 1 1) ∧ w.heap[b]? = some (.cells (encC ctl0 vN).toArray 105 (0, 0))) := by
  obtain ⟨_, _, h⟩ := h
  rcases h with ⟨_, h2, h3⟩ | ⟨h1, _⟩ | ⟨h1, _⟩
  · exact ⟨h2, h3⟩
  · rw [hl] at h1; cases h1
  · rw [h17] at h1; cases h1
structure AI (H e g cg : Nat) (vn vc : Value) (w0 : World) (n : Nat) (l : Array Bool) (a : Act) (w : World) : Prop where
  size : l.size = 18
  off : Off l n
  fr : ∃ T : Array Value, a = ⟨T, []⟩ ∧ T.size = 53 ∧ T[0]? = some (pE e 0) ∧ T[8]? = some (.slice (some ⟨g, 0, none⟩) 2 cg) ∧ T[9]? = some (.int .i64 1) ∧ (∀ j : Nat, j < 17 → l[j]? = some true → ∃ v, T[33 + j]? = some v ∧ AF e g cg vc j v) ∧ Ph H e vn vc w0 l T w
  last : l[17]? = some true → l[13]? = some true
  dep : l[13]? = some true → l[5]? = some true ∧ l[12]? = some true
theorem on_set {l : Array Bool} {i j : Nat} (h : l[j]? = some true) : (l.setIfInBounds i true)[j]? = some true := by
  by_cases e : i = j
  · subst e
    rw [Array.getElem?_setIfInBounds_self_of_lt (Array.getElem?_eq_some_iff.1 h).1]
  · rw [Array.getElem?_setIfInBounds_ne e]; exact h
theorem AI.put {H e g cg : Nat} {vn vc v : Value} {w0 w w' : World} {n i : Nat} {l : Array Bool} {T : Array Value} (h : AI H e g cg vn vc w0 (n + 1) l ⟨T, []⟩ w) (hi : l[i]? = some false) (hi2 : i < 17) (hd : i = 13 → l[5]? = some true ∧ l[12]? = some true) (hF : AF e g cg vc i v) (hP : Ph H e vn vc w0 (l.setIfInBounds i true) (T.setIfInBounds (33 + i) v) w') : AI H e g cg vn vc w0 n (l.setIfInBounds i true) ⟨T.setIfInBounds (33 + i) v, []⟩ w' := by
  obtain ⟨T', e1, hs, h0, h8, h9, hf, _⟩ := h.fr
  cases e1
  refine ⟨by rw [Array.size_setIfInBounds]; exact h.size, h.off.set hi, ⟨_, rfl, by rw [Array.size_setIfInBounds]; exact hs, ?_, ?_, ?_, fun j hj2 hj => ?_, hP⟩, fun h17 => ?_, fun h13 => ?_⟩
  · rw [Array.getElem?_setIfInBounds_ne (by omega)]; exact h0
  · rw [Array.getElem?_setIfInBounds_ne (by omega)]; exact h8
  · rw [Array.getElem?_setIfInBounds_ne (by omega)]; exact h9
  · by_cases e1 : i = j
    · subst e1
      exact ⟨v, by rw [Array.getElem?_setIfInBounds_self_of_lt (by rw [hs]; omega)], hF⟩
    · rw [Array.getElem?_setIfInBounds_ne e1] at hj
      obtain ⟨u, hu, hF2⟩ := hf j hj2 hj
      exact ⟨u, by rw [Array.getElem?_setIfInBounds_ne (by omega)]; exact hu, hF2⟩
  · rw [Array.getElem?_setIfInBounds_ne (by omega)] at h17
    by_cases e1 : i = 13
    · subst e1
      rw [Array.getElem?_setIfInBounds_self_of_lt (by rw [h.size]; omega)]
    · rw [Array.getElem?_setIfInBounds_ne e1]; exact h.last h17
  · have hh : l[5]? = some true ∧ l[12]? = some true := by
      by_cases e1 : i = 13
      · exact hd e1
      · rw [Array.getElem?_setIfInBounds_ne e1] at h13; exact h.dep h13
    exact ⟨on_set hh.1, on_set hh.2⟩
theorem AI.not13 {H e g cg : Nat} {vn vc : Value} {w0 w : World} {n : Nat} {l : Array Bool} {a : Act} (h : AI H e g cg vn vc w0 n l a w) (hi : l[5]? = some false ∨ l[12]? = some false) : l[13]? = some false := by
  cases h13 : l[13]? with
  | none => rw [Array.getElem?_eq_none_iff, h.size] at h13; omega
  | some x =>
    cases x
    · rfl
    · obtain ⟨h5, h12⟩ := h.dep h13
      rcases hi with hi | hi
      · rw [h5] at hi; cases hi
      · rw [h12] at hi; cases hi
theorem AI.not17 {H e g cg : Nat} {vn vc : Value} {w0 w : World} {n : Nat} {l : Array Bool} {a : Act} (h : AI H e g cg vn vc w0 n l a w) (h13 : l[13]? = some false) : l[17]? = some false := by
  cases h17 : l[17]? with
  | none => rw [Array.getElem?_eq_none_iff, h.size] at h17; omega
  | some x =>
    cases x
    · rfl
    · rw [h.last h17] at h13; cases h13
theorem AI.early {H e g cg : Nat} {vn vc : Value} {w0 w : World} {n : Nat} {l : Array Bool} {T : Array Value} (h : AI H e g cg vn vc w0 n l ⟨T, []⟩ w) (h13 : l[13]? = some false) : (∃ fs, EngAt w H e l1 [nilP, nilP] [ctl0] fs vn vc) ∧ (l[12]? = some true → ∃ b, T[45]? = some (.slice (some ⟨b, 0, none⟩) 1 1) ∧ w.heap[b]? = some (.cells (encC ctl0 vN).toArray 105 (0, 0))) := by
  obtain ⟨T', e1, _, _, _, _, _, hP⟩ := h.fr
  cases e1
  exact hP.early h13 (h.not17 h13)
theorem Ph.nodes {H e : Nat} {vn vc : Value} {w0 w : World} {l : Array Bool} {T : Array Value} (h : Ph H e vn vc w0 l T w) : CpR w H vn l1 [nilP, nilP] := by
  obtain ⟨_, _, ⟨_, ⟨_, h⟩, _⟩ | ⟨_, _, _, _, h⟩ | ⟨_, _, _, h⟩⟩ := h
  · exact h.nodes
  · exact h.nodes
  · exact h.nodes
theorem AI.late {H e g cg : Nat} {vn vc : Value} {w0 w : World} {n : Nat} {l : Array Bool} {T : Array Value} (h : AI H e g cg vn vc w0 n l ⟨T, []⟩ w) (h13 : l[13]? = some true) (h17 : l[17]? = some false) : ∃ v13, T[46]? = some v13 ∧ WB H e vn v13 w := by
  obtain ⟨T', e1, _, _, _, _, _, _, _, hP⟩ := h.fr
  cases e1
  rcases hP with ⟨h, _⟩ | ⟨_, _, h⟩ | ⟨h, _⟩
  · rw [h13] at h; cases h
  · exact h
  · rw [h17] at h; cases h
theorem AI.made {H e g cg : Nat} {vn vc : Value} {w0 w : World} {n : Nat} {l : Array Bool} {T : Array Value} (h : AI H e g cg vn vc w0 (n + 1) l ⟨T, []⟩ w) (hi : l[12]? = some false) (hH : H ≤ w0.heap.size) : AI H e g cg vn vc w0 n (l.setIfInBounds 12 true) ⟨T.setIfInBounds (33 + 12) (.slice (some ⟨w.heap.size, 0, none⟩) 1 1), []⟩ (w.alloc (.cells (encC ctl0 vN).toArray 105)) := by
  have h13 := h.not13 (.inr hi)
  obtain ⟨⟨fs, hE⟩, _⟩ := h.early h13
  obtain ⟨T', e1, hs, _, _, _, _, hEf, hS, _⟩ := h.fr
  cases e1
  have hb : Below w.heap.size w (w.alloc (.cells (encC ctl0 vN).toArray 105)) := (Below.refl _ _).alloc (Nat.le_refl _) _
  refine h.put hi (by decide) (fun e1 => by cases e1) ⟨_, rfl⟩ ⟨hEf.trans (Eff.of hb (Nat.le_trans hH hS)), Nat.le_trans hS hb.size, .inl ⟨?_, ⟨fs, hE.eff hb⟩, fun _ => ⟨w.heap.size, ?_, heap_alloc_new _ _⟩⟩⟩
  · rw [Array.getElem?_setIfInBounds_ne (by decide)]; exact h13
  · rw [Array.getElem?_setIfInBounds_self_of_lt (by rw [hs]; decide)]
theorem AI.fin {H e g cg : Nat} {vn vc v13 : Value} {fs : List Value} {w0 w w' : World} {n : Nat} {l : Array Bool} {T : Array Value} (h : AI H e g cg vn vc w0 (n + 1) l ⟨T, []⟩ w) (hi : l[17]? = some false) (h13 : l[13]? = some true) (hE : EngAt w' H e l1 [nilP, nilP] [ctl0, ctl0] fs vn v13) (hEf : Eff H w w') (hs : w.heap.size ≤ w'.heap.size) : AI H e g cg vn vc w0 n (l.setIfInBounds 17 true) ⟨T, []⟩ w' := by
  obtain ⟨T', e1, hz, h0, h8, h9, hf, hE0, hS, _⟩ := h.fr
  cases e1
  refine ⟨by rw [Array.size_setIfInBounds]; exact h.size, h.off.set hi, ⟨_, rfl, hz, h0, h8, h9, fun j hj2 hj => ?_, hE0.trans hEf, Nat.le_trans hS hs, .inr (.inr ⟨?_, fs, v13, hE⟩)⟩, fun _ => on_set h13, fun _ => ⟨on_set (h.dep h13).1, on_set (h.dep h13).2⟩⟩
  · rw [Array.getElem?_setIfInBounds_ne (by omega)] at hj
    exact hf j hj2 hj
  · rw [Array.getElem?_setIfInBounds_self_of_lt (by rw [h.size]; decide)]
theorem AI.next {H e g cg : Nat} {vn vc v : Value} {w0 w w' : World} {n i : Nat} {l : Array Bool} {T : Array Value} (h : AI H e g cg vn vc w0 (n + 1) l ⟨T, []⟩ w) (hi : l[i]? = some false) (hH : H ≤ w0.heap.size) (hi2 : i < 17) (h12 : i ≠ 12) (h13 : i ≠ 13) (hb : Below w.heap.size w w') (hF : AF e g cg vc i v) : AI H e g cg vn vc w0 n (l.setIfInBounds i true) ⟨T.setIfInBounds (33 + i) v, []⟩ w' := by
  obtain ⟨T', e1, _, _, _, _, _, hP⟩ := h.fr
  cases e1
  exact h.put hi hi2 (fun e1 => absurd e1 h13) hF (hP.next hi2 h12 h13 hH hb)
theorem arr53 {T : Array Value} (h : T.size = 53) : ∃ x0 x1 x2 x3 x4 x5 x6 x7 x8 x9 x10 x11 x12 x13 x14 x15 x16 x17 x18 x19 x20 x21 x22 x23 x24 x25 x26 x27 x28 x29 x30 x31 x32 x33 x34 x35 x36 x37 x38 x39 x40 x41 x42 x43 x44 x45 x46 x47 x48 x49 x50 x51 x52, T = #[x0, x1, x2, x3, x4, x5, x6, x7, x8, x9, x10, x11, x12, x13, x14, x15, x16, x17, x18, x19, x20, x21, x22, x23, x24, x25, x26, x27, x28, x29, x30, x31, x32, x33, x34, x35, x36, x37, x38, x39, x40, x41, x42, x43, x44, x45, x46, x47, x48, x49, x50, x51, x52] := by
  obtain ⟨l⟩ := T
  match l, h with
  | x0 :: x1 :: x2 :: x3 :: x4 :: x5 :: x6 :: x7 :: x8 :: x9 :: x10 :: x11 :: x12 :: x13 :: x14 :: x15 :: x16 :: x17 :: x18 :: x19 :: x20 :: x21 :: x22 :: x23 :: x24 :: x25 :: x26 :: x27 :: x28 :: x29 :: x30 :: x31 :: x32 :: x33 :: x34 :: x35 :: x36 :: x37 :: x38 :: x39 :: x40 :: x41 :: x42 :: x43 :: x44 :: x45 :: x46 :: x47 :: x48 :: x49 :: x50 :: x51 :: x52 :: [], _ => exact ⟨x0, x1, x2, x3, x4, x5, x6, x7, x8, x9, x10, x11, x12, x13, x14, x15, x16, x17, x18, x19, x20, x21, x22, x23, x24, x25, x26, x27, x28, x29, x30, x31, x32, x33, x34, x35, x36, x37, x38, x39, x40, x41, x42, x43, x44, x45, x46, x47, x48, x49, x50, x51, x52, rfl⟩
def E0 (w : World) (H e : Nat) : Prop := ∃ fs vn vc, EngAt w H e [ndH] [nilP] [ctl0] fs vn vc
def E1 (w : World) (H e : Nat) : Prop := ∃ fs vn vc, EngAt w H e l1 [nilP, nilP] [ctl0, ctl0] fs vn vc
def E2 (w : World) (H e : Nat) : Prop := ∃ ps fs vn vc, EngAt w H e l2 ps [ctl0, ctl0] fs vn vc

set_option maxHeartbeats 6400000 in
set_option maxRecDepth 100000 in
theorem eadd (H e : Nat) (w : World) (hH : H ≤ w.heap.size) (hE : E0 w H e) :
    Calls Tryz.prog 83 #[.pointer (some ⟨e, 0, none⟩), .string ⟨#[102, 111, 114, 109]⟩, .string ⟨#[]⟩] w fun en w' => en = .returned (.tuple #[.int .i64 1, .int .i64 0]) ∧ E1 w' H e ∧ Eff H w w' := by
  obtain ⟨fs, vn, vc, hE⟩ := hE
  obtain ⟨b0, cap0, rfl⟩ : ∃ b cap, vn = .slice (some ⟨b, 0, none⟩) 1 cap := by
    obtain ⟨g, cap, cur, e1, _⟩ := own_blk hE.nodes.row
    exact ⟨g, cap, e1⟩
  obtain ⟨g0, cg0, _, rfl, _⟩ := own_blk hE.ctls.row
  have hadd := tadd_form _ [ndH] (fun n hn => by simp at hn; subst hn; exact ⟨rfl, rfl⟩) (by decide) (by decide) lf0 rt0 H w hE.nodes
  have c3 := hE.c3
  have HE := Lib.hid hE
  have HH := Lib.hid hH
  have hS := fun (w1 : World) (fs' : List Value) (vn' vc' : Value) (h1 : H ≤ w1.heap.size) (h2 : EngAt w1 H e l1 [nilP, nilP] [ctl0, ctl0] fs' vn' vc') => settle_still H e l1 [nilP, nilP] [ctl0, ctl0] fs' vn' vc' still1 rfl (by decide) nof2 (by decide) w1 h1 h2
  have HS := Lib.hid hS
  clear hE hS hH
  go_enter Tryz.func83, Tryz.ntmps83
  go_wp2_with fail
  refine hadd.mono ?_
  rintro en w1 ⟨g, cg, rfl, hcp, hb1⟩
  have hE1 := HE.out.eff hb1
  have d3 := hE1.c3
  have z3 := hE1.z 3
  have hcp' : CpR w1 H (.slice (some ⟨g, 0, none⟩) 2 cg) l1 [nilP, nilP] := ⟨hcp.len, ownsRow_lower hcp.row HH.out, fun j a b => ownsRow_lower (hcp.attrs j a b) HH.out, fun j a b => ownsRow_lower (hcp.kids j a b) HH.out⟩
  have hE2 := hE1.setN nof1 hcp'
  obtain ⟨x0, x1, x2, x5, x6, x7, x8, x9, x10, x11, hx⟩ := hE1.blk
  have hfx := (Eff.of hb1 HH.out).set (o := 3) hx hE1.low (.slice (some ⟨g, 0, none⟩) 2 cg)
  have hsz : w.heap.size ≤ (w1.setCell ⟨e, 3, none⟩ (.slice (some ⟨g, 0, none⟩) 2 cg)).heap.size := by
    have := hb1.size
    simpa [World.setCell] using this
  clear hcp hcp' hE1 hx hadd
  go_upto_region 7 with fail
  obtain ⟨w2, hw2⟩ : ∃ w2, w2 = w1.setCell ⟨e, 3, none⟩ (.slice (some ⟨g, 0, none⟩) 2 cg) := ⟨_, rfl⟩
  rw [← hw2] at hE2 hfx hsz ⊢
  have HE2 := Lib.hid hE2
  have HFx := Lib.hid hfx
  have HSz := Lib.hid hsz
  clear hE2 hfx hsz hw2 d3 z3 c3
  rename_i Q' K hK
  refine wp_region_any (by rfl) ?_
  generalize hops : (#[_, _, _, _, _, _, _, _, _, _, _, _, _, _, _, _, _, _] : Array Oper) = ops
  have hsz : ops.size = 18 := by rw [← hops]; rfl
  have hbd : ∀ o ∈ ops, ∀ e ∈ o.after, Region.binds .any e = true := by rw [← hops]; decide
  have hlt := lt_of_B (ops := ops) (by rw [← hops]; rfl)
  refine wpAny_inv (AI H e g cg (.slice (some ⟨g, 0, none⟩) 2 cg) (.slice (some ⟨g0, 0, none⟩) 1 cg0) w) ?h0 ?hs _ _ _ _ ?st
  case st =>
    have hr : ∀ j : Nat, (Array.replicate 18 false)[j]? = some true → False := fun j hj => by
      rw [Array.getElem?_replicate] at hj
      split at hj <;> cases hj
    refine ⟨by simp [hsz], by rw [hsz]; exact Off.all 18, ⟨_, rfl, rfl, rfl, rfl, rfl, fun j _ hj => (hr j (by rw [← hsz]; exact hj)).elim, ?_⟩, fun h => (hr 17 (by rw [← hsz]; exact h)).elim, fun h => (hr 13 (by rw [← hsz]; exact h)).elim⟩
    rw [hsz]
    refine ⟨HFx.out.trans (Eff.of (Below.refl _ _).drew (Nat.le_trans HH.out HSz.out)), Nat.le_trans HSz.out (Below.refl w2.heap.size w2).drew.size, .inl ⟨rfl, ⟨_, HE2.out.eff (Below.refl _ _).drew⟩, fun h => (hr 12 h).elim⟩⟩
  case h0 =>
    intro l a w1 hI
    have hall : ∀ i : Nat, i < 18 → l[i]? = some true := fun i hi => hI.off.zero i (by rw [hI.size]; exact hi)
    refine ⟨?_, ?_⟩
    · cases hr : Region.ready .any ops l with
      | nil => rfl
      | cons i r =>
        obtain ⟨h1, h2, _⟩ := ready_off hbd (show i ∈ Region.ready .any ops l by rw [hr]; simp)
        rw [hall i (by omega)] at h2
        cases h2
    · obtain ⟨_, _, ⟨T, rfl, hT, h0, h8, h9, _, hEf, hSz2, hP⟩, _, _⟩ := hI
      have hP2 : ∃ fs v13, EngAt w1 H e l1 [nilP, nilP] [ctl0, ctl0] fs (.slice (some ⟨g, 0, none⟩) 2 cg) v13 := by
        rcases hP with ⟨h, _⟩ | ⟨_, h, _⟩ | ⟨_, h⟩
        · rw [hall 13 (by decide)] at h; cases h
        · rw [hall 17 (by decide)] at h; cases h
        · exact h
      obtain ⟨fs1, v13, hE3⟩ := hP2
      have hset := HS.out w1 _ _ _ (Nat.le_trans HH.out hSz2) hE3
      have HEf := Lib.hid hEf
      obtain ⟨x0, x1, x2, x3, x4, x5, x6, x7, x8, x9, x10, x11, x12, x13, x14, x15, x16, x17, x18, x19, x20, x21, x22, x23, x24, x25, x26, x27, x28, x29, x30, x31, x32, x33, x34, x35, x36, x37, x38, x39, x40, x41, x42, x43, x44, x45, x46, x47, x48, x49, x50, x51, x52, rfl⟩ := arr53 hT
      have y0 : x0 = pE e 0 := by simpa using h0
      have y9 : x9 = .int .i64 1 := by simpa using h9
      subst y0
      subst y9
      unfold pE
      clear hops h0 h8 h9 hT hall hlt hbd hsz hP hE3 hEf
      refine hK ⟨#[.pointer (some ⟨e, 0, none⟩), x1, x2, x3, x4, x5, x6, x7, x8, .int .i64 1, x10, x11, x12, x13, x14, x15, x16, x17, x18, x19, x20, x21, x22, x23, x24, x25, x26, x27, x28, x29, x30, x31, x32, x33, x34, x35, x36, x37, x38, x39, x40, x41, x42, x43, x44, x45, x46, x47, x48, x49, x50, x51, x52], []⟩ w1 ?_
      go_wp2_with fail
      refine hset.mono ?_
      rintro en w3 ⟨⟨uv, rfl⟩, ⟨fs3, vc3, hE4⟩, hf3⟩
      have HE4 := Lib.hid hE4
      have HF3 := Lib.hid hf3
      clear hset hE4 hf3
      go_wp2_with fail
      go_ret2
      exact ⟨rfl, ⟨_, _, _, HE4.out⟩, HEf.out.trans HF3.out⟩
  case hs =>
    intro n l a w1 hI
    refine ⟨ready_some (by rw [hI.size, hsz]) hlt hI.off.some, fun i hi => ?_⟩
    obtain ⟨hi1, hi2, hm⟩ := ready_off hbd hi
    rw [hsz] at hi1
    have hI0 := hI
    obtain ⟨hls, _, ⟨T, rfl, hT, h0, h8, h9, hf, hP⟩, _, _⟩ := hI0
    have HI := Lib.hid hI
    have HP := Lib.hid hP
    have hHw := HH.out
    clear hlt hbd hi hI hP hK
    have hi := hi2
    clear hi2
    have hc : i = 0 ∨ i = 1 ∨ i = 2 ∨ i = 3 ∨ i = 4 ∨ i = 5 ∨ i = 6 ∨ i = 7 ∨ i = 8 ∨ i = 9 ∨ i = 10 ∨ i = 11 ∨ i = 12 ∨ i = 13 ∨ i = 14 ∨ i = 15 ∨ i = 16 ∨ i = 17 := by omega
    rcases hc with rfl | rfl | rfl | rfl | rfl | rfl | rfl | rfl | rfl | rfl | rfl | rfl | rfl | rfl | rfl | rfl | rfl | rfl
    · -- 0
      have ho := congrArg (fun a : Array Oper => a[0]?) hops.symm
      simp only [List.getElem?_toArray, List.getElem?_cons_zero] at ho
      obtain ⟨x0, x1, x2, x3, x4, x5, x6, x7, x8, x9, x10, x11, x12, x13, x14, x15, x16, x17, x18, x19, x20, x21, x22, x23, x24, x25, x26, x27, x28, x29, x30, x31, x32, x33, x34, x35, x36, x37, x38, x39, x40, x41, x42, x43, x44, x45, x46, x47, x48, x49, x50, x51, x52, rfl⟩ := arr53 hT
      have z0 : x0 = pE e 0 := by simpa using h0
      have z8 : x8 = .slice (some ⟨g, 0, none⟩) 2 cg := by simpa using h8
      have z9 : x9 = .int .i64 1 := by simpa using h9
      subst z0 z8 z9
      clear hm hops h0 h8 h9 hf hT
      unfold pE
      refine wpOp_list ho rfl ?_
      go_wp2_with fail
      exact HI.out.next hi hHw (by decide) (by decide) (by decide) (Below.refl _ _) (show _ = _ from rfl)
    · -- 1
      have ho := congrArg (fun a : Array Oper => a[1]?) hops.symm
      simp only [List.getElem?_toArray, List.getElem?_cons_succ, List.getElem?_cons_zero] at ho
      obtain ⟨x0, x1, x2, x3, x4, x5, x6, x7, x8, x9, x10, x11, x12, x13, x14, x15, x16, x17, x18, x19, x20, x21, x22, x23, x24, x25, x26, x27, x28, x29, x30, x31, x32, x33, x34, x35, x36, x37, x38, x39, x40, x41, x42, x43, x44, x45, x46, x47, x48, x49, x50, x51, x52, rfl⟩ := arr53 hT
      have z0 : x0 = pE e 0 := by simpa using h0
      have z8 : x8 = .slice (some ⟨g, 0, none⟩) 2 cg := by simpa using h8
      have z9 : x9 = .int .i64 1 := by simpa using h9
      subst z0 z8 z9
      clear hm hops h0 h8 h9 hf hT
      unfold pE
      refine wpOp_list ho rfl ?_
      go_wp2_with fail
      exact HI.out.next hi hHw (by decide) (by decide) (by decide) (Below.refl _ _) (show _ = _ from rfl)
    · -- 2
      have ho := congrArg (fun a : Array Oper => a[2]?) hops.symm
      simp only [List.getElem?_toArray, List.getElem?_cons_succ, List.getElem?_cons_zero] at ho
      have n1 := on_some (hm _ ho { on := 1, ground := Ground.data } (by simp))
      obtain ⟨v1, e1, F1⟩ := hf 1 (by decide) n1
      obtain ⟨x0, x1, x2, x3, x4, x5, x6, x7, x8, x9, x10, x11, x12, x13, x14, x15, x16, x17, x18, x19, x20, x21, x22, x23, x24, x25, x26, x27, x28, x29, x30, x31, x32, x33, x34, x35, x36, x37, x38, x39, x40, x41, x42, x43, x44, x45, x46, x47, x48, x49, x50, x51, x52, rfl⟩ := arr53 hT
      have z0 : x0 = pE e 0 := by simpa using h0
      have z8 : x8 = .slice (some ⟨g, 0, none⟩) 2 cg := by simpa using h8
      have z9 : x9 = .int .i64 1 := by simpa using h9
      have y1 : x34 = v1 := by simpa using e1
      subst z0 z8 z9
      subst y1
      have F1' : x34 = _ := F1
      subst F1'
      clear hm hops h0 h8 h9 hf hT e1
      unfold pE
      refine wpOp_list ho rfl ?_
      go_wp2_with fail
      exact HI.out.next hi hHw (by decide) (by decide) (by decide) (Below.refl _ _) (show _ = _ from rfl)
    · -- 3
      have ho := congrArg (fun a : Array Oper => a[3]?) hops.symm
      simp only [List.getElem?_toArray, List.getElem?_cons_succ, List.getElem?_cons_zero] at ho
      have n2 := on_some (hm _ ho { on := 2, ground := Ground.data } (by simp))
      obtain ⟨v2, e2, F2⟩ := hf 2 (by decide) n2
      obtain ⟨x0, x1, x2, x3, x4, x5, x6, x7, x8, x9, x10, x11, x12, x13, x14, x15, x16, x17, x18, x19, x20, x21, x22, x23, x24, x25, x26, x27, x28, x29, x30, x31, x32, x33, x34, x35, x36, x37, x38, x39, x40, x41, x42, x43, x44, x45, x46, x47, x48, x49, x50, x51, x52, rfl⟩ := arr53 hT
      have z0 : x0 = pE e 0 := by simpa using h0
      have z8 : x8 = .slice (some ⟨g, 0, none⟩) 2 cg := by simpa using h8
      have z9 : x9 = .int .i64 1 := by simpa using h9
      have y2 : x35 = v2 := by simpa using e2
      subst z0 z8 z9
      subst y2
      have F2' : x35 = _ := F2
      subst F2'
      clear hm hops h0 h8 h9 hf hT e2
      unfold pE
      refine wpOp_list ho rfl ?_
      go_wp2_with fail
      exact HI.out.next hi hHw (by decide) (by decide) (by decide) (Below.refl _ _) (show _ = _ from rfl)
    · -- 4
      have ho := congrArg (fun a : Array Oper => a[4]?) hops.symm
      simp only [List.getElem?_toArray, List.getElem?_cons_succ, List.getElem?_cons_zero] at ho
      have n3 := on_some (hm _ ho { on := 3, ground := Ground.data } (by simp))
      obtain ⟨v3, e3, F3⟩ := hf 3 (by decide) n3
      obtain ⟨x0, x1, x2, x3, x4, x5, x6, x7, x8, x9, x10, x11, x12, x13, x14, x15, x16, x17, x18, x19, x20, x21, x22, x23, x24, x25, x26, x27, x28, x29, x30, x31, x32, x33, x34, x35, x36, x37, x38, x39, x40, x41, x42, x43, x44, x45, x46, x47, x48, x49, x50, x51, x52, rfl⟩ := arr53 hT
      have z0 : x0 = pE e 0 := by simpa using h0
      have z8 : x8 = .slice (some ⟨g, 0, none⟩) 2 cg := by simpa using h8
      have z9 : x9 = .int .i64 1 := by simpa using h9
      have y3 : x36 = v3 := by simpa using e3
      subst z0 z8 z9
      subst y3
      have F3' : x36 = _ := F3
      subst F3'
      clear hm hops h0 h8 h9 hf hT e3
      unfold pE
      refine wpOp_list ho rfl ?_
      go_wp2_with fail
      exact HI.out.next hi hHw (by decide) (by decide) (by decide) (Below.refl _ _) (show _ = _ from rfl)
    · -- 5
      have ho := congrArg (fun a : Array Oper => a[5]?) hops.symm
      simp only [List.getElem?_toArray, List.getElem?_cons_succ, List.getElem?_cons_zero] at ho
      have n4 := on_some (hm _ ho { on := 4, ground := Ground.data } (by simp))
      obtain ⟨v4, e4, F4⟩ := hf 4 (by decide) n4
      obtain ⟨x0, x1, x2, x3, x4, x5, x6, x7, x8, x9, x10, x11, x12, x13, x14, x15, x16, x17, x18, x19, x20, x21, x22, x23, x24, x25, x26, x27, x28, x29, x30, x31, x32, x33, x34, x35, x36, x37, x38, x39, x40, x41, x42, x43, x44, x45, x46, x47, x48, x49, x50, x51, x52, rfl⟩ := arr53 hT
      have z0 : x0 = pE e 0 := by simpa using h0
      have z8 : x8 = .slice (some ⟨g, 0, none⟩) 2 cg := by simpa using h8
      have z9 : x9 = .int .i64 1 := by simpa using h9
      have y4 : x37 = v4 := by simpa using e4
      subst z0 z8 z9
      subst y4
      have F4' : x37 = _ := F4
      subst F4'
      obtain ⟨⟨fs1, hEA⟩, _⟩ := HI.out.early (HI.out.not13 (.inl hi))
      have hc4 := hEA.c4
      clear hEA
      clear hm hops h0 h8 h9 hf hT e4
      unfold pE
      refine wpOp_list ho rfl ?_
      go_wp2_with fail
      exact HI.out.next hi hHw (by decide) (by decide) (by decide) (Below.refl _ _) (show _ = _ from rfl)
    · -- 6
      have ho := congrArg (fun a : Array Oper => a[6]?) hops.symm
      simp only [List.getElem?_toArray, List.getElem?_cons_succ, List.getElem?_cons_zero] at ho
      obtain ⟨x0, x1, x2, x3, x4, x5, x6, x7, x8, x9, x10, x11, x12, x13, x14, x15, x16, x17, x18, x19, x20, x21, x22, x23, x24, x25, x26, x27, x28, x29, x30, x31, x32, x33, x34, x35, x36, x37, x38, x39, x40, x41, x42, x43, x44, x45, x46, x47, x48, x49, x50, x51, x52, rfl⟩ := arr53 hT
      have z0 : x0 = pE e 0 := by simpa using h0
      have z8 : x8 = .slice (some ⟨g, 0, none⟩) 2 cg := by simpa using h8
      have z9 : x9 = .int .i64 1 := by simpa using h9
      subst z0 z8 z9
      clear hm hops h0 h8 h9 hf hT
      unfold pE
      refine wpOp_list ho rfl ?_
      go_wp2_with fail
      exact HI.out.next hi hHw (by decide) (by decide) (by decide) (Below.refl _ _) (show _ = _ from rfl)
    · -- 7
      have ho := congrArg (fun a : Array Oper => a[7]?) hops.symm
      simp only [List.getElem?_toArray, List.getElem?_cons_succ, List.getElem?_cons_zero] at ho
      obtain ⟨x0, x1, x2, x3, x4, x5, x6, x7, x8, x9, x10, x11, x12, x13, x14, x15, x16, x17, x18, x19, x20, x21, x22, x23, x24, x25, x26, x27, x28, x29, x30, x31, x32, x33, x34, x35, x36, x37, x38, x39, x40, x41, x42, x43, x44, x45, x46, x47, x48, x49, x50, x51, x52, rfl⟩ := arr53 hT
      have z0 : x0 = pE e 0 := by simpa using h0
      have z8 : x8 = .slice (some ⟨g, 0, none⟩) 2 cg := by simpa using h8
      have z9 : x9 = .int .i64 1 := by simpa using h9
      subst z0 z8 z9
      clear hm hops h0 h8 h9 hf hT
      unfold pE
      refine wpOp_list ho rfl ?_
      go_wp2_with fail
      exact HI.out.next hi hHw (by decide) (by decide) (by decide) (Below.refl _ _) (show _ = _ from rfl)
    · -- 8
      have ho := congrArg (fun a : Array Oper => a[8]?) hops.symm
      simp only [List.getElem?_toArray, List.getElem?_cons_succ, List.getElem?_cons_zero] at ho
      have n6 := on_some (hm _ ho { on := 6, ground := Ground.data } (by simp))
      obtain ⟨v6, e6, F6⟩ := hf 6 (by decide) n6
      have n7 := on_some (hm _ ho { on := 7, ground := Ground.data } (by simp))
      obtain ⟨v7, e7, F7⟩ := hf 7 (by decide) n7
      obtain ⟨x0, x1, x2, x3, x4, x5, x6, x7, x8, x9, x10, x11, x12, x13, x14, x15, x16, x17, x18, x19, x20, x21, x22, x23, x24, x25, x26, x27, x28, x29, x30, x31, x32, x33, x34, x35, x36, x37, x38, x39, x40, x41, x42, x43, x44, x45, x46, x47, x48, x49, x50, x51, x52, rfl⟩ := arr53 hT
      have z0 : x0 = pE e 0 := by simpa using h0
      have z8 : x8 = .slice (some ⟨g, 0, none⟩) 2 cg := by simpa using h8
      have z9 : x9 = .int .i64 1 := by simpa using h9
      have y6 : x39 = v6 := by simpa using e6
      have y7 : x40 = v7 := by simpa using e7
      subst z0 z8 z9
      subst y6
      have F6' : x39 = _ := F6
      subst F6'
      subst y7
      have F7' : x40 = _ := F7
      subst F7'
      clear hm hops h0 h8 h9 hf hT e6 e7
      unfold pE
      refine wpOp_list ho rfl ?_
      go_wp2_with fail
      exact HI.out.next hi hHw (by decide) (by decide) (by decide) (Below.refl _ _) (show _ = _ from rfl)
    · -- 9
      have ho := congrArg (fun a : Array Oper => a[9]?) hops.symm
      simp only [List.getElem?_toArray, List.getElem?_cons_succ, List.getElem?_cons_zero] at ho
      have n8 := on_some (hm _ ho { on := 8, ground := Ground.data } (by simp))
      obtain ⟨v8, e8, F8⟩ := hf 8 (by decide) n8
      obtain ⟨x0, x1, x2, x3, x4, x5, x6, x7, x8, x9, x10, x11, x12, x13, x14, x15, x16, x17, x18, x19, x20, x21, x22, x23, x24, x25, x26, x27, x28, x29, x30, x31, x32, x33, x34, x35, x36, x37, x38, x39, x40, x41, x42, x43, x44, x45, x46, x47, x48, x49, x50, x51, x52, rfl⟩ := arr53 hT
      have z0 : x0 = pE e 0 := by simpa using h0
      have z8 : x8 = .slice (some ⟨g, 0, none⟩) 2 cg := by simpa using h8
      have z9 : x9 = .int .i64 1 := by simpa using h9
      have y8 : x41 = v8 := by simpa using e8
      subst z0 z8 z9
      subst y8
      have F8' : x41 = _ := F8
      subst F8'
      have k0 : w1.cell? ⟨g, 5, none⟩ = some (.string ⟨#[102, 111, 114, 109]⟩) := HP.out.nodes.cellX rfl 1 (by decide) (by decide) 0 (by decide)
      have k1 : w1.cell? ⟨g, 5 + 1, none⟩ = some (.string ⟨#[]⟩) := HP.out.nodes.cellX rfl 1 (by decide) (by decide) 1 (by decide)
      have k2 : w1.cell? ⟨g, 5 + 2, none⟩ = some (.slice none 0 0) := HP.out.nodes.cellX rfl 1 (by decide) (by decide) 2 (by decide)
      have k3 : w1.cell? ⟨g, 5 + 3, none⟩ = some (.int .i64 (-1)) := HP.out.nodes.cellX rfl 1 (by decide) (by decide) 3 (by decide)
      have k4 : w1.cell? ⟨g, 5 + 4, none⟩ = some (.slice none 0 0) := HP.out.nodes.cellX rfl 1 (by decide) (by decide) 4 (by decide)
      clear hm hops h0 h8 h9 hf hT e8
      unfold pE
      refine wpOp_list ho rfl ?_
      go_wp2_with fail
      exact HI.out.next hi hHw (by decide) (by decide) (by decide) (Below.refl _ _) (show _ = _ from rfl)
    · -- 10
      have ho := congrArg (fun a : Array Oper => a[10]?) hops.symm
      simp only [List.getElem?_toArray, List.getElem?_cons_succ, List.getElem?_cons_zero] at ho
      have n9 := on_some (hm _ ho { on := 9, ground := Ground.data } (by simp))
      obtain ⟨v9, e9, F9⟩ := hf 9 (by decide) n9
      obtain ⟨x0, x1, x2, x3, x4, x5, x6, x7, x8, x9, x10, x11, x12, x13, x14, x15, x16, x17, x18, x19, x20, x21, x22, x23, x24, x25, x26, x27, x28, x29, x30, x31, x32, x33, x34, x35, x36, x37, x38, x39, x40, x41, x42, x43, x44, x45, x46, x47, x48, x49, x50, x51, x52, rfl⟩ := arr53 hT
      have z0 : x0 = pE e 0 := by simpa using h0
      have z8 : x8 = .slice (some ⟨g, 0, none⟩) 2 cg := by simpa using h8
      have z9 : x9 = .int .i64 1 := by simpa using h9
      have y9 : x42 = v9 := by simpa using e9
      subst z0 z8 z9
      subst y9
      have F9' : x42 = _ := F9
      subst F9'
      have hof := of_form w1
      clear hm hops h0 h8 h9 hf hT e9
      unfold pE nF
      refine wpOp_list ho rfl ?_
      go_wp2_with fail
      refine hof.mono ?_
      rintro en w2 ⟨rfl, hb2⟩
      go_wp2_with fail
      exact HI.out.next hi hHw (by decide) (by decide) (by decide) hb2 (show _ = _ from rfl)
    · -- 11
      have ho := congrArg (fun a : Array Oper => a[11]?) hops.symm
      simp only [List.getElem?_toArray, List.getElem?_cons_succ, List.getElem?_cons_zero] at ho
      have n10 := on_some (hm _ ho { on := 10, ground := Ground.data } (by simp))
      obtain ⟨v10, e10, F10⟩ := hf 10 (by decide) n10
      obtain ⟨x0, x1, x2, x3, x4, x5, x6, x7, x8, x9, x10, x11, x12, x13, x14, x15, x16, x17, x18, x19, x20, x21, x22, x23, x24, x25, x26, x27, x28, x29, x30, x31, x32, x33, x34, x35, x36, x37, x38, x39, x40, x41, x42, x43, x44, x45, x46, x47, x48, x49, x50, x51, x52, rfl⟩ := arr53 hT
      have z0 : x0 = pE e 0 := by simpa using h0
      have z8 : x8 = .slice (some ⟨g, 0, none⟩) 2 cg := by simpa using h8
      have z9 : x9 = .int .i64 1 := by simpa using h9
      have y10 : x43 = v10 := by simpa using e10
      subst z0 z8 z9
      subst y10
      have F10' : x43 = _ := F10
      subst F10'
      have hst := StartF w1
      clear hm hops h0 h8 h9 hf hT e10
      unfold pE
      refine wpOp_list ho rfl ?_
      go_wp2_with fail
      refine hst.mono ?_
      rintro en w2 ⟨rfl, hb2⟩
      go_wp2_with fail
      exact HI.out.next hi hHw (by decide) (by decide) (by decide) hb2 (show _ = _ from rfl)
    · -- 12
      have ho := congrArg (fun a : Array Oper => a[12]?) hops.symm
      simp only [List.getElem?_toArray, List.getElem?_cons_succ, List.getElem?_cons_zero] at ho
      have n11 := on_some (hm _ ho { on := 11, ground := Ground.data } (by simp))
      obtain ⟨v11, e11, F11⟩ := hf 11 (by decide) n11
      obtain ⟨x0, x1, x2, x3, x4, x5, x6, x7, x8, x9, x10, x11, x12, x13, x14, x15, x16, x17, x18, x19, x20, x21, x22, x23, x24, x25, x26, x27, x28, x29, x30, x31, x32, x33, x34, x35, x36, x37, x38, x39, x40, x41, x42, x43, x44, x45, x46, x47, x48, x49, x50, x51, x52, rfl⟩ := arr53 hT
      have z0 : x0 = pE e 0 := by simpa using h0
      have z8 : x8 = .slice (some ⟨g, 0, none⟩) 2 cg := by simpa using h8
      have z9 : x9 = .int .i64 1 := by simpa using h9
      have y11 : x44 = v11 := by simpa using e11
      subst z0 z8 z9
      subst y11
      have F11' : x44 = _ := F11
      subst F11'
      clear hm hops h0 h8 h9 hf hT e11
      unfold pE cF
      refine wpOp_list ho rfl ?_
      go_wp2_with fail
      exact HI.out.made hi hHw
    · -- 13
      have ho := congrArg (fun a : Array Oper => a[13]?) hops.symm
      simp only [List.getElem?_toArray, List.getElem?_cons_succ, List.getElem?_cons_zero] at ho
      have n5 := on_some (hm _ ho { on := 5, ground := Ground.data } (by simp))
      obtain ⟨v5, e5, F5⟩ := hf 5 (by decide) n5
      have n12 := on_some (hm _ ho { on := 12, ground := Ground.data } (by simp))
      obtain ⟨v12, e12, F12⟩ := hf 12 (by decide) n12
      obtain ⟨x0, x1, x2, x3, x4, x5, x6, x7, x8, x9, x10, x11, x12, x13, x14, x15, x16, x17, x18, x19, x20, x21, x22, x23, x24, x25, x26, x27, x28, x29, x30, x31, x32, x33, x34, x35, x36, x37, x38, x39, x40, x41, x42, x43, x44, x45, x46, x47, x48, x49, x50, x51, x52, rfl⟩ := arr53 hT
      have z0 : x0 = pE e 0 := by simpa using h0
      have z8 : x8 = .slice (some ⟨g, 0, none⟩) 2 cg := by simpa using h8
      have z9 : x9 = .int .i64 1 := by simpa using h9
      have y5 : x38 = v5 := by simpa using e5
      have y12 : x45 = v12 := by simpa using e12
      subst z0 z8 z9
      subst y5
      have F5' : x38 = _ := F5
      subst F5'
      subst y12
      obtain ⟨b12, rfl⟩ := F12
      clear hm hops h0 h8 h9 hf hT e5 e12
      unfold pE
      obtain ⟨⟨fs1, hEA⟩, hB⟩ := HI.out.early hi
      obtain ⟨bb, eb, hbb⟩ := hB n12
      have eb' : b12 = bb := by simpa using eb
      subst eb'
      obtain ⟨ic, hic, hzc, hzc1, hzc2⟩ := info_parts infoC
      have hHs : H ≤ w1.heap.size := Nat.le_trans hHw HP.out.2.1
      refine wpOp_list ho rfl ?_
      refine wpList_append_lies _ rfl _ _ 66 rfl H 105 ic _ 10 64 Tryz.underlying66 hic hzc hzc1 hzc2 rfl (by decide) _ 1 _ rfl hEA.ctls.row ⟨b12, 0, none⟩ 1 1 (encC ctl0 vN) rfl rfl (World.news_of_block hbb) ?_ (by decide) (by decide) (by decide) hHs _ rfl ?_
      · intro u hu
        simp only [encC, ctl0, vN, List.mem_cons, List.not_mem_nil, or_false] at hu
        rcases hu with rfl | rfl | rfl | rfl | rfl | rfl | rfl | rfl | rfl | rfl <;> rfl
      intro g9 cap9 w9 hown9 hgrow9 hat9 hlt9
      obtain ⟨hW, hEf⟩ := hEA.grow hgrow9 hown9
      have hP9 : Ph H e (.slice (some ⟨g, 0, none⟩) 2 cg) (.slice (some ⟨g0, 0, none⟩) 1 cg0) w (l.setIfInBounds 13 true) (#[(pE e 0), x1, x2, x3, x4, x5, x6, x7, (.slice (some ⟨g, 0, none⟩) 2 cg), (.int .i64 1), x10, x11, x12, x13, x14, x15, x16, x17, x18, x19, x20, x21, x22, x23, x24, x25, x26, x27, x28, x29, x30, x31, x32, x33, x34, x35, x36, x37, (.slice (some ⟨g0, 0, none⟩) 1 cg0), x39, x40, x41, x42, x43, x44, (.slice (some ⟨b12, 0, none⟩) 1 1), x46, x47, x48, x49, x50, x51, x52].setIfInBounds (33 + 13) (.slice (some ⟨g9, 0, none⟩) 2 cap9)) w9 := by
        refine ⟨HP.out.1.trans hEf, Nat.le_trans HP.out.2.1 hgrow9.size, .inr (.inl ⟨?_, ?_, _, rfl, hW⟩)⟩
        · rw [Array.getElem?_setIfInBounds_self_of_lt (by rw [hls]; decide)]
        · rw [Array.getElem?_setIfInBounds_ne (by decide)]
          exact HI.out.not17 hi
      have HN := HI.out.put hi (by decide) (fun _ => ⟨n5, n12⟩) (⟨g9, cap9, rfl⟩ : AF e g cg (.slice (some ⟨g0, 0, none⟩) 1 cg0) 13 _) hP9
      go_wp2_with fail
      exact HN
    · -- 14
      have ho := congrArg (fun a : Array Oper => a[14]?) hops.symm
      simp only [List.getElem?_toArray, List.getElem?_cons_succ, List.getElem?_cons_zero] at ho
      have n0 := on_some (hm _ ho { on := 0, ground := Ground.data } (by simp))
      obtain ⟨v0, e0, F0⟩ := hf 0 (by decide) n0
      obtain ⟨x0, x1, x2, x3, x4, x5, x6, x7, x8, x9, x10, x11, x12, x13, x14, x15, x16, x17, x18, x19, x20, x21, x22, x23, x24, x25, x26, x27, x28, x29, x30, x31, x32, x33, x34, x35, x36, x37, x38, x39, x40, x41, x42, x43, x44, x45, x46, x47, x48, x49, x50, x51, x52, rfl⟩ := arr53 hT
      have z0 : x0 = pE e 0 := by simpa using h0
      have z8 : x8 = .slice (some ⟨g, 0, none⟩) 2 cg := by simpa using h8
      have z9 : x9 = .int .i64 1 := by simpa using h9
      have y0 : x33 = v0 := by simpa using e0
      subst z0 z8 z9
      subst y0
      have F0' : x33 = _ := F0
      subst F0'
      clear hm hops h0 h8 h9 hf hT e0
      unfold pE
      refine wpOp_list ho rfl ?_
      go_wp2_with fail
      exact HI.out.next hi hHw (by decide) (by decide) (by decide) (Below.refl _ _) (show _ = _ from rfl)
    · -- 15
      have ho := congrArg (fun a : Array Oper => a[15]?) hops.symm
      simp only [List.getElem?_toArray, List.getElem?_cons_succ, List.getElem?_cons_zero] at ho
      have n14 := on_some (hm _ ho { on := 14, ground := Ground.data } (by simp))
      obtain ⟨v14, e14, F14⟩ := hf 14 (by decide) n14
      obtain ⟨x0, x1, x2, x3, x4, x5, x6, x7, x8, x9, x10, x11, x12, x13, x14, x15, x16, x17, x18, x19, x20, x21, x22, x23, x24, x25, x26, x27, x28, x29, x30, x31, x32, x33, x34, x35, x36, x37, x38, x39, x40, x41, x42, x43, x44, x45, x46, x47, x48, x49, x50, x51, x52, rfl⟩ := arr53 hT
      have z0 : x0 = pE e 0 := by simpa using h0
      have z8 : x8 = .slice (some ⟨g, 0, none⟩) 2 cg := by simpa using h8
      have z9 : x9 = .int .i64 1 := by simpa using h9
      have y14 : x47 = v14 := by simpa using e14
      subst z0 z8 z9
      subst y14
      have F14' : x47 = _ := F14
      subst F14'
      clear hm hops h0 h8 h9 hf hT e14
      unfold pE
      refine wpOp_list ho rfl ?_
      go_wp2_with fail
      exact HI.out.next hi hHw (by decide) (by decide) (by decide) (Below.refl _ _) (show _ = _ from rfl)
    · -- 16
      have ho := congrArg (fun a : Array Oper => a[16]?) hops.symm
      simp only [List.getElem?_toArray, List.getElem?_cons_succ, List.getElem?_cons_zero] at ho
      have n15 := on_some (hm _ ho { on := 15, ground := Ground.data } (by simp))
      obtain ⟨v15, e15, F15⟩ := hf 15 (by decide) n15
      obtain ⟨x0, x1, x2, x3, x4, x5, x6, x7, x8, x9, x10, x11, x12, x13, x14, x15, x16, x17, x18, x19, x20, x21, x22, x23, x24, x25, x26, x27, x28, x29, x30, x31, x32, x33, x34, x35, x36, x37, x38, x39, x40, x41, x42, x43, x44, x45, x46, x47, x48, x49, x50, x51, x52, rfl⟩ := arr53 hT
      have z0 : x0 = pE e 0 := by simpa using h0
      have z8 : x8 = .slice (some ⟨g, 0, none⟩) 2 cg := by simpa using h8
      have z9 : x9 = .int .i64 1 := by simpa using h9
      have y15 : x48 = v15 := by simpa using e15
      subst z0 z8 z9
      subst y15
      have F15' : x48 = _ := F15
      subst F15'
      clear hm hops h0 h8 h9 hf hT e15
      unfold pE
      refine wpOp_list ho rfl ?_
      go_wp2_with fail
      exact HI.out.next hi hHw (by decide) (by decide) (by decide) (Below.refl _ _) (show _ = _ from rfl)
    · -- 17
      have ho := congrArg (fun a : Array Oper => a[17]?) hops.symm
      simp only [List.getElem?_toArray, List.getElem?_cons_succ, List.getElem?_cons_zero] at ho
      have n16 := on_some (hm _ ho { on := 16, ground := Ground.data } (by simp))
      obtain ⟨v16, e16, F16⟩ := hf 16 (by decide) n16
      have n13 := on_some (hm _ ho { on := 13, ground := Ground.data } (by simp))
      obtain ⟨v13, e13, F13⟩ := hf 13 (by decide) n13
      obtain ⟨x0, x1, x2, x3, x4, x5, x6, x7, x8, x9, x10, x11, x12, x13, x14, x15, x16, x17, x18, x19, x20, x21, x22, x23, x24, x25, x26, x27, x28, x29, x30, x31, x32, x33, x34, x35, x36, x37, x38, x39, x40, x41, x42, x43, x44, x45, x46, x47, x48, x49, x50, x51, x52, rfl⟩ := arr53 hT
      have z0 : x0 = pE e 0 := by simpa using h0
      have z8 : x8 = .slice (some ⟨g, 0, none⟩) 2 cg := by simpa using h8
      have z9 : x9 = .int .i64 1 := by simpa using h9
      have y16 : x49 = v16 := by simpa using e16
      have y13 : x46 = v13 := by simpa using e13
      subst z0 z8 z9
      subst y16
      have F16' : x49 = _ := F16
      subst F16'
      subst y13
      obtain ⟨b13, c13, rfl⟩ := F13
      clear hm hops h0 h8 h9 hf hT e16 e13
      unfold pE
      obtain ⟨v13, hv13, hW⟩ := HI.out.late n13 hi
      obtain rfl : .slice (some ⟨b13, 0, none⟩) 2 c13 = v13 := by simpa using hv13
      obtain ⟨u0, u1, u2, uc, u5, u6, u7, u8, u9, u10, u11, hx⟩ := hW.blk
      have d4 := eng_cell hx 4
      have z4 := eng_froz hx 4
      simp only [List.getElem?_toArray, List.getElem?_cons_succ, List.getElem?_cons_zero] at d4
      obtain ⟨fs9, hE9⟩ := hW.set
      have hEf9 := (Eff.refl H w1).set (o := 4) hx hW.low (.slice (some ⟨b13, 0, none⟩) 2 c13)
      have HE9 := Lib.hid hE9
      have HEf9 := Lib.hid hEf9
      clear hW hx hE9 hEf9
      refine wpOp_list ho rfl ?_
      go_wp2_with fail
      exact HI.out.fin hi n13 HE9.out HEf9.out (by simp [World.setCell])
end Go.Proofs.YtkhgfngppcemlaaGreatDoor.scr
namespace Go.Proofs.YtkhgfngppcemlaaGreatDoor.scr
open Go Go.RowKit Go.ChangeShapes Go.WideShapes Go.ChangeAt Go.Lib Go.Proofs.YtkhgfngppcemlaaGreatDoor.doc Go.Proofs.YtkhgfngppcemlaaGreatDoor.atr Go.Proofs.YtkhgfngppcemlaaGreatDoor.ctl

set_option maxHeartbeats 3200000 in
set_option maxRecDepth 100000 in
theorem einsert (H e : Nat) (w : World) (hH : H ≤ w.heap.size) (hE : E1 w H e) :
    Calls Tryz.prog 43 #[.pointer (some ⟨e, 0, none⟩), .int .i64 0, .int .i64 1, .int .i64 (-1)] w fun en w' => en = .returned (.int .i64 0) ∧ E2 w' H e ∧ Eff H w w' := by
  obtain ⟨fs, vn, vc, hE⟩ := hE
  have hins := tins vn lf1 rt1 H w hE.nodes
  obtain ⟨b0, cap0, _, rfl, _⟩ := own_blk (n := 1) hE.nodes.row
  have c3 := hE.c3
  have HE := Lib.hid hE
  have HH := Lib.hid hH
  have HS := Lib.hid (fun (w1 : World) (ps' : List (Value × Value)) (fs' : List Value) (vn' vc' : Value) (h1 : H ≤ w1.heap.size) (h2 : EngAt w1 H e l2 ps' [ctl0, ctl0] fs' vn' vc') => settle_still H e l2 ps' [ctl0, ctl0] fs' vn' vc' still2 rfl (by decide) nof2 (by decide) w1 h1 h2)
  clear hE hH
  go_enter Tryz.func43, Tryz.ntmps43
  go_wp2_with fail
  refine hins.mono ?_
  rintro en w1 ⟨g, cg, kv, rfl, hcp, hb1⟩
  have hE1 := HE.out.eff hb1
  have d3 := hE1.c3
  have z3 := hE1.z 3
  have hcp' : CpR w1 H (.slice (some ⟨g, 0, none⟩) 2 cg) l2 [(.slice none 0 0, kv), nilP] := ⟨hcp.len, ownsRow_lower hcp.row HH.out, fun j a b => ownsRow_lower (hcp.attrs j a b) HH.out, fun j a b => ownsRow_lower (hcp.kids j a b) HH.out⟩
  have hE2 := hE1.setN nof2 hcp'
  obtain ⟨x0, x1, x2, x5, x6, x7, x8, x9, x10, x11, hx⟩ := hE1.blk
  have hfx := (Eff.of hb1 HH.out).set (o := 3) hx hE1.low (.slice (some ⟨g, 0, none⟩) 2 cg)
  have hsz : H ≤ (w1.setCell ⟨e, 3, none⟩ (.slice (some ⟨g, 0, none⟩) 2 cg)).heap.size := by
    have := hb1.size
    have := HH.out
    simp [World.setCell]
    omega
  have hset := HS.out _ _ _ _ _ hsz hE2
  have HFx := Lib.hid hfx
  clear hcp hcp' hE1 hE2 hx hins hfx hsz
  go_wp2_with fail
  refine hset.mono ?_
  rintro en w3 ⟨⟨uv, rfl⟩, ⟨fs3, vc3, hE4⟩, hf3⟩
  have HE4 := Lib.hid hE4
  have HF3 := Lib.hid hf3
  clear hset hE4 hf3
  go_wp2_with fail
  go_ret
  exact ⟨rfl, ⟨_, _, _, _, HE4.out⟩, HFx.out.trans HF3.out⟩
theorem there_no (e cap b : Nat) (w : World) (c3 : w.cell? ⟨e, 3, none⟩ = some (.slice (some ⟨b, 0, none⟩) 2 cap)) :
    Calls Tryz.prog 91 #[.pointer (some ⟨e, 0, none⟩), .int .i64 9] w fun en w' => en = .returned (.bool false) ∧ w = w' := by
  go_enter Tryz.func91, Tryz.ntmps91
  go_wp2_with fail
  go_ret
  exact ⟨rfl, rfl⟩
set_option maxHeartbeats 3200000 in
set_option maxRecDepth 100000 in
theorem eclick (H e : Nat) (w : World) (hE : E2 w H e) :
    Calls Tryz.prog 60 #[.pointer (some ⟨e, 0, none⟩), .int .i64 9] w fun en w' => en = .returned (.int .i64 4) ∧ w = w' := by
  obtain ⟨ps, fs, vn, vc, hE⟩ := hE
  obtain ⟨b0, cap0, _, rfl, _⟩ := own_blk (n := 1) hE.nodes.row
  have ht := there_no e cap0 b0 w hE.c3
  clear hE
  go_enter Tryz.func60, Tryz.ntmps60
  go_wp2_with fail
  refine ht.mono ?_
  rintro en w1 ⟨rfl, rfl⟩
  go_wp2_with fail
  go_ret
  exact ⟨rfl, rfl⟩
end Go.Proofs.YtkhgfngppcemlaaGreatDoor.scr
