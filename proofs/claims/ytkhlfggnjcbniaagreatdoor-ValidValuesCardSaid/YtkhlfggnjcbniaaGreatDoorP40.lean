/- What is missing, of a control that is neither a box, a radio, a file nor a select; step.Flags of a kind that has none. The examples hold. ValidBars: the walk. -/
import Derived.BigCall
import Derived.BigGuard
import Derived.BigQuiet
import Derived.ChangeAlike
import Derived.Deep.AppendLies
import Derived.Deep.CutBlock
import Derived.Deep.DeepCutAuto
import Derived.Deep.MidRow
import Derived.Deep.RegionHeld
import Derived.Deep.RegionHeld3
import Derived.Deep.RegionLaw
import Derived.Deep.RegionLawGrows
import Derived.Deep.SlicePairs
import Derived.Deep.Slices
import Derived.Ground.MpProg
import Derived.Laws.BitsLemmas
import Derived.Laws.BytesArg
import Derived.Laws.Closers25
import Derived.Laws.Closers25b
import Derived.Laws.IdiomStrings
import Derived.Laws.OwnMore
import Derived.Laws.ResultCell
import Derived.Laws.Strings3
import Derived.Lib.AppendIntMem
import Derived.Lib.AppendStr
import Derived.Lib.ConvBytes
import Derived.Lib.Hide
import Derived.Lib.IndexBytes
import Derived.Lib.IndexMore
import Derived.Lib.ItoaMem
import Derived.Lib.ItoaNum
import Derived.Lib.Join
import Derived.Lib.ParseIntBMem
import Derived.Lib.Repeat
import Derived.Lib.Replace
import Derived.Lib.SlTrimSet
import Derived.Lib.SliceRun
import Derived.Lib.Split
import Derived.Lib.SplitLaws
import Derived.Lib.Strings
import Derived.Lib.Walk
import Derived.LoopIn
import Derived.LoopNIn
import Derived.Maps.AppendAt
import Derived.OneCell
import Derived.OpenShut
import Derived.Outline
import Derived.OwnWalkIn
import Derived.ProofKit
import Derived.RangeFuncBound
import Derived.RangeFuncBox
import Derived.RangeFuncCalls
import Derived.RangeFuncLeaves
import Derived.RangeFuncNested
import Derived.RegionTactic
import Derived.Shelf.Abstract
import Derived.Shelf.Bits.Mul64
import Derived.Shelf.RegionOpen
import Derived.Shelf.SlicesQ.IndexFunc
import Derived.Shelf.Strconv.AtoiAll
import Derived.Shelf.Strings.BuilderK
import Derived.Shelf.Strings.OnBuilder
import Derived.Shelf.Strings.SlTrimAscii
import Derived.StillTailTactics
import Derived.TacticsInMore
import Derived.WalkKit
import Derived.WalkLawsBesides
import Derived.WalkMore
import Derived.WalkSmall
import Derived.WalkSpells
import Derived.WideKeyArgs
import Derived.Test.YtkhlfggnjcbniaaGreatDoorProg
import Derived.Test.YtkhlfggnjcbniaaGreatDoorRows
import Derived.Test.YtkhlfggnjcbniaaGreatDoorShelf
import Derived.Test.YtkhlfggnjcbniaaGreatDoorP0
import Derived.Test.YtkhlfggnjcbniaaGreatDoorP1
import Derived.Test.YtkhlfggnjcbniaaGreatDoorP2
import Derived.Test.YtkhlfggnjcbniaaGreatDoorP3
import Derived.Test.YtkhlfggnjcbniaaGreatDoorP4
import Derived.Test.YtkhlfggnjcbniaaGreatDoorP5
import Derived.Test.YtkhlfggnjcbniaaGreatDoorP6
import Derived.Test.YtkhlfggnjcbniaaGreatDoorP7
import Derived.Test.YtkhlfggnjcbniaaGreatDoorP8
import Derived.Test.YtkhlfggnjcbniaaGreatDoorP9
import Derived.Test.YtkhlfggnjcbniaaGreatDoorP10
import Derived.Test.YtkhlfggnjcbniaaGreatDoorP11
import Derived.Test.YtkhlfggnjcbniaaGreatDoorP12
import Derived.Test.YtkhlfggnjcbniaaGreatDoorP13
import Derived.Test.YtkhlfggnjcbniaaGreatDoorP14
import Derived.Test.YtkhlfggnjcbniaaGreatDoorP15
import Derived.Test.YtkhlfggnjcbniaaGreatDoorP16
import Derived.Test.YtkhlfggnjcbniaaGreatDoorP17
import Derived.Test.YtkhlfggnjcbniaaGreatDoorP18
import Derived.Test.YtkhlfggnjcbniaaGreatDoorP19
import Derived.Test.YtkhlfggnjcbniaaGreatDoorP20
import Derived.Test.YtkhlfggnjcbniaaGreatDoorP21
import Derived.Test.YtkhlfggnjcbniaaGreatDoorP22
import Derived.Test.YtkhlfggnjcbniaaGreatDoorP23
import Derived.Test.YtkhlfggnjcbniaaGreatDoorP24
import Derived.Test.YtkhlfggnjcbniaaGreatDoorP25
import Derived.Test.YtkhlfggnjcbniaaGreatDoorP26
import Derived.Test.YtkhlfggnjcbniaaGreatDoorP27
import Derived.Test.YtkhlfggnjcbniaaGreatDoorP28
import Derived.Test.YtkhlfggnjcbniaaGreatDoorP29
import Derived.Test.YtkhlfggnjcbniaaGreatDoorP30
import Derived.Test.YtkhlfggnjcbniaaGreatDoorP31
import Derived.Test.YtkhlfggnjcbniaaGreatDoorP32
import Derived.Test.YtkhlfggnjcbniaaGreatDoorP33
import Derived.Test.YtkhlfggnjcbniaaGreatDoorP34
import Derived.Test.YtkhlfggnjcbniaaGreatDoorP35
import Derived.Test.YtkhlfggnjcbniaaGreatDoorP36
import Derived.Test.YtkhlfggnjcbniaaGreatDoorP37
import Derived.Test.YtkhlfggnjcbniaaGreatDoorP38
import Derived.Test.YtkhlfggnjcbniaaGreatDoorP39
namespace Go.Proofs.YtkhlfggnjcbniaaGreatDoor.doc
open Go.ChangeShapes Go.WideShapes Go.ChangeAt Go.RowKit Go.Lib Go.Proofs.YtkhlfggnjcbniaaGreatDoor.atr Go.Proofs.YtkhlfggnjcbniaaGreatDoor.link Go.Proofs.YtkhlfggnjcbniaaGreatDoor.ctl

set_option maxHeartbeats 3200000 in
set_option maxRecDepth 100000 in
theorem lacks_val (vn vc : Value) (l : List Nd) (cs : List Ctl) (hC : CtlsOk cs) (k : Nat) (hk : k < l.length) (hq : docR l cs = true) (hkd : kN l (k : Int) ≠ 16 ∧ kN l (k : Int) ≠ 17 ∧ kN l (k : Int) ≠ 18 ∧ kN l (k : Int) ≠ 23) (w : World) (hD : DocAt w vn vc l cs) :
    Calls Tryz.prog 39 #[.agg #[vn, vc], .int .i64 k, .int .i64 (kN l (k : Int))] w (RetB (reqP (kN l (k : Int)) && hasA nRequired (nd l (k : Int)).attrs && (decide (valV l cs (k : Int) = []) && !fixR l (k : Int))) w) := by
  obtain ⟨hlc, hR⟩ := (docR_iff l cs).1 hq
  have hlen := hD.fine.len
  have HVal := Lib.hid (fun w' (h : Below w.heap.size w w') => vvalue_any vn vc l cs hC k hk hq w' (hD.below h))
  have hFine := hD.fine
  obtain ⟨b, off, cap, rfl, hb⟩ := nodes_addr hD.nodes (by omega)
  have HFx := Lib.hid (fun w' (h : Below w.heap.size w w') => fixed_any _ l hFine hR k hk w' (hD.nodes.below h))
  have hn0 := nodes_get hD.nodes k hk
  have HN := Lib.hid (fun w' (h : Below w.heap.size w w') => nodes_get (hD.nodes.below h) k hk)
  have HHas := Lib.hid (fun w' va vk h1 h2 => vhas_any (nd l (k : Int)) va vk nRequired (hFine.nd _ (by omega) (by omega)).attrs w' h1 h2)
  have hreq := fun w => required_any (kN l (k : Int)) w
  obtain ⟨oc, cc, rfl⟩ := CtlsAt.lenN hD.ctls
  have h0 : (0 : Int) ≤ (k : Int) := by omega
  have hk' : (k : Int) < (l.length : Int) := by omega
  obtain ⟨g16, g17, g18, g23⟩ := hkd
  have b16 : (kN l (k : Int) == 16) = false := by simpa using g16
  have b17 : (kN l (k : Int) == 17) = false := by simpa using g17
  have b18 : (kN l (k : Int) == 18) = false := by simpa using g18
  have b23 : (kN l (k : Int) == 23) = false := by simpa using g23
  clear g16 g17 g18 g23
  generalize kN l (k : Int) = kd at *
  obtain ⟨rq, hrq⟩ : ∃ r, r = reqP kd := ⟨_, rfl⟩
  rw [← hrq] at hreq ⊢
  generalize hasA nRequired (nd l (k : Int)).attrs = ha at *
  generalize valV l cs (k : Int) = s at *
  generalize fixR l (k : Int) = fx at *
  generalize nd l (k : Int) = n at *
  obtain ⟨wA, hwA⟩ : ∃ wA, wA = w.alloc (.cells #[.slice (some ⟨b, off, none⟩) l.length cap, .slice oc cs.length cc] 28) := ⟨_, rfl⟩
  have hB1 : Below w.heap.size w wA := by rw [hwA]; exact (Below.refl _ w).alloc (Nat.le_refl _) _
  have f0 : wA.cell? ⟨w.heap.size, 0, none⟩ = some (.slice (some ⟨b, off, none⟩) l.length cap) := by rw [hwA]; exact (doc_cells w _ _ _ _ _ _ _).1
  have f1 : wA.cell? ⟨w.heap.size, 1, none⟩ = some (.slice oc cs.length cc) := by rw [hwA]; exact (doc_cells w _ _ _ _ _ _ _).2
  clear hD hq hlc hR hrq hFine
  obtain ⟨va, vk, hn0⟩ := hn0
  have HN0 := Lib.hid hn0
  obtain ⟨c0, c1, c2, c3, c4, _, _, _⟩ := hn0
  have hhas := HHas.out _ va vk (HN0.out.attrs.below hB1) (HN0.out.kids.below hB1)
  unfold nodeV at hhas
  cases rq
  case false =>
    subst hwA
    clear hhas
    go_enter Tryz.func39, Tryz.ntmps39
    go_wp2_with fail
    refine (hreq _).mono ?_
    rintro e w1 ⟨rfl, rfl⟩
    go_wp2_with fail
    go_ret
    exact ⟨rfl, hB1⟩
  go_enter Tryz.func39, Tryz.ntmps39
  go_wp2_with fail
  rw [← hwA]
  clear hwA
  refine (hreq _).mono ?_
  rintro e w1 ⟨rfl, rfl⟩
  obtain ⟨c0, c1, c2, c3, c4, _, _, _⟩ := HN0.out.below hB1
  go_wp2_with fail
  refine hhas.mono ?_
  rintro e w2 ⟨rfl, hb2⟩
  have hB2 := below_trans hB1 hb2
  have f0 := cell_below hb2 f0
  have f1 := cell_below hb2 f1
  clear hhas hreq c0 c1 c2 c3 c4
  cases ha
  case false =>
    go_wp2_with fail
    go_ret
    exact ⟨rfl, hB2⟩
  have hv := HVal.out w2 hB2
  go_wp2_with fail
  refine hv.mono ?_
  rintro e w3 ⟨rfl, hb3⟩
  have hB3 := below_trans hB2 hb3
  have f0 := cell_below hb3 f0
  have f1 := cell_below hb3 f1
  clear hv
  by_cases hs0 : s = []
  · have hemp : s.isEmpty = true := by simp [hs0]
    have HD : Hid (decide (s = []) = true) := Lib.hid (decide_eq_true hs0)
    have hf := HFx.out w3 hB3
    have HZ : Hid ((!fx) = (true && true && (decide (s = []) && !fx))) := Lib.hid (by rw [HD.out]; rfl)
    clear hs0 HD
    go_wp2_with fail
    refine hf.mono ?_
    rintro e w4 ⟨rfl, hb4⟩
    go_wp2_with fail
    go_ret
    exact ⟨ret_bool HZ.out, below_trans hB3 hb4⟩
  · have hemp : s.isEmpty = false := by simp [hs0]
    have HD : Hid (decide (s = []) = false) := Lib.hid (decide_eq_false hs0)
    have HZ : Hid (false = (true && true && (decide (s = []) && !fx))) := Lib.hid (by rw [HD.out]; rfl)
    clear hs0 HD
    go_wp2_with fail
    go_ret
    exact ⟨ret_bool HZ.out, hB3⟩
set_option maxHeartbeats 1600000 in
set_option maxRecDepth 100000 in
theorem stepval_no (kind : Int) (hk : stp.i64 kind) (h : ¬ (8 ≤ kind ∧ kind ≤ 14)) (s : List UInt8) (w : World) :
    Calls Tryz.prog 97 #[.int .i64 kind, .string ⟨s.toArray⟩] w fun e w' => e = .returned (.tuple #[.int .i64 0, .bool false]) ∧ Below w.heap.size w w' := by
  have ho := stp.of_any kind hk w
  obtain ⟨u1, u2, u3, u4⟩ := stp.u_no kind h
  rw [u1, u2, u3, u4] at ho
  clear u1 u2 u3 u4 h hk
  go_enter Tryz.func97, Tryz.ntmps97
  go_wp2_with fail
  refine ho.mono ?_
  rintro e w1 ⟨rfl, hb⟩
  clear ho
  go_wp2_with fail
  go_ret2
  exact ⟨rfl, hb.alloc hb.size _⟩
set_option maxHeartbeats 1600000 in
set_option maxRecDepth 100000 in
theorem stepflags_no (kind : Int) (hk : stp.i64 kind) (h : ¬ (8 ≤ kind ∧ kind ≤ 14)) (va : Value) (a : List Attr) (s : List UInt8) (w : World) (hA : AttrsAt w va a) :
    Calls Tryz.prog 44 #[.int .i64 kind, va, .string ⟨s.toArray⟩] w fun e w' => e = .returned (.tuple #[.bool false, .bool false, .bool false]) ∧ Below w.heap.size w w' := by
  have hv := stepval_no kind hk h s w
  obtain ⟨oa, ac, rfl⟩ := AttrsAt.lenN hA
  clear h hk hA
  go_enter Tryz.func44, Tryz.ntmps44
  go_wp2_with fail
  refine hv.mono ?_
  rintro e w1 ⟨rfl, hB⟩
  go_wp2_with fail
  go_ret3
  exact ⟨rfl, hB⟩
end Go.Proofs.YtkhlfggnjcbniaaGreatDoor.doc
namespace Go.Proofs.YtkhlfggnjcbniaaGreatDoor.doc
open Go.ChangeShapes Go.WideShapes Go.ChangeAt Go.RowKit Go.Lib Go.Proofs.YtkhlfggnjcbniaaGreatDoor.atr Go.Proofs.YtkhlfggnjcbniaaGreatDoor.link Go.Proofs.YtkhlfggnjcbniaaGreatDoor.ctl

def validP (l : List Nd) (cs : List Ctl) (k : Int) (fl : Int) : Bool := !thereP l cs k || barP l k || (fl == 0)
set_option maxHeartbeats 3200000 in
set_option maxRecDepth 100000 in
/-- valid.Valid, by what Flags answers -/
theorem valid_gen (vn vc : Value) (l : List Nd) (cs : List Ctl) (k : Int) (fl : Int) (w : World) (hD : DocAt w vn vc l cs)
    (HF : thereP l cs k = true → barP l k = false → ∀ w', Below w.heap.size w w' → Calls Tryz.prog 14 #[.agg #[vn, vc], .int .i64 k] w' (RetI fl w')) :
    Calls Tryz.prog 24 #[.agg #[vn, vc], .int .i64 k] w (RetB (validP l cs k fl) w) := by
  have hlen := hD.fine.len
  have hth := fun w' (h : Below w.heap.size w w') => there_any vn vc l cs k w' (hD.below h)
  have hba := fun w' (h : Below w.heap.size w w') => barred_any vn l hD.fine k w' (hD.nodes.below h)
  obtain ⟨oa, ca, rfl⟩ := NodesAt.lenN hD.nodes
  obtain ⟨oc, cc, rfl⟩ := CtlsAt.lenN hD.ctls
  obtain ⟨wA, hwA⟩ : ∃ wA, wA = w.alloc (.cells #[.slice oa l.length ca, .slice oc cs.length cc] 28) := ⟨_, rfl⟩
  have hB1 : Below w.heap.size w wA := by rw [hwA]; exact (Below.refl _ w).alloc (Nat.le_refl _) _
  have f0 : wA.cell? ⟨w.heap.size, 0, none⟩ = some (.slice oa l.length ca) := by rw [hwA]; exact (doc_cells w _ _ _ _ _ _ _).1
  have f1 : wA.cell? ⟨w.heap.size, 1, none⟩ = some (.slice oc cs.length cc) := by rw [hwA]; exact (doc_cells w _ _ _ _ _ _ _).2
  have HV : Hid (validP l cs k fl = (!thereP l cs k || barP l k || (fl == 0))) := Lib.hid rfl
  obtain ⟨res, hres⟩ : ∃ r, r = validP l cs k fl := ⟨_, rfl⟩
  rw [← hres] at HV ⊢
  have HTh := Lib.hid hth
  have HBa := Lib.hid hba
  have HFl := Lib.hid HF
  clear hres hD hth hba HF
  generalize thereP l cs k = th at *
  generalize barP l k = ba at *
  have h1 := HTh.out wA hB1
  subst hwA
  cases th
  case false =>
    have HX : Hid (res = true) := Lib.hid (by rw [HV.out]; rfl)
    clear HV f0 f1
    go_enter Tryz.func24, Tryz.ntmps24
    go_wp2_with fail
    refine h1.mono ?_
    rintro e w1 ⟨rfl, hb1⟩
    go_wp2_with fail
    go_ret
    exact ⟨ret_bool HX.out.symm, below_trans hB1 hb1⟩
  have HV2 : Hid (res = (ba || (fl == 0))) := Lib.hid (by rw [HV.out]; rfl)
  clear HV HTh
  go_enter Tryz.func24, Tryz.ntmps24
  go_wp2_with fail
  refine h1.mono ?_
  rintro e w1 ⟨rfl, hb1⟩
  have hB2 := below_trans hB1 hb1
  have f0 := cell_below hb1 f0
  have f1 := cell_below hb1 f1
  have h2 := HBa.out w1 hB2
  clear h1 HBa
  go_wp2_with fail
  refine h2.mono ?_
  rintro e w2 ⟨rfl, hb2⟩
  have hB3 := below_trans hB2 hb2
  have f0 := cell_below hb2 f0
  have f1 := cell_below hb2 f1
  clear h2
  cases ba
  case true =>
    have HX : Hid (res = true) := Lib.hid (by rw [HV2.out]; rfl)
    go_wp2_with fail
    go_ret
    exact ⟨ret_bool HX.out.symm, hB3⟩
  have h3 := HFl.out (by first | rfl | trivial) (by first | rfl | trivial) w2 hB3
  have HX : Hid (res = (fl == 0)) := Lib.hid (by rw [HV2.out]; rfl)
  go_wp2_with fail
  refine h3.mono ?_
  rintro e w3 ⟨rfl, hb3⟩
  go_wp2_with fail
  go_ret
  exact ⟨ret_bool HX.out.symm, below_trans hB3 hb3⟩
def exA : List Attr := [(nRequired, [])]
def exB : List Attr := [(nRequired, []), (nDisabled, [])]
theorem ex_a : docR (oneL exA) oneC = true ∧ kN (oneL exA) ((1 : Nat) : Int) = 2 ∧ valV (oneL exA) oneC ((1 : Nat) : Int) = [] ∧ fixR (oneL exA) ((1 : Nat) : Int) = false ∧ hasA nRequired (nd (oneL exA) ((1 : Nat) : Int)).attrs = true ∧ barP (oneL exA) 1 = false ∧ thereP (oneL exA) oneC 1 = true := by decide +kernel
theorem ex_b : barP (oneL exB) 1 = true ∧ thereP (oneL exB) oneC 1 = true := by decide +kernel
theorem oneC_ok : CtlsOk oneC := by
  intro c hc x hx
  simp only [oneC, List.mem_cons, List.not_mem_nil, or_false] at hc
  rcases hc with rfl | rfl <;> cases hx
theorem flags_ex (vn vc : Value) (w : World) (hD : DocAt w vn vc (oneL exA) oneC) : Calls Tryz.prog 14 #[.agg #[vn, vc], .int .i64 ((1 : Nat) : Int)] w (RetI 1 w) := by
  obtain ⟨h1, h2, h3, h4, h5, _, _⟩ := ex_a
  have hl : (1 : Nat) < (oneL exA).length := by decide
  have key := flags_gen vn vc (oneL exA) oneC oneC_ok 1 hl h1 (by rw [h2]; rfl) w hD true false false 0 0 0 false false false
    (fun w' h => by
      have := lacks_val vn vc (oneL exA) oneC oneC_ok 1 hl h1 (by rw [h2]; decide) w' (hD.below h)
      rw [h2, h3, h4, h5] at this
      rw [h2]
      exact this)
    (fun g => absurd h3 g) (fun g => absurd h3 g) (fun g => absurd g (by decide)) (fun g => absurd g (by decide)) (fun g => absurd g (by decide))
    (fun w' va hA _ => stepflags_no _ (by rw [h2]; exact ⟨by decide, by decide⟩) (by rw [h2]; decide) va _ _ w' hA)
  rw [h3] at key
  exact key
theorem attr1_at (w : World) (T : TypeId) : AttrsAt (w.alloc (.cells #[.string ⟨nRequired.toArray⟩, .string ⟨#[]⟩] T)) (.slice (some ⟨w.heap.size, 0, none⟩) 1 1) exA := by
  refine .inr ⟨_, 0, 1, rfl, by decide, by simp, fun j hj => ?_⟩
  obtain rfl : j = 0 := by have : exA.length = 1 := rfl; omega
  exact ⟨World.cell?_alloc_new w _ _ 0, World.cell?_alloc_new w _ _ 1⟩
theorem attr2_at (w : World) (T : TypeId) : AttrsAt (w.alloc (.cells #[.string ⟨nRequired.toArray⟩, .string ⟨#[]⟩, .string ⟨nDisabled.toArray⟩, .string ⟨#[]⟩] T)) (.slice (some ⟨w.heap.size, 0, none⟩) 2 2) exB := by
  refine .inr ⟨_, 0, 2, rfl, by decide, by simp, fun j hj => ?_⟩
  have : j = 0 ∨ j = 1 := by have : exB.length = 2 := rfl; omega
  rcases this with rfl | rfl
  · exact ⟨World.cell?_alloc_new w _ _ 0, World.cell?_alloc_new w _ _ 1⟩
  · exact ⟨World.cell?_alloc_new w _ _ 2, World.cell?_alloc_new w _ _ 3⟩
theorem cap_eq (b : Option Addr) (n : Nat) : CapOk (.slice b n n) := fun a m c e => by cases e; exact Nat.le_refl _
theorem ex_fine (a : List Attr) (h : a = exA ∨ a = exB) : a.length ≤ 140737488355328 ∧ ∀ x ∈ a, x.1.length ≤ 140737488355328 ∧ x.2.length ≤ 140737488355328 := by
  rcases h with rfl | rfl
  · exact ⟨by decide, by decide⟩
  · exact ⟨by decide, by decide⟩
set_option maxHeartbeats 6400000 in
set_option maxRecDepth 100000 in
theorem wakes18_any (w : World) : Calls Tryz.prog 9 #[] w (RetB true w) := by
  have HA := Lib.hid (fun w => one_doc_any _ exA _ (attr1_at w 45) (cap_eq _ _) (ex_fine _ (.inl rfl)).1 (ex_fine _ (.inl rfl)).2)
  have HB := Lib.hid (fun w => one_doc_any _ exB _ (attr2_at w 45) (cap_eq _ _) (ex_fine _ (.inr rfl)).1 (ex_fine _ (.inr rfl)).2)
  have HFl := Lib.hid (fun vn vc w' (h : DocAt w' vn vc (oneL exA) oneC) => flags_ex vn vc w' h)
  have HV1 := Lib.hid (fun vn vc w' (h : DocAt w' vn vc (oneL exA) oneC) => by
    have := valid_gen vn vc (oneL exA) oneC 1 1 w' h (fun _ _ w2 hb => flags_ex vn vc w2 (h.below hb))
    rwa [show validP (oneL exA) oneC 1 1 = false from by unfold validP; rw [ex_a.2.2.2.2.2.1, ex_a.2.2.2.2.2.2]; rfl] at this)
  have HV2 := Lib.hid (fun vn vc w' (h : DocAt w' vn vc (oneL exB) oneC) => by
    have := valid_gen vn vc (oneL exB) oneC 1 0 w' h (fun _ hh => by rw [ex_b.1] at hh; cases hh)
    rwa [show validP (oneL exB) oneC 1 0 = true from by unfold validP; rw [ex_b.1]; simp] at this)
  have HBa := Lib.hid (fun vn w' (hL : LFine (oneL exB)) (h : NodesAt w' vn (oneL exB)) => by
    have := barred_any vn (oneL exB) hL 1 w' h
    rwa [ex_b.1] at this)
  go_enter Tryz.func9, Tryz.ntmps9
  go_wp2_with fail
  refine (HA.out _).mono ?_
  rintro e w1 ⟨vn1, vc1, rfl, hD1, hb1⟩
  have hB1 : Below w.heap.size w w1 := ((Below.refl _ w).alloc (Nat.le_refl _) _).trans (hb1.mono (by simp))
  obtain ⟨oa1, ca1, rfl⟩ := NodesAt.lenN hD1.nodes
  obtain ⟨oc1, cc1, rfl⟩ := CtlsAt.lenN hD1.ctls
  have HD1 := Lib.hid hD1
  clear hD1 hb1
  go_wp2_with fail
  refine (HB.out _).mono ?_
  rintro e w2 ⟨vn2, vc2, rfl, hD2, hb2⟩
  have hB2 : Below w.heap.size w w2 := below_trans hB1 (((Below.refl _ w1).alloc (Nat.le_refl _) _).trans (hb2.mono (by simp)))
  have hB12 : Below w1.heap.size w1 w2 := ((Below.refl _ w1).alloc (Nat.le_refl _) _).trans (hb2.mono (by simp))
  obtain ⟨oa2, ca2, rfl⟩ := NodesAt.lenN hD2.nodes
  obtain ⟨oc2, cc2, rfl⟩ := CtlsAt.lenN hD2.ctls
  obtain ⟨wC, hwC⟩ : ∃ wC, wC = (w2.alloc (.cells #[.slice oa1 (oneL exA).length ca1, .slice oc1 oneC.length cc1] 28)).alloc (.cells #[.slice oa2 (oneL exB).length ca2, .slice oc2 oneC.length cc2] 28) := ⟨_, rfl⟩
  have hbC : Below w2.heap.size w2 wC := by rw [hwC]; exact ((Below.refl _ w2).alloc (Nat.le_refl _) _).alloc (by simp) _
  have f0 : wC.cell? ⟨w2.heap.size, 0, none⟩ = some (.slice oa1 (oneL exA).length ca1) := by
    rw [hwC, World.cell?_alloc_lt _ _ _ (by simp)]; exact (doc_cells w2 _ _ _ _ _ _ _).1
  have f1 : wC.cell? ⟨w2.heap.size, 1, none⟩ = some (.slice oc1 oneC.length cc1) := by
    rw [hwC, World.cell?_alloc_lt _ _ _ (by simp)]; exact (doc_cells w2 _ _ _ _ _ _ _).2
  have g0 : wC.cell? ⟨w2.heap.size + 1, 0, none⟩ = some (.slice oa2 (oneL exB).length ca2) := by
    have := (doc_cells (w2.alloc (.cells #[.slice oa1 (oneL exA).length ca1, .slice oc1 oneC.length cc1] 28)) oa2 oc2 (oneL exB).length ca2 oneC.length cc2 28).1
    rw [World.size_alloc] at this
    rw [hwC]; exact this
  have g1 : wC.cell? ⟨w2.heap.size + 1, 1, none⟩ = some (.slice oc2 oneC.length cc2) := by
    have := (doc_cells (w2.alloc (.cells #[.slice oa1 (oneL exA).length ca1, .slice oc1 oneC.length cc1] 28)) oa2 oc2 (oneL exB).length ca2 oneC.length cc2 28).2
    rw [World.size_alloc] at this
    rw [hwC]; exact this
  have HDA := Lib.hid (HD1.out.below (below_trans hB12 hbC))
  have HDB := Lib.hid (hD2.below hbC)
  have hB3 := below_trans hB2 hbC
  clear HD1 hD2 hB12 hbC hb2 HA HB
  go_wp2_with fail
  rw [← hwC]
  clear hwC
  refine (HFl.out _ _ wC HDA.out).mono ?_
  rintro e w3 ⟨rfl, hb3⟩
  have hB4 := below_trans hB3 hb3
  have f0 := cell_below hb3 f0
  have f1 := cell_below hb3 f1
  have g0 := cell_below hb3 g0
  have g1 := cell_below hb3 g1
  have HDA := Lib.hid (HDA.out.below hb3)
  have HDB := Lib.hid (HDB.out.below hb3)
  clear hb3
  go_wp2_with fail
  refine (HV1.out _ _ w3 HDA.out).mono ?_
  rintro e w4 ⟨rfl, hb4⟩
  have hB5 := below_trans hB4 hb4
  have g0 := cell_below hb4 g0
  have g1 := cell_below hb4 g1
  have HDB := Lib.hid (HDB.out.below hb4)
  clear hb4 f0 f1 HDA
  go_wp2_with fail
  refine (HBa.out _ w4 HDB.out.fine HDB.out.nodes).mono ?_
  rintro e w5 ⟨rfl, hb5⟩
  have hB6 := below_trans hB5 hb5
  have g0 := cell_below hb5 g0
  have g1 := cell_below hb5 g1
  have HDB := Lib.hid (HDB.out.below hb5)
  clear hb5
  go_wp2_with fail
  refine (HV2.out _ _ w5 HDB.out).mono ?_
  rintro e w6 ⟨rfl, hb6⟩
  go_wp2_with fail
  go_ret
  exact ⟨rfl, below_trans hB6 hb6⟩
end Go.Proofs.YtkhlfggnjcbniaaGreatDoor.doc
namespace Go.Proofs.YtkhlfggnjcbniaaGreatDoor.doc
open Go.ChangeShapes Go.WideShapes Go.ChangeAt Go.RowKit Go.Lib Go.Proofs.YtkhlfggnjcbniaaGreatDoor.atr Go.Proofs.YtkhlfggnjcbniaaGreatDoor.link Go.Proofs.YtkhlfggnjcbniaaGreatDoor.ctl

set_option maxHeartbeats 3200000 in
set_option maxRecDepth 100000 in
theorem bars_walk (v : Value) (l : List Nd) (k : Int) (_hk : (Lit.int .i64 k).wf = true) (w : World) (hL : LFine l) (hLb : LBytes l) (hA : NodesAt w v l) :
    Calls Tryz.prog 3 #[v, .int .i64 k] w fun e w' => e = .returned (.bool true) ∧ Below w.heap.size w w' := by
  have hW := wakes18_any w
  have H1 := Lib.hid (fun w' h => copied_any v l hLb w' (hA.below (w' := w') h))
  have H2 := Lib.hid (fun v' w' (h : NodesAt w' v' l) => barred_any v' l hL k w' h)
  have H3 := Lib.hid (fun w' h => rbarred_any v l hL k w' (hA.below (w' := w') h))
  obtain ⟨oa, cap, rfl⟩ := NodesAt.lenN hA
  generalize barP l k = q at *
  clear hA hL hLb
  go_enter Tryz.func3, Tryz.ntmps3
  go_wp2_with fail
  refine hW.mono ?_
  rintro e w1 ⟨rfl, hb1⟩
  clear hW
  go_wp2_with fail
  refine (H1.out w1 hb1).mono ?_
  rintro e w2 ⟨v5, ps, rfl, hcp, hb2⟩
  have hb02 := below_trans hb1 hb2
  have hN := hcp.nodes
  obtain ⟨o5, c5, rfl⟩ := NodesAt.lenN hN
  have HN := Lib.hid hN
  clear hcp hN
  go_wp2_with fail
  refine (H2.out _ w2 HN.out).mono ?_
  rintro e w3 ⟨rfl, hb3⟩
  have hb03 := below_trans hb02 hb3
  go_wp2_with fail
  refine (H3.out w3 hb03).mono ?_
  rintro e w4 ⟨rfl, hb4⟩
  go_wp2_with fail
  go_ret
  exact ⟨ret_bool (by simp), below_trans hb03 hb4⟩
end Go.Proofs.YtkhlfggnjcbniaaGreatDoor.doc
