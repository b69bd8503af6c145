/- The example's document. The example holds. The contract of the law's copied. -/
import Derived.Test.YtoajgfhcongocaaGreatDoorGm
import Derived.Test.YtoajgfhcongocaaGreatDoorGn
import Derived.Test.YtoajgfhcongocaaGreatDoorGl
import Derived.Test.YtoajgfhcongocaaGreatDoorGj
import Derived.BigRegion
namespace Go.Proofs.YtoajgfhcongocaaGreatDoor.doc
open Go.ChangeShapes Go.WideShapes Go.ChangeAt Go.RowKit Go.Lib Go.Proofs.YtoajgfhcongocaaGreatDoor.atr Go.Proofs.YtoajgfhcongocaaGreatDoor.link Go.Proofs.YtoajgfhcongocaaGreatDoor.ctl

def someL : List Nd := [⟨[104, 116, 109, 108], [], [], -1, [1]⟩, ⟨[115, 101, 108, 101, 99, 116], [], [], 0, [2, 3]⟩, ⟨[111, 112, 116, 105, 111, 110], [], [], 1, []⟩, ⟨[111, 112, 116, 105, 111, 110], [], [], 1, []⟩]
def zeroC15 : Ctl := ⟨[], false, false, false, false, false, false, false, [], []⟩
def someC : List Ctl := [zeroC15, zeroC15, zeroC15, zeroC15]
/-- a document handed back -/
def RetDoc (l : List Nd) (cs : List Ctl) (w : World) (e : Ending) (w' : World) : Prop := ∃ vn vc, e = .returned (.agg #[vn, vc]) ∧ DocAt w' vn vc l cs ∧ Below w.heap.size w w'

def someN (b : Nat) : List Value := [.string ⟨#[104, 116, 109, 108]⟩, .string ⟨#[]⟩, .slice none 0 0, .int .i64 (-1), .slice (some ⟨b + 1, 0, none⟩) 1 1,
  .string ⟨#[115, 101, 108, 101, 99, 116]⟩, .string ⟨#[]⟩, .slice none 0 0, .int .i64 0, .slice (some ⟨b + 1 + 1, 0, none⟩) 2 2,
  .string ⟨#[111, 112, 116, 105, 111, 110]⟩, .string ⟨#[]⟩, .slice none 0 0, .int .i64 1, .slice none 0 0,
  .string ⟨#[111, 112, 116, 105, 111, 110]⟩, .string ⟨#[]⟩, .slice none 0 0, .int .i64 1, .slice none 0 0]
def someV : List Value := [.string ⟨#[]⟩, .bool false, .bool false, .bool false, .bool false, .bool false, .bool false, .bool false, .string ⟨#[]⟩, .slice none 0 0, .string ⟨#[]⟩, .bool false, .bool false, .bool false, .bool false, .bool false, .bool false, .bool false, .string ⟨#[]⟩, .slice none 0 0, .string ⟨#[]⟩, .bool false, .bool false, .bool false, .bool false, .bool false, .bool false, .bool false, .string ⟨#[]⟩, .slice none 0 0, .string ⟨#[]⟩, .bool false, .bool false, .bool false, .bool false, .bool false, .bool false, .bool false, .string ⟨#[]⟩, .slice none 0 0]
theorem some_enc (j : Nat) (hj : j < 4) (i : Nat) (u : Value) (hu : (encC zeroC15 (.slice none 0 0))[i]? = some u) : someV[0 + j * 10 + i]? = some u := by
  have hi : i < 10 := by
    rcases Nat.lt_or_ge i 10 with h | h
    · exact h
    · rw [List.getElem?_eq_none (by exact h)] at hu; cases hu
  have e : someV = (List.replicate 4 (zeroC15, Value.slice none 0 0)).flatMap (fun x => encC x.1 x.2) := rfl
  have := flat_at (fun x : Ctl × Value => encC x.1 x.2) 10 encC_len (List.replicate 4 (zeroC15, Value.slice none 0 0)) j (by simpa using hj) i hi
  rw [List.getElem_replicate] at this
  rw [Nat.zero_add, e, this]; exact hu
def someWd (w : World) (o : Obj) : World := ((((w.alloc o).alloc (.cells #[.int .i64 1] 3)).alloc (.cells #[.int .i64 2, .int .i64 3] 3)).alloc (.cells (someN w.heap.size).toArray 43)).alloc (.cells someV.toArray 48)
theorem some_cells (w : World) (o : Obj) : (∀ k, (someWd w o).cell? ⟨w.heap.size + 1, k, none⟩ = [Value.int .i64 1][k]?) ∧ (∀ k, (someWd w o).cell? ⟨w.heap.size + 1 + 1, k, none⟩ = [Value.int .i64 2, .int .i64 3][k]?) ∧
    (∀ k, (someWd w o).cell? ⟨w.heap.size + 1 + 1 + 1, k, none⟩ = (someN w.heap.size)[k]?) ∧ (∀ k, (someWd w o).cell? ⟨w.heap.size + 1 + 1 + 1 + 1, k, none⟩ = someV[k]?) ∧ (someWd w o).heap.size = w.heap.size + 5 ∧ Below w.heap.size w (someWd w o) := by
  obtain ⟨w1, h1⟩ : ∃ w1, w1 = w.alloc o := ⟨_, rfl⟩
  obtain ⟨w2, h2⟩ : ∃ w2, w2 = w1.alloc (.cells #[.int .i64 1] 3) := ⟨_, rfl⟩
  obtain ⟨w3, h3⟩ : ∃ w3, w3 = w2.alloc (.cells #[.int .i64 2, .int .i64 3] 3) := ⟨_, rfl⟩
  obtain ⟨w4, h4⟩ : ∃ w4, w4 = w3.alloc (.cells (someN w.heap.size).toArray 43) := ⟨_, rfl⟩
  have e : someWd w o = w4.alloc (.cells someV.toArray 48) := by unfold someWd; rw [h4, h3, h2, h1]
  have s1 : w1.heap.size = w.heap.size + 1 := by rw [h1]; simp
  have s2 : w2.heap.size = w.heap.size + 1 + 1 := by rw [h2]; simp [s1]
  have s3 : w3.heap.size = w.heap.size + 1 + 1 + 1 := by rw [h3]; simp [s2]
  have s4 : w4.heap.size = w.heap.size + 1 + 1 + 1 + 1 := by rw [h4]; simp [s3]
  have b12 : Below w1.heap.size w1 w2 := by rw [h2]; exact (Below.refl _ _).alloc (Nat.le_refl _) _
  have b23 : Below w2.heap.size w2 w3 := by rw [h3]; exact (Below.refl _ _).alloc (Nat.le_refl _) _
  have b34 : Below w3.heap.size w3 w4 := by rw [h4]; exact (Below.refl _ _).alloc (Nat.le_refl _) _
  have b45 : Below w4.heap.size w4 (someWd w o) := by rw [e]; exact (Below.refl _ _).alloc (Nat.le_refl _) _
  have b01 : Below w.heap.size w w1 := by rw [h1]; exact (Below.refl _ _).alloc (Nat.le_refl _) _
  refine ⟨fun k => ?_, fun k => ?_, fun k => ?_, fun k => ?_, by rw [e]; simp [s4], below_trans b01 (below_trans b12 (below_trans b23 (below_trans b34 b45)))⟩
  · rw [((below_trans b23 (below_trans b34 b45)).cell (p := ⟨w.heap.size + 1, k, none⟩) (by show w.heap.size + 1 < w2.heap.size; omega)), h2, ← s1, World.cell?_alloc_new]; simp
  · rw [((below_trans b34 b45).cell (p := ⟨w.heap.size + 1 + 1, k, none⟩) (by show w.heap.size + 1 + 1 < w3.heap.size; omega)), h3, ← s2, World.cell?_alloc_new]; simp
  · rw [(b45.cell (p := ⟨w.heap.size + 1 + 1 + 1, k, none⟩) (by show w.heap.size + 1 + 1 + 1 < w4.heap.size; omega)), h4, ← s3, World.cell?_alloc_new]; simp
  · rw [e, ← s4, World.cell?_alloc_new]; simp
theorem zero_ents (w : World) : EntsAt w (.slice none 0 0) [] := .inl ⟨rfl, rfl, none, 0, rfl⟩
theorem some_doc (w : World) (o : Obj) : DocAt (someWd w o) (.slice (some ⟨w.heap.size + 1 + 1 + 1, 0, none⟩) 4 4) (.slice (some ⟨w.heap.size + 1 + 1 + 1 + 1, 0, none⟩) 4 4) someL someC := by
  obtain ⟨k1, k2, hn, hc, hz, hb⟩ := some_cells w o
  have i1 : IntsAt (someWd w o) (.slice (some ⟨w.heap.size + 1, 0, none⟩) 1 1) [1] := .inr ⟨_, 0, 1, rfl, by decide, by omega, fun j u hj => by rw [Nat.zero_add, k1]; exact hj⟩
  have i2 : IntsAt (someWd w o) (.slice (some ⟨w.heap.size + 1 + 1, 0, none⟩) 2 2) [2, 3] := .inr ⟨_, 0, 2, rfl, by decide, by omega, fun j u hj => by rw [Nat.zero_add, k2]; exact hj⟩
  refine ⟨⟨by decide, ?_⟩, .inr ⟨_, 0, 4, rfl, by decide, by omega, ?_⟩, .inr ⟨_, 0, 4, rfl, by decide, by omega, ?_⟩, by decide, ?_⟩
  · intro n hn
    have key : NFine (⟨[104, 116, 109, 108], [], [], -1, [1]⟩ : Nd) ∧ NFine (⟨[115, 101, 108, 101, 99, 116], [], [], 0, [2, 3]⟩ : Nd) ∧ NFine (⟨[111, 112, 116, 105, 111, 110], [], [], 1, []⟩ : Nd) :=
      ⟨⟨by decide, by decide, by decide, by decide, fun a h => (by cases h), by decide, by decide⟩, ⟨by decide, by decide, by decide, by decide, fun a h => (by cases h), by decide, by decide⟩, ⟨by decide, by decide, by decide, by decide, fun a h => (by cases h), by decide, fun a h => (by cases h)⟩⟩
    simp only [someL, List.mem_cons, List.not_mem_nil, or_false] at hn
    rcases hn with rfl | rfl | rfl | rfl
    · exact key.1
    · exact key.2.1
    · exact key.2.2
    · exact key.2.2
  · intro j hj
    match j, hj with
    | 0, _ => exact ⟨_, _, hn _, hn _, hn _, hn _, hn _, AttrsAt.nil _, i1, CapOk.nil⟩
    | 1, _ => exact ⟨_, _, hn _, hn _, hn _, hn _, hn _, AttrsAt.nil _, i2, CapOk.nil⟩
    | 2, _ => exact ⟨_, _, hn _, hn _, hn _, hn _, hn _, AttrsAt.nil _, IntsAt.nil _, CapOk.nil⟩
    | 3, _ => exact ⟨_, _, hn _, hn _, hn _, hn _, hn _, AttrsAt.nil _, IntsAt.nil _, CapOk.nil⟩
  · intro j hj
    match j, hj with
    | 0, _ => exact ⟨.slice none 0 0, fun i u hu => by rw [hc]; exact some_enc 0 (by decide) i u hu, zero_ents _⟩
    | 1, _ => exact ⟨.slice none 0 0, fun i u hu => by rw [hc]; exact some_enc 1 (by decide) i u hu, zero_ents _⟩
    | 2, _ => exact ⟨.slice none 0 0, fun i u hu => by rw [hc]; exact some_enc 2 (by decide) i u hu, zero_ents _⟩
    | 3, _ => exact ⟨.slice none 0 0, fun i u hu => by rw [hc]; exact some_enc 3 (by decide) i u hu, zero_ents _⟩
  · intro c hc
    simp only [someC, List.mem_cons, List.not_mem_nil, or_false] at hc
    rcases hc with rfl | rfl | rfl | rfl <;> decide
theorem mk4 (w : World) : (Instr.makeSlice 23 (.int .i64 4) (.int .i64 4)).run Tryz.prog w = .ok (.slice (some ⟨w.heap.size, 0, none⟩) 4 4) (w.alloc (.cells #[.string ⟨#[]⟩, .bool false, .bool false, .bool false, .bool false, .bool false, .bool false, .bool false, .string ⟨#[]⟩, .slice none 0 0, .string ⟨#[]⟩, .bool false, .bool false, .bool false, .bool false, .bool false, .bool false, .bool false, .string ⟨#[]⟩, .slice none 0 0, .string ⟨#[]⟩, .bool false, .bool false, .bool false, .bool false, .bool false, .bool false, .bool false, .string ⟨#[]⟩, .slice none 0 0, .string ⟨#[]⟩, .bool false, .bool false, .bool false, .bool false, .bool false, .bool false, .bool false, .string ⟨#[]⟩, .slice none 0 0] 48)) := by kernel_rfl
set_option maxHeartbeats 3200000 in
set_option maxRecDepth 100000 in
theorem some_any (w : World) : Calls Tryz.prog 36 #[] w (RetDoc someL someC w) := by
  have hmk := mk4
  go_enter Tryz.func36, Tryz.ntmps36
  go_wp2_with fail
  (try simp only [Exit.inBlock, Exit.then])
  refine bodyPost_ret (v := .agg #[.slice (some ⟨w.heap.size + 1 + 1 + 1, 0, none⟩) 4 4, .slice (some ⟨w.heap.size + 1 + 1 + 1 + 1, 0, none⟩) 4 4]) (by rw [rcell1 rfl]; go_simp) rfl ⟨_, _, rfl, some_doc w _, (some_cells w _).2.2.2.2.2⟩
end Go.Proofs.YtoajgfhcongocaaGreatDoor.doc

namespace Go.Proofs.YtoajgfhcongocaaGreatDoor.doc
open Go.ChangeShapes Go.WideShapes Go.ChangeAt Go.RowKit Go.Lib Go.Proofs.YtoajgfhcongocaaGreatDoor.atr Go.Proofs.YtoajgfhcongocaaGreatDoor.link Go.Proofs.YtoajgfhcongocaaGreatDoor.ctl

theorem ex_right : docR someL someC = true := by decide +kernel
theorem ex_fix : (FixP someL someC 1).length = 4 ∧ selB (FixP someL someC 1) 2 = true ∧ selB (FixP someL someC 1) 3 = false := by decide +kernel
theorem ex_choose : (chooseP someL someC 3 true).1.length = 4 ∧ (chooseP someL someC 3 true).2 = 0 ∧ selB (chooseP someL someC 3 true).1 3 = true ∧ selB (chooseP someL someC 3 true).1 2 = false := by decide +kernel
set_option maxHeartbeats 3200000 in
set_option maxRecDepth 100000 in
theorem wakes_any (w : World) (hE : GE w) : Calls Tryz.prog 9 #[] w fun e w' => e = .returned (.bool true) ∧ Below w.heap.size w w' := by
  have H1 := Lib.hid (fun vn vc w' h (hD : DocAt w' vn vc someL someC) => fixU_any vn vc someL someC 1 w' (hE.below (w' := w') h) hD)
  have H2 := Lib.hid (fun vn vc w' (hD : DocAt w' vn vc someL someC) => choose_any vn vc someL someC 3 true w' hD)
  obtain ⟨l1, s12, s13⟩ := ex_fix
  obtain ⟨l2, e2, s23, s22⟩ := ex_choose
  rw [e2] at H2
  generalize FixP someL someC 1 = L1 at *
  generalize (chooseP someL someC 3 true).1 = L2 at *
  have HS := Lib.hid (⟨l1, s12, s13, l2, s23, s22⟩ : L1.length = 4 ∧ selB L1 2 = true ∧ selB L1 3 = false ∧ L2.length = 4 ∧ selB L2 3 = true ∧ selB L2 2 = false)
  clear l1 s12 s13 l2 s23 s22 hE e2
  go_enter Tryz.func9, Tryz.ntmps9
  go_wp2_with fail
  refine (some_any _).mono ?_
  rintro e w1 ⟨vn, vc, rfl, hD, hb1⟩
  have h1 := H1.out vn vc w1 hb1 hD
  clear hD H1
  go_wp2_with fail
  refine h1.mono ?_
  rintro e w2 ⟨v2, fs2, rfl, ho2, hb2⟩
  obtain ⟨g1, c1, rfl, _, _⟩ := ho2.addr (by rw [HS.out.1]; decide)
  have HO1 := Lib.hid ho2
  have hb02 := below_trans hb1 hb2
  clear ho2 h1 hb1
  go_wp2_with fail
  refine (some_any _).mono ?_
  rintro e w3 ⟨vn3, vc3, rfl, hD, hb3⟩
  have h2 := H2.out vn3 vc3 w3 hD
  have hb03 := below_trans hb02 hb3
  clear hD H2
  go_wp2_with fail
  refine h2.mono ?_
  rintro e w4 ⟨v4, fs4, rfl, ho4, hb4⟩
  obtain ⟨g2, c2, rfl, _, _⟩ := ho4.addr (by rw [HS.out.2.2.2.1]; decide)
  have HO2 := Lib.hid ho4
  have hb04 := below_trans hb03 hb4
  clear ho4 h2
  go_wp2_with fail
  refine (some_any _).mono ?_
  rintro e w5 ⟨vn5, vc5, rfl, hD, hb5⟩
  have hb05 := below_trans hb04 hb5
  obtain ⟨oc5, cc5, rfl⟩ := CtlsAt.lenN hD.ctls
  have h3 := docright_any vn5 someL hD.fine oc5 someC.length cc5 w5 hD.nodes
  rw [show (decide (someL.length = someC.length) && rightB someL) = docR someL someC from rfl, ex_right] at h3
  clear hD
  go_wp2_with fail
  refine h3.mono ?_
  rintro e w6 ⟨rfl, hb6⟩
  have hb06 := below_trans hb05 hb6
  have b26 : Below w2.heap.size w2 w6 := below_trans hb3 (below_trans hb4 (below_trans hb5 hb6))
  have b46 : Below w4.heap.size w4 w6 := below_trans hb5 hb6
  obtain ⟨l1, s12, s13, l2, s23, s22⟩ := HS.out
  have p2 := (HO1.out.below b26).selOf 2 (by omega)
  have p3 := (HO1.out.below b26).selOf 3 (by omega)
  have q2 := (HO2.out.below b46).selOf 2 (by omega)
  have q3 := (HO2.out.below b46).selOf 3 (by omega)
  rw [show ((2 : Nat) : Int) = 2 from rfl, s12] at p2
  rw [show ((3 : Nat) : Int) = 3 from rfl, s13] at p3
  rw [show ((2 : Nat) : Int) = 2 from rfl, s22] at q2
  rw [show ((3 : Nat) : Int) = 3 from rfl, s23] at q3
  have p2 : w6.cell? ⟨g1, 26, none⟩ = some (.bool true) := p2
  have p3 : w6.cell? ⟨g1, 36, none⟩ = some (.bool false) := p3
  have q2 : w6.cell? ⟨g2, 26, none⟩ = some (.bool false) := q2
  have q3 : w6.cell? ⟨g2, 36, none⟩ = some (.bool true) := q3
  rw [l1, l2]
  clear HO1 HO2 HS h3 s12 s13 s23 s22 l1 l2
  go_wp2_with fail
  go_ret
  exact ⟨rfl, hb06⟩
end Go.Proofs.YtoajgfhcongocaaGreatDoor.doc

namespace Go.Proofs.YtoajgfhcongocaaGreatDoor.doc
open Go.ChangeShapes Go.WideShapes Go.ChangeAt Go.RowKit Go.Lib Go.Proofs.YtoajgfhcongocaaGreatDoor.atr Go.Proofs.YtoajgfhcongocaaGreatDoor.link Go.Proofs.YtoajgfhcongocaaGreatDoor.ctl

theorem own_setlow {w : World} {B e size n b o : Nat} {v : Value} {xs : List Value} (h : w.ownsRow B e size v n xs) (hb : b < B) (u : Value) : (w.setCell ⟨b, o, none⟩ u).ownsRow B e size v n xs :=
  h.kept (grownBy_set w b o u) (.inr (fun e => by have := (h.lt b e).1; omega))
theorem CpR.setLow {w : World} {B b o : Nat} {v : Value} {l : List Nd} {ps : List (Value × Value)} (h : CpR w B v l ps) (hb : b < B) (u : Value) : CpR (w.setCell ⟨b, o, none⟩ u) B v l ps :=
  ⟨h.len, own_setlow h.row hb u, fun j a c => own_setlow (h.attrs j a c) hb u, fun j a c => own_setlow (h.kids j a c) hb u⟩
theorem frozen_below {w w' : World} (h : Below w.heap.size w w') {b o : Nat} (hb : b < w.heap.size) (hz : w.frozen? ⟨b, o, none⟩ = false) : w'.frozen? ⟨b, o, none⟩ = false :=
  (World.frozen?_of_block (a := ⟨b, o, none⟩) (h.block b hb)).trans hz
theorem OwnC.setLow {w : World} {B nb b o : Nat} {v : Value} {cs : List Ctl} {fs : List Value} (h : OwnC w B v cs fs) (hb : b < B) (hnb : nb ≤ b) (hL : ∀ j (a : j < cs.length) (c : j < fs.length), cs[j].files ≠ [] → ∀ k, fs[j].ownBlock = some k → k < nb) (u : Value) : OwnC (w.setCell ⟨b, o, none⟩ u) B v cs fs :=
  ⟨h.len, own_setlow h.row hb u, fun j a c => ents_set (h.files j a c) (fun hne e => by have := hL j a c hne b e; omega), h.apart⟩
theorem ents_block {w : World} {f : Value} {es : List Ent} (h : EntsAt w f es) (hne : es ≠ []) : ∀ k, f.ownBlock = some k → k < w.heap.size := ents_low h hne

set_option maxHeartbeats 4000000 in
set_option maxRecDepth 100000 in
theorem copiedD_any (vn vc : Value) (l : List Nd) (cs : List Ctl) (hLb : LBytes l) (w : World) (hD : DocAt w vn vc l cs) :
    Calls Tryz.prog 10 #[.agg #[vn, vc]] w (RetDoc l cs w) := by
  have HN := Lib.hid (fun w' h => copied_any vn l hLb w' (hD.nodes.below (w' := w') h))
  have HC := Lib.hid (fun w' h => rcopiedC_from vc cs hD.cb w w' h hD.ctls)
  have HD := Lib.hid hD
  obtain ⟨oa, ca, rfl⟩ := NodesAt.lenN hD.nodes
  obtain ⟨oc, cc, rfl⟩ := CtlsAt.lenN hD.ctls
  obtain ⟨wA, hwA⟩ : ∃ wA, wA = (w.alloc (.cells #[.slice oa l.length ca, .slice oc cs.length cc] 25)).alloc (.cells #[.slice none 0 0, .slice none 0 0] 25) := ⟨_, rfl⟩
  have hB1 : Below w.heap.size w wA := by rw [hwA]; exact ((Below.refl _ w).alloc (Nat.le_refl _) _).alloc (by simp) _
  have hf : wA.cell? ⟨w.heap.size, 0, none⟩ = some (.slice oa l.length ca) ∧ wA.cell? ⟨w.heap.size, 1, none⟩ = some (.slice oc cs.length cc) ∧ (∀ k, wA.cell? ⟨w.heap.size + 1, k, none⟩ = [Value.slice none 0 0, .slice none 0 0][k]?) ∧ (∀ k, wA.frozen? ⟨w.heap.size + 1, k, none⟩ = false) := by
    rw [hwA]
    have hx := (Below.refl (w.alloc (.cells #[.slice oa l.length ca, .slice oc cs.length cc] 25)).heap.size (w.alloc (.cells #[.slice oa l.length ca, .slice oc cs.length cc] 25))).alloc (Nat.le_refl _) (.cells #[.slice none 0 0, .slice none 0 0] 25)
    refine ⟨cell_below hx (World.cell?_alloc_new w _ _ 0), cell_below hx (World.cell?_alloc_new w _ _ 1), fun k => ?_, fun k => ?_⟩
    · have := World.cell?_alloc_new (w.alloc (.cells #[.slice oa l.length ca, .slice oc cs.length cc] 25)) #[.slice none 0 0, .slice none 0 0] 25 k
      rw [World.size_alloc] at this
      rw [this]; simp
    · have := World.frozen?_alloc_new (w.alloc (.cells #[.slice oa l.length ca, .slice oc cs.length cc] 25)) #[.slice none 0 0, .slice none 0 0] 25 k
      rw [World.size_alloc] at this
      exact this
  obtain ⟨f0, f1, fr, fz⟩ := hf
  have r0 : wA.cell? ⟨w.heap.size + 1, 0, none⟩ = some (.slice none 0 0) := fr 0
  have r1 : wA.cell? ⟨w.heap.size + 1, 1, none⟩ = some (.slice none 0 0) := fr 1
  have z0 := fz 0
  have z1 := fz 1
  clear fr fz hD
  go_enter Tryz.func10, Tryz.ntmps10
  go_wp2_with fail
  rw [← hwA]
  clear hwA
  have hlt := lt_of_cell r0
  have hd : Below wA.heap.size wA wA.drew := (Below.refl _ _).drew
  have f0 := cell_below hd f0
  have f1 := cell_below hd f1
  have r0 := cell_below hd r0
  have r1 := cell_below hd r1
  have z0 : wA.drew.frozen? ⟨w.heap.size + 1, 0, none⟩ = false := z0
  have z1 : wA.drew.frozen? ⟨w.heap.size + 1, 1, none⟩ = false := z1
  have hb0 := below_trans hB1 hd
  have hlt : w.heap.size + 1 < wA.drew.heap.size := hlt
  refine wp_region_any (by kernel_rfl) ?_
  change wpAny _ _ _ _ _ _ _ wA.drew
  generalize wA.drew = wd at *
  refine wpAny_take (i := 0) (v := ?_) rfl (by kernel_rfl) (by kernel_rfl) (by kernel_rfl) (fun _ _ _ h => h) (Or.inl ⟨by kernel_rfl, ?_⟩) ?_
  rotate_left
  · intro w; go_simp; try with_reducible rfl
  change wpAny _ _ _ _ _ _ (Act.put _ (some 3) _) _
  refine wpAny_take (i := 3) (v := ?_) rfl (by kernel_rfl) (by kernel_rfl) (by kernel_rfl) (fun _ _ _ h => h) (Or.inl ⟨by kernel_rfl, ?_⟩) ?_
  rotate_left
  · intro w; go_simp; try with_reducible rfl
  change wpAny _ _ _ _ _ _ (Act.put _ (some 6) _) _
  refine wpAny_ready (rs := [1, 4]) (by kernel_rfl) (by simp) ?_
  refine AllReady.cons rfl (fun K hK => ?_) ?_
  · go_simp
    refine hK _ _ ?_
    clear hK K
    refine wpAny_ready (rs := [2, 4]) (by kernel_rfl) (by simp) ?_
    refine AllReady.cons rfl (fun K hK => ?_) ?_
    · go_simp
      go_wp2_with (first | (go_at_call 27; refine (HN.out _ (by first | exact hb0 | exact below_trans hb0 hbc)).mono ?_; rintro e wn ⟨v5, ps, rfl, hcp, hbn⟩; have HP := Lib.hid hcp; obtain ⟨x5, y5, rfl⟩ := NodesAt.lenN hcp.nodes; clear hcp; have f0n := cell_below hbn (by first | exact f0c | exact f0); have f1n := cell_below hbn (by first | exact f1c | exact f1); have r0n := cell_below hbn (by first | exact r0c | exact r0); have r1n := cell_below hbn (by first | exact r1c | exact r1); have z0n := frozen_below hbn (by first | exact ltc | exact hlt) (by first | exact z0c | exact z0); have z1n := frozen_below hbn (by first | exact ltc | exact hlt) (by first | exact z1c | exact z1); have ltn := Nat.lt_of_lt_of_le (by first | exact ltc | exact hlt) hbn.size) | (go_at_call 37; refine (HC.out _ (by first | exact hb0 | exact below_trans hb0 hbn)).mono ?_; rintro e wc ⟨v8, fs, rfl, ho, hbc, hfe⟩; have HO := Lib.hid ho; have HFe := Lib.hid hfe; obtain ⟨x8, y8, rfl⟩ := CtlsAt.lenN ho.at; clear ho hfe; have f0c := cell_below hbc (by first | exact f0n | exact f0); have f1c := cell_below hbc (by first | exact f1n | exact f1); have r0c := cell_below hbc (by first | exact r0n | exact r0); have r1c := cell_below hbc (by first | exact r1n | exact r1); have z0c := frozen_below hbc (by first | exact ltn | exact hlt) (by first | exact z0n | exact z0); have z1c := frozen_below hbc (by first | exact ltn | exact hlt) (by first | exact z1n | exact z1); have ltc := Nat.lt_of_lt_of_le (by first | exact ltn | exact hlt) hbc.size))
      refine wpAny_ready (rs := [4]) (by kernel_rfl) (by simp) ?_
      refine AllReady.cons rfl (fun K hK => ?_) ?_
      · go_simp
        refine hK _ _ ?_
        clear hK K
        refine wpAny_ready (rs := [5]) (by kernel_rfl) (by simp) ?_
        refine AllReady.cons rfl (fun K hK => ?_) ?_
        · go_simp
          go_wp2_with (first | (go_at_call 27; refine (HN.out _ (by first | exact hb0 | exact below_trans hb0 hbc)).mono ?_; rintro e wn ⟨v5, ps, rfl, hcp, hbn⟩; have HP := Lib.hid hcp; obtain ⟨x5, y5, rfl⟩ := NodesAt.lenN hcp.nodes; clear hcp; have f0n := cell_below hbn (by first | exact f0c | exact f0); have f1n := cell_below hbn (by first | exact f1c | exact f1); have r0n := cell_below hbn (by first | exact r0c | exact r0); have r1n := cell_below hbn (by first | exact r1c | exact r1); have z0n := frozen_below hbn (by first | exact ltc | exact hlt) (by first | exact z0c | exact z0); have z1n := frozen_below hbn (by first | exact ltc | exact hlt) (by first | exact z1c | exact z1); have ltn := Nat.lt_of_lt_of_le (by first | exact ltc | exact hlt) hbn.size) | (go_at_call 37; refine (HC.out _ (by first | exact hb0 | exact below_trans hb0 hbn)).mono ?_; rintro e wc ⟨v8, fs, rfl, ho, hbc, hfe⟩; have HO := Lib.hid ho; have HFe := Lib.hid hfe; obtain ⟨x8, y8, rfl⟩ := CtlsAt.lenN ho.at; clear ho hfe; have f0c := cell_below hbc (by first | exact f0n | exact f0); have f1c := cell_below hbc (by first | exact f1n | exact f1); have r0c := cell_below hbc (by first | exact r0n | exact r0); have r1c := cell_below hbc (by first | exact r1n | exact r1); have z0c := frozen_below hbc (by first | exact ltn | exact hlt) (by first | exact z0n | exact z0); have z1c := frozen_below hbc (by first | exact ltn | exact hlt) (by first | exact z1n | exact z1); have ltc := Nat.lt_of_lt_of_le (by first | exact ltn | exact hlt) hbc.size))
          refine wpAny_take (i := 6) (v := ?_) rfl (by kernel_rfl) (by kernel_rfl) (by kernel_rfl) (fun _ _ _ h => h) (Or.inl ⟨by kernel_rfl, ?_⟩) ?_
          rotate_left
          · intro w; go_simp; try with_reducible rfl
          change wpAny _ _ _ _ _ _ (Act.put _ (some 9) _) _
          refine wpAny_ready (rs := [7]) (by kernel_rfl) (by simp) ?_
          refine AllReady.cons rfl (fun K hK => ?_) ?_
          · go_simp
            refine hK _ _ ?_
            clear hK K
            refine wpAny_done (by kernel_rfl) ?_ _
            (try simp only [Act.put, List.setIfInBounds_toArray, List.set_cons_zero, List.set_cons_succ])
            go_wp2_with fail
            (try simp only [Exit.inBlock, Exit.then])
            refine bodyPost_ret (v := .agg #[.slice x5 l.length y5, .slice x8 cs.length y8]) (by rw [rcell1 rfl]; go_simp) rfl ⟨_, _, rfl, ⟨HD.out.fine, ?_, ?_, HD.out.cb, HD.out.fb⟩, ?_⟩
            · first | exact ((HP.out.setLow (by omega) _).setLow (by omega) _).nodes | exact (((HP.out.below hbc).setLow (by omega) _).setLow (by omega) _).nodes
            · have hq : ∀ j (a : j < cs.length) (c : j < fs.length), cs[j].files ≠ [] → ∀ k, fs[j].ownBlock = some k → k < w.heap.size := fun j a c hne k e => ents_low (HFe.out j a c) hne k e
              first | exact ((HO.out.setLow (by omega) (Nat.le_succ _) hq _).setLow (by omega) (Nat.le_succ _) hq _).at | exact (((HO.out.below hbn).setLow (by omega) (Nat.le_succ _) hq _).setLow (by omega) (Nat.le_succ _) hq _).at
            · have hbf : Below w.heap.size w _ := (by first | exact below_trans (below_trans hb0 hbn) hbc | exact below_trans (below_trans hb0 hbc) hbn)
              exact (hbf.setCell (p := ⟨w.heap.size + 1, 0, none⟩) (Nat.le_succ _) _).setCell (p := ⟨w.heap.size + 1, 1, none⟩) (Nat.le_succ _) _
          exact AllReady.nil
        exact AllReady.nil
      exact AllReady.nil
    refine AllReady.cons rfl (fun K hK => ?_) ?_
    · go_simp
      refine hK _ _ ?_
      clear hK K
      refine wpAny_ready (rs := [2]) (by kernel_rfl) (by simp) ?_
      refine AllReady.cons rfl (fun K hK => ?_) ?_
      · go_simp
        go_wp2_with (first | (go_at_call 27; refine (HN.out _ (by first | exact hb0 | exact below_trans hb0 hbc)).mono ?_; rintro e wn ⟨v5, ps, rfl, hcp, hbn⟩; have HP := Lib.hid hcp; obtain ⟨x5, y5, rfl⟩ := NodesAt.lenN hcp.nodes; clear hcp; have f0n := cell_below hbn (by first | exact f0c | exact f0); have f1n := cell_below hbn (by first | exact f1c | exact f1); have r0n := cell_below hbn (by first | exact r0c | exact r0); have r1n := cell_below hbn (by first | exact r1c | exact r1); have z0n := frozen_below hbn (by first | exact ltc | exact hlt) (by first | exact z0c | exact z0); have z1n := frozen_below hbn (by first | exact ltc | exact hlt) (by first | exact z1c | exact z1); have ltn := Nat.lt_of_lt_of_le (by first | exact ltc | exact hlt) hbn.size) | (go_at_call 37; refine (HC.out _ (by first | exact hb0 | exact below_trans hb0 hbn)).mono ?_; rintro e wc ⟨v8, fs, rfl, ho, hbc, hfe⟩; have HO := Lib.hid ho; have HFe := Lib.hid hfe; obtain ⟨x8, y8, rfl⟩ := CtlsAt.lenN ho.at; clear ho hfe; have f0c := cell_below hbc (by first | exact f0n | exact f0); have f1c := cell_below hbc (by first | exact f1n | exact f1); have r0c := cell_below hbc (by first | exact r0n | exact r0); have r1c := cell_below hbc (by first | exact r1n | exact r1); have z0c := frozen_below hbc (by first | exact ltn | exact hlt) (by first | exact z0n | exact z0); have z1c := frozen_below hbc (by first | exact ltn | exact hlt) (by first | exact z1n | exact z1); have ltc := Nat.lt_of_lt_of_le (by first | exact ltn | exact hlt) hbc.size))
        refine wpAny_ready (rs := [5]) (by kernel_rfl) (by simp) ?_
        refine AllReady.cons rfl (fun K hK => ?_) ?_
        · go_simp
          go_wp2_with (first | (go_at_call 27; refine (HN.out _ (by first | exact hb0 | exact below_trans hb0 hbc)).mono ?_; rintro e wn ⟨v5, ps, rfl, hcp, hbn⟩; have HP := Lib.hid hcp; obtain ⟨x5, y5, rfl⟩ := NodesAt.lenN hcp.nodes; clear hcp; have f0n := cell_below hbn (by first | exact f0c | exact f0); have f1n := cell_below hbn (by first | exact f1c | exact f1); have r0n := cell_below hbn (by first | exact r0c | exact r0); have r1n := cell_below hbn (by first | exact r1c | exact r1); have z0n := frozen_below hbn (by first | exact ltc | exact hlt) (by first | exact z0c | exact z0); have z1n := frozen_below hbn (by first | exact ltc | exact hlt) (by first | exact z1c | exact z1); have ltn := Nat.lt_of_lt_of_le (by first | exact ltc | exact hlt) hbn.size) | (go_at_call 37; refine (HC.out _ (by first | exact hb0 | exact below_trans hb0 hbn)).mono ?_; rintro e wc ⟨v8, fs, rfl, ho, hbc, hfe⟩; have HO := Lib.hid ho; have HFe := Lib.hid hfe; obtain ⟨x8, y8, rfl⟩ := CtlsAt.lenN ho.at; clear ho hfe; have f0c := cell_below hbc (by first | exact f0n | exact f0); have f1c := cell_below hbc (by first | exact f1n | exact f1); have r0c := cell_below hbc (by first | exact r0n | exact r0); have r1c := cell_below hbc (by first | exact r1n | exact r1); have z0c := frozen_below hbc (by first | exact ltn | exact hlt) (by first | exact z0n | exact z0); have z1c := frozen_below hbc (by first | exact ltn | exact hlt) (by first | exact z1n | exact z1); have ltc := Nat.lt_of_lt_of_le (by first | exact ltn | exact hlt) hbc.size))
          refine wpAny_take (i := 6) (v := ?_) rfl (by kernel_rfl) (by kernel_rfl) (by kernel_rfl) (fun _ _ _ h => h) (Or.inl ⟨by kernel_rfl, ?_⟩) ?_
          rotate_left
          · intro w; go_simp; try with_reducible rfl
          change wpAny _ _ _ _ _ _ (Act.put _ (some 9) _) _
          refine wpAny_ready (rs := [7]) (by kernel_rfl) (by simp) ?_
          refine AllReady.cons rfl (fun K hK => ?_) ?_
          · go_simp
            refine hK _ _ ?_
            clear hK K
            refine wpAny_done (by kernel_rfl) ?_ _
            (try simp only [Act.put, List.setIfInBounds_toArray, List.set_cons_zero, List.set_cons_succ])
            go_wp2_with fail
            (try simp only [Exit.inBlock, Exit.then])
            refine bodyPost_ret (v := .agg #[.slice x5 l.length y5, .slice x8 cs.length y8]) (by rw [rcell1 rfl]; go_simp) rfl ⟨_, _, rfl, ⟨HD.out.fine, ?_, ?_, HD.out.cb, HD.out.fb⟩, ?_⟩
            · first | exact ((HP.out.setLow (by omega) _).setLow (by omega) _).nodes | exact (((HP.out.below hbc).setLow (by omega) _).setLow (by omega) _).nodes
            · have hq : ∀ j (a : j < cs.length) (c : j < fs.length), cs[j].files ≠ [] → ∀ k, fs[j].ownBlock = some k → k < w.heap.size := fun j a c hne k e => ents_low (HFe.out j a c) hne k e
              first | exact ((HO.out.setLow (by omega) (Nat.le_succ _) hq _).setLow (by omega) (Nat.le_succ _) hq _).at | exact (((HO.out.below hbn).setLow (by omega) (Nat.le_succ _) hq _).setLow (by omega) (Nat.le_succ _) hq _).at
            · have hbf : Below w.heap.size w _ := (by first | exact below_trans (below_trans hb0 hbn) hbc | exact below_trans (below_trans hb0 hbc) hbn)
              exact (hbf.setCell (p := ⟨w.heap.size + 1, 0, none⟩) (Nat.le_succ _) _).setCell (p := ⟨w.heap.size + 1, 1, none⟩) (Nat.le_succ _) _
          exact AllReady.nil
        exact AllReady.nil
      exact AllReady.nil
    exact AllReady.nil
  refine AllReady.cons rfl (fun K hK => ?_) ?_
  · go_simp
    refine hK _ _ ?_
    clear hK K
    refine wpAny_ready (rs := [1]) (by kernel_rfl) (by simp) ?_
    refine AllReady.cons rfl (fun K hK => ?_) ?_
    · go_simp
      refine hK _ _ ?_
      clear hK K
      refine wpAny_ready (rs := [2]) (by kernel_rfl) (by simp) ?_
      refine AllReady.cons rfl (fun K hK => ?_) ?_
      · go_simp
        go_wp2_with (first | (go_at_call 27; refine (HN.out _ (by first | exact hb0 | exact below_trans hb0 hbc)).mono ?_; rintro e wn ⟨v5, ps, rfl, hcp, hbn⟩; have HP := Lib.hid hcp; obtain ⟨x5, y5, rfl⟩ := NodesAt.lenN hcp.nodes; clear hcp; have f0n := cell_below hbn (by first | exact f0c | exact f0); have f1n := cell_below hbn (by first | exact f1c | exact f1); have r0n := cell_below hbn (by first | exact r0c | exact r0); have r1n := cell_below hbn (by first | exact r1c | exact r1); have z0n := frozen_below hbn (by first | exact ltc | exact hlt) (by first | exact z0c | exact z0); have z1n := frozen_below hbn (by first | exact ltc | exact hlt) (by first | exact z1c | exact z1); have ltn := Nat.lt_of_lt_of_le (by first | exact ltc | exact hlt) hbn.size) | (go_at_call 37; refine (HC.out _ (by first | exact hb0 | exact below_trans hb0 hbn)).mono ?_; rintro e wc ⟨v8, fs, rfl, ho, hbc, hfe⟩; have HO := Lib.hid ho; have HFe := Lib.hid hfe; obtain ⟨x8, y8, rfl⟩ := CtlsAt.lenN ho.at; clear ho hfe; have f0c := cell_below hbc (by first | exact f0n | exact f0); have f1c := cell_below hbc (by first | exact f1n | exact f1); have r0c := cell_below hbc (by first | exact r0n | exact r0); have r1c := cell_below hbc (by first | exact r1n | exact r1); have z0c := frozen_below hbc (by first | exact ltn | exact hlt) (by first | exact z0n | exact z0); have z1c := frozen_below hbc (by first | exact ltn | exact hlt) (by first | exact z1n | exact z1); have ltc := Nat.lt_of_lt_of_le (by first | exact ltn | exact hlt) hbc.size))
        refine wpAny_ready (rs := [5]) (by kernel_rfl) (by simp) ?_
        refine AllReady.cons rfl (fun K hK => ?_) ?_
        · go_simp
          go_wp2_with (first | (go_at_call 27; refine (HN.out _ (by first | exact hb0 | exact below_trans hb0 hbc)).mono ?_; rintro e wn ⟨v5, ps, rfl, hcp, hbn⟩; have HP := Lib.hid hcp; obtain ⟨x5, y5, rfl⟩ := NodesAt.lenN hcp.nodes; clear hcp; have f0n := cell_below hbn (by first | exact f0c | exact f0); have f1n := cell_below hbn (by first | exact f1c | exact f1); have r0n := cell_below hbn (by first | exact r0c | exact r0); have r1n := cell_below hbn (by first | exact r1c | exact r1); have z0n := frozen_below hbn (by first | exact ltc | exact hlt) (by first | exact z0c | exact z0); have z1n := frozen_below hbn (by first | exact ltc | exact hlt) (by first | exact z1c | exact z1); have ltn := Nat.lt_of_lt_of_le (by first | exact ltc | exact hlt) hbn.size) | (go_at_call 37; refine (HC.out _ (by first | exact hb0 | exact below_trans hb0 hbn)).mono ?_; rintro e wc ⟨v8, fs, rfl, ho, hbc, hfe⟩; have HO := Lib.hid ho; have HFe := Lib.hid hfe; obtain ⟨x8, y8, rfl⟩ := CtlsAt.lenN ho.at; clear ho hfe; have f0c := cell_below hbc (by first | exact f0n | exact f0); have f1c := cell_below hbc (by first | exact f1n | exact f1); have r0c := cell_below hbc (by first | exact r0n | exact r0); have r1c := cell_below hbc (by first | exact r1n | exact r1); have z0c := frozen_below hbc (by first | exact ltn | exact hlt) (by first | exact z0n | exact z0); have z1c := frozen_below hbc (by first | exact ltn | exact hlt) (by first | exact z1n | exact z1); have ltc := Nat.lt_of_lt_of_le (by first | exact ltn | exact hlt) hbc.size))
          refine wpAny_take (i := 6) (v := ?_) rfl (by kernel_rfl) (by kernel_rfl) (by kernel_rfl) (fun _ _ _ h => h) (Or.inl ⟨by kernel_rfl, ?_⟩) ?_
          rotate_left
          · intro w; go_simp; try with_reducible rfl
          change wpAny _ _ _ _ _ _ (Act.put _ (some 9) _) _
          refine wpAny_ready (rs := [7]) (by kernel_rfl) (by simp) ?_
          refine AllReady.cons rfl (fun K hK => ?_) ?_
          · go_simp
            refine hK _ _ ?_
            clear hK K
            refine wpAny_done (by kernel_rfl) ?_ _
            (try simp only [Act.put, List.setIfInBounds_toArray, List.set_cons_zero, List.set_cons_succ])
            go_wp2_with fail
            (try simp only [Exit.inBlock, Exit.then])
            refine bodyPost_ret (v := .agg #[.slice x5 l.length y5, .slice x8 cs.length y8]) (by rw [rcell1 rfl]; go_simp) rfl ⟨_, _, rfl, ⟨HD.out.fine, ?_, ?_, HD.out.cb, HD.out.fb⟩, ?_⟩
            · first | exact ((HP.out.setLow (by omega) _).setLow (by omega) _).nodes | exact (((HP.out.below hbc).setLow (by omega) _).setLow (by omega) _).nodes
            · have hq : ∀ j (a : j < cs.length) (c : j < fs.length), cs[j].files ≠ [] → ∀ k, fs[j].ownBlock = some k → k < w.heap.size := fun j a c hne k e => ents_low (HFe.out j a c) hne k e
              first | exact ((HO.out.setLow (by omega) (Nat.le_succ _) hq _).setLow (by omega) (Nat.le_succ _) hq _).at | exact (((HO.out.below hbn).setLow (by omega) (Nat.le_succ _) hq _).setLow (by omega) (Nat.le_succ _) hq _).at
            · have hbf : Below w.heap.size w _ := (by first | exact below_trans (below_trans hb0 hbn) hbc | exact below_trans (below_trans hb0 hbc) hbn)
              exact (hbf.setCell (p := ⟨w.heap.size + 1, 0, none⟩) (Nat.le_succ _) _).setCell (p := ⟨w.heap.size + 1, 1, none⟩) (Nat.le_succ _) _
          exact AllReady.nil
        exact AllReady.nil
      exact AllReady.nil
    exact AllReady.nil
  exact AllReady.nil
end Go.Proofs.YtoajgfhcongocaaGreatDoor.doc
