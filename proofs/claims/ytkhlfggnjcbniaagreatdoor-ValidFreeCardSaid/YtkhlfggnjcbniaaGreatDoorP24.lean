/- A part of the proofs: lemmas and contracts. -/
import Derived.Test.YtkhlfggnjcbniaaGreatDoorP20
set_option maxHeartbeats 12800000
set_option maxRecDepth 1000000
namespace Go.Proofs.YtkhlfggnjcbniaaGreatDoor.doc
open Go.ChangeShapes Go.WideShapes Go.ChangeAt Go.RowKit Go.Lib atr link ctl
theorem grownBy_below {A B : World} {row : Option Nat} (h : Below A.heap.size A B) : A.grownBy B row :=
 ⟨h.os, h.tape, h.output, h.size, fun k hk _ => h.block k hk⟩
def LowF (nb : Nat) (L : List (List Ent)) (fs : List Value) : Prop := ∀ j (a : j < L.length) (b : j < fs.length), L[j] ≠ [] → ∀ k, fs[j].ownBlock = some k → k < nb
theorem LowF.mono {n m : Nat} {L : List (List Ent)} {fs : List Value} (h : LowF n L fs) (hm : n ≤ m) : LowF m L fs := fun j a b hne k e => Nat.lt_of_lt_of_le (h j a b hne k e) hm
variable {nb B g n cc : Nat} {bx : List (Nat × TypeId × Value)} {W W' : World} {cs : List Ctl} {fs : List Value}
def Rg (M g : Nat) (A B : World) : Prop := ∀ k, k < M → k ≠ g → B.heap[k]? = A.heap[k]?
theorem Rg.trans {M g : Nat} {A B C : World} (h : Rg M g A B) (k : Rg M g B C) : Rg M g A C := fun j a b => (k j a b).trans (h j a b)
structure Rd (n₀ Bl Bs : Nat) (W W' : World) : Prop where
 ko : KeepsOthers W W'
 kp : Kp n₀ Bl Bs W W'
theorem Rd.trans {n₀ Bl Bs : Nat} {A B C : World} (h : Rd n₀ Bl Bs A B) (k : Rd n₀ Bl Bs B C) : Rd n₀ Bl Bs A C := ⟨h.ko.trans k.ko, h.kp.trans k.kp⟩
end Go.Proofs.YtkhlfggnjcbniaaGreatDoor.doc
namespace Go.Proofs.YtkhlfggnjcbniaaGreatDoor.doc
open Go.ChangeShapes Go.WideShapes Go.ChangeAt Go.RowKit Go.Lib atr link

theorem filt_yes (p : Int → Bool) (is : List Int) (j : Nat) (h : j < is.length) (hp : p is[j] = true) : (is.take (j + 1)).filter p = (is.take j).filter p ++ [is[j]] := by rw [filt_take p is j h, if_pos hp]
theorem filt_no (p : Int → Bool) (is : List Int) (j : Nat) (h : j < is.length) (hp : ¬ p is[j] = true) : (is.take (j + 1)).filter p = (is.take j).filter p := by rw [filt_take p is j h, if_neg hp, List.append_nil]
theorem filt_len (p : Int → Bool) (is : List Int) (j : Nat) : ((is.take j).filter p).length ≤ is.length := Nat.le_trans (List.length_filter_le _ _) (by rw [List.length_take]; omega)


theorem docright_any (v : Value) (l : List Nd) (hL : LFine l) (oc : Option Addr) (n cc : Nat) (w : World) (hA : NodesAt w v l) :
  Calls Tryz.prog 78 #[.agg #[v, .slice oc n cc]] w fun e w' => e = .returned (.bool (decide (l.length = n) && rightB l)) ∧ Below w.heap.size w w' := by
 have hr := right_any v l hL _ (hA.below ((Below.refl _ w).alloc (Nat.le_refl _) (.cells #[v, .slice oc n cc] 28)))
 have hB1 : Below w.heap.size w (w.alloc (.cells #[v, .slice oc n cc] 28)) := (Below.refl _ w).alloc (Nat.le_refl _) _
 obtain ⟨oa, cap, rfl⟩ := NodesAt.lenN hA
 generalize rightB l = rb at *
 by_cases g : l.length = n
 ·have HX : Hid ((decide (l.length = n) && rb) = rb) := Lib.hid (by rw [decide_eq_true g]; rfl)
  generalize (decide (l.length = n) && rb) = r at *
  obtain rfl := HX.out
  clear hA hL HX
  subst g
  go_enter Tryz.func78, Tryz.ntmps78
  go_wp2_with fail
  refine hr.mono ?_
  rintro e w1 ⟨rfl, hb1⟩
  go_wp2_with fail
  go_ret
  exact ⟨rfl, below_trans hB1 hb1⟩
 ·have HX : Hid ((decide (l.length = n) && rb) = false) := Lib.hid (by rw [decide_eq_false g]; rfl)
  generalize (decide (l.length = n) && rb) = r at *
  obtain rfl := HX.out
  have g' : ((l.length : Int) == (n : Int)) = false := beq_false_of_ne (by omega)
  clear hA hL HX hr
  go_enter Tryz.func78, Tryz.ntmps78
  go_wp2_with fail
  go_ret
  exact ⟨rfl, hB1⟩

theorem rdocright_any (v : Value) (l : List Nd) (hL : LFine l) (oc : Option Addr) (n cc : Nat) (w : World) (hA : NodesAt w v l) :
  Calls Tryz.prog 17 #[.agg #[v, .slice oc n cc]] w fun e w' => e = .returned (.bool (decide (l.length = n) && rightB l)) ∧ Below w.heap.size w w' := by
 have hr := rright_any v l hL _ (hA.below ((Below.refl _ w).alloc (Nat.le_refl _) (.cells #[v, .slice oc n cc] 28)))
 have hB1 : Below w.heap.size w (w.alloc (.cells #[v, .slice oc n cc] 28)) := (Below.refl _ w).alloc (Nat.le_refl _) _
 obtain ⟨oa, cap, rfl⟩ := NodesAt.lenN hA
 cases hq : rightB l
 ·rw [hq] at hr
  have HX : Hid ((decide (l.length = n) && false) = false) := Lib.hid (Bool.and_false _)
  generalize (decide (l.length = n) && false) = r at *
  obtain rfl := HX.out
  clear hA hL HX hq
  go_enter Tryz.func17, Tryz.ntmps17
  go_wp2_with fail
  refine hr.mono ?_
  rintro e w1 ⟨rfl, hb1⟩
  go_wp2_with fail
  go_ret
  exact ⟨rfl, below_trans hB1 hb1⟩
 ·rw [hq] at hr
  have HX : Hid ((decide (l.length = n) && true) = ((l.length : Int) == (n : Int))) := Lib.hid (by
   by_cases g : l.length = n
   ·rw [decide_eq_true g, g]; simp
   ·rw [decide_eq_false g]; exact (beq_false_of_ne (by omega)).symm)
  have f0 : (w.alloc (.cells #[.slice oa l.length cap, .slice oc n cc] 28)).cell? ⟨w.heap.size, 0, none⟩ = some (.slice oa l.length cap) := World.cell?_alloc_new w _ _ 0
  have f1 : (w.alloc (.cells #[.slice oa l.length cap, .slice oc n cc] 28)).cell? ⟨w.heap.size, 1, none⟩ = some (.slice oc n cc) := World.cell?_alloc_new w _ _ 1
  generalize (decide (l.length = n) && true) = r at *
  clear hA hL hq
  go_enter Tryz.func17, Tryz.ntmps17
  go_wp2_with fail
  refine hr.mono ?_
  rintro e w1 ⟨rfl, hb1⟩
  have f0 := cell_below hb1 f0
  have f1 := cell_below hb1 f1
  go_wp2_with fail
  go_ret
  exact ⟨ret_bool HX.out.symm, below_trans hB1 hb1⟩
end Go.Proofs.YtkhlfggnjcbniaaGreatDoor.doc
namespace Go.Proofs.YtkhlfggnjcbniaaGreatDoor.doc
open Go.ChangeShapes Go.WideShapes Go.ChangeAt Go.RowKit Go.Lib atr link ctl
structure DocAt (w : World) (vn vc : Value) (l : List Nd) (cs : List Ctl) : Prop where
 fine : LFine l
 nodes : NodesAt w vn l
 ctls : CtlsAt w vc cs
 cb : cs.length * 64 ≤ 140737488355328
 fb : ∀ c ∈ cs, c.files.length * 72 ≤ 140737488355328
theorem DocAt.below {w w' : World} {vn vc : Value} {l : List Nd} {cs : List Ctl} (h : DocAt w vn vc l cs) (hb : Below w.heap.size w w') : DocAt w' vn vc l cs := ⟨h.fine, h.nodes.below hb, h.ctls.below hb, h.cb, h.fb⟩


def oneL (a : List Attr) : List Nd := [⟨[104, 116, 109, 108], [], [], -1, [1]⟩, ⟨[105, 110, 112, 117, 116], [], a, 0, []⟩]
def zeroCt : Ctl := ⟨[], false, false, false, false, false, false, false, [], []⟩
def oneC : List Ctl := [zeroCt, zeroCt]
def RetDoc1 (l : List Nd) (cs : List Ctl) (w : World) (e : Ending) (w' : World) : Prop := ∃ vn vc, e = .returned (.agg #[vn, vc]) ∧ DocAt w' vn vc l cs ∧ Below w.heap.size w w'
def oneN (b : Nat) (v : Value) : List Value := [.string ⟨#[104, 116, 109, 108]⟩, .string ⟨#[]⟩, .slice none 0 0, .int .i64 (-1), .slice (some ⟨b + 1, 0, none⟩) 1 1,
 .string ⟨#[105, 110, 112, 117, 116]⟩, .string ⟨#[]⟩, v, .int .i64 0, .slice none 0 0]
def oneV : List Value := [.string ⟨#[]⟩, .bool false, .bool false, .bool false, .bool false, .bool false, .bool false, .bool false, .string ⟨#[]⟩, .slice none 0 0, .string ⟨#[]⟩, .bool false, .bool false, .bool false, .bool false, .bool false, .bool false, .bool false, .string ⟨#[]⟩, .slice none 0 0]
theorem one_enc (j : Nat) (hj : j < 2) (i : Nat) (u : Value) (hu : (encC zeroCt (.slice none 0 0))[i]? = some u) : oneV[0 + j * 10 + i]? = some u := by
 have hi : i < 10 := by
  rcases Nat.lt_or_ge i 10 with h | h
  ·exact h
  ·rw [List.getElem?_eq_none (by exact h)] at hu; cases hu
 have e : oneV = (List.replicate 2 (zeroCt, Value.slice none 0 0)).flatMap (fun x => encC x.1 x.2) := rfl
 have := flat_at (fun x : Ctl × Value => encC x.1 x.2) 10 encC_len (List.replicate 2 (zeroCt, Value.slice none 0 0)) j (by simpa using hj) i hi
 rw [List.getElem_replicate] at this
 rw [Nat.zero_add, e, this]; exact hu
def oneWd (w : World) (o : Obj) (v : Value) : World := (((w.alloc o).alloc (.cells #[.int .i64 1] 3)).alloc (.cells (oneN w.heap.size v).toArray 41)).alloc (.cells oneV.toArray 35)
theorem one_cells (w : World) (o : Obj) (v : Value) : (∀ k, (oneWd w o v).cell? ⟨w.heap.size + 1, k, none⟩ = [Value.int .i64 1][k]?) ∧
  (∀ k, (oneWd w o v).cell? ⟨w.heap.size + 1 + 1, k, none⟩ = (oneN w.heap.size v)[k]?) ∧ (∀ k, (oneWd w o v).cell? ⟨w.heap.size + 1 + 1 + 1, k, none⟩ = oneV[k]?) ∧ (oneWd w o v).heap.size = w.heap.size + 4 ∧ Below w.heap.size w (oneWd w o v) := by
 obtain ⟨w1, h1⟩ : ∃ w1, w1 = w.alloc o := ⟨_, rfl⟩
 obtain ⟨w2, h2⟩ : ∃ w2, w2 = w1.alloc (.cells #[.int .i64 1] 3) := ⟨_, rfl⟩
 obtain ⟨w4, h4⟩ : ∃ w4, w4 = w2.alloc (.cells (oneN w.heap.size v).toArray 41) := ⟨_, rfl⟩
 have e : oneWd w o v = w4.alloc (.cells oneV.toArray 35) := by unfold oneWd; rw [h4, h2, h1]
 have s1 : w1.heap.size = w.heap.size + 1 := by rw [h1]; simp
 have s2 : w2.heap.size = w.heap.size + 1 + 1 := by rw [h2]; simp [s1]
 have s4 : w4.heap.size = w.heap.size + 1 + 1 + 1 := by rw [h4]; simp [s2]
 have b12 : Below w1.heap.size w1 w2 := by rw [h2]; exact (Below.refl _ _).alloc (Nat.le_refl _) _
 have b24 : Below w2.heap.size w2 w4 := by rw [h4]; exact (Below.refl _ _).alloc (Nat.le_refl _) _
 have b45 : Below w4.heap.size w4 (oneWd w o v) := by rw [e]; exact (Below.refl _ _).alloc (Nat.le_refl _) _
 have b01 : Below w.heap.size w w1 := by rw [h1]; exact (Below.refl _ _).alloc (Nat.le_refl _) _
 refine ⟨fun k => ?_, fun k => ?_, fun k => ?_, by rw [e]; simp [s4], below_trans b01 (below_trans b12 (below_trans b24 b45))⟩
 ·rw [((below_trans b24 b45).cell (p := ⟨w.heap.size + 1, k, none⟩) (by show w.heap.size + 1 < w2.heap.size; omega)), h2, ← s1, World.cell?_alloc_new]; simp
 ·rw [(b45.cell (p := ⟨w.heap.size + 1 + 1, k, none⟩) (by show w.heap.size + 1 + 1 < w4.heap.size; omega)), h4, ← s2, World.cell?_alloc_new]; simp
 ·rw [e, ← s4, World.cell?_alloc_new]; simp
theorem no_ents (w : World) : EntsAt w (.slice none 0 0) [] := .inl ⟨rfl, rfl, none, 0, rfl⟩
theorem one_doc (w : World) (o : Obj) (v : Value) (a : List Attr) (hA : AttrsAt w v a) (hc : CapOk v) (hn : a.length ≤ 140737488355328) (ha : ∀ x ∈ a, x.1.length ≤ 140737488355328 ∧ x.2.length ≤ 140737488355328) :
  DocAt (oneWd w o v) (.slice (some ⟨w.heap.size + 1 + 1, 0, none⟩) 2 2) (.slice (some ⟨w.heap.size + 1 + 1 + 1, 0, none⟩) 2 2) (oneL a) oneC := by
 obtain ⟨k1, kn, kc, hz, hb⟩ := one_cells w o v
 have i1 : IntsAt (oneWd w o v) (.slice (some ⟨w.heap.size + 1, 0, none⟩) 1 1) [1] := .inr ⟨_, 0, 1, rfl, by decide, by omega, fun j u hj => by rw [Nat.zero_add, k1]; exact hj⟩
 refine ⟨⟨by show 2 ≤ 17592186044416; decide, ?_⟩, .inr ⟨_, 0, 2, rfl, by show 0 < 2; decide, by omega, ?_⟩, .inr ⟨_, 0, 2, rfl, by decide, by omega, ?_⟩, by decide, ?_⟩
 ·intro n hn'
  simp only [oneL, List.mem_cons, List.not_mem_nil, or_false] at hn'
  rcases hn' with rfl | rfl
  ·exact ⟨by decide, by decide, by decide, by decide, fun a h => (by cases h), by decide, by decide⟩
  ·exact ⟨by show 5 ≤ 140737488355328; decide, by show 0 ≤ 140737488355328; decide, hn, by show 0 ≤ 17592186044416; decide, ha, by show (Lit.int .i64 0).wf = true; decide, fun k h => (by cases h)⟩
 ·intro j hj
  match j, hj with
  | 0, _ => exact ⟨_, _, kn _, kn _, kn _, kn _, kn _, AttrsAt.nil _, i1, CapOk.nil⟩
  | 1, _ => exact ⟨_, _, kn _, kn _, kn _, kn _, kn _, hA.below hb, IntsAt.nil _, hc⟩
 ·intro j hj
  match j, hj with
  | 0, _ => exact ⟨.slice none 0 0, fun i u hu => by rw [kc]; exact one_enc 0 (by decide) i u hu, no_ents _⟩
  | 1, _ => exact ⟨.slice none 0 0, fun i u hu => by rw [kc]; exact one_enc 1 (by decide) i u hu, no_ents _⟩
 ·intro c hc
  simp only [oneC, List.mem_cons, List.not_mem_nil, or_false] at hc
  rcases hc with rfl | rfl <;> decide
theorem mk2 (w : World) : (Instr.makeSlice 26 (.int .i64 2) (.int .i64 2)).run Tryz.prog w = .ok (.slice (some ⟨w.heap.size, 0, none⟩) 2 2) (w.alloc (.cells #[.string ⟨#[]⟩, .bool false, .bool false, .bool false, .bool false, .bool false, .bool false, .bool false, .string ⟨#[]⟩, .slice none 0 0, .string ⟨#[]⟩, .bool false, .bool false, .bool false, .bool false, .bool false, .bool false, .bool false, .string ⟨#[]⟩, .slice none 0 0] 35)) := by kernel_rfl
theorem one_doc_any (v : Value) (a : List Attr) (w : World) (hA : AttrsAt w v a) (hcap : CapOk v) (hn : a.length ≤ 140737488355328) (ha : ∀ x ∈ a, x.1.length ≤ 140737488355328 ∧ x.2.length ≤ 140737488355328) :
  Calls Tryz.prog 21 #[v] w (RetDoc1 (oneL a) oneC w) := by
 have hmk := mk2
 have HD := Lib.hid (fun o => one_doc w o v a hA hcap hn ha)
 have HB := Lib.hid (fun o => (one_cells w o v).2.2.2.2)
 obtain ⟨oa, cap, rfl⟩ := AttrsAt.lenN hA
 clear hA hcap hn ha
 go_enter Tryz.func21, Tryz.ntmps21
 go_wp2_with fail
 (try simp only [Exit.inBlock, Exit.then])
 refine bodyPost_ret (v := .agg #[.slice (some ⟨w.heap.size + 1 + 1, 0, none⟩) 2 2, .slice (some ⟨w.heap.size + 1 + 1 + 1, 0, none⟩) 2 2]) (by rw [rcell1 rfl]; go_simp) rfl ⟨_, _, rfl, HD.out _, HB.out _⟩

def RetOne (w : World) (v : Value) (e : Ending) (w' : World) : Prop := ∃ o, e = .returned (.agg #[.slice (some ⟨w.heap.size + 1 + 1, 0, none⟩) 2 2, .slice (some ⟨w.heap.size + 1 + 1 + 1, 0, none⟩) 2 2]) ∧ w' = oneWd w o v
theorem oneO_any (oa : Option Addr) (n cap : Nat) (w : World) :
  Calls Tryz.prog 21 #[.slice oa n cap] w (RetOne w (.slice oa n cap)) := by
 have hmk := mk2
 go_enter Tryz.func21, Tryz.ntmps21
 go_wp2_with fail
 (try simp only [Exit.inBlock, Exit.then])
 refine bodyPost_ret (v := .agg #[.slice (some ⟨w.heap.size + 1 + 1, 0, none⟩) 2 2, .slice (some ⟨w.heap.size + 1 + 1 + 1, 0, none⟩) 2 2]) (by rw [rcell1 rfl]; go_simp) rfl ⟨_, rfl, rfl⟩
def twoV (c : Ctl) (f : Value) : List Value := encC zeroCt (.slice none 0 0) ++ encC c f
theorem one_blk (w : World) (o : Obj) (v : Value) : Blk (oneWd w o v) (w.heap.size + 1 + 1 + 1) oneV := by
 obtain ⟨w4, h4⟩ : ∃ w4, w4 = (((w.alloc o).alloc (.cells #[.int .i64 1] 3)).alloc (.cells (oneN w.heap.size v).toArray 41)) := ⟨_, rfl⟩
 have e : oneWd w o v = w4.alloc (.cells oneV.toArray 35) := by unfold oneWd; rw [h4]
 have s : w4.heap.size = w.heap.size + 1 + 1 + 1 := by rw [h4]; simp
 rw [e, ← s]
 exact Blk.fresh w4 oneV _
theorem one_nodes (w wx : World) (o : Obj) (v : Value) (a : List Attr) (hA : AttrsAt w v a) (hc : CapOk v) (hn : a.length ≤ 140737488355328) (ha : ∀ x ∈ a, x.1.length ≤ 140737488355328 ∧ x.2.length ≤ 140737488355328) (hx : Below (w.heap.size + 1 + 1 + 1) (oneWd w o v) wx) :
  LFine (oneL a) ∧ NodesAt wx (.slice (some ⟨w.heap.size + 1 + 1, 0, none⟩) 2 2) (oneL a) := by
 have hd := one_doc w o v a hA hc hn ha
 obtain ⟨k1, kn, kc, hz, hb⟩ := one_cells w o v
 refine ⟨hd.fine, .inr ⟨_, 0, 2, rfl, by show 0 < 2; decide, by have := hx.size; omega, ?_⟩⟩
 have g : ∀ (b j : Nat), b < w.heap.size + 1 + 1 + 1 → wx.cell? ⟨b, j, none⟩ = (oneWd w o v).cell? ⟨b, j, none⟩ := fun b j h => hx.cell (p := ⟨b, j, none⟩) h
 have i1 : IntsAt wx (.slice (some ⟨w.heap.size + 1, 0, none⟩) 1 1) [1] := .inr ⟨_, 0, 1, rfl, by decide, by have := hx.size; omega, fun j u hj => by rw [Nat.zero_add, g _ _ (by omega), k1]; exact hj⟩
 have hbx : Below w.heap.size w wx := hb.trans (hx.mono (by omega))
 intro j hj
 match j, hj with
 | 0, _ => exact ⟨_, _, (g _ _ (by omega)).trans (kn _), (g _ _ (by omega)).trans (kn _), (g _ _ (by omega)).trans (kn _), (g _ _ (by omega)).trans (kn _), (g _ _ (by omega)).trans (kn _), AttrsAt.nil _, i1, CapOk.nil⟩
 | 1, _ => exact ⟨_, _, (g _ _ (by omega)).trans (kn _), (g _ _ (by omega)).trans (kn _), (g _ _ (by omega)).trans (kn _), (g _ _ (by omega)).trans (kn _), (g _ _ (by omega)).trans (kn _), hA.below hbx, IntsAt.nil _, hc⟩
theorem two_ctls (wx : World) (B : Nat) (c : Ctl) (f : Value) (h : Blk wx B (twoV c f)) (hf : EntsAt wx f c.files) : CtlsAt wx (.slice (some ⟨B, 0, none⟩) 2 2) [zeroCt, c] := by
 refine .inr ⟨_, 0, 2, rfl, by show 0 < 2; decide, h.lt, ?_⟩
 intro j hj
 match j, hj with
 | 0, _ => exact ⟨.slice none 0 0, fun i u hu => by
   have hi := (List.getElem?_eq_some_iff.1 hu).1
   rw [h.cell]
   show (encC zeroCt (.slice none 0 0) ++ encC c f)[0 + 0 * 10 + i]? = some u
   rw [show 0 + 0 * 10 + i = i by omega, List.getElem?_append_left (show i < (encC zeroCt (.slice none 0 0)).length from hi)]; exact hu, no_ents _⟩
 | 1, _ => exact ⟨f, fun i u hu => by
   have hi := (List.getElem?_eq_some_iff.1 hu).1
   rw [h.cell]
   show (encC zeroCt (.slice none 0 0) ++ encC c f)[0 + 1 * 10 + i]? = some u
   have e : (encC zeroCt (.slice none 0 0)).length = 10 := rfl
   rw [List.getElem?_append_right (by omega), e, show 0 + 1 * 10 + i - 10 = i by omega]; exact hu, hf⟩
end Go.Proofs.YtkhlfggnjcbniaaGreatDoor.doc
