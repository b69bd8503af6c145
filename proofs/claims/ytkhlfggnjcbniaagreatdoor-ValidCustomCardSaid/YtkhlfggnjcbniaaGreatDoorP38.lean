/- A part of the proofs: lemmas and contracts. -/
import Derived.StillTailTactics
import Derived.Test.YtkhlfggnjcbniaaGreatDoorP28
set_option maxHeartbeats 12800000
set_option maxRecDepth 1000000
namespace Go.Proofs.YtkhlfggnjcbniaaGreatDoor.doc
open Go.ChangeShapes Go.WideShapes Go.ChangeAt Go.RowKit Go.Lib atr link ctl

theorem own_setlow {w : World} {B e size n b o : Nat} {v : Value} {xs : List Value} (h : w.ownsRow B e size v n xs) (hb : b < B) (u : Value) : (w.setCell ⟨b, o, none⟩ u).ownsRow B e size v n xs :=
 h.kept (grownBy_set w b o u) (.inr (fun e => by have := (h.lt b e).1; omega))
theorem CpR.setLow {w : World} {B b o : Nat} {v : Value} {l : List Nd} {ps : List (Value × Value)} (h : CpR w B v l ps) (hb : b < B) (u : Value) : CpR (w.setCell ⟨b, o, none⟩ u) B v l ps :=
 ⟨h.len, own_setlow h.row hb u, fun j a c => own_setlow (h.attrs j a c) hb u, fun j a c => own_setlow (h.kids j a c) hb u⟩
theorem frozen_below {w w' : World} (h : Below w.heap.size w w') {b o : Nat} (hb : b < w.heap.size) (hz : w.frozen? ⟨b, o, none⟩ = false) : w'.frozen? ⟨b, o, none⟩ = false :=
 (World.frozen?_of_block (a := ⟨b, o, none⟩) (h.block b hb)).trans hz
theorem OwnC.setLow {w : World} {B nb b o : Nat} {v : Value} {cs : List Ctl} {fs : List Value} (h : OwnC w B v cs fs) (hb : b < B) (hnb : nb ≤ b) (hL : ∀ j (a : j < cs.length) (c : j < fs.length), cs[j].files ≠ [] → ∀ k, fs[j].ownBlock = some k → k < nb) (u : Value) : OwnC (w.setCell ⟨b, o, none⟩ u) B v cs fs :=
 ⟨h.len, own_setlow h.row hb u, fun j a c => ents_set (h.files j a c) (fun hne e => by have := hL j a c hne b e; omega), h.apart⟩

def RetDocX (l : List Nd) (cs : List Ctl) (w : World) (e : Ending) (w' : World) : Prop := ∃ vn vc, e = .returned (.agg #[vn, vc]) ∧ (∃ B ps, CpR w' B vn l ps) ∧ (∃ B fs, OwnC w' B vc cs fs ∧ w.heap.size ≤ B) ∧ Below w.heap.size w w'
theorem copiedX_any (vn vc : Value) (l : List Nd) (cs : List Ctl) (hLb : LBytes l) (w : World) (hD : DocAt w vn vc l cs) :
  Calls Tryz.prog 15 #[.agg #[vn, vc]] w (RetDocX l cs w) := by
 have HN := Lib.hid (fun w' h => copied_any vn l hLb w' (hD.nodes.below (w' := w') h))
 have HC := Lib.hid (fun w' h => rcopiedC_from vc cs hD.cb w w' h hD.ctls)
 have HD := Lib.hid hD
 obtain ⟨oa, ca, rfl⟩ := NodesAt.lenN hD.nodes
 obtain ⟨oc, cc, rfl⟩ := CtlsAt.lenN hD.ctls
 obtain ⟨wA, hwA⟩ : ∃ wA, wA = (w.alloc (.cells #[.slice oa l.length ca, .slice oc cs.length cc] 28)).alloc (.cells #[.slice none 0 0, .slice none 0 0] 28) := ⟨_, rfl⟩
 have hB1 : Below w.heap.size w wA := by rw [hwA]; exact ((Below.refl _ w).alloc (Nat.le_refl _) _).alloc (by simp) _
 have hf : wA.cell? ⟨w.heap.size, 0, none⟩ = some (.slice oa l.length ca) ∧ wA.cell? ⟨w.heap.size, 1, none⟩ = some (.slice oc cs.length cc) ∧ (∀ k, wA.cell? ⟨w.heap.size + 1, k, none⟩ = [Value.slice none 0 0, .slice none 0 0][k]?) ∧ (∀ k, wA.frozen? ⟨w.heap.size + 1, k, none⟩ = false) := by
  rw [hwA]
  have hx := (Below.refl (w.alloc (.cells #[.slice oa l.length ca, .slice oc cs.length cc] 28)).heap.size (w.alloc (.cells #[.slice oa l.length ca, .slice oc cs.length cc] 28))).alloc (Nat.le_refl _) (.cells #[.slice none 0 0, .slice none 0 0] 28)
  refine ⟨cell_below hx (World.cell?_alloc_new w _ _ 0), cell_below hx (World.cell?_alloc_new w _ _ 1), fun k => ?_, fun k => ?_⟩
  ·have := World.cell?_alloc_new (w.alloc (.cells #[.slice oa l.length ca, .slice oc cs.length cc] 28)) #[.slice none 0 0, .slice none 0 0] 28 k
   rw [World.size_alloc] at this
   rw [this]; simp
  ·have := World.frozen?_alloc_new (w.alloc (.cells #[.slice oa l.length ca, .slice oc cs.length cc] 28)) #[.slice none 0 0, .slice none 0 0] 28 k
   rw [World.size_alloc] at this
   exact this
 obtain ⟨f0, f1, fr, fz⟩ := hf
 have r0 : wA.cell? ⟨w.heap.size + 1, 0, none⟩ = some (.slice none 0 0) := fr 0
 have r1 : wA.cell? ⟨w.heap.size + 1, 1, none⟩ = some (.slice none 0 0) := fr 1
 have z0 := fz 0
 have z1 := fz 1
 clear fr fz hD
 go_enter Tryz.func15, Tryz.ntmps15
 go_wp2_with fail
 rw [← hwA]
 clear hwA
 have hlt := lt_of_cell r0
 have hd : Below wA.heap.size wA wA.drew := (Below.refl _ _).drew
 have f0 := cell_below hd f0
 have f1 := cell_below hd f1
 have r0 := cell_below hd r0
 have r1 := cell_below hd r1
 have z0 : wA.drew.frozen? ⟨w.heap.size + 1, 0, none⟩ = false := z0
 have z1 : wA.drew.frozen? ⟨w.heap.size + 1, 1, none⟩ = false := z1
 have hb0 := below_trans hB1 hd
 have hlt : w.heap.size + 1 < wA.drew.heap.size := hlt
 refine wp_region_any (by kernel_rfl) ?_
 change wpAny _ _ _ _ _ _ _ wA.drew
 generalize wA.drew = wd at *
 refine wpAny_take (i := 0) (v := ?_) rfl (by kernel_rfl) (by kernel_rfl) (by kernel_rfl) (fun _ _ _ h => h) (Or.inl ⟨by kernel_rfl, ?_⟩) ?_
 rotate_left
 ·intro w; go_simp; try with_reducible rfl
 change wpAny _ _ _ _ _ _ (Act.put _ (some 3) _) _
 refine wpAny_take (i := 3) (v := ?_) rfl (by kernel_rfl) (by kernel_rfl) (by kernel_rfl) (fun _ _ _ h => h) (Or.inl ⟨by kernel_rfl, ?_⟩) ?_
 rotate_left
 ·intro w; go_simp; try with_reducible rfl
 change wpAny _ _ _ _ _ _ (Act.put _ (some 6) _) _
 refine wpAny_ready (rs := [1, 4]) (by kernel_rfl) (by simp) ?_
 refine AllReady.cons rfl (fun K hK => ?_) ?_
 ·go_simp
  refine hK _ _ ?_
  clear hK K
  refine wpAny_ready (rs := [2, 4]) (by kernel_rfl) (by simp) ?_
  refine AllReady.cons rfl (fun K hK => ?_) ?_
  ·go_simp
   go_wp2_with (first | (go_at_call 11; refine (HN.out _ (by first | exact hb0 | exact below_trans hb0 hbc)).mono ?_; rintro e wn ⟨v5, ps, rfl, hcp, hbn⟩; have HP := Lib.hid hcp; obtain ⟨x5, y5, rfl⟩ := NodesAt.lenN hcp.nodes; clear hcp; have f0n := cell_below hbn (by first | exact f0c | exact f0); have f1n := cell_below hbn (by first | exact f1c | exact f1); have r0n := cell_below hbn (by first | exact r0c | exact r0); have r1n := cell_below hbn (by first | exact r1c | exact r1); have z0n := frozen_below hbn (by first | exact ltc | exact hlt) (by first | exact z0c | exact z0); have z1n := frozen_below hbn (by first | exact ltc | exact hlt) (by first | exact z1c | exact z1); have ltn := Nat.lt_of_lt_of_le (by first | exact ltc | exact hlt) hbn.size) | (go_at_call 45; refine (HC.out _ (by first | exact hb0 | exact below_trans hb0 hbn)).mono ?_; rintro e wc ⟨v8, fs, rfl, ho, hbc, hfe⟩; have HO := Lib.hid ho; have HFe := Lib.hid hfe; obtain ⟨x8, y8, rfl⟩ := CtlsAt.lenN ho.at; clear ho hfe; have f0c := cell_below hbc (by first | exact f0n | exact f0); have f1c := cell_below hbc (by first | exact f1n | exact f1); have r0c := cell_below hbc (by first | exact r0n | exact r0); have r1c := cell_below hbc (by first | exact r1n | exact r1); have z0c := frozen_below hbc (by first | exact ltn | exact hlt) (by first | exact z0n | exact z0); have z1c := frozen_below hbc (by first | exact ltn | exact hlt) (by first | exact z1n | exact z1); have ltc := Nat.lt_of_lt_of_le (by first | exact ltn | exact hlt) hbc.size))
   refine wpAny_ready (rs := [4]) (by kernel_rfl) (by simp) ?_
   refine AllReady.cons rfl (fun K hK => ?_) ?_
   ·go_simp
    refine hK _ _ ?_
    clear hK K
    refine wpAny_ready (rs := [5]) (by kernel_rfl) (by simp) ?_
    refine AllReady.cons rfl (fun K hK => ?_) ?_
    ·go_simp
     go_wp2_with (first | (go_at_call 11; refine (HN.out _ (by first | exact hb0 | exact below_trans hb0 hbc)).mono ?_; rintro e wn ⟨v5, ps, rfl, hcp, hbn⟩; have HP := Lib.hid hcp; obtain ⟨x5, y5, rfl⟩ := NodesAt.lenN hcp.nodes; clear hcp; have f0n := cell_below hbn (by first | exact f0c | exact f0); have f1n := cell_below hbn (by first | exact f1c | exact f1); have r0n := cell_below hbn (by first | exact r0c | exact r0); have r1n := cell_below hbn (by first | exact r1c | exact r1); have z0n := frozen_below hbn (by first | exact ltc | exact hlt) (by first | exact z0c | exact z0); have z1n := frozen_below hbn (by first | exact ltc | exact hlt) (by first | exact z1c | exact z1); have ltn := Nat.lt_of_lt_of_le (by first | exact ltc | exact hlt) hbn.size) | (go_at_call 45; refine (HC.out _ (by first | exact hb0 | exact below_trans hb0 hbn)).mono ?_; rintro e wc ⟨v8, fs, rfl, ho, hbc, hfe⟩; have HO := Lib.hid ho; have HFe := Lib.hid hfe; obtain ⟨x8, y8, rfl⟩ := CtlsAt.lenN ho.at; clear ho hfe; have f0c := cell_below hbc (by first | exact f0n | exact f0); have f1c := cell_below hbc (by first | exact f1n | exact f1); have r0c := cell_below hbc (by first | exact r0n | exact r0); have r1c := cell_below hbc (by first | exact r1n | exact r1); have z0c := frozen_below hbc (by first | exact ltn | exact hlt) (by first | exact z0n | exact z0); have z1c := frozen_below hbc (by first | exact ltn | exact hlt) (by first | exact z1n | exact z1); have ltc := Nat.lt_of_lt_of_le (by first | exact ltn | exact hlt) hbc.size))
     refine wpAny_take (i := 6) (v := ?_) rfl (by kernel_rfl) (by kernel_rfl) (by kernel_rfl) (fun _ _ _ h => h) (Or.inl ⟨by kernel_rfl, ?_⟩) ?_
     rotate_left
     ·intro w; go_simp; try with_reducible rfl
     change wpAny _ _ _ _ _ _ (Act.put _ (some 9) _) _
     refine wpAny_ready (rs := [7]) (by kernel_rfl) (by simp) ?_
     refine AllReady.cons rfl (fun K hK => ?_) ?_
     ·go_simp
      refine hK _ _ ?_
      clear hK K
      refine wpAny_done (by kernel_rfl) ?_ _
      (try simp only [Act.put, List.setIfInBounds_toArray, List.set_cons_zero, List.set_cons_succ])
      go_wp2_with fail
      (try simp only [Exit.inBlock, Exit.then])
      refine bodyPost_ret (v := .agg #[.slice x5 l.length y5, .slice x8 cs.length y8]) (by rw [rcell1 rfl]; go_simp) rfl ⟨_, _, rfl, ?_, ?_, ?_⟩
      ·first | exact ⟨_, _, (HP.out.setLow (by omega) _).setLow (by omega) _⟩ | exact ⟨_, _, ((HP.out.below hbc).setLow (by omega) _).setLow (by omega) _⟩
      ·have hq : ∀ j (a : j < cs.length) (c : j < fs.length), cs[j].files ≠ [] → ∀ k, fs[j].ownBlock = some k → k < w.heap.size := fun j a c hne k e => ents_low (HFe.out j a c) hne k e
       first | exact ⟨_, _, (HO.out.setLow (by omega) (Nat.le_succ _) hq _).setLow (by omega) (Nat.le_succ _) hq _, by first | exact hb0.size | exact Nat.le_trans hb0.size hbn.size⟩ | exact ⟨_, _, ((HO.out.below hbn).setLow (by omega) (Nat.le_succ _) hq _).setLow (by omega) (Nat.le_succ _) hq _, by first | exact hb0.size | exact Nat.le_trans hb0.size hbn.size⟩
      ·have hbf : Below w.heap.size w _ := (by first | exact below_trans (below_trans hb0 hbn) hbc | exact below_trans (below_trans hb0 hbc) hbn)
       exact (hbf.setCell (p := ⟨w.heap.size + 1, 0, none⟩) (Nat.le_succ _) _).setCell (p := ⟨w.heap.size + 1, 1, none⟩) (Nat.le_succ _) _
     exact AllReady.nil
    exact AllReady.nil
   exact AllReady.nil
  refine AllReady.cons rfl (fun K hK => ?_) ?_
  ·go_simp
   refine hK _ _ ?_
   clear hK K
   refine wpAny_ready (rs := [2]) (by kernel_rfl) (by simp) ?_
   refine AllReady.cons rfl (fun K hK => ?_) ?_
   ·go_simp
    go_wp2_with (first | (go_at_call 11; refine (HN.out _ (by first | exact hb0 | exact below_trans hb0 hbc)).mono ?_; rintro e wn ⟨v5, ps, rfl, hcp, hbn⟩; have HP := Lib.hid hcp; obtain ⟨x5, y5, rfl⟩ := NodesAt.lenN hcp.nodes; clear hcp; have f0n := cell_below hbn (by first | exact f0c | exact f0); have f1n := cell_below hbn (by first | exact f1c | exact f1); have r0n := cell_below hbn (by first | exact r0c | exact r0); have r1n := cell_below hbn (by first | exact r1c | exact r1); have z0n := frozen_below hbn (by first | exact ltc | exact hlt) (by first | exact z0c | exact z0); have z1n := frozen_below hbn (by first | exact ltc | exact hlt) (by first | exact z1c | exact z1); have ltn := Nat.lt_of_lt_of_le (by first | exact ltc | exact hlt) hbn.size) | (go_at_call 45; refine (HC.out _ (by first | exact hb0 | exact below_trans hb0 hbn)).mono ?_; rintro e wc ⟨v8, fs, rfl, ho, hbc, hfe⟩; have HO := Lib.hid ho; have HFe := Lib.hid hfe; obtain ⟨x8, y8, rfl⟩ := CtlsAt.lenN ho.at; clear ho hfe; have f0c := cell_below hbc (by first | exact f0n | exact f0); have f1c := cell_below hbc (by first | exact f1n | exact f1); have r0c := cell_below hbc (by first | exact r0n | exact r0); have r1c := cell_below hbc (by first | exact r1n | exact r1); have z0c := frozen_below hbc (by first | exact ltn | exact hlt) (by first | exact z0n | exact z0); have z1c := frozen_below hbc (by first | exact ltn | exact hlt) (by first | exact z1n | exact z1); have ltc := Nat.lt_of_lt_of_le (by first | exact ltn | exact hlt) hbc.size))
    refine wpAny_ready (rs := [5]) (by kernel_rfl) (by simp) ?_
    refine AllReady.cons rfl (fun K hK => ?_) ?_
    ·go_simp
     go_wp2_with (first | (go_at_call 11; refine (HN.out _ (by first | exact hb0 | exact below_trans hb0 hbc)).mono ?_; rintro e wn ⟨v5, ps, rfl, hcp, hbn⟩; have HP := Lib.hid hcp; obtain ⟨x5, y5, rfl⟩ := NodesAt.lenN hcp.nodes; clear hcp; have f0n := cell_below hbn (by first | exact f0c | exact f0); have f1n := cell_below hbn (by first | exact f1c | exact f1); have r0n := cell_below hbn (by first | exact r0c | exact r0); have r1n := cell_below hbn (by first | exact r1c | exact r1); have z0n := frozen_below hbn (by first | exact ltc | exact hlt) (by first | exact z0c | exact z0); have z1n := frozen_below hbn (by first | exact ltc | exact hlt) (by first | exact z1c | exact z1); have ltn := Nat.lt_of_lt_of_le (by first | exact ltc | exact hlt) hbn.size) | (go_at_call 45; refine (HC.out _ (by first | exact hb0 | exact below_trans hb0 hbn)).mono ?_; rintro e wc ⟨v8, fs, rfl, ho, hbc, hfe⟩; have HO := Lib.hid ho; have HFe := Lib.hid hfe; obtain ⟨x8, y8, rfl⟩ := CtlsAt.lenN ho.at; clear ho hfe; have f0c := cell_below hbc (by first | exact f0n | exact f0); have f1c := cell_below hbc (by first | exact f1n | exact f1); have r0c := cell_below hbc (by first | exact r0n | exact r0); have r1c := cell_below hbc (by first | exact r1n | exact r1); have z0c := frozen_below hbc (by first | exact ltn | exact hlt) (by first | exact z0n | exact z0); have z1c := frozen_below hbc (by first | exact ltn | exact hlt) (by first | exact z1n | exact z1); have ltc := Nat.lt_of_lt_of_le (by first | exact ltn | exact hlt) hbc.size))
     refine wpAny_take (i := 6) (v := ?_) rfl (by kernel_rfl) (by kernel_rfl) (by kernel_rfl) (fun _ _ _ h => h) (Or.inl ⟨by kernel_rfl, ?_⟩) ?_
     rotate_left
     ·intro w; go_simp; try with_reducible rfl
     change wpAny _ _ _ _ _ _ (Act.put _ (some 9) _) _
     refine wpAny_ready (rs := [7]) (by kernel_rfl) (by simp) ?_
     refine AllReady.cons rfl (fun K hK => ?_) ?_
     ·go_simp
      refine hK _ _ ?_
      clear hK K
      refine wpAny_done (by kernel_rfl) ?_ _
      (try simp only [Act.put, List.setIfInBounds_toArray, List.set_cons_zero, List.set_cons_succ])
      go_wp2_with fail
      (try simp only [Exit.inBlock, Exit.then])
      refine bodyPost_ret (v := .agg #[.slice x5 l.length y5, .slice x8 cs.length y8]) (by rw [rcell1 rfl]; go_simp) rfl ⟨_, _, rfl, ?_, ?_, ?_⟩
      ·first | exact ⟨_, _, (HP.out.setLow (by omega) _).setLow (by omega) _⟩ | exact ⟨_, _, ((HP.out.below hbc).setLow (by omega) _).setLow (by omega) _⟩
      ·have hq : ∀ j (a : j < cs.length) (c : j < fs.length), cs[j].files ≠ [] → ∀ k, fs[j].ownBlock = some k → k < w.heap.size := fun j a c hne k e => ents_low (HFe.out j a c) hne k e
       first | exact ⟨_, _, (HO.out.setLow (by omega) (Nat.le_succ _) hq _).setLow (by omega) (Nat.le_succ _) hq _, by first | exact hb0.size | exact Nat.le_trans hb0.size hbn.size⟩ | exact ⟨_, _, ((HO.out.below hbn).setLow (by omega) (Nat.le_succ _) hq _).setLow (by omega) (Nat.le_succ _) hq _, by first | exact hb0.size | exact Nat.le_trans hb0.size hbn.size⟩
      ·have hbf : Below w.heap.size w _ := (by first | exact below_trans (below_trans hb0 hbn) hbc | exact below_trans (below_trans hb0 hbc) hbn)
       exact (hbf.setCell (p := ⟨w.heap.size + 1, 0, none⟩) (Nat.le_succ _) _).setCell (p := ⟨w.heap.size + 1, 1, none⟩) (Nat.le_succ _) _
     exact AllReady.nil
    exact AllReady.nil
   exact AllReady.nil
  exact AllReady.nil
 refine AllReady.cons rfl (fun K hK => ?_) ?_
 ·go_simp
  refine hK _ _ ?_
  clear hK K
  refine wpAny_ready (rs := [1]) (by kernel_rfl) (by simp) ?_
  refine AllReady.cons rfl (fun K hK => ?_) ?_
  ·go_simp
   refine hK _ _ ?_
   clear hK K
   refine wpAny_ready (rs := [2]) (by kernel_rfl) (by simp) ?_
   refine AllReady.cons rfl (fun K hK => ?_) ?_
   ·go_simp
    go_wp2_with (first | (go_at_call 11; refine (HN.out _ (by first | exact hb0 | exact below_trans hb0 hbc)).mono ?_; rintro e wn ⟨v5, ps, rfl, hcp, hbn⟩; have HP := Lib.hid hcp; obtain ⟨x5, y5, rfl⟩ := NodesAt.lenN hcp.nodes; clear hcp; have f0n := cell_below hbn (by first | exact f0c | exact f0); have f1n := cell_below hbn (by first | exact f1c | exact f1); have r0n := cell_below hbn (by first | exact r0c | exact r0); have r1n := cell_below hbn (by first | exact r1c | exact r1); have z0n := frozen_below hbn (by first | exact ltc | exact hlt) (by first | exact z0c | exact z0); have z1n := frozen_below hbn (by first | exact ltc | exact hlt) (by first | exact z1c | exact z1); have ltn := Nat.lt_of_lt_of_le (by first | exact ltc | exact hlt) hbn.size) | (go_at_call 45; refine (HC.out _ (by first | exact hb0 | exact below_trans hb0 hbn)).mono ?_; rintro e wc ⟨v8, fs, rfl, ho, hbc, hfe⟩; have HO := Lib.hid ho; have HFe := Lib.hid hfe; obtain ⟨x8, y8, rfl⟩ := CtlsAt.lenN ho.at; clear ho hfe; have f0c := cell_below hbc (by first | exact f0n | exact f0); have f1c := cell_below hbc (by first | exact f1n | exact f1); have r0c := cell_below hbc (by first | exact r0n | exact r0); have r1c := cell_below hbc (by first | exact r1n | exact r1); have z0c := frozen_below hbc (by first | exact ltn | exact hlt) (by first | exact z0n | exact z0); have z1c := frozen_below hbc (by first | exact ltn | exact hlt) (by first | exact z1n | exact z1); have ltc := Nat.lt_of_lt_of_le (by first | exact ltn | exact hlt) hbc.size))
    refine wpAny_ready (rs := [5]) (by kernel_rfl) (by simp) ?_
    refine AllReady.cons rfl (fun K hK => ?_) ?_
    ·go_simp
     go_wp2_with (first | (go_at_call 11; refine (HN.out _ (by first | exact hb0 | exact below_trans hb0 hbc)).mono ?_; rintro e wn ⟨v5, ps, rfl, hcp, hbn⟩; have HP := Lib.hid hcp; obtain ⟨x5, y5, rfl⟩ := NodesAt.lenN hcp.nodes; clear hcp; have f0n := cell_below hbn (by first | exact f0c | exact f0); have f1n := cell_below hbn (by first | exact f1c | exact f1); have r0n := cell_below hbn (by first | exact r0c | exact r0); have r1n := cell_below hbn (by first | exact r1c | exact r1); have z0n := frozen_below hbn (by first | exact ltc | exact hlt) (by first | exact z0c | exact z0); have z1n := frozen_below hbn (by first | exact ltc | exact hlt) (by first | exact z1c | exact z1); have ltn := Nat.lt_of_lt_of_le (by first | exact ltc | exact hlt) hbn.size) | (go_at_call 45; refine (HC.out _ (by first | exact hb0 | exact below_trans hb0 hbn)).mono ?_; rintro e wc ⟨v8, fs, rfl, ho, hbc, hfe⟩; have HO := Lib.hid ho; have HFe := Lib.hid hfe; obtain ⟨x8, y8, rfl⟩ := CtlsAt.lenN ho.at; clear ho hfe; have f0c := cell_below hbc (by first | exact f0n | exact f0); have f1c := cell_below hbc (by first | exact f1n | exact f1); have r0c := cell_below hbc (by first | exact r0n | exact r0); have r1c := cell_below hbc (by first | exact r1n | exact r1); have z0c := frozen_below hbc (by first | exact ltn | exact hlt) (by first | exact z0n | exact z0); have z1c := frozen_below hbc (by first | exact ltn | exact hlt) (by first | exact z1n | exact z1); have ltc := Nat.lt_of_lt_of_le (by first | exact ltn | exact hlt) hbc.size))
     refine wpAny_take (i := 6) (v := ?_) rfl (by kernel_rfl) (by kernel_rfl) (by kernel_rfl) (fun _ _ _ h => h) (Or.inl ⟨by kernel_rfl, ?_⟩) ?_
     rotate_left
     ·intro w; go_simp; try with_reducible rfl
     change wpAny _ _ _ _ _ _ (Act.put _ (some 9) _) _
     refine wpAny_ready (rs := [7]) (by kernel_rfl) (by simp) ?_
     refine AllReady.cons rfl (fun K hK => ?_) ?_
     ·go_simp
      refine hK _ _ ?_
      clear hK K
      refine wpAny_done (by kernel_rfl) ?_ _
      (try simp only [Act.put, List.setIfInBounds_toArray, List.set_cons_zero, List.set_cons_succ])
      go_wp2_with fail
      (try simp only [Exit.inBlock, Exit.then])
      refine bodyPost_ret (v := .agg #[.slice x5 l.length y5, .slice x8 cs.length y8]) (by rw [rcell1 rfl]; go_simp) rfl ⟨_, _, rfl, ?_, ?_, ?_⟩
      ·first | exact ⟨_, _, (HP.out.setLow (by omega) _).setLow (by omega) _⟩ | exact ⟨_, _, ((HP.out.below hbc).setLow (by omega) _).setLow (by omega) _⟩
      ·have hq : ∀ j (a : j < cs.length) (c : j < fs.length), cs[j].files ≠ [] → ∀ k, fs[j].ownBlock = some k → k < w.heap.size := fun j a c hne k e => ents_low (HFe.out j a c) hne k e
       first | exact ⟨_, _, (HO.out.setLow (by omega) (Nat.le_succ _) hq _).setLow (by omega) (Nat.le_succ _) hq _, by first | exact hb0.size | exact Nat.le_trans hb0.size hbn.size⟩ | exact ⟨_, _, ((HO.out.below hbn).setLow (by omega) (Nat.le_succ _) hq _).setLow (by omega) (Nat.le_succ _) hq _, by first | exact hb0.size | exact Nat.le_trans hb0.size hbn.size⟩
      ·have hbf : Below w.heap.size w _ := (by first | exact below_trans (below_trans hb0 hbn) hbc | exact below_trans (below_trans hb0 hbc) hbn)
       exact (hbf.setCell (p := ⟨w.heap.size + 1, 0, none⟩) (Nat.le_succ _) _).setCell (p := ⟨w.heap.size + 1, 1, none⟩) (Nat.le_succ _) _
     exact AllReady.nil
    exact AllReady.nil
   exact AllReady.nil
  exact AllReady.nil
 exact AllReady.nil
end Go.Proofs.YtkhlfggnjcbniaaGreatDoor.doc
