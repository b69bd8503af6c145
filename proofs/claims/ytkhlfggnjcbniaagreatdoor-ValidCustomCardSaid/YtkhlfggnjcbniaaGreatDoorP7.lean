/- A part of the proofs: lemmas and contracts. -/
import Derived.Test.YtkhlfggnjcbniaaGreatDoorP6
set_option maxHeartbeats 12800000
set_option maxRecDepth 1000000
namespace Go.Proofs.YtkhlfggnjcbniaaGreatDoor.stp
open Go.ChangeShapes Go.WideShapes Go.ChangeAt Go.RowKit Go.Lib num mom fits atr

def uM (kind : Int) : Int := if 8 ≤ kind ∧ kind ≤ 12 then kind - 7 else 0
def uS (kind : Int) : Int := if isK kind then scaleK kind else 0
def uB (kind : Int) : Int := if isK kind then byK kind else 0
theorem kinds7 (kind : Int) : kind = 8 ∨ kind = 9 ∨ kind = 10 ∨ kind = 11 ∨ kind = 12 ∨ kind = 13 ∨ kind = 14 ∨ (¬ (8 ≤ kind ∧ kind ≤ 14)) := by omega

theorem results_cell1 {fn : Func} {p : Tmp} {ty : TypeId} (h : fn.results = #[.cell p ty]) (tmps : Array Value) (P : Program) (w : World) :
  (results fn tmps).run P w = ((asAddr (tmps.getD p undef)).run P w).andThen fun a w₁ => (loadVar ty a).run P w₁ := by
 simp only [results, h]
 simp [Sem.run_bind, Result.andThen]

theorem u_no (kind : Int) (h : ¬ (8 ≤ kind ∧ kind ≤ 14)) : isK kind = false ∧ uM kind = 0 ∧ uS kind = 0 ∧ uB kind = 0 := by
 have hi : isK kind = false := by unfold isK; rw [← Bool.not_eq_true, Bool.and_eq_true, decide_eq_true_eq, decide_eq_true_eq]; exact h
 refine ⟨hi, ?_, ?_, ?_⟩
 ·unfold uM; rw [if_neg (by omega)]
 ·unfold uS; rw [hi]; rfl
 ·unfold uB; rw [hi]; rfl

theorem units_any (kind : Int) (hk : i64 kind) (w : World) :
  Calls Tryz.prog 259 #[.int .i64 kind] w fun e w' => e = .returned (.agg #[.int .i64 (uM kind), .int .i64 (uS kind), .int .i64 (uB kind)]) ∧ Below w.heap.size w w' := by
 rcases kinds7 kind with rfl | rfl | rfl | rfl | rfl | rfl | rfl | h
 ·have HX : Hid (uM 8 = 1 ∧ uS 8 = 86400000 ∧ uB 8 = 86400000) := Lib.hid (by decide)
  rw [HX.out.1, HX.out.2.1, HX.out.2.2]
  clear HX
  go_enter Tryz.func259, Tryz.ntmps259
  go_wp2_with fail
  (try simp only [Exit.inBlock, Exit.then])
  refine bodyPost_ret (v := .agg #[.int .i64 1, .int .i64 86400000, .int .i64 86400000]) (by rw [results_cell1 rfl]; go_simp) rfl ?_
  exact ⟨rfl, (Below.refl _ _).alloc (Nat.le_refl _) _⟩
 ·have HX : Hid (uM 9 = 2 ∧ uS 9 = 1 ∧ uB 9 = 1) := Lib.hid (by decide)
  rw [HX.out.1, HX.out.2.1, HX.out.2.2]
  clear HX
  go_enter Tryz.func259, Tryz.ntmps259
  go_wp2_with fail
  (try simp only [Exit.inBlock, Exit.then])
  refine bodyPost_ret (v := .agg #[.int .i64 2, .int .i64 1, .int .i64 1]) (by rw [results_cell1 rfl]; go_simp) rfl ?_
  exact ⟨rfl, (Below.refl _ _).alloc (Nat.le_refl _) _⟩
 ·have HX : Hid (uM 10 = 3 ∧ uS 10 = 604800000 ∧ uB 10 = 604800000) := Lib.hid (by decide)
  rw [HX.out.1, HX.out.2.1, HX.out.2.2]
  clear HX
  go_enter Tryz.func259, Tryz.ntmps259
  go_wp2_with fail
  (try simp only [Exit.inBlock, Exit.then])
  refine bodyPost_ret (v := .agg #[.int .i64 3, .int .i64 604800000, .int .i64 604800000]) (by rw [results_cell1 rfl]; go_simp) rfl ?_
  exact ⟨rfl, (Below.refl _ _).alloc (Nat.le_refl _) _⟩
 ·have HX : Hid (uM 11 = 4 ∧ uS 11 = 1000 ∧ uB 11 = 60000) := Lib.hid (by decide)
  rw [HX.out.1, HX.out.2.1, HX.out.2.2]
  clear HX
  go_enter Tryz.func259, Tryz.ntmps259
  go_wp2_with fail
  (try simp only [Exit.inBlock, Exit.then])
  refine bodyPost_ret (v := .agg #[.int .i64 4, .int .i64 1000, .int .i64 60000]) (by rw [results_cell1 rfl]; go_simp) rfl ?_
  exact ⟨rfl, (Below.refl _ _).alloc (Nat.le_refl _) _⟩
 ·have HX : Hid (uM 12 = 5 ∧ uS 12 = 1000 ∧ uB 12 = 60000) := Lib.hid (by decide)
  rw [HX.out.1, HX.out.2.1, HX.out.2.2]
  clear HX
  go_enter Tryz.func259, Tryz.ntmps259
  go_wp2_with fail
  (try simp only [Exit.inBlock, Exit.then])
  refine bodyPost_ret (v := .agg #[.int .i64 5, .int .i64 1000, .int .i64 60000]) (by rw [results_cell1 rfl]; go_simp) rfl ?_
  exact ⟨rfl, (Below.refl _ _).alloc (Nat.le_refl _) _⟩
 ·have HX : Hid (uM 13 = 0 ∧ uS 13 = 1000000 ∧ uB 13 = 1000000) := Lib.hid (by decide)
  rw [HX.out.1, HX.out.2.1, HX.out.2.2]
  clear HX
  go_enter Tryz.func259, Tryz.ntmps259
  go_wp2_with fail
  (try simp only [Exit.inBlock, Exit.then])
  refine bodyPost_ret (v := .agg #[.int .i64 0, .int .i64 1000000, .int .i64 1000000]) (by rw [results_cell1 rfl]; go_simp) rfl ?_
  exact ⟨rfl, (Below.refl _ _).alloc (Nat.le_refl _) _⟩
 ·have HX : Hid (uM 14 = 0 ∧ uS 14 = 1000000 ∧ uB 14 = 1000000) := Lib.hid (by decide)
  rw [HX.out.1, HX.out.2.1, HX.out.2.2]
  clear HX
  go_enter Tryz.func259, Tryz.ntmps259
  go_wp2_with fail
  (try simp only [Exit.inBlock, Exit.then])
  refine bodyPost_ret (v := .agg #[.int .i64 0, .int .i64 1000000, .int .i64 1000000]) (by rw [results_cell1 rfl]; go_simp) rfl ?_
  exact ⟨rfl, (Below.refl _ _).alloc (Nat.le_refl _) _⟩
 ·obtain ⟨h1, h2⟩ := hk
  obtain ⟨_, e1, e2, e3⟩ := u_no kind h
  rw [e1, e2, e3]
  have t8 : (kind == 8) = false := by simp; omega
  have t9 : (kind == 9) = false := by simp; omega
  have t10 : (kind == 10) = false := by simp; omega
  have t11 : (kind == 11) = false := by simp; omega
  have t12 : (kind == 12) = false := by simp; omega
  have t13 : (kind == 13) = false := by simp; omega
  have t14 : (kind == 14) = false := by simp; omega
  clear h e1 e2 e3
  go_enter Tryz.func259, Tryz.ntmps259
  go_wp2_with fail
  (try simp only [Exit.inBlock, Exit.then])
  refine bodyPost_ret (v := .agg #[.int .i64 0, .int .i64 0, .int .i64 0]) (by rw [results_cell1 rfl]; go_simp) rfl ?_
  exact ⟨rfl, (Below.refl _ _).alloc (Nat.le_refl _) _⟩

theorem of_at (kind m s b : Int) (q : Bool) (hu : ∀ w, Calls Tryz.prog 259 #[.int .i64 kind] w fun e w' => e = .returned (.agg #[.int .i64 m, .int .i64 s, .int .i64 b]) ∧ Below w.heap.size w w')
  (he : ∀ w, (binOp .neq 150 (.agg #[.int .i64 m, .int .i64 s, .int .i64 b]) (.agg #[.int .i64 0, .int .i64 0, .int .i64 0])).run Tryz.prog w = .ok (.bool q) w) (w : World) :
  Calls Tryz.prog 181 #[.int .i64 kind] w fun e w' => e = .returned (.tuple #[.agg #[.int .i64 m, .int .i64 s, .int .i64 b], .bool q]) ∧ Below w.heap.size w w' := by
 go_enter Tryz.func181, Tryz.ntmps181
 go_wp2_with fail
 refine (hu _).mono ?_
 rintro e w1 ⟨rfl, hb⟩
 clear hu
 have hlt : w.heap.size < w1.heap.size := by have := hb.size; simp at this; omega
 have hb0 : Below w.heap.size w w1 := below_trans ((Below.refl _ _).alloc (Nat.le_refl _) _) hb
 obtain ⟨w0, hw0⟩ : ∃ w0, w0 = w.alloc (.cells #[.int .i64 0, .int .i64 0, .int .i64 0] 150) := ⟨_, rfl⟩
 have hs0 : w.heap.size < w0.heap.size := by rw [hw0]; simp
 have k0 : w0.cell? ⟨w.heap.size, 0, none⟩ = some (.int .i64 0) := by rw [hw0, World.cell?_alloc_new]; rfl
 have k1 : w0.cell? ⟨w.heap.size, 1, none⟩ = some (.int .i64 0) := by rw [hw0, World.cell?_alloc_new]; rfl
 have k2 : w0.cell? ⟨w.heap.size, 2, none⟩ = some (.int .i64 0) := by rw [hw0, World.cell?_alloc_new]; rfl
 have g0 : w0.frozen? ⟨w.heap.size, 0, none⟩ = false := by rw [hw0]; simp
 have g1 : w0.frozen? ⟨w.heap.size, 1, none⟩ = false := by rw [hw0]; simp
 have g2 : w0.frozen? ⟨w.heap.size, 2, none⟩ = false := by rw [hw0]; simp
 rw [← hw0] at hb
 have c0 := (hb.cell (p := ⟨w.heap.size, 0, none⟩) hs0).trans k0
 have c1 := (hb.cell (p := ⟨w.heap.size, 1, none⟩) hs0).trans k1
 have c2 := (hb.cell (p := ⟨w.heap.size, 2, none⟩) hs0).trans k2
 have f0 := (hb.frozen (p := ⟨w.heap.size, 0, none⟩) hs0).trans g0
 have f1 := (hb.frozen (p := ⟨w.heap.size, 1, none⟩) hs0).trans g1
 have f2 := (hb.frozen (p := ⟨w.heap.size, 2, none⟩) hs0).trans g2
 clear k0 k1 k2 g0 g1 g2 hb hw0 hs0
 go_wp2_with fail
 go_region
 all_goals
  go_wp2_with fail
  (try simp only [Exit.inBlock, Exit.then])
  refine bodyPost_ret (v := .tuple #[.agg #[.int .i64 m, .int .i64 s, .int .i64 b], .bool q]) (by rw [results_cell_tmp rfl]; go_simp) rfl ?_
  exact ⟨rfl, ((((hb0.setCell (Nat.le_refl _) _).setCell (Nat.le_refl _) _).setCell (Nat.le_refl _) _).alloc (by simp; omega) _).drew⟩

theorem of_any (kind : Int) (hk : i64 kind) (w : World) :
  Calls Tryz.prog 181 #[.int .i64 kind] w fun e w' => e = .returned (.tuple #[.agg #[.int .i64 (uM kind), .int .i64 (uS kind), .int .i64 (uB kind)], .bool (isK kind)]) ∧ Below w.heap.size w w' := by
 refine of_at kind _ _ _ _ (fun w => units_any kind hk w) (fun w => ?_) w
 rcases kinds7 kind with rfl | rfl | rfl | rfl | rfl | rfl | rfl | h
 ·kernel_rfl
 ·kernel_rfl
 ·kernel_rfl
 ·kernel_rfl
 ·kernel_rfl
 ·kernel_rfl
 ·kernel_rfl
 ·obtain ⟨e0, e1, e2, e3⟩ := u_no kind h
  rw [e0, e1, e2, e3]
  kernel_rfl
end Go.Proofs.YtkhlfggnjcbniaaGreatDoor.stp
