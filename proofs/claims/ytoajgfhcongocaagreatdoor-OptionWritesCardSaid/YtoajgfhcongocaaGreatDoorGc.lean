/- Files in memory; their copy; held against each other. A function that has one struct of ten cells in a box, and its result in another: both blocks, above what was there at first. The contracts of SameFiles, Same, at equal ones; of own. A function whose result, a struct, lies in a cell; beside it one slot, or two. The contract of own. -/
import Derived.Test.YtoajgfhcongocaaGreatDoorGa
import Derived.Test.YtoajgfhcongocaaGreatDoorGb
import Derived.WalkSpells
import Derived.RegionTactic
import Derived.ChangeAlike
import Derived.Lib.SliceRun
import Derived.Shelf.SlicesQ.IndexFunc
import Derived.WalkKit
import Derived.ProofKit
import Derived.OneCell
namespace Go.Proofs.YtoajgfhcongocaaGreatDoor.ctl
open Go.ChangeShapes Go.WideShapes Go.ChangeAt Go.RowKit Go.Lib

/-- a control's value -/
def ctlV (v : List UInt8) (d t ch dc m s ds : Bool) (cu : List UInt8) (f : Value) : Value :=
  .agg #[.string ⟨v.toArray⟩, .bool d, .bool t, .bool ch, .bool dc, .bool m, .bool s, .bool ds, .string ⟨cu.toArray⟩, f]
def encE (x : Ent) : List Value := [.string ⟨x.name.toArray⟩, .string ⟨x.value.toArray⟩, .bool x.file, .string ⟨x.fname.toArray⟩, .string ⟨x.typ.toArray⟩]
theorem encE_len (x : Ent) : (encE x).length = 5 := rfl
def EntsAt (w : World) (v : Value) (fs : List Ent) : Prop := RowAt w v fs.length (fs.flatMap encE)
/-- a slice's value -/
def IsSl (f : Value) : Prop := ∃ a n c, f = .slice a n c
theorem EntsAt.isSl {w : World} {v : Value} {fs : List Ent} (h : EntsAt w v fs) : IsSl v := by
  obtain ⟨a, c, e⟩ := RowAt.lenN h
  exact ⟨a, _, c, e⟩
theorem EntsAt.below {w w' : World} {v : Value} {fs : List Ent} (h : EntsAt w v fs) (hb : Below w.heap.size w w') : EntsAt w' v fs := RowAt.below h hb (Nat.le_refl _)
theorem EntsAt.nil (w : World) : EntsAt w (.slice none 0 0) [] := .inl ⟨rfl, rfl, _, _, rfl⟩
theorem encE_one (fs : List Ent) : ∀ u ∈ fs.flatMap encE, u.oneCell' = true := by
  intro u hu
  obtain ⟨x, _, hu⟩ := List.mem_flatMap.1 hu
  simp only [encE, List.mem_cons, List.not_mem_nil, or_false] at hu
  rcases hu with rfl | rfl | rfl | rfl | rfl <;> rfl
theorem infoE : (Tryz.prog.info? 73).map (fun i => (i.zero, i.size, i.bytes)) = some (some (.agg #[.string ⟨#[]⟩, .string ⟨#[]⟩, .bool false, .string ⟨#[]⟩, .string ⟨#[]⟩]), 5, 72) := by kernel_rfl

/-- a copy: the same files, in memory of the call's own -/
def RetRow (B : Nat) (e' : TypeId) (size n : Nat) (xs : List Value) (w : World) (e : Ending) (w' : World) : Prop := ∃ v', e = .returned v' ∧ w'.ownsRow B e' size v' n xs ∧ Below w.heap.size w w'
set_option maxHeartbeats 2000000 in
set_option maxRecDepth 100000 in
theorem clone_ents (v : Value) (n : Nat) (xs : List Value) (hx : xs.length = n * 5) (h1 : ∀ u ∈ xs, u.oneCell' = true) (hbig : n * 72 ≤ 140737488355328) (w : World) (hR : RowAt w v n xs) :
    Calls Tryz.prog 61 #[v] w (RetRow w.heap.size 73 5 n xs w) := by
  obtain ⟨i0, hi, hz0, hz1, hz2⟩ := info_parts infoE
  have q22 : ∀ (w : World) (a : Option Addr) (n c n' c' : Nat), (binOp .eql 46 (.slice a n c) (.slice none n' c')).run Tryz.prog w = .ok (.bool a.isNone) w := fun w a n c n' c' => Lib.run_eql_slice_nil w _ _ a n c n' c' Tryz.underlying46
  have key : ∀ (a : Addr) (c : Nat), n ≤ maxLen → (∀ j u, xs[j]? = some u → w.cell? (a.add j) = some u) → Calls Tryz.prog 61 #[.slice (some a) n c] w (RetRow w.heap.size 73 5 n xs w) := by
    intro a c hn hc
    have A : Aside (∀ j u, xs[j]? = some u → w.cell? (a.add j) = some u) := hc
    clear hc
    go_enter Tryz.func61, Tryz.ntmps61
    go_wp2_with (at_builtin; refine wpList_append_own _ rfl _ _ 46 rfl w.heap.size 73 i0 _ 5 72 Tryz.underlying46 hi hz0 hz1 hz2 rfl (by decide) _ _ _ rfl (World.ownsRow_made w #[] 0 (Nat.le_refl _) (Nat.zero_le _) rfl) a n c xs rfl ?qc1 ?qc2 ?qc3 ?qc4 ?qc5 ?qc6 ?_)
    case qc1 => exact hx
    case qc2 =>
      intro j u hj
      exact Lib.cell?_alloc_some _ (A.out j u hj)
    case qc3 => exact h1
    case qc4 => omega
    case qc5 => omega
    case qc6 => simp
    intro v' w1 hown hgrow hnil
    go_wp2
    go_ret
    refine ⟨v', rfl, by simpa using hown, ?_⟩
    exact ((Below.refl _ w).alloc (Nat.le_refl _) _).grown hgrow (by simp) (by intro k hk; simp [Value.ownBlock] at hk; omega)
  rcases hR with ⟨rfl, rfl, oa, cap, rfl⟩ | ⟨b, off, cap, rfl, h0, hb, hc⟩
  · cases oa with
    | none =>
      clear key
      go_enter Tryz.func61, Tryz.ntmps61
      go_wp2
      go_ret
      exact ⟨_, rfl, World.ownsRow_nil _ _ _ _, Below.refl _ _⟩
    | some a => exact key a cap (Nat.zero_le _) (fun j u hj => by simp at hj)
  · exact key ⟨b, off, none⟩ cap (by unfold maxLen; omega) (fun j u hj => by rw [Lib.add_plain]; exact hc j u hj)

/-- files that are the same -/
theorem neq_ent (x : Ent) (w : World) : (binOp .neq 73 (.agg (encE x).toArray) (.agg (encE x).toArray)).run Tryz.prog w = .ok (.bool false) w := by
  have hS : Tryz.prog.underlying 73 = some (.struct (Tryz.prog.fieldsOf 73)) := by kernel_rfl
  have hp : Tryz.prog.stoodInHeld 73 = false := by kernel_rfl
  have u9 := Tryz.underlying9
  have u4 := Tryz.underlying4
  have a9 := Tryz.isAgg9
  have a4 := Tryz.isAgg4
  have z9 := Tryz.sizeOf9
  have z4 := Tryz.sizeOf4
  rw [run_neq_struct, show (10000 : Nat) = 9999 + 1 from rfl, run_equalIn_agg w 9999 73 _ _ hS hp]
  simp only [Program.fieldsOf, Tryz.underlying73, encE]
  go_simp
end Go.Proofs.YtoajgfhcongocaaGreatDoor.ctl

namespace Go.Proofs.YtoajgfhcongocaaGreatDoor
open Go.RowKit

structure Two (w w1 : World) (cs rs : List Value) : Prop where
  low : Below w.heap.size w w1
  p : Blk w1 w.heap.size cs
  r : Blk w1 (w.heap.size + 1) rs
theorem Two.start (w : World) (cs rs : List Value) (T T' : TypeId) : Two w ((w.alloc (.cells cs.toArray T)).alloc (.cells rs.toArray T')) cs rs :=
  ⟨((Below.refl _ _).alloc (Nat.le_refl _) _).alloc (by simp) _, (Blk.fresh w cs T).alloc _, by
    have h := Blk.fresh (w.alloc (.cells cs.toArray T)) rs T'
    rw [World.size_alloc] at h
    exact h⟩
theorem Two.below {w w1 w2 : World} {cs rs : List Value} (h : Two w w1 cs rs) (hb : Below w1.heap.size w1 w2) : Two w w2 cs rs :=
  ⟨below_trans h.low hb, h.p.kept hb, h.r.kept hb⟩
theorem Two.setP {w w1 : World} {cs rs : List Value} (h : Two w w1 cs rs) (k : Nat) (v : Value) : Two w (w1.setCell ⟨w.heap.size, k, none⟩ v) (cs.set k v) rs :=
  ⟨h.low.setCell (p := ⟨w.heap.size, k, none⟩) (Nat.le_refl _) _, h.p.set k v, h.r.other _ _ (by simp)⟩
theorem Two.setR {w w1 : World} {cs rs : List Value} (h : Two w w1 cs rs) (k : Nat) (v : Value) : Two w (w1.setCell ⟨w.heap.size + 1, k, none⟩ v) cs (rs.set k v) :=
  ⟨h.low.setCell (p := ⟨w.heap.size + 1, k, none⟩) (Nat.le_succ _) _, h.p.other _ _ (by simp), h.r.set k v⟩
theorem Two.drew {w w1 : World} {cs rs : List Value} (h : Two w w1 cs rs) : Two w w1.drew cs rs := ⟨h.low.drew, h.p, h.r⟩
theorem Two.facts {w w1 : World} {a0 a1 a2 a3 a4 a5 a6 a7 a8 a9 r0 r1 r2 r3 r4 r5 r6 r7 r8 r9 : Value} (h : Two w w1 [a0, a1, a2, a3, a4, a5, a6, a7, a8, a9] [r0, r1, r2, r3, r4, r5, r6, r7, r8, r9]) :
    w1.cell? ⟨w.heap.size, 0, none⟩ = some a0 ∧ w1.cell? ⟨w.heap.size, 1, none⟩ = some a1 ∧ w1.cell? ⟨w.heap.size, 2, none⟩ = some a2 ∧ w1.cell? ⟨w.heap.size, 3, none⟩ = some a3 ∧ w1.cell? ⟨w.heap.size, 4, none⟩ = some a4 ∧ w1.cell? ⟨w.heap.size, 5, none⟩ = some a5 ∧ w1.cell? ⟨w.heap.size, 6, none⟩ = some a6 ∧ w1.cell? ⟨w.heap.size, 7, none⟩ = some a7 ∧ w1.cell? ⟨w.heap.size, 8, none⟩ = some a8 ∧ w1.cell? ⟨w.heap.size, 9, none⟩ = some a9 ∧
    w1.frozen? ⟨w.heap.size, 0, none⟩ = false ∧ w1.frozen? ⟨w.heap.size, 1, none⟩ = false ∧ w1.frozen? ⟨w.heap.size, 2, none⟩ = false ∧ w1.frozen? ⟨w.heap.size, 3, none⟩ = false ∧ w1.frozen? ⟨w.heap.size, 4, none⟩ = false ∧ w1.frozen? ⟨w.heap.size, 5, none⟩ = false ∧ w1.frozen? ⟨w.heap.size, 6, none⟩ = false ∧ w1.frozen? ⟨w.heap.size, 7, none⟩ = false ∧ w1.frozen? ⟨w.heap.size, 8, none⟩ = false ∧ w1.frozen? ⟨w.heap.size, 9, none⟩ = false ∧
    w1.cell? ⟨w.heap.size + 1, 0, none⟩ = some r0 ∧ w1.cell? ⟨w.heap.size + 1, 1, none⟩ = some r1 ∧ w1.cell? ⟨w.heap.size + 1, 2, none⟩ = some r2 ∧ w1.cell? ⟨w.heap.size + 1, 3, none⟩ = some r3 ∧ w1.cell? ⟨w.heap.size + 1, 4, none⟩ = some r4 ∧ w1.cell? ⟨w.heap.size + 1, 5, none⟩ = some r5 ∧ w1.cell? ⟨w.heap.size + 1, 6, none⟩ = some r6 ∧ w1.cell? ⟨w.heap.size + 1, 7, none⟩ = some r7 ∧ w1.cell? ⟨w.heap.size + 1, 8, none⟩ = some r8 ∧ w1.cell? ⟨w.heap.size + 1, 9, none⟩ = some r9 ∧
    w1.frozen? ⟨w.heap.size + 1, 0, none⟩ = false ∧ w1.frozen? ⟨w.heap.size + 1, 1, none⟩ = false ∧ w1.frozen? ⟨w.heap.size + 1, 2, none⟩ = false ∧ w1.frozen? ⟨w.heap.size + 1, 3, none⟩ = false ∧ w1.frozen? ⟨w.heap.size + 1, 4, none⟩ = false ∧ w1.frozen? ⟨w.heap.size + 1, 5, none⟩ = false ∧ w1.frozen? ⟨w.heap.size + 1, 6, none⟩ = false ∧ w1.frozen? ⟨w.heap.size + 1, 7, none⟩ = false ∧ w1.frozen? ⟨w.heap.size + 1, 8, none⟩ = false ∧ w1.frozen? ⟨w.heap.size + 1, 9, none⟩ = false :=
  ⟨h.p.cell 0, h.p.cell 1, h.p.cell 2, h.p.cell 3, h.p.cell 4, h.p.cell 5, h.p.cell 6, h.p.cell 7, h.p.cell 8, h.p.cell 9, h.p.frozen 0, h.p.frozen 1, h.p.frozen 2, h.p.frozen 3, h.p.frozen 4, h.p.frozen 5, h.p.frozen 6, h.p.frozen 7, h.p.frozen 8, h.p.frozen 9, h.r.cell 0, h.r.cell 1, h.r.cell 2, h.r.cell 3, h.r.cell 4, h.r.cell 5, h.r.cell 6, h.r.cell 7, h.r.cell 8, h.r.cell 9, h.r.frozen 0, h.r.frozen 1, h.r.frozen 2, h.r.frozen 3, h.r.frozen 4, h.r.frozen 5, h.r.frozen 6, h.r.frozen 7, h.r.frozen 8, h.r.frozen 9⟩
end Go.Proofs.YtoajgfhcongocaaGreatDoor

namespace Go.Proofs.YtoajgfhcongocaaGreatDoor.ctl
open Go.ChangeShapes Go.WideShapes Go.ChangeAt Go.RowKit Go.Lib

set_option maxHeartbeats 3200000 in
set_option maxRecDepth 100000 in
theorem samefiles_any (va vb : Value) (fs : List Ent) (hn : fs.length ≤ 10000000000000) (w : World) (hA : EntsAt w va fs) (hB : EntsAt w vb fs) :
    Calls Tryz.prog 65 #[va, vb] w fun e w' => e = .returned (.bool true) ∧ Below w.heap.size w w' := by
  have he := fun x w => neq_ent x w
  rcases hA with ⟨h0, hx, oa, ca, rfl⟩ | ⟨ba, oa, ca, rfl, h0, hba, hca⟩
  · rcases hB with ⟨_, _, ob, cb, rfl⟩ | ⟨bb, ob, cb, rfl, h1, _⟩
    · clear he
      have e0 : fs.length = 0 := h0
      rw [e0] at *
      clear hx h0 e0
      go_enter Tryz.func65, Tryz.ntmps65
      go_wp2_with fail
      go_loopw [5] (fun s5 wr => s5 = .int .i64 0 ∧ w = wr) (fun _ _ => 0)
      case atStart => exact ⟨rfl, rfl⟩
      case round =>
        obtain ⟨rfl, rfl⟩ := hrel
        go_wp2_with fail
        go_ret
        exact ⟨rfl, Below.refl _ _⟩
    · omega
  · rcases hB with ⟨h1, _⟩ | ⟨bb, ob, cb, rfl, h1, hbb, hcb⟩
    · omega
    · have ha : ∀ k (hk : k < fs.length) i, i < 5 → w.cell? ⟨ba, oa + k * 5 + i, none⟩ = (encE fs[k])[i]? := by
        intro k hk i hi
        have := flat_at encE 5 encE_len fs k hk i hi
        have h5 : i < (encE fs[k]).length := hi
        rw [List.getElem?_eq_getElem h5] at this ⊢
        rw [Nat.add_assoc]
        exact hca _ _ this
      have hb : ∀ k (hk : k < fs.length) i, i < 5 → w.cell? ⟨bb, ob + k * 5 + i, none⟩ = (encE fs[k])[i]? := by
        intro k hk i hi
        have := flat_at encE 5 encE_len fs k hk i hi
        have h5 : i < (encE fs[k]).length := hi
        rw [List.getElem?_eq_getElem h5] at this ⊢
        rw [Nat.add_assoc]
        exact hcb _ _ this
      have HA := Lib.hid ha
      have HB := Lib.hid hb
      have HE := Lib.hid he
      clear hca hcb ha hb he
      go_enter Tryz.func65, Tryz.ntmps65
      go_wp2_with fail
      go_loopw [5] (fun s5 wr => ∃ k : Nat, s5 = .int .i64 k ∧ k ≤ fs.length ∧ Below w.heap.size w wr) (fun s5 _ => (10000000000001 - RowKit.intOf s5).toNat)
      case atStart => exact ⟨0, rfl, by omega, Below.refl _ _⟩
      case round =>
        obtain ⟨k, rfl, hk, hbw⟩ := hrel
        by_cases hlt : k < fs.length
        · have ga : ∀ i, i < 5 → wr.cell? ⟨ba, oa + k * 5 + i, none⟩ = (encE fs[k])[i]? := fun i hi => (hbw.cell (p := ⟨ba, oa + k * 5 + i, none⟩) hba).trans (HA.out k hlt i hi)
          have gb : ∀ i, i < 5 → wr.cell? ⟨bb, ob + k * 5 + i, none⟩ = (encE fs[k])[i]? := fun i hi => (hbw.cell (p := ⟨bb, ob + k * 5 + i, none⟩) hbb).trans (HB.out k hlt i hi)
          have a0 := ga 0 (by decide)
          have a1 := ga 1 (by decide)
          have a2 := ga 2 (by decide)
          have a3 := ga 3 (by decide)
          have a4 := ga 4 (by decide)
          have b0 := gb 0 (by decide)
          have b1 := gb 1 (by decide)
          have b2 := gb 2 (by decide)
          have b3 := gb 3 (by decide)
          have b4 := gb 4 (by decide)
          clear ga gb
          have hex := HE.out fs[k]
          generalize fs[k] = x at *
          obtain ⟨n, v, f, fn, t⟩ := x
          dsimp only [encE, List.getElem?_cons_zero, List.getElem?_cons_succ, Nat.add_zero] at a0 a1 a2 a3 a4 b0 b1 b2 b3 b4 hex
          go_wp2_with fail
          go_region
          all_goals
            go_wp2_with fail
            go_roundw
            case rel => exact ⟨k + 1, rfl, by omega, by first | exact hbw.drew | exact hbw⟩
            case measure => simp [RowKit.intOf]; omega
        · go_wp2_with fail
          go_ret
          exact ⟨rfl, hbw⟩

set_option maxHeartbeats 3200000 in
set_option maxRecDepth 100000 in
theorem same_any (v : List UInt8) (d t ch dc m s ds : Bool) (cu : List UInt8) (fa fb : Value) (fs : List Ent) (hn : fs.length ≤ 10000000000000) (w : World) (hA : EntsAt w fa fs) (hB : EntsAt w fb fs) :
    Calls Tryz.prog 46 #[ctlV v d t ch dc m s ds cu fa, ctlV v d t ch dc m s ds cu fb] w fun e w' => e = .returned (.bool true) ∧ Below w.heap.size w w' := by
  have hF := fun w a b => samefiles_any fa fb fs hn w a b
  unfold ctlV
  have h0 := Two.start w [.string ⟨v.toArray⟩, .bool d, .bool t, .bool ch, .bool dc, .bool m, .bool s, .bool ds, .string ⟨cu.toArray⟩, fa] [.string ⟨v.toArray⟩, .bool d, .bool t, .bool ch, .bool dc, .bool m, .bool s, .bool ds, .string ⟨cu.toArray⟩, fb] 48 48
  go_enter Tryz.func46, Tryz.ntmps46
  go_wp2_with fail
  refine (hF _ (hA.below h0.low) (hB.below h0.low)).mono ?_
  rintro e w1 ⟨rfl, hb⟩
  go_wp2_with fail
  go_ret
  exact ⟨rfl, below_trans h0.low hb⟩

end Go.Proofs.YtoajgfhcongocaaGreatDoor.ctl

namespace Go.Proofs.YtoajgfhcongocaaGreatDoor
open Go.RowKit
theorem rcell1 {fn : Func} {p : Tmp} {ty : TypeId} (h : fn.results = #[.cell p ty]) (tmps : Array Value) (P : Program) (w : World) :
    (results fn tmps).run P w = ((asAddr (tmps.getD p undef)).run P w).andThen fun a w₁ => (loadVar ty a).run P w₁ := by
  simp only [results, h]
  simp [Sem.run_bind, Result.andThen]
theorem rcell2 {fn : Func} {p q : Tmp} {ty : TypeId} (h : fn.results = #[.cell p ty, .tmp q]) (tmps : Array Value) (P : Program) (w : World) :
    (results fn tmps).run P w = ((asAddr (tmps.getD p undef)).run P w).andThen fun a w₁ => ((loadVar ty a).run P w₁).andThen fun v w₂ => .ok (.tuple #[v, tmps.getD q undef]) w₂ := by
  simp only [results, h]
  simp [Sem.run_bind, Result.andThen]
theorem rcell3 {fn : Func} {p q r : Tmp} {ty : TypeId} (h : fn.results = #[.cell p ty, .tmp q, .tmp r]) (tmps : Array Value) (P : Program) (w : World) :
    (results fn tmps).run P w = ((asAddr (tmps.getD p undef)).run P w).andThen fun a w₁ => ((loadVar ty a).run P w₁).andThen fun v w₂ => .ok (.tuple #[v, tmps.getD q undef, tmps.getD r undef]) w₂ := by
  simp only [results, h]
  simp [Sem.run_bind, Result.andThen]
end Go.Proofs.YtoajgfhcongocaaGreatDoor

namespace Go.Proofs.YtoajgfhcongocaaGreatDoor.ctl
open Go.ChangeShapes Go.WideShapes Go.ChangeAt Go.RowKit Go.Lib

def FreshV (B : Nat) (f : Value) : Prop := ∀ k, f.ownBlock = some k → B ≤ k
/-- a copy of a state: its files copied -/
def RetOwn (v : List UInt8) (d t ch dc m s ds : Bool) (cu : List UInt8) (fs : List Ent) (w : World) (e : Ending) (w' : World) : Prop :=
  ∃ oa n cap, e = .returned (ctlV v d t ch dc m s ds cu (.slice oa n cap)) ∧ EntsAt w' (.slice oa n cap) fs ∧ FreshV w.heap.size (.slice oa n cap) ∧ Below w.heap.size w w'
theorem EntsAt.of_owns {w : World} {B : Nat} {v : Value} {fs : List Ent} (h : w.ownsRow B 73 5 v fs.length (fs.flatMap encE)) : EntsAt w v fs := RowAt.of_owns h

theorem RowAt.setCell {w : World} {v : Value} {n : Nat} {xs : List Value} (h : RowAt w v n xs) (a : Addr) (u : Value) (hne : v.ownBlock ≠ some a.block) : RowAt (w.setCell a u) v n xs := by
  rcases h with h | ⟨b, off, cap, rfl, h0, h2, h3⟩
  · exact .inl h
  · refine .inr ⟨b, off, cap, rfl, h0, by simpa using h2, fun j x hj => ?_⟩
    have hb : b ≠ a.block := fun e => hne (by rw [← e]; rfl)
    rw [World.cell?_setCell_other _ _ _ _ (fun e => hb (by rw [e]))]
    exact h3 j x hj
/-- the two blocks, and the files of a copy that lies behind them -/
structure TwoF (w w1 : World) (cs rs : List Value) (f : Value) (fs : List Ent) : Prop where
  two : Two w w1 cs rs
  ents : EntsAt w1 f fs
  fresh : FreshV (w.heap.size + 2) f
theorem TwoF.low {w w1 : World} {cs rs : List Value} {f : Value} {fs : List Ent} (h : TwoF w w1 cs rs f fs) : Below w.heap.size w w1 := h.two.low
theorem TwoF.below {w w1 w2 : World} {cs rs : List Value} {f : Value} {fs : List Ent} (h : TwoF w w1 cs rs f fs) (hb : Below w1.heap.size w1 w2) : TwoF w w2 cs rs f fs := ⟨h.two.below hb, h.ents.below hb, h.fresh⟩
theorem TwoF.setP {w w1 : World} {cs rs : List Value} {f : Value} {fs : List Ent} (h : TwoF w w1 cs rs f fs) (k : Nat) (v : Value) : TwoF w (w1.setCell ⟨w.heap.size, k, none⟩ v) (cs.set k v) rs f fs :=
  ⟨h.two.setP k v, RowAt.setCell h.ents _ _ (fun e => by have := h.fresh _ e; simp at this; omega), h.fresh⟩
theorem TwoF.setR {w w1 : World} {cs rs : List Value} {f : Value} {fs : List Ent} (h : TwoF w w1 cs rs f fs) (k : Nat) (v : Value) : TwoF w (w1.setCell ⟨w.heap.size + 1, k, none⟩ v) cs (rs.set k v) f fs :=
  ⟨h.two.setR k v, RowAt.setCell h.ents _ _ (fun e => by have := h.fresh _ e; simp at this), h.fresh⟩

/-- a state handed back; beside it a flag and a number -/
def cV (c : Ctl) (f : Value) : Value := ctlV c.value c.dirty c.typed c.checked c.dchecked c.mixed c.selected c.dselected c.custom f
def RetC (c : Ctl) (w : World) (e : Ending) (w' : World) : Prop := ∃ f, e = .returned (cV c f) ∧ EntsAt w' f c.files ∧ Below w.heap.size w w'
def RetCE (c : Ctl) (er : Int) (w : World) (e : Ending) (w' : World) : Prop := ∃ f, e = .returned (.tuple #[cV c f, .int .i64 er]) ∧ EntsAt w' f c.files ∧ Below w.heap.size w w'
def RetCB (c : Ctl) (b : Bool) (er : Int) (w : World) (e : Ending) (w' : World) : Prop := ∃ f, e = .returned (.tuple #[cV c f, .bool b, .int .i64 er]) ∧ EntsAt w' f c.files ∧ Below w.heap.size w w'
def RetCS (c : Ctl) (s : List UInt8) (b : Bool) (w : World) (e : Ending) (w' : World) : Prop := ∃ f, e = .returned (.tuple #[cV c f, .string ⟨s.toArray⟩, .bool b]) ∧ EntsAt w' f c.files ∧ Below w.heap.size w w'
theorem FreshV.nil (B : Nat) : FreshV B (.slice none 0 0) := fun k e => by cases e
theorem FreshV.two {B : Nat} {f : Value} (h : FreshV (B + 2) f) : FreshV B f := fun k e => by have := h k e; omega
def RetCW (c : Ctl) (b : Bool) (er : Int) (w : World) (e : Ending) (w' : World) : Prop := ∃ f, e = .returned (.tuple #[cV c f, .bool b, .int .i64 er]) ∧ EntsAt w' f c.files ∧ FreshV w.heap.size f ∧ Below w.heap.size w w'
def zeroC : Ctl := ⟨[], false, false, false, false, false, false, false, [], []⟩
end Go.Proofs.YtoajgfhcongocaaGreatDoor.ctl
