/- Files in memory; their copy; held against each other. -/
import Derived.ChangeAlike
import Derived.Deep.MidRow
import Derived.Laws.BytesArg
import Derived.Laws.IdiomStrings
import Derived.Laws.OwnMore
import Derived.Lib.Hide
import Derived.Lib.ItoaMem
import Derived.Lib.SliceRun
import Derived.ProofKit
import Derived.RegionTactic
import Derived.Shelf.SlicesQ.IndexFunc
import Derived.WalkKit
import Derived.WalkSmall
import Derived.WalkSpells
import Derived.Test.YtkhgfngppcemlaaGreatDoorRows
import Derived.Test.YtkhgfngppcemlaaGreatDoorP1
import Derived.Test.YtkhgfngppcemlaaGreatDoorP6
import Derived.Test.YtkhgfngppcemlaaGreatDoorP8
import Derived.Test.YtkhgfngppcemlaaGreatDoorP11
namespace Go.Proofs.YtkhgfngppcemlaaGreatDoor.ctl
open Go.ChangeShapes Go.WideShapes Go.ChangeAt Go.RowKit Go.Lib

/-- a control's value -/
def ctlV (v : List UInt8) (d t ch dc m s ds : Bool) (cu : List UInt8) (f : Value) : Value :=
  .agg #[.string ⟨v.toArray⟩, .bool d, .bool t, .bool ch, .bool dc, .bool m, .bool s, .bool ds, .string ⟨cu.toArray⟩, f]
def encE (x : Ent) : List Value := [.string ⟨x.name.toArray⟩, .string ⟨x.value.toArray⟩, .bool x.file, .string ⟨x.fname.toArray⟩, .string ⟨x.typ.toArray⟩]
theorem encE_len (x : Ent) : (encE x).length = 5 := rfl
def EntsAt (w : World) (v : Value) (fs : List Ent) : Prop := RowAt w v fs.length (fs.flatMap encE)
/-- a slice's value -/
def IsSl (f : Value) : Prop := ∃ a n c, f = .slice a n c
theorem EntsAt.isSl {w : World} {v : Value} {fs : List Ent} (h : EntsAt w v fs) : IsSl v := by
  obtain ⟨a, c, e⟩ := RowAt.lenN h
  exact ⟨a, _, c, e⟩
theorem EntsAt.below {w w' : World} {v : Value} {fs : List Ent} (h : EntsAt w v fs) (hb : Below w.heap.size w w') : EntsAt w' v fs := RowAt.below h hb (Nat.le_refl _)
theorem EntsAt.nil (w : World) : EntsAt w (.slice none 0 0) [] := .inl ⟨rfl, rfl, _, _, rfl⟩
theorem encE_one (fs : List Ent) : ∀ u ∈ fs.flatMap encE, u.oneCell' = true := by
  intro u hu
  obtain ⟨x, _, hu⟩ := List.mem_flatMap.1 hu
  simp only [encE, List.mem_cons, List.not_mem_nil, or_false] at hu
  rcases hu with rfl | rfl | rfl | rfl | rfl <;> rfl
theorem infoE : (Tryz.prog.info? 52).map (fun i => (i.zero, i.size, i.bytes)) = some (some (.agg #[.string ⟨#[]⟩, .string ⟨#[]⟩, .bool false, .string ⟨#[]⟩, .string ⟨#[]⟩]), 5, 72) := by kernel_rfl

/-- a copy: the same files, in memory of the call's own -/
def RetRow (B : Nat) (e' : TypeId) (size n : Nat) (xs : List Value) (w : World) (e : Ending) (w' : World) : Prop := ∃ v', e = .returned v' ∧ w'.ownsRow B e' size v' n xs ∧ Below w.heap.size w w'
set_option maxHeartbeats 2000000 in
set_option maxRecDepth 100000 in
theorem clone_ents (v : Value) (n : Nat) (xs : List Value) (hx : xs.length = n * 5) (h1 : ∀ u ∈ xs, u.oneCell' = true) (hbig : n * 72 ≤ 140737488355328) (w : World) (hR : RowAt w v n xs) :
    Calls Tryz.prog 101 #[v] w (RetRow w.heap.size 52 5 n xs w) := by
  obtain ⟨i0, hi, hz0, hz1, hz2⟩ := info_parts infoE
  have q22 : ∀ (w : World) (a : Option Addr) (n c n' c' : Nat), (binOp .eql 53 (.slice a n c) (.slice none n' c')).run Tryz.prog w = .ok (.bool a.isNone) w := fun w a n c n' c' => Lib.run_eql_slice_nil w _ _ a n c n' c' Tryz.underlying53
  have key : ∀ (a : Addr) (c : Nat), n ≤ maxLen → (∀ j u, xs[j]? = some u → w.cell? (a.add j) = some u) → Calls Tryz.prog 101 #[.slice (some a) n c] w (RetRow w.heap.size 52 5 n xs w) := by
    intro a c hn hc
    have A : Aside (∀ j u, xs[j]? = some u → w.cell? (a.add j) = some u) := hc
    clear hc
    go_enter Tryz.func101, Tryz.ntmps101
    go_wp2_with (at_builtin; refine wpList_append_own _ rfl _ _ 53 rfl w.heap.size 52 i0 _ 5 72 Tryz.underlying53 hi hz0 hz1 hz2 rfl (by decide) _ _ _ rfl (World.ownsRow_made w #[] 0 (Nat.le_refl _) (Nat.zero_le _) rfl) a n c xs rfl ?qc1 ?qc2 ?qc3 ?qc4 ?qc5 ?qc6 ?_)
    case qc1 => exact hx
    case qc2 =>
      intro j u hj
      exact Lib.cell?_alloc_some _ (A.out j u hj)
    case qc3 => exact h1
    case qc4 => omega
    case qc5 => omega
    case qc6 => simp
    intro v' w1 hown hgrow hnil
    go_wp2
    go_ret
    refine ⟨v', rfl, by simpa using hown, ?_⟩
    exact ((Below.refl _ w).alloc (Nat.le_refl _) _).grown hgrow (by simp) (by intro k hk; simp [Value.ownBlock] at hk; omega)
  rcases hR with ⟨rfl, rfl, oa, cap, rfl⟩ | ⟨b, off, cap, rfl, h0, hb, hc⟩
  · cases oa with
    | none =>
      clear key
      go_enter Tryz.func101, Tryz.ntmps101
      go_wp2
      go_ret
      exact ⟨_, rfl, World.ownsRow_nil _ _ _ _, Below.refl _ _⟩
    | some a => exact key a cap (Nat.zero_le _) (fun j u hj => by simp at hj)
  · exact key ⟨b, off, none⟩ cap (by unfold maxLen; omega) (fun j u hj => by rw [Lib.add_plain]; exact hc j u hj)

end Go.Proofs.YtkhgfngppcemlaaGreatDoor.ctl
