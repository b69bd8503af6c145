/- What the engine's world holds, and what a step of it may change. -/
import Derived.BigQuiet
import Derived.ChangeAlike
import Derived.Deep.AppendLies
import Derived.Deep.CutBlock
import Derived.Deep.DeepCutAuto
import Derived.Deep.MidRow
import Derived.Deep.RegionHeld
import Derived.Deep.RegionHeld3
import Derived.Deep.RegionLaw
import Derived.Deep.RegionLawGrows
import Derived.Deep.SlicePairs
import Derived.Deep.Slices
import Derived.Laws.BytesArg
import Derived.Laws.IdiomStrings
import Derived.Laws.OwnMore
import Derived.Laws.Rows
import Derived.Lib.Hide
import Derived.Lib.IndexBytes
import Derived.Lib.IndexMore
import Derived.Lib.ItoaMem
import Derived.Lib.ItoaNum
import Derived.Lib.OwnKind
import Derived.Lib.Replace
import Derived.Lib.SlTrimSet
import Derived.Lib.SliceRun
import Derived.Lib.Strings
import Derived.OneCell
import Derived.OpenShut
import Derived.ProofKit
import Derived.RangeFuncBox
import Derived.RegionTactic
import Derived.Shelf.SlicesQ.IndexFunc
import Derived.WalkKit
import Derived.WalkSmall
import Derived.WalkSpells
import Derived.WideKeyArgs
import Derived.Test.YtkhgfngppcemlaaGreatDoorRows
import Derived.Test.YtkhgfngppcemlaaGreatDoorShelf
import Derived.Test.YtkhgfngppcemlaaGreatDoorP0
import Derived.Test.YtkhgfngppcemlaaGreatDoorP1
import Derived.Test.YtkhgfngppcemlaaGreatDoorP3
import Derived.Test.YtkhgfngppcemlaaGreatDoorP6
import Derived.Test.YtkhgfngppcemlaaGreatDoorP7
import Derived.Test.YtkhgfngppcemlaaGreatDoorP8
import Derived.Test.YtkhgfngppcemlaaGreatDoorP9
import Derived.Test.YtkhgfngppcemlaaGreatDoorP10
import Derived.Test.YtkhgfngppcemlaaGreatDoorP11
import Derived.Test.YtkhgfngppcemlaaGreatDoorP12
import Derived.Test.YtkhgfngppcemlaaGreatDoorP13
import Derived.Test.YtkhgfngppcemlaaGreatDoorP14
import Derived.Test.YtkhgfngppcemlaaGreatDoorP15
import Derived.Test.YtkhgfngppcemlaaGreatDoorP16
import Derived.Test.YtkhgfngppcemlaaGreatDoorP17
import Derived.Test.YtkhgfngppcemlaaGreatDoorP18
import Derived.Test.YtkhgfngppcemlaaGreatDoorP19
import Derived.Test.YtkhgfngppcemlaaGreatDoorP20
import Derived.Test.YtkhgfngppcemlaaGreatDoorP21
import Derived.Test.YtkhgfngppcemlaaGreatDoorP22
import Derived.Test.YtkhgfngppcemlaaGreatDoorP23
namespace Go.Proofs.YtkhgfngppcemlaaGreatDoor.scr
open Go Go.RowKit Go.ChangeShapes Go.WideShapes Go.ChangeAt Go.Lib Go.Proofs.YtkhgfngppcemlaaGreatDoor.doc Go.Proofs.YtkhgfngppcemlaaGreatDoor.atr Go.Proofs.YtkhgfngppcemlaaGreatDoor.ctl

def nilP : Value × Value := (.slice none 0 0, .slice none 0 0)
def ndH : Nd := ⟨[104, 116, 109, 108], [], [], -1, []⟩
def ndF : Nd := ⟨[102, 111, 114, 109], [], [], -1, []⟩
def ctl0 : Ctl := ⟨[], false, false, false, false, false, false, false, [], []⟩
/-- the engine's world at block e -/
structure EngAt (w : World) (H e : Nat) (l : List Nd) (ps : List (Value × Value)) (cs : List Ctl) (fs : List Value) (vn vc : Value) : Prop where
  blk : ∃ x0 x1 x2 x5 x6 x7 x8 x9 x10 x11, w.heap[e]? = some (.cells #[x0, x1, x2, vn, vc, x5, x6, x7, x8, x9, x10, x11] 92 (0, 0))
  low : H ≤ e
  nodes : CpR w H vn l ps
  ctls : OwnC w H vc cs fs
/-- what a step may change: nothing below H; of what is above, the engine's world and the rows of controls alone -/
structure Eff (H : Nat) (w w' : World) : Prop where
  low : Below H w w'
  keep : ∀ (i : Nat) (c : Array Value) (t : TypeId) (fz : Nat × Nat), w.heap[i]? = some (.cells c t fz) → t ≠ 92 → t ≠ 105 → w'.heap[i]? = some (.cells c t fz)
theorem Eff.refl (H : Nat) (w : World) : Eff H w w := ⟨Below.refl _ _, fun _ _ _ _ h _ _ => h⟩
theorem Eff.trans {H : Nat} {a b c : World} (h : Eff H a b) (k : Eff H b c) : Eff H a c := ⟨h.low.trans k.low, fun i x t fz e h1 h2 => k.keep i x t fz (h.keep i x t fz e h1 h2) h1 h2⟩
theorem lt_of_blk {w : World} {i : Nat} {o : Obj} (h : w.heap[i]? = some o) : i < w.heap.size := (Array.getElem?_eq_some_iff.1 h).1
theorem Eff.of {H : Nat} {w w' : World} (h : Below w.heap.size w w') (hH : H ≤ w.heap.size) : Eff H w w' :=
  ⟨h.mono hH, fun i _ _ _ e _ _ => (h.block i (lt_of_blk e)).trans e⟩
theorem Eff.step {H : Nat} {w w' w2 : World} (h : Eff H w w') (k : Below w'.heap.size w' w2) (hH : H ≤ w.heap.size) : Eff H w w2 := h.trans (Eff.of k (Nat.le_trans hH h.low.size))
theorem heap_setCell_ne {w : World} {e o i : Nat} {v : Value} (h : i ≠ e) : (w.setCell ⟨e, o, none⟩ v).heap[i]? = w.heap[i]? := Below.heap_setCell w ⟨e, o, none⟩ v i h
theorem Eff.set {H : Nat} {w w' : World} (h : Eff H w w') {e o : Nat} {c : Array Value} {fz : Nat × Nat} (he : w'.heap[e]? = some (.cells c 92 fz)) (hH : H ≤ e) (v : Value) : Eff H w (w'.setCell ⟨e, o, none⟩ v) :=
  h.trans ⟨(Below.refl _ _).setCell (p := ⟨e, o, none⟩) hH v, fun i x t fz' e1 h1 _ => by
    refine (heap_setCell_ne (fun e2 => ?_)).trans e1
    subst e2
    rw [he] at e1
    cases e1
    exact h1 rfl⟩
theorem Eff.grown {H : Nat} {w w' w2 : World} {g : Option Nat} (h : Eff H w w') (k : w'.grownBy w2 g) (hH : H ≤ w'.heap.size) (hg : ∀ b, g = some b → H ≤ b ∧ ∃ c fz, w'.heap[b]? = some (.cells c 105 fz)) : Eff H w w2 :=
  h.trans ⟨(Below.refl _ _).grown k hH (fun b e => (hg b e).1), fun i x t fz' e1 _ h2 => by
    refine (k.block i (lt_of_blk e1) (fun e2 => ?_)).trans e1
    obtain ⟨_, c, fz, e3⟩ := hg i e2.symm
    rw [e3] at e1
    cases e1
    exact h2 rfl⟩
theorem EngAt.eff {H e : Nat} {w w' : World} {l : List Nd} {ps : List (Value × Value)} {cs : List Ctl} {fs : List Value} {vn vc : Value} (h : EngAt w H e l ps cs fs vn vc) (hb : Below w.heap.size w w') : EngAt w' H e l ps cs fs vn vc := by
  obtain ⟨x0, x1, x2, x5, x6, x7, x8, x9, x10, x11, hx⟩ := h.blk
  exact ⟨⟨x0, x1, x2, x5, x6, x7, x8, x9, x10, x11, (hb.block e (lt_of_blk hx)).trans hx⟩, h.low, h.nodes.below hb, h.ctls.below hb⟩
theorem eng_cell {w : World} {e : Nat} {cs : Array Value} {t : TypeId} {fz : Nat × Nat} (h : w.heap[e]? = some (.cells cs t fz)) (i : Nat) : w.cell? ⟨e, i, none⟩ = cs[i]? := by
  simp [World.cell?, h]
theorem eng_froz {w : World} {e : Nat} {cs : Array Value} {t : TypeId} (h : w.heap[e]? = some (.cells cs t (0, 0))) (i : Nat) : w.frozen? ⟨e, i, none⟩ = false := by
  simp [World.frozen?, h]
theorem EngAt.c3 {w : World} {H e : Nat} {l : List Nd} {ps : List (Value × Value)} {cs : List Ctl} {fs : List Value} {vn vc : Value} (h : EngAt w H e l ps cs fs vn vc) : w.cell? ⟨e, 3, none⟩ = some vn := by
  obtain ⟨x0, x1, x2, x5, x6, x7, x8, x9, x10, x11, hx⟩ := h.blk
  exact eng_cell hx 3
theorem EngAt.c4 {w : World} {H e : Nat} {l : List Nd} {ps : List (Value × Value)} {cs : List Ctl} {fs : List Value} {vn vc : Value} (h : EngAt w H e l ps cs fs vn vc) : w.cell? ⟨e, 4, none⟩ = some vc := by
  obtain ⟨x0, x1, x2, x5, x6, x7, x8, x9, x10, x11, hx⟩ := h.blk
  exact eng_cell hx 4
theorem EngAt.z {w : World} {H e : Nat} {l : List Nd} {ps : List (Value × Value)} {cs : List Ctl} {fs : List Value} {vn vc : Value} (h : EngAt w H e l ps cs fs vn vc) (i : Nat) : w.frozen? ⟨e, i, none⟩ = false := by
  obtain ⟨x0, x1, x2, x5, x6, x7, x8, x9, x10, x11, hx⟩ := h.blk
  exact eng_froz hx i
end Go.Proofs.YtkhgfngppcemlaaGreatDoor.scr
namespace Go.Proofs.YtkhgfngppcemlaaGreatDoor.doc
open Go Go.RowKit Go.ChangeShapes Go.WideShapes Go.ChangeAt Go.Lib Go.Proofs.YtkhgfngppcemlaaGreatDoor.atr Go.Proofs.YtkhgfngppcemlaaGreatDoor.ctl
/-- a row whose elements are of another type than a block's stands when that block changes -/
theorem own_other {w w' : World} {B g : Nat} {e T : TypeId} {size n : Nat} {v : Value} {xs : List Value} {c : Array Value} {fz : Nat × Nat} (h : w.ownsRow B e size v n xs) (hg : w.heap[g]? = some (.cells c T fz)) (he : e ≠ T) (k : w.grownBy w' (some g)) : w'.ownsRow B e size v n xs :=
  h.kept k (.inr (fun e1 => by
    obtain ⟨c2, fz2, h2⟩ := Go.Lib.ownsRow_kind h g e1
    rw [hg] at h2
    cases h2
    exact he rfl))
theorem CpR.other {w w' : World} {B g : Nat} {T : TypeId} {v : Value} {l : List Nd} {ps : List (Value × Value)} {c : Array Value} {fz : Nat × Nat} (h : CpR w B v l ps) (hg : w.heap[g]? = some (.cells c T fz)) (h1 : 84 ≠ T) (h2 : 130 ≠ T) (h3 : 3 ≠ T) (k : w.grownBy w' (some g)) : CpR w' B v l ps :=
  ⟨h.len, own_other h.row hg h1 k, fun j a b => own_other (h.attrs j a b) hg h2 k, fun j a b => own_other (h.kids j a b) hg h3 k⟩
theorem ents_any {w w' : World} {f : Value} (h : EntsAt w f []) : EntsAt w' f [] := by
  rcases h with ⟨_, _, oa, cap, rfl⟩ | ⟨_, _, _, _, h0, _⟩
  · exact .inl ⟨rfl, rfl, oa, cap, rfl⟩
  · exact absurd h0 (by decide)
theorem OwnC.other {w w' : World} {B g : Nat} {T : TypeId} {v : Value} {cs : List Ctl} {fs : List Value} {c : Array Value} {fz : Nat × Nat} (h : OwnC w B v cs fs) (hf : ∀ x ∈ cs, x.files = []) (hg : w.heap[g]? = some (.cells c T fz)) (h1 : 105 ≠ T) (k : w.grownBy w' (some g)) : OwnC w' B v cs fs :=
  ⟨h.len, own_other h.row hg h1 k, fun j a b => by
    have := h.files j a b
    rw [hf _ (List.getElem_mem a)] at this ⊢
    exact ents_any this, h.apart⟩
end Go.Proofs.YtkhgfngppcemlaaGreatDoor.doc
namespace Go.Proofs.YtkhgfngppcemlaaGreatDoor.scr
open Go Go.RowKit Go.ChangeShapes Go.WideShapes Go.ChangeAt Go.Lib Go.Proofs.YtkhgfngppcemlaaGreatDoor.doc Go.Proofs.YtkhgfngppcemlaaGreatDoor.atr Go.Proofs.YtkhgfngppcemlaaGreatDoor.ctl
theorem set_grown (w : World) (b o : Nat) (v : Value) : w.grownBy (w.setCell ⟨b, o, none⟩ v) (some b) := grownBy_set w b o v
/-- a block of another type changes: the engine's world stands -/
theorem EngAt.other {w w' : World} {H e g : Nat} {T : TypeId} {l : List Nd} {ps : List (Value × Value)} {cs : List Ctl} {fs : List Value} {vn vc : Value} {c : Array Value} {fz : Nat × Nat} (h : EngAt w H e l ps cs fs vn vc) (hf : ∀ x ∈ cs, x.files = []) (hg : w.heap[g]? = some (.cells c T fz))
    (h1 : 84 ≠ T) (h2 : 130 ≠ T) (h3 : 3 ≠ T) (h4 : 105 ≠ T) (h5 : 92 ≠ T) (k : w.grownBy w' (some g)) : EngAt w' H e l ps cs fs vn vc := by
  obtain ⟨x0, x1, x2, x5, x6, x7, x8, x9, x10, x11, hx⟩ := h.blk
  refine ⟨⟨x0, x1, x2, x5, x6, x7, x8, x9, x10, x11, (k.block e (lt_of_blk hx) (fun e1 => ?_)).trans hx⟩, h.low, h.nodes.other hg h1 h2 h3 k, h.ctls.other hf hg h4 k⟩
  injection e1 with e1
  subst e1
  rw [hx] at hg
  cases hg
  exact h5 rfl
theorem EngAt.setN {w : World} {H e : Nat} {l l' : List Nd} {ps ps' : List (Value × Value)} {cs : List Ctl} {fs : List Value} {vn vc vn' : Value} (h : EngAt w H e l ps cs fs vn vc) (hf : ∀ x ∈ cs, x.files = []) (hN : CpR w H vn' l' ps') : EngAt (w.setCell ⟨e, 3, none⟩ vn') H e l' ps' cs fs vn' vc := by
  obtain ⟨x0, x1, x2, x5, x6, x7, x8, x9, x10, x11, hx⟩ := h.blk
  refine ⟨⟨x0, x1, x2, x5, x6, x7, x8, x9, x10, x11, ?_⟩, h.low, hN.other hx (by decide) (by decide) (by decide) (set_grown _ _ _ _), h.ctls.other hf hx (by decide) (set_grown _ _ _ _)⟩
  rw [heap_setCell_same w e 3 _ _ vn' hx]
  simp
theorem EngAt.setC {w : World} {H e : Nat} {l : List Nd} {ps : List (Value × Value)} {cs cs' : List Ctl} {fs fs' : List Value} {vn vc vc' : Value} (h : EngAt w H e l ps cs fs vn vc) (hf : ∀ x ∈ cs', x.files = []) (hO : OwnC w H vc' cs' fs') : EngAt (w.setCell ⟨e, 4, none⟩ vc') H e l ps cs' fs' vn vc' := by
  obtain ⟨x0, x1, x2, x5, x6, x7, x8, x9, x10, x11, hx⟩ := h.blk
  refine ⟨⟨x0, x1, x2, x5, x6, x7, x8, x9, x10, x11, ?_⟩, h.low, h.nodes.other hx (by decide) (by decide) (by decide) (set_grown _ _ _ _), hO.other hf hx (by decide) (set_grown _ _ _ _)⟩
  rw [heap_setCell_same w e 4 _ _ vc' hx]
  simp
end Go.Proofs.YtkhgfngppcemlaaGreatDoor.scr
