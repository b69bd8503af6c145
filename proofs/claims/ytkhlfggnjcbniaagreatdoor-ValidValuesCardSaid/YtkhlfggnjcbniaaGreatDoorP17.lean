/- Files in memory; their copy; held against each other. The copy is the document again. The contract of own. Bounds and steps of values that are numbers: plain. No program in sight. What is shown is read back; what is read is shown; a day and a time: the laws on 'showM', 'parseM'. Bounds and steps: what they keep: plain. No program in sight. -/
import Derived.BigQuiet
import Derived.ChangeAlike
import Derived.Deep.AppendLies
import Derived.Deep.CutBlock
import Derived.Deep.DeepCutAuto
import Derived.Deep.MidRow
import Derived.Deep.RegionHeld
import Derived.Deep.RegionHeld3
import Derived.Deep.RegionLaw
import Derived.Deep.RegionLawGrows
import Derived.Deep.SlicePairs
import Derived.Deep.Slices
import Derived.Laws.BytesArg
import Derived.Laws.IdiomStrings
import Derived.Laws.OwnMore
import Derived.Lib.AppendIntMem
import Derived.Lib.Hide
import Derived.Lib.IndexBytes
import Derived.Lib.IndexMore
import Derived.Lib.ItoaMem
import Derived.Lib.ItoaNum
import Derived.Lib.Repeat
import Derived.Lib.Replace
import Derived.Lib.SlTrimSet
import Derived.Lib.SliceRun
import Derived.Lib.Strings
import Derived.OneCell
import Derived.OpenShut
import Derived.Outline
import Derived.ProofKit
import Derived.RangeFuncBox
import Derived.RegionTactic
import Derived.Shelf.SlicesQ.IndexFunc
import Derived.Shelf.Strconv.AtoiAll
import Derived.WalkKit
import Derived.WalkLawsBesides
import Derived.WalkSmall
import Derived.WalkSpells
import Derived.WideKeyArgs
import Derived.Test.YtkhlfggnjcbniaaGreatDoorRows
import Derived.Test.YtkhlfggnjcbniaaGreatDoorShelf
import Derived.Test.YtkhlfggnjcbniaaGreatDoorP0
import Derived.Test.YtkhlfggnjcbniaaGreatDoorP1
import Derived.Test.YtkhlfggnjcbniaaGreatDoorP2
import Derived.Test.YtkhlfggnjcbniaaGreatDoorP3
import Derived.Test.YtkhlfggnjcbniaaGreatDoorP4
import Derived.Test.YtkhlfggnjcbniaaGreatDoorP5
import Derived.Test.YtkhlfggnjcbniaaGreatDoorP6
import Derived.Test.YtkhlfggnjcbniaaGreatDoorP7
import Derived.Test.YtkhlfggnjcbniaaGreatDoorP8
import Derived.Test.YtkhlfggnjcbniaaGreatDoorP9
import Derived.Test.YtkhlfggnjcbniaaGreatDoorP10
import Derived.Test.YtkhlfggnjcbniaaGreatDoorP11
import Derived.Test.YtkhlfggnjcbniaaGreatDoorP12
import Derived.Test.YtkhlfggnjcbniaaGreatDoorP13
import Derived.Test.YtkhlfggnjcbniaaGreatDoorP14
import Derived.Test.YtkhlfggnjcbniaaGreatDoorP15
import Derived.Test.YtkhlfggnjcbniaaGreatDoorP16
namespace Go.Proofs.YtkhlfggnjcbniaaGreatDoor.ctl
open Go.ChangeShapes Go.WideShapes Go.ChangeAt Go.RowKit Go.Lib

/-- a control's value -/
def ctlV (v : List UInt8) (d t ch dc m s ds : Bool) (cu : List UInt8) (f : Value) : Value :=
  .agg #[.string ⟨v.toArray⟩, .bool d, .bool t, .bool ch, .bool dc, .bool m, .bool s, .bool ds, .string ⟨cu.toArray⟩, f]
def encE (x : Ent) : List Value := [.string ⟨x.name.toArray⟩, .string ⟨x.value.toArray⟩, .bool x.file, .string ⟨x.fname.toArray⟩, .string ⟨x.typ.toArray⟩]
theorem encE_len (x : Ent) : (encE x).length = 5 := rfl
def EntsAt (w : World) (v : Value) (fs : List Ent) : Prop := RowAt w v fs.length (fs.flatMap encE)
/-- a slice's value -/
def IsSl (f : Value) : Prop := ∃ a n c, f = .slice a n c
theorem EntsAt.isSl {w : World} {v : Value} {fs : List Ent} (h : EntsAt w v fs) : IsSl v := by
  obtain ⟨a, c, e⟩ := RowAt.lenN h
  exact ⟨a, _, c, e⟩
theorem EntsAt.below {w w' : World} {v : Value} {fs : List Ent} (h : EntsAt w v fs) (hb : Below w.heap.size w w') : EntsAt w' v fs := RowAt.below h hb (Nat.le_refl _)
theorem EntsAt.nil (w : World) : EntsAt w (.slice none 0 0) [] := .inl ⟨rfl, rfl, _, _, rfl⟩
end Go.Proofs.YtkhlfggnjcbniaaGreatDoor.ctl
namespace Go.Proofs.YtkhlfggnjcbniaaGreatDoor.doc
open Go.ChangeShapes Go.WideShapes Go.ChangeAt Go.RowKit Go.Lib Go.Proofs.YtkhlfggnjcbniaaGreatDoor.atr Go.Proofs.YtkhlfggnjcbniaaGreatDoor.link

theorem encN_len (x : Nd × (Value × Value)) : (encN x.1 x.2).length = 5 := rfl
theorem own_cap {w : World} {b e : Nat} {size : Nat} {v : Value} {n : Nat} {xs : List Value} (h : w.ownsRow b e size v n xs) : CapOk v := by
  rcases h.2 with ⟨rfl, _⟩ | ⟨g, cap, cur, rfl, _, _, hc, _⟩
  · exact CapOk.nil
  · intro a n' c' e; cases e; exact hc
theorem attrs_own {w : World} {B : Nat} {v : Value} {l : List Attr} (h : w.ownsRow B 45 2 v l.length (l.flatMap encA)) : AttrsAt w v l := by
  rcases RowAt.of_owns h with ⟨h0, _, oa, cap, rfl⟩ | ⟨b, off, cap, rfl, h0, hb, hc⟩
  · exact .inl ⟨List.length_eq_zero_iff.1 h0, oa, cap, rfl⟩
  · refine .inr ⟨b, off, cap, rfl, h0, hb, fun j hj => ?_⟩
    have e0 := flat_at encA 2 (fun _ => rfl) l j hj 0 (by decide)
    have e1 := flat_at encA 2 (fun _ => rfl) l j hj 1 (by decide)
    refine ⟨hc (j * 2) _ (by simpa [encA] using e0), ?_⟩
    have := hc (j * 2 + 1) (.string ⟨l[j].2.toArray⟩) (by simpa [encA] using e1)
    rw [Nat.add_assoc]
    exact this
theorem CpR.nodes {w : World} {B : Nat} {v : Value} {l : List Nd} {ps : List (Value × Value)} (h : CpR w B v l ps) : NodesAt w v l := by
  rcases RowAt.of_owns h.row with ⟨h0, _, oa, cap, rfl⟩ | ⟨b, off, cap, rfl, h0, hb, hc⟩
  · exact .inl ⟨List.length_eq_zero_iff.1 h0, oa, cap, rfl⟩
  · refine .inr ⟨b, off, cap, rfl, h0, hb, fun j hj => ?_⟩
    have hj' : j < ps.length := by rw [h.len]; exact hj
    have hz : j < (l.zip ps).length := by rw [List.length_zip, h.len, Nat.min_self]; exact hj
    have ez : (l.zip ps)[j] = (l[j], ps[j]) := List.getElem_zip
    have key : ∀ i (hi : i < 5) u, (encN l[j] ps[j])[i]? = some u → w.cell? ⟨b, off + j * 5 + i, none⟩ = some u := by
      intro i hi u hu
      have := flat_at (fun x : Nd × (Value × Value) => encN x.1 x.2) 5 encN_len (l.zip ps) j hz i hi
      rw [ez] at this
      rw [Nat.add_assoc]
      exact hc _ _ (this.trans hu)
    refine ⟨ps[j].1, ps[j].2, key 0 (by decide) _ rfl, key 1 (by decide) _ rfl, key 2 (by decide) _ rfl, key 3 (by decide) _ rfl, key 4 (by decide) _ rfl, attrs_own (h.attrs j hj hj'), ?_, own_cap (h.attrs j hj hj')⟩
    exact OwnI.ints (h.kids j hj hj')
end Go.Proofs.YtkhlfggnjcbniaaGreatDoor.doc
namespace Go.Proofs.YtkhlfggnjcbniaaGreatDoor.ctl
open Go.ChangeShapes Go.WideShapes Go.ChangeAt Go.RowKit Go.Lib
theorem EntsAt.of_owns {w : World} {B : Nat} {v : Value} {fs : List Ent} (h : w.ownsRow B 110 5 v fs.length (fs.flatMap encE)) : EntsAt w v fs := RowAt.of_owns h

theorem RowAt.setCell {w : World} {v : Value} {n : Nat} {xs : List Value} (h : RowAt w v n xs) (a : Addr) (u : Value) (hne : v.ownBlock ≠ some a.block) : RowAt (w.setCell a u) v n xs := by
  rcases h with h | ⟨b, off, cap, rfl, h0, h2, h3⟩
  · exact .inl h
  · refine .inr ⟨b, off, cap, rfl, h0, by simpa using h2, fun j x hj => ?_⟩
    have hb : b ≠ a.block := fun e => hne (by rw [← e]; rfl)
    rw [World.cell?_setCell_other _ _ _ _ (fun e => hb (by rw [e]))]
    exact h3 j x hj
end Go.Proofs.YtkhlfggnjcbniaaGreatDoor.ctl
namespace Go.Proofs.YtkhlfggnjcbniaaGreatDoor.stp
open Go.Lib Go.Proofs.YtkhlfggnjcbniaaGreatDoor.num Go.Proofs.YtkhlfggnjcbniaaGreatDoor.mom Go.Proofs.YtkhlfggnjcbniaaGreatDoor.cal Go.Proofs.YtkhlfggnjcbniaaGreatDoor.link Go.Proofs.YtkhlfggnjcbniaaGreatDoor.fits Go.Proofs.YtkhlfggnjcbniaaGreatDoor.atr

/-- of a text of a kind the number; whether it is one -/
def valK (kind : Int) (s : List UInt8) : Int × Bool :=
  if kind = 13 ∨ kind = 14 then ((parseS s).1, (parseS s).2 == 0)
  else if 8 ≤ kind ∧ kind ≤ 12 then ((parseM (kind - 7) s).1, (parseM (kind - 7) s).2 == 0)
  else (0, false)
def scaleK (kind : Int) : Int := if kind = 8 then 86400000 else if kind = 9 then 1 else if kind = 10 then 604800000 else if kind = 11 ∨ kind = 12 then 1000 else 1000000
def byK (kind : Int) : Int := if kind = 11 ∨ kind = 12 then 60000 else scaleK kind
def isK (kind : Int) : Bool := decide (8 ≤ kind) && decide (kind ≤ 14)
end Go.Proofs.YtkhlfggnjcbniaaGreatDoor.stp
namespace Go.Proofs.YtkhlfggnjcbniaaGreatDoor.mom
open Go.Lib Go.Proofs.YtkhlfggnjcbniaaGreatDoor.num Go.Proofs.YtkhlfggnjcbniaaGreatDoor.cal Go.Proofs.YtkhlfggnjcbniaaGreatDoor.days

theorem parse_some (kind : Int) (l : List UInt8) (v : Int) (h1 : 1 ≤ kind) (h2 : kind ≤ 5) (h : partP kind l = some (v, [])) : parseM kind l = (v, 0) := by
  unfold parseM
  rw [if_neg (by omega), h]; rfl
theorem part1 (l : List UInt8) : partP 1 l = dateP l := rfl
theorem part2 (l : List UInt8) : partP 2 l = monthP l := rfl
theorem part3 (l : List UInt8) : partP 3 l = weekP l := rfl
theorem part4 (l : List UInt8) : partP 4 l = timeP l := rfl
theorem part5 (l : List UInt8) : partP 5 l = localP l := rfl

/-- MomentBack -/
theorem back (kind n : Int) : (showM kind n).2 = 0 ∧ parseM kind (showM kind n).1 = (n, 0) ∨ (showM kind n).2 ≠ 0 ∧ (showM kind n).1 = [] := by
  by_cases hk : 1 ≤ kind ∧ kind ≤ 5
  · have hkk : kind = 1 ∨ kind = 2 ∨ kind = 3 ∨ kind = 4 ∨ kind = 5 := by omega
    rcases hkk with rfl | rfl | rfl | rfl | rfl
    · rw [show1]
      by_cases g : -719162 ≤ n / 86400000 ∧ n / 86400000 ≤ 100000109 ∧ n % 86400000 = 0
      · rw [if_pos g]
        left
        refine ⟨rfl, ?_⟩
        have hb := dateOf_bounds (n / 86400000) g.1 g.2.1
        have := date_back (n / 86400000) g.1 g.2.1 ⟨hb.1, hb.2.1⟩
        rw [parse_some 1 _ _ (by decide) (by decide) (by rw [part1]; exact this)]
        rw [show n / 86400000 * 86400000 = n from by omega]
      · rw [if_neg g]; right; exact ⟨by decide, rfl⟩
    · rw [show2]
      by_cases g : 1 ≤ n / 12 + 1970 ∧ n / 12 + 1970 ≤ 275760
      · rw [if_pos g]
        left
        refine ⟨rfl, ?_⟩
        have e1 := year_pad (n / 12 + 1970).toNat (by omega) (by omega) (45 :: padS (n % 12 + 1).toNat 2) (cnt45 _)
        have e2 := two_pad (n % 12 + 1).toNat (by omega) []
        rw [List.append_nil] at e2
        rw [parse_some 2 _ _ (by decide) (by decide) (by rw [part2]; exact monthP_of _ _ _ _ _ e1 e2 (by omega))]
        rw [show 12 * ((((n / 12 + 1970).toNat : Nat) : Int) - 1970) + (((n % 12 + 1).toNat : Nat) : Int) - 1 = n from by omega]
      · rw [if_neg g]; right; exact ⟨by decide, rfl⟩
    · rw [show3]
      by_cases g : -719162 ≤ n / 86400000 ∧ n / 86400000 < 100000107 ∧ n % 86400000 = 0 ∧ wd (n / 86400000) = 1
      · rw [if_pos g]
        left
        refine ⟨rfl, ?_⟩
        obtain ⟨g1, g2, g3, g4⟩ := g
        have hd : n / 86400000 * 86400000 = n := by omega
        generalize n / 86400000 = d at *
        have hb := yearW_bounds d g1 g2
        have ha := num_year _ _ _ (date_ok d g1).1
        rw [(date_ok d g1).2.1] at ha
        have hw := yearW_ok (dateOf d).1 d ha.1 ha.2
        generalize yearW (dateOf d).1 d = y at *
        have hmon := firstW_mon y
        have hmul := weeksW_mul y
        obtain ⟨k, hk⟩ : ∃ k, k = (d - firstW y) / 7 + 1 := ⟨_, rfl⟩
        rw [← hk] at hb ⊢
        have hdk : firstW y + 7 * (k - 1) = d := by unfold wd at g4; omega
        have e1 := year_pad y.toNat (by omega) (by omega) (45 :: 87 :: padS k.toNat 2) (cnt45 _)
        have e2 := two_pad k.toNat (by omega) []
        rw [List.append_nil] at e2
        have ok : wOk y.toNat k.toNat = true := by
          unfold wOk
          rw [Int.toNat_of_nonneg (by omega : 0 ≤ y), Int.toNat_of_nonneg (by omega : 0 ≤ k)]
          simp only [Bool.and_eq_true, decide_eq_true_eq]
          omega
        rw [parse_some 3 _ _ (by decide) (by decide) (by rw [part3]; exact weekP_of _ _ _ _ _ e1 e2 ok)]
        rw [Int.toNat_of_nonneg (by omega : 0 ≤ y), Int.toNat_of_nonneg (by omega : 0 ≤ k), hdk, hd]
      · rw [if_neg g]; right; exact ⟨by decide, rfl⟩
    · rw [show4]
      by_cases g : 0 ≤ n ∧ n < 86400000
      · rw [if_pos g]
        left
        refine ⟨rfl, ?_⟩
        have := time_back n.toNat (by omega) [] rfl
        rw [List.append_nil] at this
        rw [parse_some 4 _ _ (by decide) (by decide) (by rw [part4]; exact this), Int.toNat_of_nonneg g.1]
      · rw [if_neg g]; right; exact ⟨by decide, rfl⟩
    · rw [show5]
      by_cases g : -719162 ≤ n / 86400000 ∧ n / 86400000 ≤ 100000109
      · rw [if_pos g]
        left
        refine ⟨rfl, ?_⟩
        have hb := dateOf_bounds (n / 86400000) g.1 g.2
        have h1 := date_back (n / 86400000) g.1 g.2 ⟨hb.1, hb.2.1⟩
        have h2 := time_back (n % 86400000).toNat (by omega) [] rfl
        rw [List.append_nil] at h2
        have h3 := dateP_app _ _ _ (84 :: clockS (n % 86400000).toNat) h1
        rw [parse_some 5 _ _ (by decide) (by decide) (by rw [part5]; exact localP_of _ _ _ 84 _ _ h3 rfl h2)]
        rw [Int.toNat_of_nonneg (by omega), show n / 86400000 * 86400000 + n % 86400000 = n from by omega]
      · rw [if_neg g]; right; exact ⟨by decide, rfl⟩
  · rw [show0 kind n hk]; right; exact ⟨by decide, rfl⟩

end Go.Proofs.YtkhlfggnjcbniaaGreatDoor.mom
namespace Go.Proofs.YtkhlfggnjcbniaaGreatDoor.stp
open Go.Lib Go.Proofs.YtkhlfggnjcbniaaGreatDoor.num Go.Proofs.YtkhlfggnjcbniaaGreatDoor.mom Go.Proofs.YtkhlfggnjcbniaaGreatDoor.cal Go.Proofs.YtkhlfggnjcbniaaGreatDoor.days Go.Proofs.YtkhlfggnjcbniaaGreatDoor.link Go.Proofs.YtkhlfggnjcbniaaGreatDoor.fits Go.Proofs.YtkhlfggnjcbniaaGreatDoor.atr

def i64 (n : Int) : Prop := -9223372036854775808 ≤ n ∧ n ≤ 9223372036854775807
end Go.Proofs.YtkhlfggnjcbniaaGreatDoor.stp
