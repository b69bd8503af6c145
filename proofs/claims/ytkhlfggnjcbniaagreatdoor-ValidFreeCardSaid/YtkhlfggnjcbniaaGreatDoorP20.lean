/- A part of the proofs: lemmas and contracts. -/
import Derived.LoopIn
import Derived.LoopNIn
import Derived.OwnWalkIn
import Derived.RangeFuncBound
import Derived.RangeFuncNested
import Derived.Shelf.RegionOpen
import Derived.Stop.LaidErr
import Derived.Test.YtkhlfggnjcbniaaGreatDoorP10
import Derived.Test.YtkhlfggnjcbniaaGreatDoorP18
import Derived.Test.YtkhlfggnjcbniaaGreatDoorP19
set_option maxHeartbeats 12800000
set_option maxRecDepth 1000000
namespace Go.Proofs.YtkhlfggnjcbniaaGreatDoor.mail
open Go.Lib str link

def okS (sg : List UInt8) (c : UInt8) : Bool := plainB c || hasB sg c
def allS (sg : List UInt8) (l : List UInt8) : Bool := l.all (okS sg)
def userS : List UInt8 := [46, 33, 35, 36, 37, 38, 39, 42, 43, 47, 61, 63, 94, 95, 123, 124, 125, 126, 45, 96]
def labAt (l : List UInt8) (i : Nat) (c : UInt8) : Bool := plainB c || (c == 45 && (!decide (i = 0) && !decide (i + 1 = l.length)))
def labFrom (l : List UInt8) : Nat → List UInt8 → Bool
 | _, [] => true
 | i, c :: r => labAt l i c && labFrom l (i + 1) r
def labB (l : List UInt8) : Bool := decide (1 ≤ l.length) && decide (l.length ≤ 63) && labFrom l 0 l

theorem labFrom_iff (l : List UInt8) : ∀ (r : List UInt8) (i : Nat), labFrom l i r = true ↔ ∀ j (h : j < r.length), labAt l (i + j) r[j] = true := by
 intro r
 induction r with
 | nil => intro i; exact ⟨fun _ j h => absurd h (Nat.not_lt_zero _), fun _ => rfl⟩
 | cons c r ih =>
  intro i
  rw [labFrom, Bool.and_eq_true, ih]
  constructor
  ·rintro ⟨a, b⟩ j h
   cases j with
   | zero => exact a
   | succ j => have := b j (by simpa using h); rwa [show i + 1 + j = i + (j + 1) from by omega] at this
  ·intro h
   refine ⟨h 0 (by simp), fun j hj => ?_⟩
   have := h (j + 1) (by simpa using hj)
   rwa [show i + (j + 1) = i + 1 + j from by omega] at this
theorem plain_dash : plainB 45 = false := by decide
theorem okDash (c : UInt8) : okS [45] c = (plainB c || (c == 45)) := by
 unfold okS hasB hasB
 rw [Bool.or_false]
 congr 1
 rw [Bool.eq_iff_iff]; simp; exact eq_comm
theorem lab_prog (l : List UInt8) (h1 : 0 < l.length) (h63 : l.length ≤ 63) : labB l = (allS [45] l && (!(l[0] == 45)) && (!(l[l.length - 1]'(by omega) == 45))) := by
 unfold labB
 rw [decide_eq_true (by omega : 1 ≤ l.length), decide_eq_true h63, Bool.true_and, Bool.true_and, Bool.eq_iff_iff, labFrom_iff, Bool.and_eq_true, Bool.and_eq_true]
 unfold allS
 rw [List.all_eq_true]
 simp only [Nat.zero_add, Bool.not_eq_true']
 constructor
 ·intro h
  refine ⟨⟨fun x hx => ?_, ?_⟩, ?_⟩
  ·obtain ⟨j, hj, rfl⟩ := List.getElem_of_mem hx
   have := h j hj
   unfold labAt at this
   rw [okDash]
   cases hp : plainB l[j]
   ·rw [hp, Bool.false_or, Bool.and_eq_true] at this
    rw [Bool.false_or]; exact this.1
   ·rfl
  ·have := h 0 h1
   unfold labAt at this
   rw [decide_eq_true rfl, Bool.not_true, Bool.false_and, Bool.and_false, Bool.or_false] at this
   cases hc : (l[0] == 45)
   ·rfl
   ·rw [eq_of_beq hc, plain_dash] at this; cases this
  ·have := h (l.length - 1) (by omega)
   unfold labAt at this
   rw [decide_eq_true (by omega : l.length - 1 + 1 = l.length), Bool.not_true, Bool.and_false, Bool.and_false, Bool.or_false] at this
   cases hc : (l[l.length - 1] == 45)
   ·rfl
   ·rw [eq_of_beq hc, plain_dash] at this; cases this
 ·rintro ⟨⟨ha, h0⟩, hl⟩ j hj
  have := ha l[j] (List.getElem_mem hj)
  rw [okDash] at this
  unfold labAt
  cases hp : plainB l[j]
  ·rw [hp, Bool.false_or] at this
   rw [Bool.false_or, this, Bool.true_and]
   have hj0 : j ≠ 0 := by rintro rfl; rw [this] at h0; cases h0
   have hjl : j + 1 ≠ l.length := by
    intro e
    have e2 : j = l.length - 1 := by omega
    subst e2
    rw [this] at hl; cases hl
   rw [decide_eq_false hj0, decide_eq_false hjl]; rfl
  ·rfl

def addrK : Bool → List UInt8 → Bool
 | _, [] => false
 | z, c :: r => if c = 64 then z && (spl 46 [] r).all labB else okS userS c && addrK true r
def addrB (l : List UInt8) : Bool := addrK false l
theorem addr_cut (l : List UInt8) : ∀ z, addrK z l = ((cut1 64 l).2.2 && (z || !(cut1 64 l).1.isEmpty) && allS userS (cut1 64 l).1 && (spl 46 [] (cut1 64 l).2.1).all labB) := by
 induction l with
 | nil => intro z; rfl
 | cons c r ih =>
  intro z
  unfold addrK cut1
  by_cases g : c = 64
  ·rw [if_pos g, if_pos g]
   show _ = (true && (z || !true) && true && _)
   cases z <;> rfl
  ·rw [if_neg g, if_neg g, ih]
   show _ = ((cut1 64 r).2.2 && (z || !false) && (okS userS c && allS userS (cut1 64 r).1) && _)
   cases z <;> cases (cut1 64 r).2.2 <;> cases okS userS c <;> cases allS userS (cut1 64 r).1 <;> rfl
end Go.Proofs.YtkhlfggnjcbniaaGreatDoor.mail
namespace Go.Proofs.YtkhlfggnjcbniaaGreatDoor.ctl
open Go.ChangeShapes Go.WideShapes Go.ChangeAt Go.RowKit Go.Lib

def ctlV (v : List UInt8) (d t ch dc m s ds : Bool) (cu : List UInt8) (f : Value) : Value :=
 .agg #[.string ⟨v.toArray⟩, .bool d, .bool t, .bool ch, .bool dc, .bool m, .bool s, .bool ds, .string ⟨cu.toArray⟩, f]
def encE (x : Ent) : List Value := [.string ⟨x.name.toArray⟩, .string ⟨x.value.toArray⟩, .bool x.file, .string ⟨x.fname.toArray⟩, .string ⟨x.typ.toArray⟩]
theorem encE_len (x : Ent) : (encE x).length = 5 := rfl
def EntsAt (w : World) (v : Value) (fs : List Ent) : Prop := RowAt w v fs.length (fs.flatMap encE)
def IsSl (f : Value) : Prop := ∃ a n c, f = .slice a n c
theorem EntsAt.isSl {w : World} {v : Value} {fs : List Ent} (h : EntsAt w v fs) : IsSl v := by
 obtain ⟨a, c, e⟩ := RowAt.lenN h
 exact ⟨a, _, c, e⟩
theorem EntsAt.below {w w' : World} {v : Value} {fs : List Ent} (h : EntsAt w v fs) (hb : Below w.heap.size w w') : EntsAt w' v fs := RowAt.below h hb (Nat.le_refl _)
theorem EntsAt.nil (w : World) : EntsAt w (.slice none 0 0) [] := .inl ⟨rfl, rfl, _, _, rfl⟩
end Go.Proofs.YtkhlfggnjcbniaaGreatDoor.ctl
namespace Go.Proofs.YtkhlfggnjcbniaaGreatDoor.doc
open Go.ChangeShapes Go.WideShapes Go.ChangeAt Go.RowKit Go.Lib atr link ctl

def encC (c : Ctl) (f : Value) : List Value := [.string ⟨c.value.toArray⟩, .bool c.dirty, .bool c.typed, .bool c.checked, .bool c.dchecked, .bool c.mixed, .bool c.selected, .bool c.dselected, .string ⟨c.custom.toArray⟩, f]
theorem encC_len (x : Ctl × Value) : (encC x.1 x.2).length = 10 := rfl
structure CtlAt (w : World) (b o : Nat) (c : Ctl) (f : Value) : Prop where
 cells : ∀ i u, (encC c f)[i]? = some u → w.cell? ⟨b, o + i, none⟩ = some u
 files : EntsAt w f c.files
theorem CtlAt.below {w w' : World} {b o : Nat} {c : Ctl} {f : Value} (h : CtlAt w b o c f) (hb : Below w.heap.size w w') : CtlAt w' b o c f :=
 ⟨fun i u hu => cell_below hb (h.cells i u hu), h.files.below hb⟩
def CtlsAt (w : World) (v : Value) (cs : List Ctl) : Prop :=
 (cs = [] ∧ ∃ oa cap, v = .slice oa 0 cap) ∨ ∃ b off cap, v = .slice (some ⟨b, off, none⟩) cs.length cap ∧ 0 < cs.length ∧ b < w.heap.size ∧ ∀ j (h : j < cs.length), ∃ f, CtlAt w b (off + j * 10) cs[j] f
theorem CtlsAt.below {w w' : World} {v : Value} {cs : List Ctl} (h : CtlsAt w v cs) (hb : Below w.heap.size w w') : CtlsAt w' v cs := by
 rcases h with h | ⟨b, off, cap, e, h0, hl, hc⟩
 ·exact .inl h
 ·refine .inr ⟨b, off, cap, e, h0, Nat.lt_of_lt_of_le hl hb.size, fun j hj => ?_⟩
  obtain ⟨f, hf⟩ := hc j hj
  exact ⟨f, hf.below hb⟩
theorem CtlsAt.lenN {w : World} {v : Value} {cs : List Ctl} (h : CtlsAt w v cs) : ∃ oa cap, v = .slice oa cs.length cap := by
 rcases h with ⟨rfl, oa, cap, e⟩ | ⟨b, off, cap, e, _⟩
 ·exact ⟨oa, cap, e⟩
 ·exact ⟨_, cap, e⟩
theorem ctls_get {w : World} {v : Value} {cs : List Ctl} (h : CtlsAt w v cs) (j : Nat) (hj : j < cs.length) : ∃ b off cap f, v = .slice (some ⟨b, off, none⟩) cs.length cap ∧ b < w.heap.size ∧ CtlAt w b (off + j * 10) cs[j] f := by
 rcases h with ⟨rfl, _⟩ | ⟨b, off, cap, e, _, hl, hc⟩
 ·exact absurd hj (Nat.not_lt_zero _)
 ·obtain ⟨f, hf⟩ := hc j hj
  exact ⟨b, off, cap, f, e, hl, hf⟩
end Go.Proofs.YtkhlfggnjcbniaaGreatDoor.doc
namespace Go.Proofs.YtkhlfggnjcbniaaGreatDoor.doc
open Go.ChangeShapes Go.WideShapes Go.ChangeAt Go.RowKit Go.Lib Go.Shelf atr link
attribute [local go_sem] Oper.semAt_some
structure Kp (n₀ Bl Bs : Nat) (W W' : World) : Prop where
 low : Below n₀ W W'
 l : ∀ u, W.cell? ⟨Bl, 0, none⟩ = some u → W'.cell? ⟨Bl, 0, none⟩ = some u
 s : ∀ u, W.cell? ⟨Bs, 0, none⟩ = some u → W'.cell? ⟨Bs, 0, none⟩ = some u
theorem Kp.trans {n₀ Bl Bs : Nat} {A B C : World} (h : Kp n₀ Bl Bs A B) (k : Kp n₀ Bl Bs B C) : Kp n₀ Bl Bs A C := ⟨h.low.trans k.low, fun u g => k.l u (h.l u g), fun u g => k.s u (h.s u g)⟩
attribute [local go_sem] Oper.semAt_some
theorem filt_take (p : Int → Bool) (is : List Int) (j : Nat) (h : j < is.length) : (is.take (j + 1)).filter p = (is.take j).filter p ++ if p is[j] then [is[j]] else [] := by
 rw [List.take_succ_eq_append_getElem h, List.filter_append]
 congr 1
 rw [List.filter_cons]
 split <;> rfl
end Go.Proofs.YtkhlfggnjcbniaaGreatDoor.doc
namespace Go.Proofs.YtkhlfggnjcbniaaGreatDoor.stp
open Go.Lib num mom cal link fits atr

def valK (kind : Int) (s : List UInt8) : Int × Bool :=
 if kind = 13 ∨ kind = 14 then ((parseS s).1, (parseS s).2 == 0)
 else if 8 ≤ kind ∧ kind ≤ 12 then ((parseM (kind - 7) s).1, (parseM (kind - 7) s).2 == 0)
 else (0, false)
def boundK (kind : Int) (l : List Attr) (nm : List UInt8) : Int × Bool :=
 match fval nm l with
 | none => (0, false)
 | some s => valK kind s
def leastK (kind : Int) (l : List Attr) : Int × Bool := ((boundK kind l nMin).1, (boundK kind l nMin).2 || (kind == 14))
def mostK (kind : Int) (l : List Attr) : Int × Bool :=
 if (boundK kind l nMax).2 = true ∨ kind ≠ 14 then boundK kind l nMax else (max (leastK kind l).1 100000000, true)
def scaleK (kind : Int) : Int := if kind = 8 then 86400000 else if kind = 9 then 1 else if kind = 10 then 604800000 else if kind = 11 ∨ kind = 12 then 1000 else 1000000
def byK (kind : Int) : Int := if kind = 11 ∨ kind = 12 then 60000 else scaleK kind
def isK (kind : Int) : Bool := decide (8 ≤ kind) && decide (kind ≤ 14)
def stepQ (by' scale n : Int) : Int := if n * scale / 1000000 = 0 ∨ 1000000000000000000 < n * scale / 1000000 then by' else n * scale / 1000000
def stepK (kind : Int) (l : List Attr) : Int × Bool :=
 if isK kind = false then (0, false)
 else match fval nStep l with
  | none => (byK kind, true)
  | some s => if lowS s = nAny then (0, false)
   else if (parseS s).2 ≠ 0 ∨ (parseS s).1 ≤ 0 then (byK kind, true)
   else (stepQ (byK kind) (scaleK kind) (parseS s).1, true)
def baseK (kind : Int) (l : List Attr) : Int :=
 if (boundK kind l nMin).2 = true then (boundK kind l nMin).1
 else if (boundK kind l nValue).2 = true then (boundK kind l nValue).1
 else if kind = 10 then -259200000 else 0
def underK (kind : Int) (l : List Attr) (n : Int) : Bool := (leastK kind l).2 && decide (n < (leastK kind l).1)
def overK (kind : Int) (l : List Attr) (n : Int) : Bool := (mostK kind l).2 && decide ((mostK kind l).1 < n)
def turnedK (kind : Int) (l : List Attr) : Bool := (kind == 11) && (leastK kind l).2 && (mostK kind l).2 && decide ((mostK kind l).1 < (leastK kind l).1)
def offK (kind : Int) (l : List Attr) (n : Int) : Bool := (stepK kind l).2 && !fitsB n (baseK kind l) (stepK kind l).1
def flagsK (kind : Int) (l : List Attr) (s : List UInt8) : Bool × Bool × Bool :=
 if (valK kind s).2 = false then (false, false, false)
 else if turnedK kind l = true then (underK kind l (valK kind s).1 && overK kind l (valK kind s).1, underK kind l (valK kind s).1 && overK kind l (valK kind s).1, offK kind l (valK kind s).1)
 else (underK kind l (valK kind s).1, overK kind l (valK kind s).1, offK kind l (valK kind s).1)

theorem parts_q (n u : Int) (_hn : 0 < n) (_hu : 0 < u) : n / 1000000 * u + n % 1000000 * u / 1000000 = n * u / 1000000 := by
 have e : n * u = n % 1000000 * u + n / 1000000 * u * 1000000 := by
  have h := Int.emod_add_mul_ediv n 1000000
  calc n * u = (n % 1000000 + 1000000 * (n / 1000000)) * u := by rw [h]
   _ = n % 1000000 * u + n / 1000000 * u * 1000000 := by rw [Int.add_mul, Int.mul_comm 1000000 (n / 1000000), Int.mul_right_comm]
 rw [e, Int.add_mul_ediv_right _ _ (by decide), Int.add_comm]
theorem parts_big (n u : Int) (hn : 0 < n) (hu : 0 < u) (h : 1000000000000000000 / u < n / 1000000) : 1000000000000000000 < n * u / 1000000 := by
 rw [← parts_q n u hn hu]
 have h1 : 1000000000000000000 < (1000000000000000000 / u + 1) * u := by
  have := Int.lt_ediv_add_one_mul_self 1000000000000000000 hu
  exact this
 have h2 : (1000000000000000000 / u + 1) * u ≤ n / 1000000 * u := Int.mul_le_mul_of_nonneg_right (by omega) (by omega)
 have h3 : 0 ≤ n % 1000000 * u / 1000000 := Int.ediv_nonneg (Int.mul_nonneg (Int.emod_nonneg _ (by decide)) (by omega)) (by decide)
 omega
theorem parts_small (n u : Int) (_hn : 0 < n) (hu : 0 < u) (h : n / 1000000 ≤ 1000000000000000000 / u) : n / 1000000 * u ≤ 1000000000000000000 := by
 have h2 : n / 1000000 * u ≤ 1000000000000000000 / u * u := Int.mul_le_mul_of_nonneg_right h (by omega)
 have h3 : 1000000000000000000 / u * u ≤ 1000000000000000000 := Int.ediv_mul_le _ (by omega)
 omega
end Go.Proofs.YtkhlfggnjcbniaaGreatDoor.stp
namespace Go.Proofs.YtkhlfggnjcbniaaGreatDoor.stp
open Go.Lib num mom cal days link fits atr

def i64 (n : Int) : Prop := -9223372036854775808 ≤ n ∧ n ≤ 9223372036854775807
theorem valK_64 (kind : Int) (s : List UInt8) : i64 (valK kind s).1 := by
 unfold valK i64
 split
 ·have := parse_bd s; dsimp only; omega
 ·split
  ·have := parse64 (kind - 7) s
   unfold int64 at this
   exact this
  ·dsimp only; omega
theorem valK_no (kind : Int) (s : List UInt8) (h : (valK kind s).2 = false) : (valK kind s).1 = 0 := by
 unfold valK at h ⊢
 split
 ·rename_i g
  rw [if_pos g] at h
  dsimp only at h ⊢
  rcases parseT_err (negB s) (unsigned s) with k | k
  ·have : (parseS s).2 = 0 := k
   rw [this] at h; cases h
  ·exact k
 ·rename_i g
  rw [if_neg g] at h
  split
  ·rename_i k
   rw [if_pos k] at h
   dsimp only at h ⊢
   rcases parse_cases (kind - 7) s with ⟨_, q⟩ | ⟨_, _, q, _⟩
   ·exact q
   ·rw [q] at h; cases h
  ·rfl
theorem boundK_64 (kind : Int) (l : List Attr) (nm : List UInt8) : i64 (boundK kind l nm).1 := by
 unfold boundK
 split
 ·exact ⟨by decide, by decide⟩
 ·exact valK_64 _ _
theorem boundK_no (kind : Int) (l : List Attr) (nm : List UInt8) (h : (boundK kind l nm).2 = false) : (boundK kind l nm).1 = 0 := by
 unfold boundK at h ⊢
 split
 ·rfl
 ·rename_i s e
  rw [e] at h
  exact valK_no _ _ h
theorem leastK_64 (kind : Int) (l : List Attr) : i64 (leastK kind l).1 := boundK_64 kind l nMin
theorem mostK_64 (kind : Int) (l : List Attr) : i64 (mostK kind l).1 := by
 unfold mostK
 split
 ·exact boundK_64 kind l nMax
 ·have := leastK_64 kind l
  unfold i64 at *
  dsimp only
  omega
theorem baseK_64 (kind : Int) (l : List Attr) : i64 (baseK kind l) := by
 unfold baseK
 split
 ·exact boundK_64 kind l nMin
 ·split
  ·exact boundK_64 kind l nValue
  ·split <;> exact ⟨by decide, by decide⟩
theorem scaleK_pos (kind : Int) : 0 < scaleK kind ∧ scaleK kind ≤ 604800000 := by
 unfold scaleK
 split
 ·omega
 ·split
  ·omega
  ·split
   ·omega
   ·split <;> omega
theorem byK_pos (kind : Int) : 0 < byK kind ∧ byK kind ≤ 604800000 := by
 have := scaleK_pos kind
 unfold byK
 split <;> omega
theorem stepQ_pos (b s n : Int) (hb : 0 < b ∧ b ≤ 604800000) (hs : 0 < s) (hn : 0 < n) : 0 < stepQ b s n ∧ stepQ b s n ≤ 1000000000000000000 := by
 unfold stepQ
 have h : 0 ≤ n * s / 1000000 := Int.ediv_nonneg (Int.mul_nonneg (by omega) (by omega)) (by decide)
 generalize n * s / 1000000 = q at *
 split <;> omega
theorem stepK_pos (kind : Int) (l : List Attr) (h : (stepK kind l).2 = true) : 0 < (stepK kind l).1 ∧ (stepK kind l).1 ≤ 1000000000000000000 := by
 have hb := byK_pos kind
 have hs := scaleK_pos kind
 unfold stepK at h ⊢
 split
 ·rename_i g; rw [if_pos g] at h; cases h
 ·rename_i g
  rw [if_neg g] at h
  split
  ·dsimp only; omega
  ·rename_i s e
   rw [e] at h
   dsimp only at h
   split
   ·rename_i k; rw [if_pos k] at h; cases h
   ·split
    ·dsimp only; omega
    ·exact stepQ_pos _ _ _ hb hs.1 (by omega)
theorem stepK_64 (kind : Int) (l : List Attr) : i64 (stepK kind l).1 := by
 cases h : (stepK kind l).2
 ·have : (stepK kind l).1 = 0 := by
   unfold stepK at h ⊢
   split
   ·rfl
   ·rename_i g
    rw [if_neg g] at h
    split
    ·rename_i e; rw [e] at h; cases h
    ·rename_i s e
     rw [e] at h
     dsimp only at h
     split
     ·rfl
     ·rename_i k
      rw [if_neg k] at h
      split at h <;> cases h
  rw [this]; exact ⟨by decide, by decide⟩
 ·have := stepK_pos kind l h
  unfold i64; omega

theorem leastK_ref (kind : Int) (l : List Attr) : leastK kind l = if (boundK kind l nMin).2 = false ∧ kind = 14 then (0, true) else boundK kind l nMin := by
 unfold leastK
 by_cases h : (boundK kind l nMin).2 = false
 ·by_cases k : kind = 14
  ·rw [if_pos ⟨h, k⟩, boundK_no _ _ _ h, h]
   simp [k]
  ·rw [if_neg (fun g => k g.2), h]
   have : (kind == 14) = false := by simpa using k
   rw [this]
   exact Prod.ext rfl h.symm
 ·rw [if_neg (fun g => h g.1)]
  have h : (boundK kind l nMin).2 = true := by simpa using h
  rw [h]
  exact Prod.ext rfl h.symm
end Go.Proofs.YtkhlfggnjcbniaaGreatDoor.stp
namespace Go.Proofs.YtkhlfggnjcbniaaGreatDoor
theorem star : "*" ++ "errors.errorString" = "*errors.errorString" := by decide
theorem errRow (u : TypeId) (h : Tryz.prog.typeName? 3 u = some "*errors.errorString") : u = 257 :=
 typeName_ptr_named (nm := "errors.errorString") (by rw [star]; kernel_rfl) (by kernel_rfl) (by decide) u (by rw [star]; exact h)
end Go.Proofs.YtkhlfggnjcbniaaGreatDoor
