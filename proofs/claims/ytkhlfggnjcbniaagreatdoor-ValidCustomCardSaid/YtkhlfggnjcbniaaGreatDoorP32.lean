/- A part of the proofs: lemmas and contracts. -/
import Derived.Test.YtkhlfggnjcbniaaGreatDoorP30
import Derived.Test.YtkhlfggnjcbniaaGreatDoorP31
set_option maxHeartbeats 12800000
set_option maxRecDepth 1000000
namespace Go.Proofs.YtkhlfggnjcbniaaGreatDoor.mail
open Go.Lib str link

def okS (sg : List UInt8) (c : UInt8) : Bool := plainB c || hasB sg c
def allS (sg : List UInt8) (l : List UInt8) : Bool := l.all (okS sg)
def userS : List UInt8 := [46, 33, 35, 36, 37, 38, 39, 42, 43, 47, 61, 63, 94, 95, 123, 124, 125, 126, 45, 96]
def labAt (l : List UInt8) (i : Nat) (c : UInt8) : Bool := plainB c || (c == 45 && (!decide (i = 0) && !decide (i + 1 = l.length)))
def labFrom (l : List UInt8) : Nat → List UInt8 → Bool
 | _, [] => true
 | i, c :: r => labAt l i c && labFrom l (i + 1) r
def labB (l : List UInt8) : Bool := decide (1 ≤ l.length) && decide (l.length ≤ 63) && labFrom l 0 l

theorem labFrom_iff (l : List UInt8) : ∀ (r : List UInt8) (i : Nat), labFrom l i r = true ↔ ∀ j (h : j < r.length), labAt l (i + j) r[j] = true := by
 intro r
 induction r with
 | nil => intro i; exact ⟨fun _ j h => absurd h (Nat.not_lt_zero _), fun _ => rfl⟩
 | cons c r ih =>
  intro i
  rw [labFrom, Bool.and_eq_true, ih]
  constructor
  ·rintro ⟨a, b⟩ j h
   cases j with
   | zero => exact a
   | succ j => have := b j (by simpa using h); rwa [show i + 1 + j = i + (j + 1) from by omega] at this
  ·intro h
   refine ⟨h 0 (by simp), fun j hj => ?_⟩
   have := h (j + 1) (by simpa using hj)
   rwa [show i + (j + 1) = i + 1 + j from by omega] at this
theorem plain_dash : plainB 45 = false := by decide
theorem okDash (c : UInt8) : okS [45] c = (plainB c || (c == 45)) := by
 unfold okS hasB hasB
 rw [Bool.or_false]
 congr 1
 rw [Bool.eq_iff_iff]; simp; exact eq_comm
theorem lab_prog (l : List UInt8) (h1 : 0 < l.length) (h63 : l.length ≤ 63) : labB l = (allS [45] l && (!(l[0] == 45)) && (!(l[l.length - 1]'(by omega) == 45))) := by
 unfold labB
 rw [decide_eq_true (by omega : 1 ≤ l.length), decide_eq_true h63, Bool.true_and, Bool.true_and, Bool.eq_iff_iff, labFrom_iff, Bool.and_eq_true, Bool.and_eq_true]
 unfold allS
 rw [List.all_eq_true]
 simp only [Nat.zero_add, Bool.not_eq_true']
 constructor
 ·intro h
  refine ⟨⟨fun x hx => ?_, ?_⟩, ?_⟩
  ·obtain ⟨j, hj, rfl⟩ := List.getElem_of_mem hx
   have := h j hj
   unfold labAt at this
   rw [okDash]
   cases hp : plainB l[j]
   ·rw [hp, Bool.false_or, Bool.and_eq_true] at this
    rw [Bool.false_or]; exact this.1
   ·rfl
  ·have := h 0 h1
   unfold labAt at this
   rw [decide_eq_true rfl, Bool.not_true, Bool.false_and, Bool.and_false, Bool.or_false] at this
   cases hc : (l[0] == 45)
   ·rfl
   ·rw [eq_of_beq hc, plain_dash] at this; cases this
  ·have := h (l.length - 1) (by omega)
   unfold labAt at this
   rw [decide_eq_true (by omega : l.length - 1 + 1 = l.length), Bool.not_true, Bool.and_false, Bool.and_false, Bool.or_false] at this
   cases hc : (l[l.length - 1] == 45)
   ·rfl
   ·rw [eq_of_beq hc, plain_dash] at this; cases this
 ·rintro ⟨⟨ha, h0⟩, hl⟩ j hj
  have := ha l[j] (List.getElem_mem hj)
  rw [okDash] at this
  unfold labAt
  cases hp : plainB l[j]
  ·rw [hp, Bool.false_or] at this
   rw [Bool.false_or, this, Bool.true_and]
   have hj0 : j ≠ 0 := by rintro rfl; rw [this] at h0; cases h0
   have hjl : j + 1 ≠ l.length := by
    intro e
    have e2 : j = l.length - 1 := by omega
    subst e2
    rw [this] at hl; cases hl
   rw [decide_eq_false hj0, decide_eq_false hjl]; rfl
  ·rfl

def addrK : Bool → List UInt8 → Bool
 | _, [] => false
 | z, c :: r => if c = 64 then z && (spl 46 [] r).all labB else okS userS c && addrK true r
def addrB (l : List UInt8) : Bool := addrK false l
theorem addr_cut (l : List UInt8) : ∀ z, addrK z l = ((cut1 64 l).2.2 && (z || !(cut1 64 l).1.isEmpty) && allS userS (cut1 64 l).1 && (spl 46 [] (cut1 64 l).2.1).all labB) := by
 induction l with
 | nil => intro z; rfl
 | cons c r ih =>
  intro z
  unfold addrK cut1
  by_cases g : c = 64
  ·rw [if_pos g, if_pos g]
   show _ = (true && (z || !true) && true && _)
   cases z <;> rfl
  ·rw [if_neg g, if_neg g, ih]
   show _ = ((cut1 64 r).2.2 && (z || !false) && (okS userS c && allS userS (cut1 64 r).1) && _)
   cases z <;> cases (cut1 64 r).2.2 <;> cases okS userS c <;> cases allS userS (cut1 64 r).1 <;> rfl
end Go.Proofs.YtkhlfggnjcbniaaGreatDoor.mail
namespace Go.Proofs.YtkhlfggnjcbniaaGreatDoor.utf
open Go.ChangeShapes Go.WideShapes Go.ChangeAt Go.RowKit Go.Lib

theorem tvalid_any (l : List UInt8) (hl : l.length ≤ 1000000000) (w : World) (hU : GU w) :
  Calls Tryz.prog 231 #[.string ⟨l.toArray⟩] w fun e w' => e = .returned (.bool (validD l)) ∧ Below w.heap.size w w' := by
 have h := valid_lib l hl w hU
 generalize validD l = v at *
 go_enter Tryz.func231, Tryz.ntmps231
 go_wp2_with fail
 refine h.mono ?_
 rintro e w' ⟨rfl, hB⟩
 go_wp2_with fail
 go_ret
 exact ⟨rfl, hB⟩

end Go.Proofs.YtkhlfggnjcbniaaGreatDoor.utf
namespace Go.Proofs.YtkhlfggnjcbniaaGreatDoor.link
open Go.ChangeShapes Go.WideShapes Go.ChangeAt Go.RowKit Go.Lib str

def lastB (c : UInt8) : List UInt8 → Option Nat
 | [] => none
 | b :: r => match lastB c r with
  | some k => some (k + 1)
  | none => if b = c then some 0 else none
def optI : Option Nat → Int
 | none => -1
 | some k => k

theorem lastB_snoc (c b : UInt8) (a : List UInt8) : lastB c (a ++ [b]) = if b = c then some a.length else lastB c a := by
 induction a with
 | nil => rfl
 | cons x r ih =>
  rw [List.cons_append, lastB, ih]
  by_cases h : b = c
  ·rw [if_pos h, if_pos h]; rfl
  ·rw [if_neg h, if_neg h]; rfl

theorem lastB_spec (c : UInt8) (l : List UInt8) : (lastB c l = none ∧ c ∉ l) ∨ ∃ k, lastB c l = some k ∧ k < l.length ∧ l[k]? = some c ∧ c ∉ l.drop (k + 1) := by
 induction l with
 | nil => left; exact ⟨rfl, by simp⟩
 | cons b r ih =>
  rcases ih with ⟨h1, h2⟩ | ⟨k, h1, h2, h3, h4⟩
  ·rw [lastB, h1]
   by_cases h : b = c
   ·right; exact ⟨0, by simp [h], by simp, by simp [h], by simpa using h2⟩
   ·left; refine ⟨by simp [h], ?_⟩
    simp only [List.mem_cons, not_or]; exact ⟨fun e => h e.symm, h2⟩
  ·right
   rw [lastB, h1]
   exact ⟨k + 1, rfl, by simp; omega, by simpa using h3, by simpa using h4⟩

theorem optI_ge (o : Option Nat) : -1 ≤ optI o := by
 cases o with
 | none => decide
 | some k => show (-1 : Int) ≤ k; omega

theorem byte_data (l : List UInt8) (k : Nat) (h : k < l.length) : (⟨l.toArray⟩ : ByteArray).data[k]! = l[k] := by
 show l.toArray[k]! = _
 rw [getElem!_pos _ _ (by simpa using h)]
 simp

theorem lastIdx_lastB (c : UInt8) (l : List UInt8) : ∀ k, k ≤ l.length → Lib.lastIdx ⟨l.toArray⟩ c.toNat k = optI (lastB c (l.take k)) := by
 intro k
 induction k with
 | zero => intro _; simp [Lib.lastIdx, lastB, optI]
 | succ k ih =>
  intro hk
  have hlt : k < l.length := by omega
  rw [Lib.lastIdx, List.take_succ_eq_append_getElem hlt, lastB_snoc, ih (by omega), byte_data l k hlt]
  by_cases h : l[k] = c
  ·rw [if_pos h]; simp [h, optI]; omega
  ·rw [if_neg h, if_neg]
   intro g
   exact h (UInt8.toNat_inj.1 (by omega))

theorem lastidx_any (l : List UInt8) (c : UInt8) (hl : l.length ≤ 1000000000) (w : World) :
  Calls Tryz.prog 235 #[.string ⟨l.toArray⟩, .int .u8 c.toNat] w fun e w' => e = .returned (.int .i64 (optI (lastB c l))) ∧ w = w' := by
 refine (Tryz.strings_LastIndexByte ⟨l.toArray⟩ c.toNat (by rw [bsize]; omega) w).mono ?_
 rintro e w' ⟨rfl, rfl⟩
 refine ⟨ret_int ?_, rfl⟩
 show Lib.lastIdx ⟨l.toArray⟩ c.toNat l.length = _
 rw [lastIdx_lastB c l l.length (Nat.le_refl _), List.take_length]

theorem contains_any (l : List UInt8) (c : UInt8) (w : World) :
  Calls Tryz.prog 236 #[.string ⟨l.toArray⟩, .string ⟨#[c]⟩] w fun e w' => e = .returned (.bool (hasB l c)) ∧ w = w' := by
 refine (Tryz.strings_Contains_one ⟨l.toArray⟩ c w).mono ?_
 rintro e w' ⟨rfl, rfl⟩
 refine ⟨ret_bool ?_, rfl⟩
 show decide (0 ≤ indexByte l c) = _
 rcases index_has l c with ⟨h1, h2⟩ | ⟨h1, h2⟩
 ·rw [h2, decide_eq_true h1]
 ·rw [h2, h1]; rfl

def firstN (c : UInt8) (l : List UInt8) : Nat := (cut1 c l).1.length
end Go.Proofs.YtkhlfggnjcbniaaGreatDoor.link
namespace Go.Proofs.YtkhlfggnjcbniaaGreatDoor.pat
open Go.ChangeShapes Go.WideShapes Go.ChangeAt Go.RowKit Go.Lib

def clsV (cb : Nat) : Value := .iface 186 (.pointer (some ⟨cb, 0, none⟩))
def grpV (gb : Nat) : Value := .iface 138 (.pointer (some ⟨gb, 0, none⟩))
abbrev From (lo : Nat) : Nat → Prop := fun b => lo ≤ b
theorem blk_far {w1 w2 : World} {row : Option Nat} {b : Nat} {cs : List Value} (h : Blk w1 b cs) (hg : w1.grownBy w2 row) (hr : row ≠ some b) : Blk w2 b cs := by
 have hl := h.lt
 obtain ⟨T, hb⟩ := h
 exact ⟨T, by rw [hg.block b hl (Ne.symm hr)]; exact hb⟩
theorem blk_kept {w w' : World} {B b : Nat} {cs : List Value} (h : Blk w b cs) (hg : w.grownBy w' (some B)) (hb : B < b) : Blk w' b cs := blk_far h hg (fun e => by have := Option.some.inj e; omega)
def OwS (w : World) (S : Nat → Prop) (e : TypeId) (size : Nat) (v : Value) (n : Nat) (xs : List Value) : Prop := w.ownsRow 0 e size v n xs ∧ ∀ g, v.ownBlock = some g → S g
theorem OwS.of {w : World} {lo : Nat} {S : Nat → Prop} {e : TypeId} {size : Nat} {v : Value} {n : Nat} {xs : List Value} (h : w.ownsRow lo e size v n xs) (hS : ∀ b, lo ≤ b → v.ownBlock = some b → S b) : OwS w S e size v n xs :=
 ⟨⟨h.1, h.2.elim .inl (fun ⟨g, cap, cur, h1, _, h3⟩ => .inr ⟨g, cap, cur, h1, Nat.zero_le _, h3⟩)⟩, fun g hg => hS g (h.lt g hg).1 hg⟩
section
variable {w w' : World} {S S' : Nat → Prop} {r : Option Nat} {b : Nat} {e : TypeId} {size n : Nat} {v : Value} {xs cs : List Value}
theorem OwS.kept (hg : w.grownBy w' r) (hr : ∀ k, r = some k → ¬ S k) (h : OwS w S e size v n xs) : OwS w' S e size v n xs := by
 refine ⟨h.1.kept hg ?_, h.2⟩
 cases hv : v.ownBlock with
 | none => exact .inl rfl
 | some g => exact .inr (fun e => hr g e.symm (h.2 g hv))
theorem OwS.sub (hS : ∀ b, b < w.heap.size → S b → S' b) (h : OwS w S e size v n xs) : OwS w S' e size v n xs := ⟨h.1, fun g hg => hS g (h.1.lt g hg).2 (h.2 g hg)⟩
theorem Blk.keptS (hg : w.grownBy w' r) (hr : ∀ k, r = some k → ¬ S k) (hb : S b) (h : Blk w b cs) : Blk w' b cs := blk_far h hg (fun e => hr b e hb)
end
def SpO (w : World) (S : Nat → Prop) (v : Value) (sp : List (Int × Int)) : Prop := OwS w S 233 2 v sp.length (spC sp)
def ClsR (w : World) (S : Nat → Prop) (v : Value) (a : Atm) : Prop := ∃ cb sv sp neg, a = .cls sp neg ∧ v = clsV cb ∧ S cb ∧ Blk w cb [sv, .bool neg] ∧ SpO w S sv sp
def PcOk (p : Pc) : Prop := 0 ≤ p.lo ∧ p.lo ≤ 99 ∧ p.hi ≤ 99
section
variable (A : World → (Nat → Prop) → Value → Atm → Prop)
def pcC (xs : List (Value × Pc)) : List Value := xs.flatMap (fun x => [x.1, .int .i64 x.2.lo, .int .i64 x.2.hi])
def RowR (w : World) (S : Nat → Prop) (v : Value) (ps : List Pc) : Prop :=
 ∃ xs : List (Value × Pc), xs.map (fun x => x.2) = ps ∧ OwS w S 227 3 v xs.length (pcC xs) ∧ ∀ x ∈ xs, PcOk x.2 ∧ ∃ a, x.2.f = Atm.fn a ∧ A w S x.1 a
def RowsR (w : World) (S : Nat → Prop) (v : Value) (rs : List (List Pc)) : Prop :=
 ∃ xs : List (Value × List Pc), xs.map (fun x => x.2) = rs ∧ OwS w S 184 1 v xs.length (xs.map (fun x => x.1)) ∧ ∀ x ∈ xs, RowR A w S x.1 x.2
def GrpR (w : World) (S : Nat → Prop) (v : Value) (a : Atm) : Prop := ∃ gb rv rs, a = .grp (grpF rs) ∧ v = grpV gb ∧ S gb ∧ Blk w gb [rv] ∧ RowsR A w S rv rs
end
def AtO : Nat → World → (Nat → Prop) → Value → Atm → Prop
 | 0 => fun w S v a => ClsR w S v a
 | n + 1 => fun w S v a => ClsR w S v a ∨ GrpR (AtO n) w S v a
section
variable {A A' : World → (Nat → Prop) → Value → Atm → Prop} {w w' : World} {S S' : Nat → Prop} {v : Value} {a : Atm} {ps : List Pc} {rs : List (List Pc)} {n m : Nat} {r : Option Nat}
theorem ClsR.to (h : ClsR w S v a) (hb : ∀ b cs, b < w.heap.size → S b → Blk w b cs → Blk w' b cs ∧ S' b) (ho : ∀ e size v n xs, OwS w S e size v n xs → OwS w' S' e size v n xs) : ClsR w' S' v a := by
 obtain ⟨cb, sv, sp, neg, h1, h2, h3, h4, h5⟩ := h
 exact ⟨cb, sv, sp, neg, h1, h2, (hb cb _ h4.lt h3 h4).2, (hb cb _ h4.lt h3 h4).1, ho _ _ _ _ _ h5⟩
theorem RowR.to (h : ∀ v a, A w S v a → A' w' S' v a) (ho : ∀ e size v n xs, OwS w S e size v n xs → OwS w' S' e size v n xs) (g : RowR A w S v ps) : RowR A' w' S' v ps := by
 obtain ⟨xs, h1, h2, h3⟩ := g
 exact ⟨xs, h1, ho _ _ _ _ _ h2, fun x hx => by obtain ⟨ok, a, e, ha⟩ := h3 x hx; exact ⟨ok, a, e, h _ _ ha⟩⟩
theorem RowsR.to (h : ∀ v a, A w S v a → A' w' S' v a) (ho : ∀ e size v n xs, OwS w S e size v n xs → OwS w' S' e size v n xs) (g : RowsR A w S v rs) : RowsR A' w' S' v rs := by
 obtain ⟨xs, h1, h2, h3⟩ := g
 exact ⟨xs, h1, ho _ _ _ _ _ h2, fun x hx => (h3 x hx).to h ho⟩
theorem AtO.to (hb : ∀ b cs, b < w.heap.size → S b → Blk w b cs → Blk w' b cs ∧ S' b) (ho : ∀ e size v n xs, OwS w S e size v n xs → OwS w' S' e size v n xs) : ∀ (n : Nat) (v : Value) (a : Atm), AtO n w S v a → AtO n w' S' v a
 | 0, _, _, h => ClsR.to h hb ho
 | _ + 1, _, _, .inl h => .inl (h.to hb ho)
 | n + 1, _, _, .inr ⟨gb, rv, rs, h1, h2, h3, h4, h5⟩ => .inr ⟨gb, rv, rs, h1, h2, (hb gb _ h4.lt h3 h4).2, (hb gb _ h4.lt h3 h4).1, h5.to (AtO.to hb ho n) ho⟩
theorem AtO.succ : ∀ (n : Nat) (v : Value) (a : Atm), AtO n w S v a → AtO (n + 1) w S v a
 | 0, _, _, h => .inl h
 | _ + 1, _, _, .inl h => .inl h
 | n + 1, _, _, .inr ⟨gb, rv, rs, h1, h2, h3, h4, h5⟩ => .inr ⟨gb, rv, rs, h1, h2, h3, h4, h5.to (AtO.succ n) (fun _ _ _ _ _ h => h)⟩
theorem AtO.mono (h : n ≤ m) (g : AtO n w S v a) : AtO m w S v a := by
 induction h with
 | refl => exact g
 | step _ ih => exact AtO.succ _ _ _ ih
theorem AtO.kept (hg : w.grownBy w' r) (hr : ∀ k, r = some k → ¬ S k) (h : AtO n w S v a) : AtO n w' S v a :=
 AtO.to (fun _ _ _ hS hb => ⟨Blk.keptS hg hr hS hb, hS⟩) (fun _ _ _ _ _ h => h.kept hg hr) n v a h
theorem AtO.sub (hS : ∀ b, b < w.heap.size → S b → S' b) (h : AtO n w S v a) : AtO n w S' v a :=
 AtO.to (fun b _ hl h hb => ⟨hb, hS b hl h⟩) (fun _ _ _ _ _ h => h.sub hS) n v a h
theorem RowR.mono (h : n ≤ m) (g : RowR (AtO n) w S v ps) : RowR (AtO m) w S v ps := g.to (fun _ _ => AtO.mono h) (fun _ _ _ _ _ h => h)
theorem RowR.kept (hg : w.grownBy w' r) (hr : ∀ k, r = some k → ¬ S k) (g : RowR (AtO n) w S v ps) : RowR (AtO n) w' S v ps := g.to (fun _ _ => AtO.kept hg hr) (fun _ _ _ _ _ h => h.kept hg hr)
theorem RowR.sub (hS : ∀ b, b < w.heap.size → S b → S' b) (g : RowR (AtO n) w S v ps) : RowR (AtO n) w S' v ps := g.to (fun _ _ => AtO.sub hS) (fun _ _ _ _ _ h => h.sub hS)
theorem RowsR.mono (h : n ≤ m) (g : RowsR (AtO n) w S v rs) : RowsR (AtO m) w S v rs := g.to (fun _ _ => AtO.mono h) (fun _ _ _ _ _ h => h)
theorem RowsR.kept (hg : w.grownBy w' r) (hr : ∀ k, r = some k → ¬ S k) (g : RowsR (AtO n) w S v rs) : RowsR (AtO n) w' S v rs := g.to (fun _ _ => AtO.kept hg hr) (fun _ _ _ _ _ h => h.kept hg hr)
theorem RowsR.sub (hS : ∀ b, b < w.heap.size → S b → S' b) (g : RowsR (AtO n) w S v rs) : RowsR (AtO n) w S' v rs := g.to (fun _ _ => AtO.sub hS) (fun _ _ _ _ _ h => h.sub hS)
end
def IsAt (v : Value) (grp : Bool) : Prop := ∃ b, v = if grp then grpV b else clsV b
theorem AtO.isAt : ∀ {n : Nat} {w : World} {S : Nat → Prop} {v : Value} {a : Atm}, AtO n w S v a → IsAt v a.isGrp
 | 0, _, _, _, _, ⟨cb, _, _, _, h1, h2, _⟩ => ⟨cb, by rw [h1]; exact h2⟩
 | _ + 1, _, _, _, _, .inl ⟨cb, _, _, _, h1, h2, _⟩ => ⟨cb, by rw [h1]; exact h2⟩
 | _ + 1, _, _, _, _, .inr ⟨gb, _, _, h1, h2, _⟩ => ⟨gb, by rw [h1]; exact h2⟩
theorem cls_new {w : World} {S : Nat → Prop} {sv : Value} {sp : List (Int × Int)} (neg : Bool) (T : TypeId) (hS : S w.heap.size) (h : SpO w S sv sp) (n : Nat) : AtO n (w.alloc (.cells #[sv, .bool neg] T)) S (clsV w.heap.size) (.cls sp neg) :=
 AtO.mono (Nat.zero_le n) (n := 0) ⟨w.heap.size, sv, sp, neg, rfl, rfl, hS, Blk.fresh w [sv, .bool neg] T, h.1.alloc _, h.2⟩
theorem sp_new {w : World} {S : Nat → Prop} (sp : List (Int × Int)) (hS : S w.heap.size) (hn : sp.length ≤ 1000) : SpO (w.alloc (.cells (spC sp).toArray 233)) S (.slice (some ⟨w.heap.size, 0, none⟩) sp.length sp.length) sp := by
 refine ⟨⟨spC_len sp, .inr ⟨w.heap.size, sp.length, (spC sp).toArray, rfl, Nat.zero_le _, heap_alloc_new w _, Nat.le_refl _, by simp only [maxLen]; omega, by simp [spC_len], ?_⟩⟩, fun g hg => ?_⟩
 ·rw [List.take_of_length_le (by simp [spC_len])]
 ·cases hg; exact hS

theorem AtO.lin : ∀ {n : Nat} {w : World} {S : Nat → Prop} {v : Value} {a : Atm}, AtO n w S v a → Lin a.fn
 | 0, _, _, _, _, ⟨_, _, _, _, h, _⟩ => by rw [h]; exact cls_lin _
 | _ + 1, _, _, _, _, .inl ⟨_, _, _, _, h, _⟩ => by rw [h]; exact cls_lin _
 | n + 1, _, _, _, _, .inr ⟨_, _, rs, h, _, _, _, ⟨xs, h1, _, h3⟩⟩ => by
  rw [h]
  refine grp_lin rs (fun r hr p hp => ?_)
  rw [← h1] at hr
  obtain ⟨x, hx, rfl⟩ := List.mem_map.1 hr
  obtain ⟨ys, g1, _, g3⟩ := h3 x hx
  rw [← g1] at hp
  obtain ⟨y, hy, rfl⟩ := List.mem_map.1 hp
  obtain ⟨_, a, e, ha⟩ := g3 y hy
  rw [e]
  exact AtO.lin ha
theorem RowsR.lin {n : Nat} {w : World} {S : Nat → Prop} {v : Value} {rs : List (List Pc)} (h : RowsR (AtO n) w S v rs) : LinR rs := by
 obtain ⟨xs, h1, _, h3⟩ := h
 intro r hr p hp
 rw [← h1] at hr
 obtain ⟨x, hx, rfl⟩ := List.mem_map.1 hr
 obtain ⟨ys, g1, _, g3⟩ := h3 x hx
 rw [← g1] at hp
 obtain ⟨y, hy, rfl⟩ := List.mem_map.1 hp
 obtain ⟨_, a, e, ha⟩ := g3 y hy
 rw [e]
 exact AtO.lin ha
def TxtAt (w : World) (v : Value) (s : List Int) : Prop := w.ownsRow 0 21 1 v s.length (s.map (fun x => .int .i32 x))
def PlNew (w : World) (lo : Nat) (v : Value) (a : List Bool) : Prop := w.ownsRow lo 4 1 v a.length (a.map (fun x => .bool x))
abbrev PlAt (w : World) (v : Value) (a : List Bool) : Prop := PlNew w 0 v a
theorem own_below {w w' : World} {lo n : Nat} {e : TypeId} {size : Nat} {v : Value} {xs : List Value} (h : w.ownsRow lo e size v n xs) (hb : Below w.heap.size w w') : w'.ownsRow lo e size v n xs :=
 h.kept (row := none) (grownBy_below (World.grownBy.refl _ _) hb) (by cases v.ownBlock with | none => exact .inl rfl | some g => exact .inr (by simp))
theorem own_low {w : World} {lo n : Nat} {e : TypeId} {size : Nat} {v : Value} {xs : List Value} (h : w.ownsRow lo e size v n xs) : w.ownsRow 0 e size v n xs :=
 ⟨h.1, h.2.elim .inl (fun ⟨g, cap, cur, h1, _, h3⟩ => .inr ⟨g, cap, cur, h1, Nat.zero_le _, h3⟩)⟩
theorem AtO.below {n : Nat} {w w' : World} {S : Nat → Prop} {v : Value} {a : Atm} (h : AtO n w S v a) (hb : Below w.heap.size w w') : AtO n w' S v a :=
 h.kept (r := none) (grownBy_below (World.grownBy.refl _ _) hb) (fun k e => by cases e)
def PlE (lo : Nat) (l : List Bool) (w : World) (e : Ending) (w' : World) : Prop := ∃ ov, e = .returned ov ∧ PlNew w' lo ov l ∧ Below w.heap.size w w'
def AlE (av : Value) (l : List Bool) (w : World) (e : Ending) (w' : World) : Prop := ∃ ov, e = .returned ov ∧ PlAt w' ov l ∧ (∀ g, ov.ownBlock = some g → av.ownBlock = some g ∨ w.heap.size ≤ g) ∧ Below w.heap.size w w'
def Fits3 (w : World) (tv : Value) (s : List Int) (av : Value) (a : List Bool) : Prop := TxtAt w tv s ∧ PlAt w av a ∧ a.length = s.length + 1 ∧ s.length ≤ 4000000
def OnceC (n : Nat) : Prop := ∀ (S : Nat → Prop) (v : Value) (a : Atm) (tv : Value) (s : List Int) (av : Value) (p : List Bool) (w : World), AtO n w S v a → Fits3 w tv s av p → Calls Tryz.prog 171 #[v, tv, av] w (PlE w.heap.size (a.fn s p) w)
def PieceC (n : Nat) : Prop := ∀ (S : Nat → Prop) (v : Value) (a : Atm) (q : Pc) (tv : Value) (s : List Int) (av : Value) (p : List Bool) (w : World), AtO n w S v a → q.f = a.fn → PcOk q → Fits3 w tv s av p → Calls Tryz.prog 296 #[.agg #[v, .int .i64 q.lo, .int .i64 q.hi], tv, av] w (PlE w.heap.size (pcE q s p) w)
def AlongC (n : Nat) : Prop := ∀ (S : Nat → Prop) (rv : Value) (ps : List Pc) (tv : Value) (s : List Int) (av : Value) (p : List Bool) (w : World), RowR (AtO n) w S rv ps → Fits3 w tv s av p → Calls Tryz.prog 248 #[rv, tv, av] w (AlE av (rowE ps s p) w)
end Go.Proofs.YtkhlfggnjcbniaaGreatDoor.pat
