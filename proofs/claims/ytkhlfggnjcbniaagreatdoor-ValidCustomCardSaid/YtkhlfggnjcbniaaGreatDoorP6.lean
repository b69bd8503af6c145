/- A part of the proofs: lemmas and contracts. -/
import Derived.Lib.AppendIntMem
import Derived.Test.YtkhlfggnjcbniaaGreatDoorP5
set_option maxHeartbeats 12800000
set_option maxRecDepth 1000000
namespace Go.Proofs.YtkhlfggnjcbniaaGreatDoor.mom
open Go.Lib num cal days
theorem part1 (l : List UInt8) : partP 1 l = dateP l := rfl
theorem part2 (l : List UInt8) : partP 2 l = monthP l := rfl
theorem part3 (l : List UInt8) : partP 3 l = weekP l := rfl
theorem part4 (l : List UInt8) : partP 4 l = timeP l := rfl
theorem part5 (l : List UInt8) : partP 5 l = localP l := rfl

theorem parse_cases (kind : Int) (l : List UInt8) : ((parseM kind l).2 ≠ 0 ∧ (parseM kind l).1 = 0) ∨ (1 ≤ kind ∧ kind ≤ 5 ∧ (parseM kind l).2 = 0 ∧ partP kind l = some ((parseM kind l).1, [])) := by
 unfold parseM
 by_cases h : kind < 1 ∨ 5 < kind
 ·rw [if_pos h]; left; exact ⟨by decide, rfl⟩
 ·rw [if_neg h]
  cases hw : whole (partP kind l) with
  | none => left; exact ⟨by decide, rfl⟩
  | some v => right; exact ⟨by omega, by omega, rfl, whole_some hw⟩

theorem date_range (l : List UInt8) (v : Int) (r : List UInt8) (h : dateP l = some (v, r)) : ∃ d, v = d * 86400000 ∧ -719162 ≤ d ∧ d ≤ 100000109 := by
 obtain ⟨y, m, d, r1, r2, r3, r4, h1, h2, h3, h4, h5, h6, rfl⟩ := dateP_form l v r h
 obtain ⟨ds, _, _, _, y1, y2⟩ := yearR_some l y r1 h1
 have ok := (dOk_iff y m d y1 y2).1 h6
 obtain ⟨o1, o2, o3, o4, o5, o6⟩ := ok
 have hy := num_year (y : Int) m d ⟨o3, o4, o5, o6⟩
 have b1 : newY 1 ≤ newY y := by
  rcases Int.lt_or_eq_of_le o1 with k | k
  ·exact Int.le_of_lt (newY_mono _ _ k)
  ·rw [← k]; exact Int.le_refl _
 have b2 : newY (y + 1) ≤ newY 275761 := by
  rcases Int.lt_or_eq_of_le (show (y : Int) + 1 ≤ 275761 by omega) with k | k
  ·exact Int.le_of_lt (newY_mono _ _ k)
  ·rw [k]; exact Int.le_refl _
 have e1 : newY 1 = -719162 := by decide
 have e2 : newY 275761 = 100000110 := by decide
 exact ⟨_, rfl, by omega, by omega⟩

theorem thou_range (l : List UInt8) (p : Nat) (r : List UInt8) (h : thou l = some (p, r)) : p < 1000 := by
 unfold thou at h
 simp only [] at h
 split at h
 ·cases h
 ·cases h
  have hv := val_lt _ (allDig_take l (min (cnt l) 3) (by omega))
  have hlen : (l.take (min (cnt l) 3)).length = min (cnt l) 3 := by rw [List.length_take]; have := cnt_le l; omega
  rw [hlen] at hv
  have : min (cnt l) 3 = 1 ∨ min (cnt l) 3 = 2 ∨ min (cnt l) 3 = 3 := by omega
  rcases this with e | e | e <;> rw [e] at hv ⊢ <;> simp at hv ⊢ <;> omega

theorem time_range (l : List UInt8) (v : Int) (r : List UInt8) (h : timeP l = some (v, r)) : 0 ≤ v ∧ v < 86400000 := by
 unfold timeP at h
 split at h
 ·cases h
 ·rename_i hh r1 e1
  split at h
  ·cases h
  ·split at h
   ·cases h
   ·rename_i m r3 e3
    split at h
    ·rename_i g
     have g' : hh < 24 ∧ m < 60 := by simpa using g
     unfold minT at h
     split at h
     ·unfold secP at h
      split at h
      ·cases h
      ·rename_i s r5 e5
       split at h
       ·rename_i gs
        unfold secT at h
        split at h
        ·split at h
         ·cases h
         ·rename_i p r7 e7
          have := thou_range _ _ _ e7
          cases h
          omega
        ·cases h; omega
       ·cases h
     ·cases h; omega
    ·cases h

end Go.Proofs.YtkhlfggnjcbniaaGreatDoor.mom
namespace Go.Proofs.YtkhlfggnjcbniaaGreatDoor.mom
open Go.ChangeShapes Go.WideShapes Go.ChangeAt Go.RowKit Go.Lib num days cal
theorem parse64 (kind : Int) (l : List UInt8) : int64 (parseM kind l).1 := by
 rcases parse_cases kind l with ⟨_, h⟩ | ⟨h1, h2, _, h4⟩
 ·rw [h]; exact ⟨by decide, by decide⟩
 ·generalize (parseM kind l).1 = n at *
  have hkk : kind = 1 ∨ kind = 2 ∨ kind = 3 ∨ kind = 4 ∨ kind = 5 := by omega
  rcases hkk with rfl | rfl | rfl | rfl | rfl
  ·rw [part1] at h4
   obtain ⟨d, rfl, d1, d2⟩ := date_range l n [] h4
   exact ⟨by omega, by omega⟩
  ·rw [part2] at h4
   obtain ⟨y, m, r1, r2, k1, k2, k3, k4, k5⟩ := monthP_form l n [] h4
   obtain ⟨ds, _, _, _, y1, y2⟩ := yearR_some l y r1 k1
   exact ⟨by omega, by omega⟩
  ·rw [part3] at h4
   obtain ⟨y, w, r1, r2, k1, k2, k3, k4, k5⟩ := weekP_form l n [] h4
   obtain ⟨ds, _, _, _, y1, y2⟩ := yearR_some l y r1 k1
   have := firstW_bound (y : Int) (by omega) (by omega)
   have hw := two_lt _ _ _ k3
   exact ⟨by omega, by omega⟩
  ·rw [part4] at h4
   have := time_range l n [] h4
   exact ⟨by omega, by omega⟩
  ·rw [part5] at h4
   obtain ⟨d, r1, c, r2, t, k1, k2, k3, k4, k5⟩ := localP_form l n [] h4
   obtain ⟨d', rfl, d1, d2⟩ := date_range l d r1 k1
   have := time_range _ _ _ k4
   exact ⟨by omega, by omega⟩

end Go.Proofs.YtkhlfggnjcbniaaGreatDoor.mom
namespace Go.Proofs.YtkhlfggnjcbniaaGreatDoor.stp
open Go.Lib num mom cal days link fits atr

def i64 (n : Int) : Prop := -9223372036854775808 ≤ n ∧ n ≤ 9223372036854775807
theorem valK_64 (kind : Int) (s : List UInt8) : i64 (valK kind s).1 := by
 unfold valK i64
 split
 ·have := parse_bd s; dsimp only; omega
 ·split
  ·have := parse64 (kind - 7) s
   unfold int64 at this
   exact this
  ·dsimp only; omega
theorem boundK_64 (kind : Int) (l : List Attr) (nm : List UInt8) : i64 (boundK kind l nm).1 := by
 unfold boundK
 split
 ·exact ⟨by decide, by decide⟩
 ·exact valK_64 _ _
theorem leastK_64 (kind : Int) (l : List Attr) : i64 (leastK kind l).1 := boundK_64 kind l nMin
theorem mostK_64 (kind : Int) (l : List Attr) : i64 (mostK kind l).1 := by
 unfold mostK
 split
 ·exact boundK_64 kind l nMax
 ·have := leastK_64 kind l
  unfold i64 at *
  dsimp only
  omega
theorem baseK_64 (kind : Int) (l : List Attr) : i64 (baseK kind l) := by
 unfold baseK
 split
 ·exact boundK_64 kind l nMin
 ·split
  ·exact boundK_64 kind l nValue
  ·split <;> exact ⟨by decide, by decide⟩
theorem scaleK_pos (kind : Int) : 0 < scaleK kind ∧ scaleK kind ≤ 604800000 := by
 unfold scaleK
 split
 ·omega
 ·split
  ·omega
  ·split
   ·omega
   ·split <;> omega
theorem byK_pos (kind : Int) : 0 < byK kind ∧ byK kind ≤ 604800000 := by
 have := scaleK_pos kind
 unfold byK
 split <;> omega
theorem stepQ_pos (b s n : Int) (hb : 0 < b ∧ b ≤ 604800000) (hs : 0 < s) (hn : 0 < n) : 0 < stepQ b s n ∧ stepQ b s n ≤ 1000000000000000000 := by
 unfold stepQ
 have h : 0 ≤ n * s / 1000000 := Int.ediv_nonneg (Int.mul_nonneg (by omega) (by omega)) (by decide)
 generalize n * s / 1000000 = q at *
 split <;> omega
theorem stepK_pos (kind : Int) (l : List Attr) (h : (stepK kind l).2 = true) : 0 < (stepK kind l).1 ∧ (stepK kind l).1 ≤ 1000000000000000000 := by
 have hb := byK_pos kind
 have hs := scaleK_pos kind
 unfold stepK at h ⊢
 split
 ·rename_i g; rw [if_pos g] at h; cases h
 ·rename_i g
  rw [if_neg g] at h
  split
  ·dsimp only; omega
  ·rename_i s e
   rw [e] at h
   dsimp only at h
   split
   ·rename_i k; rw [if_pos k] at h; cases h
   ·split
    ·dsimp only; omega
    ·exact stepQ_pos _ _ _ hb hs.1 (by omega)
theorem stepK_64 (kind : Int) (l : List Attr) : i64 (stepK kind l).1 := by
 cases h : (stepK kind l).2
 ·have : (stepK kind l).1 = 0 := by
   unfold stepK at h ⊢
   split
   ·rfl
   ·rename_i g
    rw [if_neg g] at h
    split
    ·rename_i e; rw [e] at h; cases h
    ·rename_i s e
     rw [e] at h
     dsimp only at h
     split
     ·rfl
     ·rename_i k
      rw [if_neg k] at h
      split at h <;> cases h
  rw [this]; exact ⟨by decide, by decide⟩
 ·have := stepK_pos kind l h
  unfold i64; omega

end Go.Proofs.YtkhlfggnjcbniaaGreatDoor.stp
namespace Go.Proofs.YtkhlfggnjcbniaaGreatDoor.atr
open Go.ChangeShapes Go.WideShapes Go.RowKit Go.Lib Go.Deep

def encA (x : Attr) : List Value := [.string ⟨x.1.toArray⟩, .string ⟨x.2.toArray⟩]
def RowA (w : World) (b off : Nat) (l : List Attr) : Prop :=
 ∀ j (h : j < l.length), w.cell? ⟨b, off + j * 2, none⟩ = some (.string ⟨l[j].1.toArray⟩) ∧ w.cell? ⟨b, off + j * 2 + 1, none⟩ = some (.string ⟨l[j].2.toArray⟩)
def AttrsAt (w : World) (v : Value) (l : List Attr) : Prop :=
 (l = [] ∧ ∃ oa cap, v = .slice oa 0 cap) ∨ ∃ b off cap, v = .slice (some ⟨b, off, none⟩) l.length cap ∧ 0 < l.length ∧ b < w.heap.size ∧ RowA w b off l

theorem RowA.below {w w' : World} {b off : Nat} {l : List Attr} (h : RowA w b off l) (hb : Below w.heap.size w w') (hlt : b < w.heap.size) : RowA w' b off l := by
 intro j hj
 obtain ⟨h1, h2⟩ := h j hj
 exact ⟨(hb.cell (p := ⟨b, off + j * 2, none⟩) hlt).trans h1, (hb.cell (p := ⟨b, off + j * 2 + 1, none⟩) hlt).trans h2⟩
theorem AttrsAt.below {w w' : World} {v : Value} {l : List Attr} (h : AttrsAt w v l) (hb : Below w.heap.size w w') : AttrsAt w' v l := by
 rcases h with h | ⟨b, off, cap, h1, h0, h2, h3⟩
 ·exact .inl h
 ·exact .inr ⟨b, off, cap, h1, h0, Nat.lt_of_lt_of_le h2 hb.size, h3.below hb h2⟩
theorem AttrsAt.nil (w : World) : AttrsAt w (.slice none 0 0) [] := .inl ⟨rfl, _, _, rfl⟩

def strOf : Value → List UInt8
 | .string s => s.data.toList
 | _ => []

section
variable {H : Type} {enc : TypeId × Value → H} {W : World} {base : Nat} {sp : Nat → Bool} {held : Bool}
end
end Go.Proofs.YtkhlfggnjcbniaaGreatDoor.atr
namespace Go.Proofs.YtkhlfggnjcbniaaGreatDoor.doc
open Go.ChangeShapes Go.WideShapes Go.ChangeAt Go.RowKit Go.Lib atr

def encI (k : Int) : List Value := [.int .i64 k]
def IntsAt (w : World) (v : Value) (ks : List Int) : Prop := RowAt w v ks.length (ks.flatMap encI)
theorem encI_len (x : Int) : (encI x).length = 1 := rfl
theorem IntsAt.below {w w' : World} {v : Value} {ks : List Int} (h : IntsAt w v ks) (hb : Below w.heap.size w w') : IntsAt w' v ks := RowAt.below h hb (Nat.le_refl _)
theorem IntsAt.nil (w : World) : IntsAt w (.slice none 0 0) [] := .inl ⟨rfl, rfl, _, _, rfl⟩
theorem ints_get (ks : List Int) (j : Nat) (h : j < ks.length) : (ks.flatMap encI)[j]? = some (.int .i64 ks[j]) := by
 have := flat_at encI 1 encI_len ks j h 0 (by decide)
 simpa [encI] using this
def nodeV (n : Nd) (va vk : Value) : Value := .agg #[.string ⟨n.name.toArray⟩, .string ⟨n.text.toArray⟩, va, .int .i64 n.parent, vk]
def CapOk (v : Value) : Prop := ∀ a n c, v = .slice a n c → n ≤ c
theorem CapOk.nil : CapOk (.slice none 0 0) := fun a n c e => by cases e; exact Nat.le_refl _
structure NodeAt (w : World) (b o : Nat) (n : Nd) (va vk : Value) : Prop where
 c0 : w.cell? ⟨b, o, none⟩ = some (.string ⟨n.name.toArray⟩)
 c1 : w.cell? ⟨b, o + 1, none⟩ = some (.string ⟨n.text.toArray⟩)
 c2 : w.cell? ⟨b, o + 2, none⟩ = some va
 c3 : w.cell? ⟨b, o + 3, none⟩ = some (.int .i64 n.parent)
 c4 : w.cell? ⟨b, o + 4, none⟩ = some vk
 attrs : AttrsAt w va n.attrs
 kids : IntsAt w vk n.kids
 cap : CapOk va
theorem NodeAt.below {w w' : World} {b o : Nat} {n : Nd} {va vk : Value} (h : NodeAt w b o n va vk) (hb : Below w.heap.size w w') : NodeAt w' b o n va vk :=
 ⟨cell_below hb h.c0, cell_below hb h.c1, cell_below hb h.c2, cell_below hb h.c3, cell_below hb h.c4, h.attrs.below hb, h.kids.below hb, h.cap⟩
def NodesAt (w : World) (v : Value) (l : List Nd) : Prop :=
 (l = [] ∧ ∃ oa cap, v = .slice oa 0 cap) ∨ ∃ b off cap, v = .slice (some ⟨b, off, none⟩) l.length cap ∧ 0 < l.length ∧ b < w.heap.size ∧ ∀ j (h : j < l.length), ∃ va vk, NodeAt w b (off + j * 5) l[j] va vk
theorem NodesAt.below {w w' : World} {v : Value} {l : List Nd} (h : NodesAt w v l) (hb : Below w.heap.size w w') : NodesAt w' v l := by
 rcases h with h | ⟨b, off, cap, h1, h0, h2, h3⟩
 ·exact .inl h
 ·exact .inr ⟨b, off, cap, h1, h0, Nat.lt_of_lt_of_le h2 hb.size, fun j hj => by
   obtain ⟨va, vk, h⟩ := h3 j hj
   exact ⟨va, vk, h.below hb⟩⟩
theorem NodesAt.lenN {w : World} {v : Value} {l : List Nd} (h : NodesAt w v l) : ∃ oa cap, v = .slice oa l.length cap := by
 rcases h with ⟨rfl, oa, cap, rfl⟩ | ⟨b, off, cap, rfl, _⟩
 ·exact ⟨_, _, rfl⟩
 ·exact ⟨_, _, rfl⟩
theorem NodesAt.at {w : World} {v : Value} {l : List Nd} (h : NodesAt w v l) (h0 : 0 < l.length) : ∃ b off cap, v = .slice (some ⟨b, off, none⟩) l.length cap ∧ b < w.heap.size ∧ ∀ k, 0 ≤ k → k < (l.length : Int) → ∃ va vk, NodeAt w b (off + k.toNat * 5) (nd l k) va vk := by
 rcases h with ⟨rfl, _⟩ | ⟨b, off, cap, rfl, _, hb, hc⟩
 ·exact absurd h0 (Nat.lt_irrefl _)
 ·refine ⟨b, off, cap, rfl, hb, fun k k0 k1 => ?_⟩
  have hk : k.toNat < l.length := by omega
  obtain ⟨va, vk, h⟩ := hc k.toNat hk
  refine ⟨va, vk, ?_⟩
  have := nd_cast l k.toNat hk
  rw [show ((k.toNat : Nat) : Int) = k from by omega] at this
  rw [this]; exact h
structure NFine (n : Nd) : Prop where
 name : n.name.length ≤ 140737488355328
 text : n.text.length ≤ 140737488355328
 attrs : n.attrs.length ≤ 140737488355328
 kids : n.kids.length ≤ 17592186044416
 an : ∀ a ∈ n.attrs, a.1.length ≤ 140737488355328 ∧ a.2.length ≤ 140737488355328
 par : (Lit.int .i64 n.parent).wf = true
 kid : ∀ k ∈ n.kids, (Lit.int .i64 k).wf = true
structure LFine (l : List Nd) : Prop where
 len : l.length ≤ 17592186044416
 each : ∀ n ∈ l, NFine n
theorem LFine.nd {l : List Nd} (h : LFine l) (k : Int) (h0 : 0 ≤ k) (h1 : k < (l.length : Int)) : NFine (nd l k) := by
 have hk : k.toNat < l.length := by omega
 have := nd_cast l k.toNat hk
 rw [show ((k.toNat : Nat) : Int) = k from by omega] at this
 rw [this]
 exact h.each _ (List.getElem_mem hk)
theorem wf_range {x : Int} (h : (Lit.int .i64 x).wf = true) : -9223372036854775808 ≤ x ∧ x ≤ 9223372036854775807 := by
 have h : (decide (IntKind.i64.min ≤ x) && decide (x ≤ IntKind.i64.max)) = true := h
 rw [Bool.and_eq_true, decide_eq_true_eq, decide_eq_true_eq] at h
 exact h
end Go.Proofs.YtkhlfggnjcbniaaGreatDoor.doc
namespace Go.Proofs.YtkhlfggnjcbniaaGreatDoor.doc
open atr link ctl num
def ct (cs : List Ctl) (k : Int) : Ctl := cs.getD k.toNat default
def selB (cs : List Ctl) (k : Int) : Bool := (ct cs k).selected
def hasA (nm : List UInt8) (a : List Attr) : Bool := (fval nm a).isSome
def sizeN (a : List Attr) : Int := if ((fval nSize a).getD []).length ≤ 4 ∧ allDig ((fval nSize a).getD []) = true then (val ((fval nSize a).getD []) : Int) else 0
def sizeP (l : List Nd) (sel : Int) : Int := if 0 < sizeN (nd l sel).attrs then sizeN (nd l sel).attrs else if hasA nMultiple (nd l sel).attrs then 4 else 1
def textP (l : List Nd) (o : Int) : List UInt8 := (nd l o).text ++ (nd l o).kids.flatMap (fun k => (nd l k).text)
def valueP (l : List Nd) (o : Int) : List UInt8 := match fval nValue (nd l o).attrs with | some s => s | none => collapseS (textP l o)
def isP (l : List Nd) (k kind : Int) : Bool := decide (0 ≤ k) && decide (k < (l.length : Int)) && (kN l k == kind) && rightB l
def listP (l : List Nd) (sel : Int) : List Int := if isP l sel 23 then optsP l sel else []
def SizeP (l : List Nd) (sel : Int) : Int := if isP l sel 23 then sizeP l sel else 0
def TextP (l : List Nd) (o : Int) : List UInt8 := if isP l o 32 then valueP l o else []
def docR (l : List Nd) (cs : List Ctl) : Bool := decide (l.length = cs.length) && rightB l

def firstSel (cs : List Ctl) (os : List Int) : Option Int := os.find? (selB cs)
def selValue (l : List Nd) (cs : List Ctl) (sel : Int) : List UInt8 := match firstSel cs (optsP l sel) with | some o => valueP l o | none => []
def ValueP (l : List Nd) (cs : List Ctl) (sel : Int) : List UInt8 := if docR l cs = true ∧ isP l sel 23 = true then selValue l cs sel else []
theorem kids_nodup {l : List Nd} (h : Rt l) (k : Int) (hk : inR l k) : (nd l k).kids.Nodup := by
 rw [List.nodup_iff_count]
 intro c
 by_cases hc : c ∈ (nd l k).kids
 ·obtain ⟨c1, c2⟩ := h.kid k c hk hc
  have := h.once c c1 (by rw [c2]; exact hk.1)
  rw [c2] at this
  omega
 ·rw [List.count_eq_zero.2 hc]; omega
theorem inner_mem {l : List Nd} (h : Rt l) (k : Int) (hk : inR l k) (o : Int) (ho : o ∈ innerP l k) : inR l o ∧ optB l o = true ∧ (o = k ∨ (nd l o).parent = k) := by
 unfold innerP at ho
 obtain ⟨h1, h2⟩ := List.mem_filter.1 ho
 split at h1
 ·obtain ⟨a, b⟩ := h.kid k o hk h1
  exact ⟨a, h2, Or.inr b⟩
 ·rw [List.mem_singleton] at h1
  subst h1
  exact ⟨hk, h2, Or.inl rfl⟩
theorem opts_mem {l : List Nd} (h : Rt l) (sel : Int) (hs : inR l sel) (o : Int) (ho : o ∈ optsP l sel) : inR l o ∧ optB l o = true := by
 unfold optsP at ho
 obtain ⟨k, hk, ho⟩ := List.mem_flatMap.1 ho
 obtain ⟨k1, _⟩ := h.kid sel k hs hk
 obtain ⟨a, b, _⟩ := inner_mem h k k1 o ho
 exact ⟨a, b⟩
theorem flat_nodup (a : List Int) (f : Int → List Int) (ha : a.Nodup) (hf : ∀ x ∈ a, (f x).Nodup) (hd : ∀ x ∈ a, ∀ y ∈ a, x ≠ y → ∀ z ∈ f x, z ∉ f y) : (a.flatMap f).Nodup := by
 induction a with
 | nil => exact List.nodup_nil
 | cons x r ih =>
  rw [List.flatMap_cons, List.nodup_append]
  refine ⟨hf x List.mem_cons_self, ih (List.nodup_cons.1 ha).2 (fun y hy => hf y (List.mem_cons_of_mem _ hy)) (fun y hy z hz => hd y (List.mem_cons_of_mem _ hy) z (List.mem_cons_of_mem _ hz)), ?_⟩
  intro z hz w hw e
  obtain ⟨y, hy, hw⟩ := List.mem_flatMap.1 hw
  have hxy : x ≠ y := fun e2 => (List.nodup_cons.1 ha).1 (e2 ▸ hy)
  exact hd x List.mem_cons_self y (List.mem_cons_of_mem _ hy) hxy z hz (e ▸ hw)
theorem opts_nodup {l : List Nd} (h : Rt l) (sel : Int) (hs : inR l sel) : (optsP l sel).Nodup := by
 unfold optsP
 refine flat_nodup _ _ (kids_nodup h sel hs) ?_ ?_
 ·intro k hk
  obtain ⟨k1, _⟩ := h.kid sel k hs hk
  unfold innerP
  refine List.Pairwise.filter _ ?_
  split
  ·exact kids_nodup h k k1
  ·simp
 ·intro x hx y hy hxy z hz hw
  obtain ⟨x1, x2⟩ := h.kid sel x hs hx
  obtain ⟨y1, y2⟩ := h.kid sel y hs hy
  have dx := dep_kid h x x1
  have dy := dep_kid h y y1
  rw [x2] at dx
  rw [y2] at dy
  obtain ⟨z1, _, e1⟩ := inner_mem h x x1 z hz
  obtain ⟨_, _, e2⟩ := inner_mem h y y1 z hw
  have dz := dep_kid h z z1
  rcases e1 with rfl | e1
  ·rcases e2 with e2 | e2
   ·exact hxy e2
   ·rw [e2] at dz; omega
  ·rcases e2 with rfl | e2
   ·rw [e1] at dz; omega
   ·exact hxy (e1.symm.trans e2)
end Go.Proofs.YtkhlfggnjcbniaaGreatDoor.doc
namespace Go.Proofs.YtkhlfggnjcbniaaGreatDoor.ctl
open Go.ChangeShapes Go.WideShapes Go.ChangeAt Go.RowKit Go.Lib

def FreshV (B : Nat) (f : Value) : Prop := ∀ k, f.ownBlock = some k → B ≤ k
theorem RowAt.setCell {w : World} {v : Value} {n : Nat} {xs : List Value} (h : RowAt w v n xs) (a : Addr) (u : Value) (hne : v.ownBlock ≠ some a.block) : RowAt (w.setCell a u) v n xs := by
 rcases h with h | ⟨b, off, cap, rfl, h0, h2, h3⟩
 ·exact .inl h
 ·refine .inr ⟨b, off, cap, rfl, h0, by simpa using h2, fun j x hj => ?_⟩
  have hb : b ≠ a.block := fun e => hne (by rw [← e]; rfl)
  rw [World.cell?_setCell_other _ _ _ _ (fun e => hb (by rw [e]))]
  exact h3 j x hj
theorem FreshV.nil (B : Nat) : FreshV B (.slice none 0 0) := fun k e => by cases e
end Go.Proofs.YtkhlfggnjcbniaaGreatDoor.ctl
namespace Go.Proofs.YtkhlfggnjcbniaaGreatDoor.doc
open atr link ctl num
theorem docR_iff (l : List Nd) (cs : List Ctl) : docR l cs = true ↔ l.length = cs.length ∧ rightB l = true := by
 unfold docR; rw [Bool.and_eq_true, decide_eq_true_eq]
theorem isP_iff (l : List Nd) (k kind : Int) : isP l k kind = true ↔ inR l k ∧ kN l k = kind ∧ rightB l = true := by
 unfold isP inR; simp only [Bool.and_eq_true, decide_eq_true_eq, beq_iff_eq, and_assoc]
end Go.Proofs.YtkhlfggnjcbniaaGreatDoor.doc
namespace Go.Proofs.YtkhlfggnjcbniaaGreatDoor.cln
open Go.ChangeShapes Go.WideShapes Go.ChangeAt Go.RowKit Go.Lib
theorem trim_blanks (l : List UInt8) (hl : l.length ≤ 1000000000) (w : World) :
  Calls Tryz.prog 95 #[.string ⟨l.toArray⟩, .string ⟨#[9, 10, 12, 13, 32]⟩] w fun e w' => e = .returned (.string ⟨(stripB l).toArray⟩) ∧ Below w.heap.size w w' :=
 Any.strings_Trim_laid Tryz.lays160 (by kernel_rfl) ⟨l.toArray⟩ ⟨#[9, 10, 12, 13, 32]⟩ w (by rw [bsize]; omega) (by decide) (ascii_of_all (by decide))

theorem strip_any (s : List UInt8) (hs : s.length ≤ 10000000) (w : World) :
  Calls Tryz.prog 164 #[.string ⟨s.toArray⟩] w fun e w' => e = .returned (.string ⟨(stripB s).toArray⟩) ∧ Below w.heap.size w w' := by
 have h1 := fun w => trim_blanks s (by omega) w
 generalize stripB s = t at *
 go_enter Tryz.func164, Tryz.ntmps164
 go_wp2_with fail
 refine (h1 w).mono ?_
 rintro e w1 ⟨rfl, hB⟩
 go_wp2_with fail
 go_ret
 exact ⟨rfl, hB⟩

end Go.Proofs.YtkhlfggnjcbniaaGreatDoor.cln
namespace Go.Proofs.YtkhlfggnjcbniaaGreatDoor.link
open Go.Lib str

theorem spl_cut (c : UInt8) (l : List UInt8) : ∀ acc, spl c acc l = (acc ++ (cut1 c l).1) :: (if (cut1 c l).2.2 = true then spl c [] (cut1 c l).2.1 else []) := by
 induction l with
 | nil => intro acc; simp [spl, cut1]
 | cons b r ih =>
  intro acc
  by_cases h : b = c
  ·rw [spl, if_pos h, cut1, if_pos h]; simp
  ·rw [spl, if_neg h, cut1, if_neg h, ih]; simp

theorem spl_len (c : UInt8) (l : List UInt8) : ∀ acc, (spl c acc l).length = l.count c + 1 := by
 induction l with
 | nil => intro acc; simp [spl]
 | cons b r ih =>
  intro acc
  by_cases h : b = c
  ·subst h; rw [spl, if_pos rfl, List.length_cons, ih]; simp
  ·rw [spl, if_neg h, ih, List.count_cons]; simp [h]

theorem cut1_index (c : UInt8) (l : List UInt8) : (indexByte l c = -1 ∧ cut1 c l = (l, [], false)) ∨ ∃ i : Nat, indexByte l c = i ∧ cut1 c l = (l.take i, l.drop (i + 1), true) := by
 rw [← cut_one]
 unfold Lib.cut
 rw [index_one]
 have hge := indexByte_ge l c
 by_cases h : indexByte l c = -1
 ·left; refine ⟨h, ?_⟩; rw [h]; rfl
 ·right
  obtain ⟨i, hi⟩ : ∃ i : Nat, indexByte l c = i := ⟨(indexByte l c).toNat, by omega⟩
  refine ⟨i, hi, ?_⟩
  rw [hi, if_pos (by omega)]
  simp

theorem split_spl (c : UInt8) : ∀ (k : Nat) (l : List UInt8), l.count c ≤ k → splitB ⟨#[c]⟩ 0 k ⟨l.toArray⟩ = (spl c [] l).map fun x => (⟨x.toArray⟩ : ByteArray) := by
 intro k
 induction k with
 | zero =>
  intro l hl
  rw [splitB_zero, spl_cut]
  rcases cut1_index c l with ⟨_, h⟩ | ⟨i, hi, h⟩
  ·rw [h]; simp
  ·exfalso
   have := (indexByte_some hi).1
   have hm : c ∈ l := List.mem_of_getElem? this
   have := List.count_pos_iff.2 hm
   omega
 | succ k ih =>
  intro l hl
  rw [spl_cut]
  have e : indexB ⟨l.toArray⟩ ⟨#[c]⟩ = indexByte l c := by
   show index l [c] = _
   rw [index_one]
  rcases cut1_index c l with ⟨h0, h⟩ | ⟨i, hi, h⟩
  ·rw [splitB_miss _ _ _ _ (by rw [e, h0]), h]; simp
  ·rw [splitB_hit _ _ _ _ i (by rw [e, hi]), h]
   have hg := (indexByte_some hi).1
   have hlt : i < l.length := (List.getElem?_eq_some_iff.1 hg).1
   have hc : (l.drop (i + 1)).count c ≤ k := by
    have h1 : l.count c = (l.take i).count c + (l.drop i).count c := by rw [← List.count_append, List.take_append_drop]
    have h2 : l.drop i = c :: l.drop (i + 1) := by
     rw [List.drop_eq_getElem_cons hlt]
     congr 1
     exact Option.some.inj (by rw [← List.getElem?_eq_getElem, hg])
    rw [h2, List.count_cons_self] at h1
    omega
   have e1 : (⟨l.toArray⟩ : ByteArray).extract 0 (i + 0) = ⟨(l.take i).toArray⟩ := by rw [bext]; simp
   have e2 : (⟨l.toArray⟩ : ByteArray).extract (i + (⟨#[c]⟩ : ByteArray).size) (⟨l.toArray⟩ : ByteArray).size = ⟨(l.drop (i + 1)).toArray⟩ := by
    rw [bext, bsize, show (⟨#[c]⟩ : ByteArray).size = 1 from rfl, take_drop_all]
   rw [e1, e2, ih _ hc]
   simp
end Go.Proofs.YtkhlfggnjcbniaaGreatDoor.link
namespace Go.Proofs.YtkhlfggnjcbniaaGreatDoor.link
open Go.ChangeShapes Go.WideShapes Go.ChangeAt Go.RowKit Go.Lib str

def StrAt (w : World) (b : Nat) (ls : List (List UInt8)) : Prop := ∀ j (h : j < ls.length), w.cell? ⟨b, j, none⟩ = some (.string ⟨(ls[j]).toArray⟩)

theorem StrAt.below {w w' : World} {b : Nat} {ls : List (List UInt8)} (h : StrAt w b ls) (hb : Below w.heap.size w w') : StrAt w' b ls := fun j hj => cell_below hb (h j hj)
theorem StrAt.under {w w' : World} {B b : Nat} {ls : List (List UInt8)} (h : StrAt w b ls) (hl : b < B) (hb : Below B w w') : StrAt w' b ls := fun j hj => by rw [hb.cell hl]; exact h j hj
theorem StrAt.lt {w : World} {b : Nat} {ls : List (List UInt8)} (h : StrAt w b ls) (hn : 0 < ls.length) : b < w.heap.size := lt_of_cell (h 0 hn)

theorem spl_pos (c : UInt8) (l : List UInt8) (acc : List UInt8) : 0 < (spl c acc l).length := by rw [spl_len]; omega

theorem spl_small (c : UInt8) (l : List UInt8) : ∀ acc x, x ∈ spl c acc l → x.length ≤ acc.length + l.length := by
 induction l with
 | nil => intro acc x h; simp [spl] at h; subst h; omega
 | cons b r ih =>
  intro acc x h
  unfold spl at h
  by_cases hb : b = c
  ·rw [if_pos hb] at h
   rcases List.mem_cons.1 h with rfl | h
   ·omega
   ·have := ih [] x h; simp at this ⊢; omega
  ·rw [if_neg hb] at h
   have := ih _ x h; simp at this ⊢; omega

theorem countB_one (l : List UInt8) (c : UInt8) : countB ⟨l.toArray⟩ ⟨#[c]⟩ = l.count c := Lib.count_one c l

theorem split_row (l : List UInt8) (c : UInt8) (hl : l.length ≤ 1000000) (w : World) (hG : G w) :
  Calls Tryz.prog 91 #[.string ⟨l.toArray⟩, .string ⟨#[c]⟩] w fun e w' => ∃ b cap, e = .returned (.slice (some ⟨b, 0, none⟩) (spl c [] l).length cap) ∧ StrAt w' b (spl c [] l) ∧ Below w.heap.size w w' ∧ (spl c [] l).length ≤ cap := by
 obtain ⟨m, hm⟩ := hG.ml
 refine (Tryz.strings_Split ⟨l.toArray⟩ ⟨#[c]⟩ m w (by rw [bsize]; omega) hm (Nat.le_refl 1)).mono ?_
 rintro e w' ⟨rfl, rfl⟩
 rw [countB_one, split_spl c _ l (Nat.le_refl _)]
 refine ⟨w.heap.size, l.count c + 1, ?_, ?_, (Below.refl _ _).alloc (Nat.le_refl _) _, by rw [spl_len]; exact Nat.le_refl _⟩
 ·rw [spl_len]
 ·intro j hj
  rw [World.cell?_alloc_new]
  simp [hj]
end Go.Proofs.YtkhlfggnjcbniaaGreatDoor.link
namespace Go.Proofs.YtkhlfggnjcbniaaGreatDoor.doc
open atr link
def fsB (l : List Nd) (f : Int) : Bool := kN l f == 29 && hasA nDisabled (nd l f).attrs
def lgB (l : List Nd) (k : Int) : Bool := kN l k == 34
def disR (l : List Nd) (k : Int) : Bool := (subP (kN l k) || kN l k == 29) && (hasA nDisabled (nd l k).attrs || disU l (fsB l) (lgB l) k)
def fixR (l : List Nd) (k : Int) : Bool := disR l k || (roP (kN l k) && hasA nReadonly (nd l k).attrs)
def pushR (k : Int) : Bool := decide (k = 1 ∨ k = 21 ∨ k = 22 ∨ k = 26 ∨ k = 27)
def barR (l : List Nd) (k : Int) : Bool := pushR (kN l k) || !subP (kN l k) || fixR l k || decide (0 ≤ nearP l k nDatalist)
def barP (l : List Nd) (k : Int) : Bool := !(decide (0 ≤ k) && decide (k < (l.length : Int)) && rightB l) || barR l k
end Go.Proofs.YtkhlfggnjcbniaaGreatDoor.doc
