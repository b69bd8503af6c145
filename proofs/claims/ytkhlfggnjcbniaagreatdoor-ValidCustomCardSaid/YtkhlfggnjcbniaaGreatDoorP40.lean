/- A part of the proofs: lemmas and contracts. -/
import Derived.Test.YtkhlfggnjcbniaaGreatDoorP39
set_option maxHeartbeats 12800000
set_option maxRecDepth 1000000
namespace Go.Proofs.YtkhlfggnjcbniaaGreatDoor.pat
open Go.ChangeShapes Go.WideShapes Go.ChangeAt Go.RowKit Go.Lib

structure Keeps {α : Type} (P : World → (Nat → Prop) → α → Prop) : Prop where
 kept : ∀ {w w' : World} {S : Nat → Prop} {r : Option Nat} {x : α}, w.grownBy w' r → (∀ k, r = some k → ¬ S k) → P w S x → P w' S x
 sub : ∀ {w : World} {S S' : Nat → Prop} {x : α}, (∀ b, b < w.heap.size → S b → S' b) → P w S x → P w S' x
abbrev Oth (lo : Nat) (v : Value) : Nat → Prop := fun b => lo ≤ b ∧ v.ownBlock ≠ some b
structure RI {α : Type} (T : TypeId) (size : Nat) (C : α → List Value) (P : World → (Nat → Prop) → α → Prop) (w : World) (B : Nat) (d : Int) (s1 : List UInt8) (b1 : Bool) (v : Value) (xs : List α) (wr : World) : Prop where
 rd : Rd w B s1 d b1 wr
 own : wr.ownsRow w.heap.size T size v xs.length (xs.flatMap C)
 mem : b1 = false → ∀ x ∈ xs, P wr (Oth w.heap.size v) x
 lt : B < w.heap.size
section
variable {α : Type} {T : TypeId} {size : Nat} {C : α → List Value} {P : World → (Nat → Prop) → α → Prop} {w w1 w2 : World} {B : Nat} {d d2 : Int} {s1 s2 : List UInt8} {b1 b2 : Bool} {v v' : Value} {xs : List α} {x : α}
theorem RI.step (K : Keeps P) (h : RI T size C P w B d s1 b1 v xs w1) (g : Rd w1 B s2 d2 b2 w2) (hb : b1 = true → b2 = true) : RI T size C P w B d2 s2 b2 v xs w2 := by
 have hl := h.lt
 refine ⟨h.rd.trans g, own_step h.own h.lt g.own, fun e x hx => K.kept g.own (fun k e hk => ?_) (h.mem ?_ x hx), h.lt⟩
 ·have := Option.some.inj e
  have := hk.1
  omega
 ·cases b1 with
  | false => rfl
  | true => rw [hb rfl] at e; cases e
theorem RI.below (K : Keeps P) (h : RI T size C P w B d s1 b1 v xs w1) (hb : Below w1.heap.size w1 w2) : RI T size C P w B d s1 b1 v xs w2 :=
 h.step K ((Rd.refl h.rd.rb).below hb) id
theorem RI.oth (h : RI T size C P w B d s1 b1 v xs w1) : ∀ b, w1.heap.size ≤ b → Oth w.heap.size v b :=
 fun b hb => ⟨Nat.le_trans h.rd.own.size hb, fun e => by have := (h.own.lt b e).2; omega⟩
theorem RI.app (K : Keeps P) (h : RI T size C P w B d s1 b1 v xs w1) (hx : b1 = false → P w1 (Oth w.heap.size v) x) (hg : w1.grownBy w2 v.ownBlock)
  (hown : w2.ownsRow w.heap.size T size v' (xs.length + 1) (xs.flatMap C ++ C x)) (hv : v'.ownBlock = v.ownBlock ∨ v'.ownBlock = some w1.heap.size) : RI T size C P w B d s1 b1 v' (xs ++ [x]) w2 := by
 refine ⟨h.rd.far h.lt hg (fun j e => (h.own.lt j e).1), ?_, fun e y hy => ?_, h.lt⟩
 ·rw [List.length_append, List.flatMap_append, List.flatMap_singleton]; exact hown
 ·have hy1 : P w1 (Oth w.heap.size v) y := by
   rcases List.mem_append.1 hy with hy | hy
   ·exact h.mem e y hy
   ·rw [List.mem_singleton.1 hy]; exact hx e
  have h2 : P w2 (fun b => Oth w.heap.size v b ∧ b < w1.heap.size) y := K.kept hg (fun k e hk => hk.1.2 e) (K.sub (fun b hl hb => ⟨hb, hl⟩) hy1)
  refine K.sub (fun b _ hb => ⟨hb.1.1, fun e => ?_⟩) h2
  rcases hv with hv | hv
  ·exact hb.1.2 (by rw [← hv]; exact e)
  ·rw [hv] at e
   have := Option.some.inj e
   have := hb.2
   omega
end
def PcP (n : Nat) (w : World) (S : Nat → Prop) (x : Value × Pc) : Prop := PcOk x.2 ∧ ∃ a, x.2.f = Atm.fn a ∧ AtO n w S x.1 a
def RwP (n : Nat) (w : World) (S : Nat → Prop) (x : Value × List Pc) : Prop := RowR (AtO n) w S x.1 x.2
def pcC1 (x : Value × Pc) : List Value := [x.1, .int .i64 x.2.lo, .int .i64 x.2.hi]
def rwC1 (x : Value × List Pc) : List Value := [x.1]
theorem pc_keeps (n : Nat) : Keeps (PcP n) := ⟨fun hg hr ⟨o, a, e, h⟩ => ⟨o, a, e, h.kept hg hr⟩, fun hS ⟨o, a, e, h⟩ => ⟨o, a, e, h.sub hS⟩⟩
theorem rw_keeps (n : Nat) : Keeps (RwP n) := ⟨fun hg hr h => RowR.kept hg hr h, fun hS h => RowR.sub hS h⟩
theorem rwC_map (xs : List (Value × List Pc)) : xs.flatMap rwC1 = xs.map (fun x => x.1) := by
 induction xs with
 | nil => rfl
 | cons x xs ih => rw [List.flatMap_cons, ih]; rfl
abbrev PI (n : Nat) := RI 227 3 pcC1 (PcP n)
abbrev SI (n : Nat) := RI 184 1 rwC1 (RwP n)
theorem PI.row {n : Nat} {w wr : World} {B : Nat} {d : Int} {s1 : List UInt8} {v : Value} {xs : List (Value × Pc)} (h : PI n w B d s1 false v xs wr) : RowR (AtO n) wr (From w.heap.size) v (xs.map (fun x => x.2)) :=
 ⟨xs, rfl, OwS.of h.own (fun _ hb _ => hb), fun x hx => by
  obtain ⟨o, a, e, ha⟩ := h.mem rfl x hx
  exact ⟨o, a, e, ha.sub (fun b _ hb => hb.1)⟩⟩
theorem SI.rows {n : Nat} {w wr : World} {B : Nat} {d : Int} {s1 : List UInt8} {v : Value} {xs : List (Value × List Pc)} (h : SI n w B d s1 false v xs wr) : RowsR (AtO n) wr (From w.heap.size) v (xs.map (fun x => x.2)) :=
 ⟨xs, rfl, OwS.of (by rw [← rwC_map]; exact h.own) (fun _ hb _ => hb), fun x hx => (h.mem rfl x hx).sub (fun b _ hb => hb.1)⟩
theorem own_sl {w : World} {lo : Nat} {T : TypeId} {size n : Nat} {v : Value} {xs : List Value} (h : w.ownsRow lo T size v n xs) : ∃ a n c, v = .slice a n c := by
 rcases h.2 with ⟨g, _⟩ | ⟨g, c, cu, g1, _⟩
 ·exact ⟨_, _, _, g⟩
 ·exact ⟨_, _, _, g1⟩
theorem cells_new (w : World) (cs : List Value) (t : TypeId) : ∀ j u, cs[j]? = some u → (w.alloc (.cells cs.toArray t)).cell? ((⟨w.heap.size, 0, none⟩ : Addr).add j) = some u := by
 intro j u hj
 have := (Blk.fresh w cs t).cell j
 rw [hj] at this
 have e : (⟨w.heap.size, 0, none⟩ : Addr).add j = ⟨w.heap.size, j, none⟩ := by
  unfold Addr.add
  split
  ·rename_i g; rw [g]
  ·rw [Nat.zero_add]
 rw [e]; exact this
structure AtmQ (N B : Nat) (s : List UInt8) (dn : Nat) (w : World) (v : Value) (grp : Bool) (s' : List UInt8) (bad' : Bool) (w' : World) : Prop where
 is : IsAt v grp
 rd : Rd w B s' dn bad' w'
 le : s'.length ≤ s.length
 lt : s ≠ [] → s'.length < s.length
 good : ∀ a r1, atomF N dn (runes s) = some (a, r1) → bad' = false ∧ runes s' = r1 ∧ a.isGrp = grp ∧ AtO N w' (From w.heap.size) v a
 none : atomF N dn (runes s) = none → bad' = true
def AtmE (N B : Nat) (s : List UInt8) (dn : Nat) (w : World) (e : Ending) (w' : World) : Prop := ∃ v grp s' bad', e = .returned v ∧ AtmQ N B s dn w v grp s' bad' w'
structure RowQ (N B : Nat) (s : List UInt8) (dn : Nat) (bad : Bool) (w : World) (v : Value) (s' : List UInt8) (bad' : Bool) (w' : World) : Prop where
 one : ∃ a n c, v = .slice a n c
 rd : Rd w B s' dn bad' w'
 le : s'.length ≤ s.length
 stay : bad = true → bad' = true
 good : bad = false → ∀ ps r1, rowF N dn (runes s) = some (ps, r1) → bad' = false ∧ runes s' = r1 ∧ RowR (AtO N) w' (From w.heap.size) v ps
 none : bad = false → rowF N dn (runes s) = none → bad' = true
def RowE (N B : Nat) (s : List UInt8) (dn : Nat) (bad : Bool) (w : World) (e : Ending) (w' : World) : Prop := ∃ v s' bad', e = .returned v ∧ RowQ N B s dn bad w v s' bad' w'
structure RowsQ (N B : Nat) (s : List UInt8) (dn : Nat) (bad : Bool) (w : World) (v : Value) (s' : List UInt8) (bad' : Bool) (w' : World) : Prop where
 one : ∃ a n c, v = .slice a n c
 rd : Rd w B s' dn bad' w'
 le : s'.length ≤ s.length
 stay : bad = true → bad' = true
 good : bad = false → ∀ rs r1, rowsF N dn (runes s) = some (rs, r1) → bad' = false ∧ runes s' = r1 ∧ RowsR (AtO N) w' (From w.heap.size) v rs
 none : bad = false → rowsF N dn (runes s) = none → bad' = true
def RowsE (N B : Nat) (s : List UInt8) (dn : Nat) (bad : Bool) (w : World) (e : Ending) (w' : World) : Prop := ∃ v s' bad', e = .returned v ∧ RowsQ N B s dn bad w v s' bad' w'
def AtomC (N : Nat) : Prop := ∀ (B : Nat) (s : List UInt8) (dn : Nat) (w : World), RB w B s dn false → GUB w B → s.length ≤ 1000 → dn ≤ 8 → 3 * s.length + 1 ≤ N → Calls Tryz.prog 328 #[.pointer (some ⟨B, 0, none⟩)] w (AtmE N B s dn w)
def RowC (N : Nat) : Prop := ∀ (B : Nat) (s : List UInt8) (dn : Nat) (bad : Bool) (w : World), RB w B s dn bad → GUB w B → s.length ≤ 1000 → dn ≤ 9 → (bad = false → dn ≤ 8) → 3 * s.length + 2 ≤ N → Calls Tryz.prog 291 #[.pointer (some ⟨B, 0, none⟩)] w (RowE N B s dn bad w)
def RowsC (N : Nat) : Prop := ∀ (B : Nat) (s : List UInt8) (dn : Nat) (bad : Bool) (w : World), RB w B s dn bad → GUB w B → s.length ≤ 1000 → dn ≤ 9 → (bad = false → dn ≤ 8) → 3 * s.length + 3 ≤ N → Calls Tryz.prog 244 #[.pointer (some ⟨B, 0, none⟩)] w (RowsE N B s dn bad w)
theorem cls_lit {w : World} {lo : Nat} (sp : List (Int × Int)) (neg : Bool) (N : Nat) (hB : lo ≤ w.heap.size) (hn : sp.length ≤ 1000) : AtO N ((w.alloc (.cells (spC sp).toArray 233)).alloc (.cells #[.slice (some ⟨w.heap.size, 0, none⟩) sp.length sp.length, .bool neg] 231)) (From lo) (clsV (w.heap.size + 1)) (.cls sp neg) := by
 have h := sp_new (w := w) (S := From lo) sp hB hn
 have := cls_new (sv := .slice (some ⟨w.heap.size, 0, none⟩) sp.length sp.length) neg 231 (by rw [World.size_alloc]; exact Nat.le_succ_of_le hB) h N
 rw [World.size_alloc] at this
 exact this
theorem infoPc : (Tryz.prog.info? 227).map (fun i => (i.zero, i.size, i.bytes)) = some (some (.agg #[.nilIface, .int .i64 0, .int .i64 0]), 3, 32) := by kernel_rfl
theorem infoRw : (Tryz.prog.info? 184).map (fun i => (i.zero, i.size, i.bytes)) = some (some (.slice none 0 0), 1, 24) := by kernel_rfl

def pcOf (x : Option (Atm × List Int)) (lo hi : Int) : Pc := match x with
 | some y => ⟨y.1.fn, lo, hi⟩
 | none => ⟨fun _ a => a, lo, hi⟩
theorem pcOf_lo (x : Option (Atm × List Int)) (lo hi : Int) : (pcOf x lo hi).lo = lo := by cases x <;> rfl
theorem pcOf_hi (x : Option (Atm × List Int)) (lo hi : Int) : (pcOf x lo hi).hi = hi := by cases x <;> rfl
theorem isEnd_of (s : List UInt8) (h : s ≠ []) : isEnd (runes s) = (headC s == 124 || headC s == 41) := by
 rw [runes_ht s h]; rfl
theorem rinv_step {N m d B : Nat} {X : Option (List Pc × List Int)} {s1 s2 s3 : List UInt8} {b2 b3 grp : Bool} {lo hi : Int} {ps : List Pc} {v : Value} {wr w1 w2 : World} (hX : X = contR (m + 1) d (runes s1) ps) (hm : 3 * s1.length + 2 ≤ m + 1) (hmN : m + 1 ≤ N)
  (hE : isEnd (runes s1) = false) (hne : s1 ≠ []) (A : AtmQ m B s1 d wr v grp s2 b2 w1) (O : OftQ B s2 d b2 grp w1 lo hi s3 b3 w2) :
  RInv N d X s3.length (runes s3) b3 (ps ++ [pcOf (atomF m d (runes s1)) lo hi]) ∧ (b3 = false → PcOk (pcOf (atomF m d (runes s1)) lo hi) ∧ ∃ a, (pcOf (atomF m d (runes s1)) lo hi).f = Atm.fn a ∧ AtO m w1 (From wr.heap.size) v a) := by
 have hl2 := A.lt hne
 have hl3 := O.le
 cases hq : atomF m d (runes s1) with
 | none =>
  have hb3 := O.stay (A.none hq)
  exact ⟨⟨fun e => (by rw [hb3] at e; cases e), fun _ => by rw [hX, cr_bad hE hq]⟩, fun e => (by rw [hb3] at e; cases e)⟩
 | some y =>
  obtain ⟨a, r1⟩ := y
  obtain ⟨hb2, hr1, hg, hA⟩ := A.good a r1 hq
  rw [← hr1] at hq
  cases ho : often grp (runes s2) with
  | none =>
   have hb3 := O.none hb2 ho
   exact ⟨⟨fun e => (by rw [hb3] at e; cases e), fun _ => by rw [hX, cr_bad2 hE hq (by rw [hg]; exact ho)]⟩, fun e => (by rw [hb3] at e; cases e)⟩
  | some z =>
   obtain ⟨lo1, hi1, r2⟩ := z
   obtain ⟨hb3, rfl, rfl, hr2⟩ := O.good hb2 lo1 hi1 r2 ho
   refine ⟨⟨fun _ => ⟨m, by omega, by omega, ?_⟩, fun e => (by rw [hb3] at e; cases e)⟩, fun _ => ⟨often_ok ho, a, rfl, hA⟩⟩
   rw [hX, cr_go hE hq (by rw [hg]; exact ho), hr2]
   rfl
theorem rinv_end {N d : Nat} {X : Option (List Pc × List Int)} {len : Nat} {r : List Int} {b : Bool} {ps : List Pc} (h : RInv N d X len r b ps) (hE : b = false → isEnd r = true) : (∀ ps1 r1, X = some (ps1, r1) → b = false ∧ r = r1 ∧ ps = ps1) ∧ (X = none → b = true) := by
 cases b with
 | true =>
  have := h.2 rfl
  exact ⟨fun ps1 r1 e => (by rw [this] at e; cases e), fun _ => rfl⟩
 | false =>
  obtain ⟨M, hM, _, hX⟩ := h.1 rfl
  rw [cr_end (by omega) (hE rfl)] at hX
  refine ⟨fun ps1 r1 e => ?_, fun e => (by rw [hX] at e; cases e)⟩
  rw [hX] at e
  cases e
  exact ⟨rfl, rfl, rfl⟩
def rowT (b : Bool) (s : List UInt8) : Bool := !b && !isEnd (runes s)
theorem row_step (N : Nat) (ih : ∀ M, M < N → AtomC M) : RowC N := by
 intro B s dn bad w h hU hl hd hd8 hN
 have hlt := Blk.lt h
 obtain ⟨i0, hi, hz0, hz1, hz2⟩ := info_parts infoPc
 have HU : Hid (∀ w1, w.grownBy w1 (some B) → GUB w1 B) := Lib.hid (fun w1 hg => hU.kept hg)
 have HL := Lib.hid hl
 have HIh := Lib.hid ih
 obtain ⟨X, hX⟩ : ∃ X, X = if bad then none else rowF N dn (runes s) := ⟨_, rfl⟩
 have HX := Lib.hid hX
 have HD := Lib.hid hd8
 have HI0 : Hid (RInv N dn X s.length (runes s) bad []) := Lib.hid ⟨fun e => ⟨N, hN, Nat.le_refl _, by rw [hX, e, cr_nil]; rfl⟩, fun e => by rw [hX, e]; rfl⟩
 have hpi : PI N w B dn s bad (.slice none 0 0) [] w := ⟨Rd.refl h, ⟨rfl, .inl ⟨rfl, rfl⟩⟩, fun _ x hx => (by cases hx), hlt⟩
 clear h hU hl ih hX hd8 hN
 go_enter Tryz.func291, Tryz.ntmps291
 go_wp2_with fail
 go_loopw [3] (fun s3 wr => ∃ s1 b1 v xs, s3 = v ∧ PI N w B dn s1 b1 v xs wr ∧ Hid (RInv N dn X s1.length (runes s1) b1 (xs.map (fun x => x.2))) ∧ Hid (s1.length + xs.length ≤ s.length ∧ (bad = true → b1 = true))) (fun _ wr => rdM wr B)
 case atStart => exact ⟨s, bad, .slice none 0 0, [], rfl, hpi, HI0, Lib.hid ⟨Nat.le_refl _, id⟩⟩
 case round =>
  obtain ⟨s1, b1, v, xs, rfl, hpi, hI, hB⟩ := hrel
  obtain ⟨va, vn, vcap, rfl⟩ := own_sl hpi.own
  obtain ⟨q, hq⟩ : ∃ q, q = rowT b1 s1 := ⟨_, rfl⟩
  have HQ := Lib.hid hq
  clear hq
  have hB0 : Hid (rdM wr B = 2 * s1.length + (if b1 then 0 else 1)) := Lib.hid (rdM_of hpi.rd.rb)
  have d2 := hpi.rd.rb.c2
  have d0 := hpi.rd.rb.c0
  go_upto_region 2 with fail
  go_cut [28] (fun s28 wx => s28 = .bool q ∧ PI N w B dn s1 b1 (.slice va vn vcap) xs wx)
  case first =>
   cases b1 with
   | true =>
    have HX2 : Hid (q = false) := Lib.hid (by rw [HQ.out]; rfl)
    go_wp2_with fail
    go_meet
    exact ⟨by rw [HX2.out], hpi⟩
   | false =>
    by_cases hs1 : s1 = []
    ·have hemp : s1.isEmpty = true := by rw [hs1]; rfl
     have HX2 : Hid (q = false) := Lib.hid (by rw [HQ.out, hs1]; rfl)
     clear hs1
     go_wp2_with fail
     go_meet
     exact ⟨by rw [HX2.out], hpi⟩
    ·have hemp : s1.isEmpty = false := by simp [hs1]
     have HX2 : Hid (q = !(headC s1 == 124 || headC s1 == 41)) := Lib.hid (by rw [HQ.out]; unfold rowT; rw [isEnd_of s1 hs1]; rfl)
     have hnx := next_any B s1 dn false wr hpi.rd.rb (HU.out wr hpi.rd.own).u
     have HNx := Lib.hid (fun w1 (g : RB w1 B s1 dn false) (g2 : w.grownBy w1 (some B)) => next_any B s1 dn false w1 g (HU.out w1 g2).u)
     clear hs1
     generalize headC s1 = c1 at *
     cases g124 : c1 == 124 with
     | true =>
      have HX3 : Hid (q = false) := Lib.hid (by rw [HX2.out, g124]; rfl)
      have gb : (c1 != 124) = false := by unfold bne; rw [g124]; rfl
      clear g124
      go_wp2_with fail
      refine hnx.mono ?_
      rintro e w1 ⟨rfl, hb1⟩
      have hpi := hpi.below (pc_keeps N) hb1
      go_wp2_with fail
      go_meet
      exact ⟨by rw [HX3.out], hpi⟩
     | false =>
      have HX3 : Hid (q = (c1 != 41)) := Lib.hid (by rw [HX2.out, g124]; rfl)
      have gb : (c1 != 124) = true := by unfold bne; rw [g124]; rfl
      clear g124
      go_wp2_with fail
      refine hnx.mono ?_
      rintro e w1 ⟨rfl, hb1⟩
      have hpi := hpi.below (pc_keeps N) hb1
      have hnx2 := HNx.out w1 hpi.rd.rb hpi.rd.own
      clear hnx
      go_wp2_with fail
      refine hnx2.mono ?_
      rintro e w2 ⟨rfl, hb2⟩
      have hpi := hpi.below (pc_keeps N) hb2
      go_wp2_with fail
      go_meet
      exact ⟨by rw [HX3.out], hpi⟩
  case rest =>
  obtain ⟨rfl, hpi⟩ := hcut
  clear d2 d0
  cases q with
  | false =>
   have HE : Hid (b1 = false → isEnd (runes s1) = true) := Lib.hid (fun e => by
    have := HQ.out
    unfold rowT at this
    rw [e] at this
    cases g : isEnd (runes s1) with
    | true => rfl
    | false => rw [g] at this; cases this)
   have HEnd := Lib.hid (rinv_end hI.out HE.out)
   have HB := hB
   clear hI
   go_wp2_with fail
   go_ret
   refine ⟨.slice va vn vcap, s1, b1, rfl, ⟨_, _, _, rfl⟩, hpi.rd, by have := HB.out.1; omega, HB.out.2, fun hb ps r1 e => ?_, fun hb e => ?_⟩
   ·have hx := HX.out
    rw [hb, if_neg Bool.false_ne_true, e] at hx
    obtain ⟨e1, e2, e3⟩ := HEnd.out.1 ps r1 hx
    subst e1
    refine ⟨rfl, e2, ?_⟩
    rw [← e3]
    exact hpi.row
   ·have hx := HX.out
    rw [hb, if_neg Bool.false_ne_true, e] at hx
    exact HEnd.out.2 hx
  | true =>
   have hqt := HQ.out
   unfold rowT at hqt
   have hb1 : b1 = false := by cases b1 with
    | false => rfl
    | true => cases hqt
   subst hb1
   have hE : isEnd (runes s1) = false := by cases g : isEnd (runes s1) with
    | false => rfl
    | true => rw [g] at hqt; cases hqt
   have hne : s1 ≠ [] := by rintro rfl; cases hE
   have hbad : bad = false := by cases bad with
    | false => rfl
    | true => have := hB.out.2 rfl; cases this
   have hd8 := HD.out hbad
   obtain ⟨M, hM, hMN, hXM⟩ := hI.out.1 rfl
   obtain ⟨m, rfl⟩ : ∃ m, M = m + 1 := ⟨M - 1, by omega⟩
   have hl1 : s1.length ≤ 1000 := by have := HL.out; have := hB.out.1; omega
   have hat := HIh.out m (by omega) B s1 dn wc hpi.rd.rb (HU.out wc hpi.rd.own) hl1 hd8 (by omega)
   have HS : Hid (∀ {s2 s3 : List UInt8} {b2 b3 grp : Bool} {lo hi : Int} {v : Value} {w1 w2 : World} (A : AtmQ m B s1 dn wc v grp s2 b2 w1) (O : OftQ B s2 dn b2 grp w1 lo hi s3 b3 w2), _) := Lib.hid (fun A O => rinv_step (ps := xs.map (fun x => x.2)) (N := N) hXM hM hMN hE hne A O)
   have HNe := Lib.hid hne
   have HLt := Lib.hid hlt
   have HWc := Lib.hid hpi.rd.own.size
   have HmN : Hid (m ≤ N) := Lib.hid (by omega)
   clear hqt hE hne hd8 hM hMN hXM HQ hI
   go_wp2_with fail
   refine hat.mono ?_
   rintro e w1 ⟨v1, grp, s2, b2, rfl, A⟩
   have hpi1 := hpi.step (pc_keeps N) A.rd (fun e => by cases e)
   have HA := Lib.hid A
   have hof := often_any B s2 dn b2 grp v1 A.is w1 A.rd.rb (HU.out w1 hpi1.rd.own) (by have := A.le; omega)
   have HOt := Lib.hid hpi.oth
   obtain ⟨T1, p1, rfl⟩ : ∃ T p, v1 = .iface T (.pointer p) := by
    obtain ⟨b, hb⟩ := A.is
    cases grp with
    | true => exact ⟨_, _, hb⟩
    | false => exact ⟨_, _, hb⟩
   clear hat A hpi
   go_wp2_with fail
   refine hof.mono ?_
   rintro e w2 ⟨lo, hi2, s3, b3, rfl, O⟩
   have hpi2 := hpi1.step (pc_keeps N) O.rd O.stay
   have HSt := Lib.hid (HS.out HA.out O)
   have HO3 : Hid (s3.length < s1.length) := Lib.hid (Nat.lt_of_le_of_lt O.le (HA.out.lt HNe.out))
   have HK := Lib.hid O.rd.own
   have HCz : Hid (B < wc.heap.size) := Lib.hid (by have := HLt.out; have := HWc.out; omega)
   clear hof O HS hpi1
   obtain ⟨pc, hpc⟩ : ∃ pc, pc = pcOf (atomF m dn (runes s1)) lo hi2 := ⟨_, rfl⟩
   have HPc : Hid (pcC1 ((.iface T1 (.pointer p1) : Value), pc) = [.iface T1 (.pointer p1), .int .i64 lo, .int .i64 hi2]) := Lib.hid (by rw [hpc]; show [_, Value.int .i64 (pcOf _ _ _).lo, Value.int .i64 (pcOf _ _ _).hi] = _; rw [pcOf_lo, pcOf_hi])
   rw [← hpc] at HSt
   clear hpc
   have hba : Below w2.heap.size w2 (w2.alloc (.cells #[.iface T1 (.pointer p1), .int .i64 lo, .int .i64 hi2] 227)) := (Below.refl _ _).alloc (Nat.le_refl _) _
   have hpiA := hpi2.below (pc_keeps N) hba
   have hx : b3 = false → PcP N (w2.alloc (.cells #[.iface T1 (.pointer p1), .int .i64 lo, .int .i64 hi2] 227)) (Oth w.heap.size (.slice va vn vcap)) ((.iface T1 (.pointer p1) : Value), pc) := fun e => by
    obtain ⟨ok, a, ea, ha⟩ := HSt.out.2 e
    refine ⟨ok, a, ea, AtO.mono HmN.out (AtO.sub (fun b _ hb => HOt.out b hb) ?_)⟩
    exact (ha.kept HK.out (fun k e hk => by have := Option.some.inj e; have := HCz.out; have hk : wc.heap.size ≤ k := hk; omega)).kept (r := none) (grownBy_below (World.grownBy.refl _ _) hba) (fun k e => by cases e)
   have HX1 := Lib.hid hx
   have HR1 := Lib.hid HSt.out.1
   have hown := hpiA.own
   have hsz := hpiA.rd.own.size
   have hmx : xs.length + 1 ≤ 1001 := by have := HL.out; have := hB.out.1; omega
   clear hx HSt HOt HK hpi2
   go_wp2_with (at_builtin; refine wpList_append_own_at _ rfl _ _ 184 rfl w.heap.size 227 i0 _ 3 32 Tryz.underlying184 hi hz0 hz1 hz2 rfl (by decide) _ _ _ rfl hown ⟨w2.heap.size, 0, none⟩ 1 1 [.iface T1 (.pointer p1), .int .i64 lo, .int .i64 hi2] rfl rfl (cells_new w2 _ _) ?q3 ?q4 ?q5 ?q6 ?_)
   case q3 =>
    intro u hu
    simp only [List.mem_cons, List.not_mem_nil, or_false] at hu
    rcases hu with rfl | rfl | rfl <;> rfl
   case q4 => unfold maxLen; omega
   case q5 => omega
   case q6 => exact hsz
   intro v' w9 hown9 hgrow9 _ hblk9
   rw [← HPc.out] at hown9
   have hpi9 := hpiA.app (pc_keeps N) HX1.out hgrow9 hown9 (by rw [World.size_alloc]; exact hblk9)
   clear hown9 hgrow9 hblk9 hown hpiA HX1
   go_wp2_with fail
   go_roundw
   case rel => exact ⟨s3, b3, v', xs ++ [((.iface T1 (.pointer p1) : Value), pc)], rfl, hpi9, by rw [List.map_append]; exact HR1, Lib.hid ⟨by have := hB.out.1; have := HO3.out; rw [List.length_append, List.length_singleton]; omega, fun e => by have := hB.out.2 e; cases this⟩⟩
   case measure =>
    rw [rdM_of hpi9.rd.rb, hB0.out]
    have := HO3.out
    cases b3 <;> simp <;> omega

theorem grp_good {N B dn : Nat} {s s2 : List UInt8} {b2 : Bool} {w wc w3 wA wz : World} {v : Value} {T : TypeId} (Q : RowsQ N B (tailB s) (dn + 1) (decide (8 ≤ dn)) wc v s2 b2 w3) (hwA : wA = w3.alloc (.cells #[v] T)) (hg : wA.grownBy wz (some B)) (hR : runes s = 40 :: runes (tailB s)) (hB : B < w.heap.size) (hwc : w.heap.size ≤ wc.heap.size) :
  (∀ a r1, atomF (N + 1) dn (runes s) = some (a, r1) → (b2 || decide (headC s2 ≠ 41)) = false ∧ runes (tailB s2) = r1 ∧ a.isGrp = true ∧ AtO (N + 1) wz (From w.heap.size) (grpV w3.heap.size) a) ∧ (atomF (N + 1) dn (runes s) = none → (b2 || decide (headC s2 ≠ 41)) = true) := by
 have hw3 := Q.rd.own.size
 have hBc : B < wc.heap.size := by omega
 rw [hR, atomF_grp]
 by_cases g : 8 ≤ dn
 ·rw [if_pos g]
  have := Q.stay (decide_eq_true g)
  exact ⟨fun _ _ e => (by cases e), fun _ => by rw [this]; rfl⟩
 rw [if_neg g]
 cases hq : rowsF N (dn + 1) (runes (tailB s)) with
 | none => exact ⟨fun _ _ e => (by cases e), fun _ => by rw [Q.none (decide_eq_false g) hq]; rfl⟩
 | some y =>
  obtain ⟨rs, r2⟩ := y
  obtain ⟨hb, hr2, hRR⟩ := Q.good (decide_eq_false g) rs r2 hq
  dsimp only
  by_cases h41 : headC s2 = 41
  ·have hh : r2.head? = some 41 := by rw [← hr2, runes_at h41 (by decide)]; rfl
   rw [if_pos hh]
   refine ⟨fun a r1 e => ?_, fun e => (by cases e)⟩
   cases e
   have hba : Below w3.heap.size w3 wA := by rw [hwA]; exact (Below.refl _ w3).alloc (Nat.le_refl _) _
   refine ⟨by rw [hb, decide_eq_false (fun k => k h41)]; rfl, by rw [tailB_runes, hr2], rfl, .inr ⟨w3.heap.size, v, rs, rfl, rfl, Nat.le_trans hwc hw3, ?_, ?_⟩⟩
   ·refine blk_kept (B := B) ?_ hg (by omega)
    rw [hwA]
    exact Blk.fresh w3 [v] T
   ·have h1 := hRR.kept (r := none) (grownBy_below (World.grownBy.refl _ _) hba) (fun k e => by cases e)
    have h2 := h1.kept hg (fun k e hk => by have := Option.some.inj e; have hk : wc.heap.size ≤ k := hk; omega)
    exact h2.sub (fun b _ hb => Nat.le_trans hwc hb)
  ·have hh : ¬ r2.head? = some 41 := by
    intro e
    apply h41
    unfold headC
    rw [hr2]
    cases r2 with
    | nil => cases e
    | cons x r => exact Option.some.inj e
   rw [if_neg hh]
   exact ⟨fun _ _ e => (by cases e), fun _ => by rw [decide_eq_true h41, Bool.or_true]⟩
theorem atom_step (N : Nat) (ih : ∀ M, M < N → RowsC M) : AtomC N := by
 intro B s dn w h hU hl hd hN
 obtain ⟨N, rfl⟩ : ∃ m, N = m + 1 := ⟨N - 1, by omega⟩
 have ht := take_any B s dn false w h hU.u hl
 have hlt := Blk.lt h
 have HU : Hid (∀ w1, w.grownBy w1 (some B) → GUB w1 B) := Lib.hid (fun w1 hg => hU.kept hg)
 have HL := Lib.hid hl
 have hdI : (dn : Int) ≤ 8 := by omega
 have hd0 : (0 : Int) ≤ (dn : Int) := by omega
 by_cases hs : s = []
 ·subst hs
  rw [headC_nil] at ht
  clear h hU hl ih
  go_enter Tryz.func328, Tryz.ntmps328
  go_wp2_with fail
  refine ht.mono ?_
  rintro e w1 ⟨rfl, hr⟩
  clear ht
  have hr2 := hr.s2 true
  have d2 := hr.rb.c2
  have k2 := hr.rb.frozen 2
  go_wp2_with fail
  go_ret
  refine ⟨_, false, _, true, rfl, ⟨_, rfl⟩, (hr2.below ((Below.refl _ _).alloc (Nat.le_refl _) _)).below ((Below.refl _ _).alloc (Nat.le_refl _) _), Nat.le_refl _, fun g => absurd rfl g, fun a r1 e => ?_, fun _ => rfl⟩
  rw [runes_nil, atomF_nil] at e
  cases e
 have hrn := headC_rn s hs
 have HRs := Lib.hid (runes_ht s hs)
 have HTl := Lib.hid (tailB_lt s hs)
 have hcr := fun w => crune_atom (headC s) hrn w
 rw [decide_eq_false hs, Bool.or_false] at ht
 have hneg : ¬ headC s < 0 := by have := hrn.1; omega
 clear hrn hl
 generalize headC s = c at *
 by_cases c46 : c = 46
 ·subst c46
  clear h hU ih hcr
  go_enter Tryz.func328, Tryz.ntmps328
  go_wp2_with fail
  refine ht.mono ?_
  rintro e w1 ⟨rfl, hr⟩
  clear ht
  go_wp2_with fail
  go_ret
  refine ⟨_, false, _, false, rfl, ⟨_, rfl⟩, (hr.below ((Below.refl _ _).alloc (Nat.le_refl _) _)).below ((Below.refl _ _).alloc (Nat.le_refl _) _), Nat.le_of_lt HTl.out, fun _ => HTl.out, fun a r1 e => ?_, fun e => ?_⟩
  ·rw [HRs.out, atomF_eq, if_pos rfl] at e
   cases e
   exact ⟨rfl, rfl, rfl, cls_lit [(10, 10), (13, 13)] true _ hr.own.size (by decide)⟩
  ·rw [HRs.out, atomF_eq, if_pos rfl] at e; cases e
 have b46 : (c == 46) = false := by simpa using c46
 by_cases c92 : c = 92
 ·subst c92
  clear h hU ih hcr
  go_enter Tryz.func328, Tryz.ntmps328
  go_wp2_with fail
  refine ht.mono ?_
  rintro e w1 ⟨rfl, hr⟩
  clear ht
  have hes := escape_any B (tailB s) dn false w1 hr.rb (HU.out w1 hr.own).u (Nat.le_trans (Nat.le_of_lt HTl.out) HL.out)
  go_wp2_with fail
  refine hes.mono ?_
  rintro e w2 ⟨cb, bad', rfl, hr2, _, hq⟩
  clear hes
  obtain ⟨hq1, hq2⟩ := hq rfl
  have HQ1 := Lib.hid hq1
  have HQ2 := Lib.hid hq2
  clear hq hq1 hq2
  go_wp2_with fail
  go_ret
  have hle := tailB_len (tailB s)
  have hlt1 := HTl.out
  refine ⟨clsV cb, false, _, bad', rfl, ⟨_, rfl⟩, hr.trans hr2, by omega, fun _ => by omega, fun a r1 e => ?_, fun e => ?_⟩
  ·rw [HRs.out, atomF_eq, if_neg (by decide), if_pos rfl] at e
   obtain ⟨e1, e2, e3⟩ := HQ1.out a r1 e
   exact ⟨e1, e2, escR_cls e, (AtO.mono (Nat.zero_le _) e3).sub (fun b _ hb => Nat.le_trans hr.own.size hb)⟩
  ·rw [HRs.out, atomF_eq, if_neg (by decide), if_pos rfl] at e
   exact HQ2.out e
 have b92 : (c == 92) = false := by simpa using c92
 by_cases c91 : c = 91
 ·subst c91
  clear h hU ih hcr
  go_enter Tryz.func328, Tryz.ntmps328
  go_wp2_with fail
  refine ht.mono ?_
  rintro e w1 ⟨rfl, hr⟩
  clear ht
  have hes := class_any B (tailB s) dn w1 hr.rb (HU.out w1 hr.own) (Nat.le_trans (Nat.le_of_lt HTl.out) HL.out)
  go_wp2_with fail
  refine hes.mono ?_
  rintro e w2 ⟨cb, s', bad', rfl, hr2, hle, hq1, hq2⟩
  clear hes
  have HQ1 := Lib.hid hq1
  have HQ2 := Lib.hid hq2
  clear hq1 hq2
  go_wp2_with fail
  go_ret
  have hlt1 := HTl.out
  refine ⟨clsV cb, false, _, bad', rfl, ⟨_, rfl⟩, hr.trans hr2, by omega, fun _ => by omega, fun a r1 e => ?_, fun e => ?_⟩
  ·rw [HRs.out, atomF_eq, if_neg (by decide), if_neg (by decide), if_pos rfl] at e
   obtain ⟨e1, e2, e3⟩ := HQ1.out a r1 e
   exact ⟨e1, e2, clsR_cls e, (AtO.mono (Nat.zero_le _) e3).sub (fun b _ hb => Nat.le_trans hr.own.size hb)⟩
  ·rw [HRs.out, atomF_eq, if_neg (by decide), if_neg (by decide), if_pos rfl] at e
   exact HQ2.out e
 have b91 : (c == 91) = false := by simpa using c91
 by_cases c40 : c = 40
 ·subst c40
  have hih := Lib.hid (ih N (Nat.lt_succ_self N))
  have HN := Lib.hid hN
  clear h hU ih hcr hN
  go_enter Tryz.func328, Tryz.ntmps328
  go_wp2_with fail
  refine ht.mono ?_
  rintro e w1 ⟨rfl, hr⟩
  clear ht
  have d1 := hr.rb.c1
  have k1 := hr.rb.frozen 1
  have hr1 := hr.s1 ((dn : Int) + 1)
  go_upto_region 10 with fail
  go_cut [] (fun wx => Rd w B (tailB s) ((dn : Int) + 1) false wx)
  case first =>
   go_wp2_with fail
   go_meet
   exact hr1
  case rest =>
  have hr := hcut
  clear hr1 d1 k1
  have d1 := hr.rb.c1
  have d2 := hr.rb.c2
  have k2 := hr.rb.frozen 2
  have hr2 := hr.s2 true
  go_upto_if 37 with fail
  go_cut [] (fun wx => Rd w B (tailB s) ((dn : Int) + 1) (decide (8 ≤ dn)) wx)
  case first =>
   by_cases g : 8 ≤ dn
   ·have HE := Lib.hid (decide_eq_true g)
    have gi : (8 : Int) < (dn : Int) + 1 := by omega
    clear g
    go_wp2_with fail
    go_meet
    rw [HE.out]
    exact hr2
   ·have HE := Lib.hid (decide_eq_false g)
    have gi : ¬ (8 : Int) < (dn : Int) + 1 := by omega
    clear g
    go_wp2_with fail
    go_meet
    rw [HE.out]
    exact hr
  case rest =>
  have hr := hcut
  clear d1 d2 k2 hr2
  have HLt : Hid ((tailB s).length < s.length) := HTl
  have hrows := hih.out B (tailB s) (dn + 1) (decide (8 ≤ dn)) wc hr.rb (HU.out wc hr.own) (Nat.le_trans (Nat.le_of_lt HTl.out) HL.out) (by omega) (fun e => by have := of_decide_eq_false e; omega) (by have := HN.out; have := HTl.out; omega)
  go_wp2_with fail
  refine hrows.mono ?_
  rintro e w3 ⟨v, s2, b2, rfl, Q⟩
  obtain ⟨va, vn, vcap, rfl⟩ := Q.one
  have HQ := Lib.hid Q
  obtain ⟨wA, hwA⟩ : ∃ x, x = w3.alloc (.cells #[.slice va vn vcap] 140) := ⟨_, rfl⟩
  have hrA : Rd w B s2 ((dn : Int) + 1) b2 wA := by
   rw [hwA]
   exact (hr.trans Q.rd).below ((Below.refl _ _).alloc (Nat.le_refl _) _)
  have HWA := Lib.hid hwA
  have HC := Lib.hid hr.own.size
  have ht2 := take_any B s2 ((dn : Int) + 1) b2 wA hrA.rb (HU.out wA hrA.own).u (by have := Q.le; have := HTl.out; have := HL.out; omega)
  have HLe := Lib.hid Q.le
  clear hrows Q hr
  go_upto_region 14 with fail
  rw [← hwA]
  clear hwA
  go_wp2_with fail
  refine ht2.mono ?_
  rintro e w5 ⟨rfl, hr5⟩
  clear ht2
  have hx5 : (headC s2 = 41 → (b2 || decide (s2 = [])) = (b2 || decide (headC s2 ≠ 41))) ∧ (headC s2 ≠ 41 → (b2 || decide (headC s2 ≠ 41)) = true) := ⟨fun g => by rw [decide_eq_false (headC_nn g (by decide)), decide_eq_false (fun k => k g)], fun g => by rw [decide_eq_true g, Bool.or_true]⟩
  have HX := Lib.hid hx5
  clear hx5
  go_upto_if 47 with fail
  go_cut [] (fun wx => Rd w B (tailB s2) ((dn : Int) + 1) (b2 || decide (headC s2 ≠ 41)) wx ∧ wA.grownBy wx (some B))
  case first =>
   by_cases g : headC s2 = 41
   ·have gb : (headC s2 != 41) = false := by simpa using g
    have hr6 := hr5
    rw [HX.out.1 g] at hr6
    clear g hr5
    go_wp2_with fail
    go_meet
    exact ⟨hrA.trans hr6, hr6.own⟩
   ·have HX2 := Lib.hid (HX.out.2 g)
    have gb : (headC s2 != 41) = true := by simpa using g
    clear g
    have hr6 := hr5.s2 true
    have d2 := hr5.rb.c2
    have k2 := hr5.rb.frozen 2
    go_wp2_with fail
    go_meet
    rw [HX2.out]
    exact ⟨hrA.trans hr6, hr6.own⟩
  case rest =>
  obtain ⟨hr, hgA⟩ := hcut
  clear hrA hr5
  have d1 := hr.rb.c1
  have k1 := hr.rb.frozen 1
  have hr1 := hr.s1 (dn : Int)
  have hgz := grownBy_setB hgA 1 (.int .i64 (dn : Int))
  have hgood := grp_good HQ.out HWA.out hgz HRs.out hlt HC.out
  have HG := Lib.hid hgood
  have hle2 := tailB_len s2
  have hle1 := HLe.out
  have hlt1 := HTl.out
  have HLast : Hid ((tailB s2).length < s.length) := Lib.hid (by omega)
  clear hgood hle2 hle1 hlt1
  go_wp2_with fail
  go_ret
  exact ⟨grpV w3.heap.size, true, tailB s2, _, rfl, ⟨_, rfl⟩, hr1, Nat.le_of_lt HLast.out, fun _ => HLast.out, HG.out.1, HG.out.2⟩
 have b40 : (c == 40) = false := by simpa using c40
 have HX : Hid (∀ d r1, atomF (N + 1) d (c :: r1) = if c ∈ barAtom then none else some (.cls [(c, c)] false, r1)) := Lib.hid (fun d r1 => atomF_else N d c r1 ⟨c46, c92, c91, c40⟩)
 clear h hU ih c46 c92 c91 c40
 by_cases hm : c ∈ barAtom
 ·rw [decide_eq_true hm] at hcr
  have HM := Lib.hid hm
  clear hm
  go_enter Tryz.func328, Tryz.ntmps328
  go_wp2_with fail
  refine ht.mono ?_
  rintro e w1 ⟨rfl, hr⟩
  clear ht
  go_wp2_with fail
  refine (hcr _).mono ?_
  rintro e w2 ⟨rfl, hb2⟩
  have hr := hr.below hb2
  have hr2 := hr.s2 true
  have d2 := hr.rb.c2
  have k2 := hr.rb.frozen 2
  go_wp2_with fail
  go_ret
  refine ⟨_, false, _, true, rfl, ⟨_, rfl⟩, (hr2.below ((Below.refl _ _).alloc (Nat.le_refl _) _)).below ((Below.refl _ _).alloc (Nat.le_refl _) _), Nat.le_of_lt HTl.out, fun _ => HTl.out, fun a r1 e => ?_, fun _ => rfl⟩
  rw [HRs.out, HX.out, if_pos HM.out] at e
  cases e
 ·rw [decide_eq_false hm] at hcr
  have HM := Lib.hid hm
  clear hm
  go_enter Tryz.func328, Tryz.ntmps328
  go_wp2_with fail
  refine ht.mono ?_
  rintro e w1 ⟨rfl, hr⟩
  clear ht
  go_wp2_with fail
  refine (hcr _).mono ?_
  rintro e w2 ⟨rfl, hb2⟩
  have hr := hr.below hb2
  go_wp2_with fail
  go_ret
  refine ⟨_, false, _, false, rfl, ⟨_, rfl⟩, (hr.below ((Below.refl _ _).alloc (Nat.le_refl _) _)).below ((Below.refl _ _).alloc (Nat.le_refl _) _), Nat.le_of_lt HTl.out, fun _ => HTl.out, fun a r1 e => ?_, fun e => ?_⟩
  ·rw [HRs.out, HX.out, if_neg HM.out] at e
   cases e
   exact ⟨rfl, rfl, rfl, cls_lit [(c, c)] false _ hr.own.size (by show 1 ≤ 1000; decide)⟩
  ·rw [HRs.out, HX.out, if_neg HM.out] at e; cases e

def psOf (x : Option (List Pc × List Int)) : List Pc := match x with
 | some y => y.1
 | none => []
theorem sinv_start {N d B : Nat} {X : Option (List (List Pc) × List Int)} {s s1 : List UInt8} {b b1 : Bool} {v : Value} {w w1 : World} (hX : X = if b then none else rowsF (N + 1) d (runes s)) (hN : 3 * s.length + 3 ≤ N + 1) (R : RowQ N B s d b w v s1 b1 w1) :
  SInv N d X s1.length (runes s1) b1 [psOf (rowF N d (runes s))] ∧ (b1 = false → RowR (AtO N) w1 (From w.heap.size) v (psOf (rowF N d (runes s)))) := by
 have hl := R.le
 cases b with
 | true =>
  have hb := R.stay rfl
  exact ⟨⟨fun e => (by rw [hb] at e; cases e), fun _ => hX⟩, fun e => (by rw [hb] at e; cases e)⟩
 | false =>
  rw [if_neg Bool.false_ne_true, rowsF_eq] at hX
  cases hq : rowF N d (runes s) with
  | none =>
   have hb := R.none rfl hq
   rw [hq] at hX
   exact ⟨⟨fun e => (by rw [hb] at e; cases e), fun _ => hX⟩, fun e => (by rw [hb] at e; cases e)⟩
  | some y =>
   obtain ⟨ps, r1⟩ := y
   obtain ⟨hb, hr, hR⟩ := R.good rfl ps r1 hq
   rw [hq] at hX
   exact ⟨⟨fun _ => ⟨N, by omega, Nat.le_refl _, by rw [hX, hr]; rfl⟩, fun e => (by rw [hb] at e; cases e)⟩, fun _ => hR⟩
theorem sinv_step {N m d B : Nat} {X : Option (List (List Pc) × List Int)} {s1 s2 : List UInt8} {b1 b2 : Bool} {v : Value} {rs : List (List Pc)} {wr w2 : World} (hX : b1 = false → X = contS (m + 1) d (runes s1) rs) (hX2 : b1 = true → X = none) (hm : 3 * (tailB s1).length ≤ m) (hmN : m ≤ N) (hh : headC s1 = 124)
  (R : RowQ m B (tailB s1) d b1 wr v s2 b2 w2) : SInv N d X s2.length (runes s2) b2 (rs ++ [psOf (rowF m d (runes (tailB s1)))]) ∧ (b2 = false → RowR (AtO m) w2 (From wr.heap.size) v (psOf (rowF m d (runes (tailB s1))))) := by
 have hl := R.le
 cases b1 with
 | true =>
  have hb := R.stay rfl
  exact ⟨⟨fun e => (by rw [hb] at e; cases e), fun _ => hX2 rfl⟩, fun e => (by rw [hb] at e; cases e)⟩
 | false =>
  have hX := hX rfl
  have hr1 : (runes s1).head? = some 124 := by rw [runes_at hh (by decide)]; rfl
  rw [cs_go hr1, ← tailB_runes] at hX
  cases hq : rowF m d (runes (tailB s1)) with
  | none =>
   have hb := R.none rfl hq
   rw [hq] at hX
   exact ⟨⟨fun e => (by rw [hb] at e; cases e), fun _ => hX⟩, fun e => (by rw [hb] at e; cases e)⟩
  | some y =>
   obtain ⟨ps, r1⟩ := y
   obtain ⟨hb, hr, hR⟩ := R.good rfl ps r1 hq
   rw [hq] at hX
   exact ⟨⟨fun _ => ⟨m, by omega, hmN, by rw [hX, hr]; rfl⟩, fun e => (by rw [hb] at e; cases e)⟩, fun _ => hR⟩
theorem sinv_end {N d : Nat} {X : Option (List (List Pc) × List Int)} {len : Nat} {r : List Int} {b : Bool} {rs : List (List Pc)} (h : SInv N d X len r b rs) (hE : r.head? ≠ some 124) : (∀ rs1 r1, X = some (rs1, r1) → b = false ∧ r = r1 ∧ rs = rs1) ∧ (X = none → b = true) := by
 cases b with
 | true =>
  have := h.2 rfl
  exact ⟨fun ps1 r1 e => (by rw [this] at e; cases e), fun _ => rfl⟩
 | false =>
  obtain ⟨M, hM, _, hX⟩ := h.1 rfl
  rw [cs_end hE] at hX
  refine ⟨fun ps1 r1 e => ?_, fun e => (by rw [hX] at e; cases e)⟩
  rw [hX] at e
  cases e
  exact ⟨rfl, rfl, rfl⟩
theorem rows_step (N : Nat) (ih : ∀ M, M < N → RowC M) : RowsC N := by
 intro B s dn bad w h hU hl hd hd8 hN
 obtain ⟨N, rfl⟩ : ∃ m, N = m + 1 := ⟨N - 1, by omega⟩
 have hlt := Blk.lt h
 obtain ⟨i0, hi, hz0, hz1, hz2⟩ := info_parts infoRw
 have HU : Hid (∀ w1, w.grownBy w1 (some B) → GUB w1 B) := Lib.hid (fun w1 hg => hU.kept hg)
 have HL := Lib.hid hl
 obtain ⟨X, hX⟩ : ∃ X, X = if bad then none else rowsF (N + 1) dn (runes s) := ⟨_, rfl⟩
 have HX := Lib.hid hX
 have HD := Lib.hid hd8
 have HN := Lib.hid hN
 have HDn := Lib.hid hd
 have hrow := ih N (Nat.lt_succ_self N) B s dn bad w h hU hl hd hd8 (by omega)
 have HIh := Lib.hid ih
 have HS0 : Hid (∀ {v : Value} {s1 : List UInt8} {b1 : Bool} {w1 : World} (R : RowQ N B s dn bad w v s1 b1 w1), _) := Lib.hid (fun R => sinv_start hX hN R)
 have hl0 := Lib.hid hlt
 clear h hU hl ih hX hd8 hN hd
 go_enter Tryz.func244, Tryz.ntmps244
 go_wp2_with fail
 refine hrow.mono ?_
 rintro e w1 ⟨v1, s1, b1, rfl, R⟩
 obtain ⟨va, vn, vcap, rfl⟩ := R.one
 have HSt := Lib.hid (HS0.out R)
 have HRs := Lib.hid R.stay
 have HRl := Lib.hid R.le
 have hrd := R.rd
 have hba : Below w1.heap.size w1 (w1.alloc (.cells #[.slice va vn vcap] 184)) := (Below.refl _ _).alloc (Nat.le_refl _) _
 obtain ⟨ps, hps⟩ : ∃ ps, ps = psOf (rowF N dn (runes s)) := ⟨_, rfl⟩
 rw [← hps] at HSt
 have hsi : SI N w B dn s1 b1 (.slice (some ⟨w1.heap.size, 0, none⟩) 1 1) [(.slice va vn vcap, ps)] (w1.alloc (.cells #[.slice va vn vcap] 184)) := by
  refine ⟨hrd.below hba, World.ownsRow_lit w1 #[.slice va vn vcap] 1 hrd.own.size (by unfold maxLen; omega) rfl, fun e x hx => ?_, hl0.out⟩
  rw [List.mem_singleton.1 hx]
  have h1 := (HSt.out.2 e).kept (r := none) (grownBy_below (World.grownBy.refl _ _) hba) (fun k e => by cases e)
  have h2 := (HSt.out.2 e).sub (S' := fun b => w.heap.size ≤ b ∧ b < w1.heap.size) (fun b hl hb => ⟨hb, hl⟩)
  have h3 := h2.kept (r := none) (grownBy_below (World.grownBy.refl _ _) hba) (fun k e => by cases e)
  exact h3.sub (fun b _ hb => ⟨hb.1, fun e => by have e2 : w1.heap.size = b := Option.some.inj e; have := hb.2; omega⟩)
 have HI0 := Lib.hid HSt.out.1
 clear hrow R hps HS0 HSt hrd hba
 go_wp2_with fail
 go_loopw [3] (fun s3 wr => ∃ s1 b1 v xs, s3 = v ∧ SI N w B dn s1 b1 v xs wr ∧ Hid (SInv N dn X s1.length (runes s1) b1 (xs.map (fun x => x.2))) ∧ Hid (s1.length ≤ s.length ∧ s1.length + xs.length ≤ s.length + 1 ∧ (bad = true → b1 = true))) (fun _ wr => rdM wr B)
 case atStart => exact ⟨s1, b1, _, _, rfl, hsi, HI0, Lib.hid ⟨HRl.out, by have := HRl.out; show _ + 1 ≤ _; omega, HRs.out⟩⟩
 case round =>
  clear hsi HI0 HRs HRl
  obtain ⟨s1, b1, v, xs, rfl, hsi, hI, hB⟩ := hrel
  obtain ⟨va, vn, vcap, rfl⟩ := own_sl hsi.own
  have hB0 : Hid (rdM wr B = 2 * s1.length + (if b1 then 0 else 1)) := Lib.hid (rdM_of hsi.rd.rb)
  have hnx := next_any B s1 dn b1 wr hsi.rd.rb (HU.out wr hsi.rd.own).u
  by_cases h124 : headC s1 = 124
  case neg =>
   have hb : (headC s1 == 124) = false := by simpa using h124
   have HH : Hid ((runes s1).head? ≠ some 124) := Lib.hid (by
    intro e
    apply h124
    unfold headC
    cases hr : runes s1 with
    | nil => rw [hr] at e; cases e
    | cons x r => rw [hr] at e; exact Option.some.inj e)
   have HEnd := Lib.hid (sinv_end hI.out HH.out)
   clear h124 hI
   generalize headC s1 = c1 at *
   go_wp2_with fail
   refine hnx.mono ?_
   rintro e w3 ⟨rfl, hb3⟩
   have hsi := hsi.below (rw_keeps N) hb3
   have HB := hB
   go_wp2_with fail
   go_ret
   refine ⟨.slice va vn vcap, s1, b1, rfl, ⟨_, _, _, rfl⟩, hsi.rd, HB.out.1, HB.out.2.2, fun hb rs r1 e => ?_, fun hb e => ?_⟩
   ·have hx := HX.out
    rw [hb, if_neg Bool.false_ne_true, e] at hx
    obtain ⟨e1, e2, e3⟩ := HEnd.out.1 rs r1 hx
    subst e1
    refine ⟨rfl, e2, ?_⟩
    rw [← e3]
    exact (SI.rows hsi).mono (Nat.le_succ N)
   ·have hx := HX.out
    rw [hb, if_neg Bool.false_ne_true, e] at hx
    exact HEnd.out.2 hx
  have HH := Lib.hid h124
  have hne := headC_nn h124 (by decide)
  have htl := tailB_lt s1 hne
  have HNe := Lib.hid hne
  have HTl := Lib.hid htl
  obtain ⟨m, hmN, hm, hXm⟩ : ∃ m, m ≤ N ∧ 3 * (tailB s1).length + 2 ≤ m ∧ (b1 = false → X = contS (m + 1) dn (runes s1) (xs.map (fun x => x.2))) := by
   have h1 := hB.out.1
   have h2 := HN.out
   cases b1 with
   | true => exact ⟨N, Nat.le_refl _, by omega, fun e => by cases e⟩
   | false =>
    obtain ⟨M, hM, hMN, hXM⟩ := hI.out.1 rfl
    obtain ⟨m, rfl⟩ : ∃ m, M = m + 1 := ⟨M - 1, by omega⟩
    exact ⟨m, by omega, by omega, fun _ => hXM⟩
  have HmN := Lib.hid hmN
  have Hm := Lib.hid hm
  have HS : Hid (∀ {s2 : List UInt8} {b2 : Bool} {v : Value} {wr w2 : World} (R : RowQ m B (tailB s1) dn b1 wr v s2 b2 w2), _) := Lib.hid (fun R => sinv_step (N := N) hXm hI.out.2 (by omega) hmN h124 R)
  have hl1 : s1.length ≤ 1000 := by have := HL.out; have := hB.out.1; omega
  have HL1 := Lib.hid hl1
  rw [h124] at hnx
  clear h124 hne htl hmN hm hXm hI hl1
  go_wp2_with fail
  refine hnx.mono ?_
  rintro e w3 ⟨rfl, hb3⟩
  have hsi := hsi.below (rw_keeps N) hb3
  have ht := take_any B s1 dn b1 w3 hsi.rd.rb (HU.out w3 hsi.rd.own).u HL1.out
  rw [HH.out, decide_eq_false HNe.out, Bool.or_false] at ht
  clear hnx hb3
  go_wp2_with fail
  refine ht.mono ?_
  rintro e w4 ⟨rfl, hr4⟩
  have hsi := hsi.step (rw_keeps N) hr4 id
  have hrow := HIh.out m (Nat.lt_succ_of_le HmN.out) B (tailB s1) dn b1 w4 hsi.rd.rb (HU.out w4 hsi.rd.own) (by have := HTl.out; have := HL1.out; omega) HDn.out (fun e => HD.out (by
   cases hbd : bad with
   | false => rfl
   | true => have := hB.out.2.2 hbd; rw [e] at this; cases this)) Hm.out
  have HOt := Lib.hid hsi.oth
  clear ht hr4
  go_wp2_with fail
  refine hrow.mono ?_
  rintro e w5 ⟨v2, s2, b2, rfl, R⟩
  obtain ⟨ca, cn, ccap, rfl⟩ := R.one
  have hsi := hsi.step (rw_keeps N) R.rd R.stay
  have HSt := Lib.hid (HS.out R)
  have HLe := Lib.hid R.le
  have HStay := Lib.hid R.stay
  clear hrow R HS
  obtain ⟨ps, hps⟩ : ∃ ps, ps = psOf (rowF m dn (runes (tailB s1))) := ⟨_, rfl⟩
  rw [← hps] at HSt
  clear hps
  have hba : Below w5.heap.size w5 (w5.alloc (.cells #[.slice ca cn ccap] 184)) := (Below.refl _ _).alloc (Nat.le_refl _) _
  have hsiA := hsi.below (rw_keeps N) hba
  have hx : b2 = false → RwP N (w5.alloc (.cells #[.slice ca cn ccap] 184)) (Oth w.heap.size (.slice va vn vcap)) ((.slice ca cn ccap : Value), ps) := fun e =>
   (((HSt.out.2 e).mono HmN.out).kept (r := none) (grownBy_below (World.grownBy.refl _ _) hba) (fun k e => by cases e)).sub (fun b _ hb => HOt.out b hb)
  have HX1 := Lib.hid hx
  have HR1 := Lib.hid HSt.out.1
  have hown := hsiA.own
  have hsz := hsiA.rd.own.size
  have hmx : xs.length + 1 ≤ 1002 := by have := HL.out; have := hB.out.2.1; omega
  clear hx HSt HOt hsi
  go_wp2_with (at_builtin; refine wpList_append_own_at _ rfl _ _ 130 rfl w.heap.size 184 i0 _ 1 24 Tryz.underlying130 hi hz0 hz1 hz2 rfl (by decide) _ _ _ rfl hown ⟨w5.heap.size, 0, none⟩ 1 1 [.slice ca cn ccap] rfl rfl (cells_new w5 _ _) ?q3 ?q4 ?q5 ?q6 ?_)
  case q3 =>
   intro u hu
   rw [List.mem_singleton.1 hu]; rfl
  case q4 => unfold maxLen; omega
  case q5 => omega
  case q6 => exact hsz
  intro v' w9 hown9 hgrow9 _ hblk9
  have hsi9 := hsiA.app (x := ((.slice ca cn ccap : Value), ps)) (rw_keeps N) HX1.out hgrow9 hown9 (by rw [World.size_alloc]; exact hblk9)
  clear hown9 hgrow9 hblk9 hown hsiA HX1
  go_wp2_with fail
  go_roundw
  case rel => exact ⟨s2, b2, v', xs ++ [((.slice ca cn ccap : Value), ps)], rfl, hsi9, by rw [List.map_append]; exact HR1, Lib.hid ⟨by have := hB.out.1; have := HLe.out; have := HTl.out; omega, by have := hB.out.2.1; have := HLe.out; have := HTl.out; rw [List.length_append, List.length_singleton]; omega, fun e => HStay.out (hB.out.2.2 e)⟩⟩
  case measure =>
   rw [rdM_of hsi9.rd.rb, hB0.out]
   have := HLe.out
   have := HTl.out
   cases b2 <;> cases b1 <;> simp <;> omega
theorem read_all : ∀ N, AtomC N ∧ RowC N ∧ RowsC N := by
 intro N
 induction N using Nat.strongRecOn with
 | ind N ih => exact ⟨atom_step N (fun M h => (ih M h).2.2), row_step N (fun M h => (ih M h).1), rows_step N (fun M h => (ih M h).2.1)⟩

theorem own_base {w : World} {lo lo' n : Nat} {e : TypeId} {size : Nat} {v : Value} {xs : List Value} (h : w.ownsRow lo e size v n xs) (hl : lo' ≤ lo) : w.ownsRow lo' e size v n xs :=
 ⟨h.1, h.2.elim .inl (fun ⟨g, cap, cur, h1, h2, h3⟩ => .inr ⟨g, cap, cur, h1, Nat.le_trans hl h2, h3⟩)⟩
theorem Fits3.below {w w' : World} {tv av : Value} {s : List Int} {p : List Bool} (h : Fits3 w tv s av p) (hb : Below w.heap.size w w') : Fits3 w' tv s av p := ⟨own_below h.1 hb, own_below h.2.1 hb, h.2.2⟩
theorem PlNew.at {w : World} {lo : Nat} {v : Value} {l : List Bool} (h : PlNew w lo v l) : PlAt w v l := own_base h (Nat.zero_le _)
theorem at_slice {n : Nat} {w : World} {S : Nat → Prop} {v : Value} {a : Atm} (h : AtO n w S v a) : ∃ T p, v = .iface T (.pointer p) := by
 obtain ⟨b, hb⟩ := h.isAt
 cases hg : a.isGrp with
 | true => rw [hg] at hb; exact ⟨_, _, hb⟩
 | false => rw [hg] at hb; exact ⟨_, _, hb⟩
theorem pl_store {w : World} {lo g n cap i : Nat} {X Y : List Bool} (hX : X.length = n) (hY : Y.length = n) (h : w.ownsRow lo 4 1 (.slice (some ⟨g, 0, none⟩) n cap) n ((mixL X Y i).map (fun x => Value.bool x))) (hi : i < n) {b : Bool} (hb : X[i]'(by omega) = b) :
  (w.setCell ⟨g, i, none⟩ (.bool b)).ownsRow lo 4 1 (.slice (some ⟨g, 0, none⟩) n cap) n ((mixL X Y (i + 1)).map (fun x => Value.bool x)) := by
 have := (h.stored i (.bool b)).1
 rw [← hb, pl_set, mix_set (by rw [hX, hY]) (by omega)] at this
 rw [← hb]
 exact this
theorem pl_cell {w : World} {lo g n cap i : Nat} {X Y : List Bool} (hX : X.length = n) (hY : Y.length = n) (h : w.ownsRow lo 4 1 (.slice (some ⟨g, 0, none⟩) n cap) n ((mixL X Y i).map (fun x => Value.bool x))) (hi : i < n) :
  w.cell? ⟨g, i, none⟩ = some (.bool (Y[i]'(by omega))) := by
 rw [h.cellAt i (by omega), pl_get (by rw [mix_len (by rw [hX, hY])]; omega), mix_get (by rw [hX, hY]) (by omega)]
theorem pl_keep {w : World} {lo g g2 n cap i j : Nat} {u : Value} {xs : List Value} (h : w.ownsRow lo 4 1 (.slice (some ⟨g, 0, none⟩) n cap) n xs) (hne : g ≠ g2) (_ : i = i) : (w.setCell ⟨g2, j, none⟩ u).ownsRow lo 4 1 (.slice (some ⟨g, 0, none⟩) n cap) n xs :=
 h.kept (grownBy_setB (World.grownBy.refl _ _) j u) (.inr (fun e => hne (Option.some.inj e)))
theorem piece_step (n : Nat) (ho : OnceC n) : PieceC n := by
 intro S v a q tv s av p w hA hq hok hf
 obtain ⟨T1, p1, rfl⟩ := at_slice hA
 obtain ⟨f, lo, hi⟩ := q
 obtain ⟨hlo0, hlo9, hhi9⟩ := hok
 dsimp only at hq hlo0 hlo9 hhi9 ⊢
 have hlin : Lin f := by rw [hq]; exact hA.lin
 obtain ⟨i0, hi0, hz0, hz1, hz2⟩ := info_parts infoBl
 obtain ⟨R, hR⟩ : ∃ R, R = pcE ⟨f, lo, hi⟩ s p := ⟨_, rfl⟩
 rw [← hR]
 obtain ⟨A0, hA0⟩ : ∃ A0, A0 = it (f s) lo.toNat p := ⟨_, rfl⟩
 have HR : Hid (R = it (grow f s) (if hi < 0 then s.length + 1 else (hi - lo).toNat) A0) := Lib.hid (by rw [hR, hA0]; rfl)
 have HA0 : Hid (it (f s) (lo.toNat - 0) p = A0) := Lib.hid hA0.symm
 have hl0 : A0.length = s.length + 1 := by rw [hA0]; exact it_len hlin s _ _ hf.2.2.1
 have HL0 := Lib.hid hl0
 have HLin := Lib.hid hlin
 have hs4 := hf.2.2.2
 obtain ⟨wA, hwA⟩ : ∃ wA, wA = w.alloc (.cells #[.iface T1 (.pointer p1), .int .i64 lo, .int .i64 hi] 227) := ⟨_, rfl⟩
 have hbA : Below w.heap.size w wA := by rw [hwA]; exact (Below.refl _ w).alloc (Nat.le_refl _) _
 have hblk : Blk wA w.heap.size [.iface T1 (.pointer p1), .int .i64 lo, .int .i64 hi] := by rw [hwA]; exact Blk.fresh w _ _
 have hwl := hblk.lt
 have HBlk := Lib.hid (fun w' (h : Below wA.heap.size wA w') => hblk.kept h)
 have hAA := hA.below hbA
 have HOn := Lib.hid (fun w' av' cur (hb : Below wA.heap.size wA w') (hf' : Fits3 w' tv s av' cur) => (show Calls Tryz.prog 171 #[.iface T1 (.pointer p1), tv, av'] w' (PlE w'.heap.size (f s cur) w') by rw [hq]; exact ho S _ a tv s av' cur w' (hAA.below hb) hf'))
 have HF0 := Lib.hid (hf.below hbA)
 have HTx := Lib.hid (fun w' (hb : Below wA.heap.size wA w') => own_below (own_below hf.1 hbA) hb)
 have HFin := Lib.hid (fun w' (hb : Below wA.heap.size wA w') => hbA.trans (hb.mono (Nat.le_of_lt hwl)))
 have HWl := Lib.hid hwl
 clear hA hq hf hR hA0 hl0 hlin hbA hblk hAA hwl
 go_enter Tryz.func296, Tryz.ntmps296
 go_upto_region 1 with fail
 rw [← hwA]
 clear hwA
 have c1 : wA.cell? ⟨w.heap.size, 1, none⟩ = some (.int .i64 lo) := (HBlk.out wA (Below.refl _ _)).cell 1
 go_wp2_with fail
 go_loopw [2, 14] (fun s2 s14 wr => ∃ (k : Nat) (av' : Value) (cur : List Bool), s14 = .int .i64 k ∧ av' = s2 ∧ k ≤ lo.toNat ∧ Hid (it (f s) (lo.toNat - k) cur = A0) ∧ Hid (Fits3 wr tv s av' cur) ∧ Below wA.heap.size wA wr) (fun _ s14 _ => lo.toNat - (RowKit.intOf s14).toNat)
 case atStart => exact ⟨0, av, p, rfl, rfl, Nat.zero_le _, HA0, HF0, Below.refl _ _⟩
 case round =>
  clear c1
  obtain ⟨k, av', cur, rfl, rfl, hk, hI, hF, hb⟩ := hrel
  have e0 := (HBlk.out wr hb).cell 0
  have e1 := (HBlk.out wr hb).cell 1
  simp only [List.getElem?_cons_zero, List.getElem?_cons_succ] at e0 e1
  by_cases hlt : (k : Int) < lo
  ·have hon := HOn.out wr av' cur hb hF.out
   have HS : Hid (it (f s) (lo.toNat - (k + 1)) (f s cur) = A0) := Lib.hid (by
    rw [← hI.out, show lo.toNat - k = (lo.toNat - (k + 1)) + 1 by omega]; rfl)
   have HLc := Lib.hid (HLin.out.len s cur hF.out.2.2.1)
   clear hI
   go_wp2_with fail
   refine hon.mono ?_
   rintro e w2 ⟨ov, rfl, hpl, hb2⟩
   have HF2 : Hid (Fits3 w2 tv s ov (f s cur)) := Lib.hid ⟨own_below hF.out.1 hb2, PlNew.at hpl, HLc.out, hF.out.2.2.2⟩
   clear hon hpl
   go_wp2_with fail
   go_roundw
   case rel => exact ⟨k + 1, ov, f s cur, by go_num, rfl, by omega, HS, HF2, below_trans hb hb2⟩
   case measure => simp [RowKit.intOf]; omega
  have hc : cur = A0 := by
   have := hI.out
   rw [show lo.toNat - k = 0 by omega] at this
   exact this
  subst hc
  obtain ⟨aa, ac, rfl, _, har⟩ := row_form hF.out.2.1
  obtain ⟨ag, rfl, _, hag, has⟩ := har (by rw [HL0.out]; omega)
  have hownE := World.ownsRow_lit (base := wA.heap.size) (e := 4) (size := 1) wr #[] 0 hb.size (Nat.zero_le _) rfl
  have hbE : Below wr.heap.size wr (wr.alloc (.cells #[] 4)) := (Below.refl _ wr).alloc (Nat.le_refl _) _
  have HAs := Lib.hid (fun j (hj : j < cur.length * 1) => ((hbE.cell (p := ⟨ag, j, none⟩) hag).trans (has j hj)))
  have HNews : Hid (∀ j u, (cur.map (fun x => Value.bool x))[j]? = some u → (wr.alloc (.cells #[] 4)).cell? ((⟨ag, 0, none⟩ : Addr).add j) = some u) := Lib.hid (by
   intro j u hj
   have hjl : j < cur.length := by
    have := (List.getElem?_eq_some_iff.1 hj).1
    rwa [List.length_map] at this
   have e : (⟨ag, 0, none⟩ : Addr).add j = ⟨ag, j, none⟩ := by
    unfold Addr.add
    split
    ·rename_i g; rw [g]
    ·rw [Nat.zero_add]
   rw [e, HAs.out j (by omega), hj])
  have hwr := hb.size
  have hc4 : cur.length ≤ 4000001 := by rw [HL0.out]; omega
  have HB3 : Hid ((∀ u ∈ cur.map (fun x => Value.bool x), u.oneCell' = true) ∧ 0 + cur.length ≤ maxLen ∧ (0 + cur.length) * 1 ≤ 140737488355328 ∧ wA.heap.size ≤ (wr.alloc (.cells #[] 4)).heap.size) := Lib.hid ⟨fun u hu => (by obtain ⟨b, _, rfl⟩ := List.mem_map.1 hu; rfl), by unfold maxLen; omega, by omega, by rw [World.size_alloc]; omega⟩
  have HStart : Hid (PwI f s lo hi cur 0 cur cur) := Lib.hid (PwI.start HL0.out)
  clear hI has
  go_wp2_with (at_builtin; refine wpList_append_own_at _ rfl _ _ 136 rfl wA.heap.size 4 i0 _ 1 1 Tryz.underlying136 hi0 hz0 hz1 hz2 rfl (by decide) _ _ _ rfl hownE ⟨ag, 0, none⟩ cur.length ac (cur.map (fun x => Value.bool x)) (by rfl) (by rw [List.length_map, Nat.mul_one]) HNews.out HB3.out.1 HB3.out.2.1 HB3.out.2.2.1 HB3.out.2.2.2 ?_)
  intro allv w9 hown9 hgrow9 _ _
  have hpl9 : PlNew w9 wA.heap.size allv cur := hown9
  obtain ⟨la, lc, rfl, _, hlf⟩ := row_form hpl9
  obtain ⟨lg, rfl, hlg, hlg9, _⟩ := hlf (by rw [HL0.out]; omega)
  have hbr9 : Below wr.heap.size wr w9 := hbE.grown hgrow9 (by rw [World.size_alloc]; omega) (fun k e => by have e2 : wr.heap.size = k := Option.some.inj e; omega)
  have hb9 := below_trans hb hbr9
  have HP9 := Lib.hid hpl9
  have HF9 := Lib.hid (hF.out.below hbr9)
  have e1' := (HBlk.out w9 hb9).cell 1
  simp only [List.getElem?_cons_zero, List.getElem?_cons_succ] at e1'
  have hcl0 : cur.length = s.length + 1 := HL0.out
  rw [hcl0] at HP9 HF9
  rw [hcl0]
  clear hown9 hgrow9 hpl9 hbr9 hownE hbE HAs e0 e1 hlf hcl0
  go_wp2_with fail
  go_loopw [2, 8] (fun s2 s8 wr => ∃ (k : Nat) (av' : Value) (c2 all : List Bool), av' = s2 ∧ s8 = .int .i64 (lo + (k : Int)) ∧ Hid (PwI f s lo hi cur k all c2) ∧ Hid (Fits3 wr tv s av' c2) ∧ Hid (PlNew wr wA.heap.size (.slice (some ⟨lg, 0, none⟩) (s.length + 1) lc) all) ∧ Below wA.heap.size wA wr ∧ lg < wr.heap.size ∧ k ≤ s.length + 1) (fun _ s8 _ => s.length + 2 - (RowKit.intOf s8 - lo).toNat)
  case atStart => exact ⟨0, _, cur, cur, rfl, by go_num, HStart, HF9, HP9, hb9, hlg9, Nat.zero_le _⟩
  case round =>
   clear HF9 HP9 HStart e1' hb9 hF hb HA0 HF0
   obtain ⟨k, av', c2, all, rfl, rfl, hI, hF, hP, hb, hlgt, hk⟩ := hrel
   have e0 := (HBlk.out wr hb).cell 0
   have e2 := (HBlk.out wr hb).cell 2
   simp only [List.getElem?_cons_zero, List.getElem?_cons_succ] at e0 e2
   obtain ⟨qt, hqt⟩ : ∃ q, q = (decide (hi < 0) || decide (lo + (k : Int) < hi)) := ⟨_, rfl⟩
   have HQ := Lib.hid hqt
   clear hqt
   go_upto_region 7 with fail
   go_cut [35] (fun s35 wx => s35 = .bool qt ∧ wx = wr)
   case first =>
    by_cases g1 : hi < 0
    ·have HE : Hid (qt = true) := Lib.hid (by rw [HQ.out, decide_eq_true g1]; rfl)
     go_wp2_with fail
     go_meet
     exact ⟨by rw [HE.out], rfl⟩
    ·by_cases g2 : lo + (k : Int) < hi
     ·have HE : Hid (qt = true) := Lib.hid (by rw [HQ.out, decide_eq_true g2, Bool.or_true])
      go_wp2_with fail
      go_meet
      exact ⟨by rw [HE.out], rfl⟩
     ·have HE : Hid (qt = false) := Lib.hid (by rw [HQ.out, decide_eq_false g1, decide_eq_false g2]; rfl)
      go_wp2_with fail
      go_meet
      exact ⟨by rw [HE.out], rfl⟩
   case rest =>
   obtain ⟨rfl, hwc⟩ := hcut
   subst hwc
   cases qt with
   | false =>
    have hq := HQ.out
    have g1 : ¬ hi < 0 := fun g => by rw [decide_eq_true g] at hq; cases hq
    have g2 : ¬ lo + (k : Int) < hi := fun g => by rw [decide_eq_true g, Bool.or_true] at hq; cases hq
    have HE : Hid (all = R) := Lib.hid (by rw [HR.out]; exact hI.out.done (by omega) (by omega))
    have HB := Lib.hid (HFin.out wc hb)
    have HW := HWl
    clear hq HQ hI
    go_wp2_with fail
    go_ret
    exact ⟨_, rfl, by rw [← HE.out]; exact own_base hP.out (Nat.le_of_lt HW.out), HB.out⟩
   | true =>
    have HK : Hid (0 ≤ hi → lo + (k : Int) < hi) := Lib.hid (fun g => by
     have hq := HQ.out
     rw [decide_eq_false (by omega), Bool.false_or] at hq
     exact of_decide_eq_true hq.symm)
    have hon := HOn.out wc av' c2 hb hF.out
    have HLc := Lib.hid (HLin.out.len s c2 hF.out.2.2.1)
    have hla := hI.out.fr.la
    have HLa := Lib.hid hla
    clear HQ hla
    go_wp2_with fail
    refine hon.mono ?_
    rintro e w2 ⟨ov, rfl, hpl, hb2⟩
    obtain ⟨C, hC⟩ : ∃ C, C = f s c2 := ⟨_, rfl⟩
    rw [← hC] at hpl
    have HC := Lib.hid hC
    have HCl : Hid (C.length = s.length + 1) := Lib.hid (by rw [hC]; exact HLc.out)
    have hP2 := own_below hP.out hb2
    have hpl1 := hpl
    unfold PlNew at hpl1
    rw [HCl.out] at hpl1
    rw [HLa.out] at hP2
    obtain ⟨oa, oc, rfl, _, hof⟩ := row_form hpl1
    obtain ⟨og, rfl, hog, _, _⟩ := hof (by omega)
    have hne : lg ≠ og := by omega
    have hogA : wA.heap.size ≤ og := Nat.le_trans hb.size hog
    obtain ⟨NW, hNW⟩ : ∃ NW, NW = newL C all := ⟨_, rfl⟩
    obtain ⟨OA, hOA⟩ : ∃ OA, OA = orL all C := ⟨_, rfl⟩
    have HNl : Hid (NW.length = s.length + 1) := Lib.hid (by rw [hNW, newL_len, HCl.out, HLa.out, Nat.min_self])
    have HOl : Hid (OA.length = s.length + 1) := Lib.hid (by rw [hOA, orL_len, HCl.out, HLa.out, Nat.min_self])
    have HNg := Lib.hid (fun (i : Nat) (h1 : i < NW.length) (h2 : i < C.length) (h3 : i < all.length) => (show NW[i] = (C[i] && !all[i]) by subst hNW; exact newL_get _ _ _ _))
    have HOg := Lib.hid (fun (i : Nat) (h1 : i < OA.length) (h2 : i < C.length) (h3 : i < all.length) => (show OA[i] = (all[i] || C[i]) by subst hOA; exact orL_get _ _ _ _))
    have HNW := Lib.hid hNW
    have HOA := Lib.hid hOA
    have hb02 := below_trans hb hb2
    have HO0 : Hid (w2.ownsRow wA.heap.size 4 1 (.slice (some ⟨og, 0, none⟩) (s.length + 1) oc) (s.length + 1) ((mixL NW C 0).map (fun x => Value.bool x))) := Lib.hid (by rw [mix_zero]; exact own_base hpl1 hb.size)
    have HL1 : Hid (w2.ownsRow wA.heap.size 4 1 (.slice (some ⟨lg, 0, none⟩) (s.length + 1) lc) (s.length + 1) ((mixL OA all 0).map (fun x => Value.bool x))) := Lib.hid (by rw [mix_zero]; exact hP2)
    have HF2 := Lib.hid (hF.out.1)
    have hlg2 := Nat.lt_of_lt_of_le hlgt hb2.size
    clear hon hpl hpl1 hP2 hof hP hF hC hNW hOA hb2 e0 e2
    go_wp2_with fail
    go_loopw [9, 45] (fun s9 s45 wx => ∃ i : Nat, s45 = .int .i64 i ∧ i ≤ s.length + 1 ∧ s9 = .bool ((NW.take i).any id) ∧ Hid (wx.ownsRow wA.heap.size 4 1 (.slice (some ⟨og, 0, none⟩) (s.length + 1) oc) (s.length + 1) ((mixL NW C i).map (fun x => Value.bool x))) ∧ Hid (wx.ownsRow wA.heap.size 4 1 (.slice (some ⟨lg, 0, none⟩) (s.length + 1) lc) (s.length + 1) ((mixL OA all i).map (fun x => Value.bool x))) ∧ Below wA.heap.size wA wx ∧ lg < wx.heap.size) (fun _ s45 _ => s.length + 1 - (RowKit.intOf s45).toNat)
    case atStart => exact ⟨0, rfl, Nat.zero_le _, rfl, HO0, HL1, hb02, hlg2⟩
    case round =>
     clear HO0 HL1 hb02
     obtain ⟨i, rfl, hi1, rfl, hO, hL, hbx, hlx⟩ := hrel
     by_cases hlt : i < s.length + 1
     ·have e0 := pl_cell HNl.out HCl.out hO.out hlt
      have e1 := pl_cell HOl.out HLa.out hL.out hlt
      have f0 := hO.out.frozenAt i
      have f1 := hL.out.frozenAt i
      have hng := HNg.out i (by rw [HNl.out]; exact hlt) (by rw [HCl.out]; exact hlt) (by rw [HLa.out]; exact hlt)
      have hog2 := HOg.out i (by rw [HOl.out]; exact hlt) (by rw [HCl.out]; exact hlt) (by rw [HLa.out]; exact hlt)
      have HAn := Lib.hid (any_take (l := NW) (i := i) (by rw [HNl.out]; exact hlt))
      have HSo := Lib.hid (fun (w' : World) (b : Bool) (h : w'.ownsRow wA.heap.size 4 1 (.slice (some ⟨og, 0, none⟩) (s.length + 1) oc) (s.length + 1) ((mixL NW C i).map (fun x => Value.bool x))) hb => pl_store HNl.out HCl.out h hlt (b := b) hb)
      have HSl := Lib.hid (fun (w' : World) (b : Bool) (h : w'.ownsRow wA.heap.size 4 1 (.slice (some ⟨lg, 0, none⟩) (s.length + 1) lc) (s.length + 1) ((mixL OA all i).map (fun x => Value.bool x))) hb => pl_store HOl.out HLa.out h hlt (b := b) hb)
      have HMo := Lib.hid (fun h => mix_same (X := NW) (Y := C) (by rw [HNl.out, HCl.out]) (i := i) (by rw [HCl.out]; exact hlt) h)
      have HMl := Lib.hid (fun h => mix_same (X := OA) (Y := all) (by rw [HOl.out, HLa.out]) (i := i) (by rw [HLa.out]; exact hlt) h)
      have HNg1 := Lib.hid hng
      have HOg1 := Lib.hid hog2
      have hiI : (i : Int) < (s.length : Int) + 1 := by omega
      have hbo := hbx.setCell (p := ⟨og, i, none⟩) hogA (.bool false)
      have hbl := hbx.setCell (p := ⟨lg, i, none⟩) hlg (.bool true)
      have HKo := Lib.hid (pl_keep (j := i) (u := .bool false) (i := 0) hL.out hne rfl)
      have HKl := Lib.hid (pl_keep (j := i) (u := .bool true) (i := 0) hO.out (Ne.symm hne) rfl)
      generalize C[i]'(by rw [HCl.out]; exact hlt) = ci at *
      generalize all[i]'(by rw [HLa.out]; exact hlt) = ai at *
      clear hng hog2
      obtain ⟨mo, hmo⟩ : ∃ m, m = (NW.take i).any id := ⟨_, rfl⟩
      rw [← hmo]
      have HMm := Lib.hid hmo
      clear hmo
      cases ci with
      | false =>
       have HA2 : Hid ((NW.take (i + 1)).any id = mo) := Lib.hid (by rw [HAn.out, HNg1.out, ← HMm.out]; simp)
       have HR1 := Lib.hid (HSo.out wr false hO.out (by rw [HNg1.out]; rfl))
       have HR2 : Hid ((wr.setCell ⟨og, i, none⟩ (.bool false)).ownsRow wA.heap.size 4 1 (.slice (some ⟨lg, 0, none⟩) (s.length + 1) lc) (s.length + 1) ((mixL OA all (i + 1)).map (fun x => Value.bool x))) := Lib.hid (by rw [HMl.out (by rw [HOg1.out, Bool.or_false])]; exact HKo.out)
       clear HSo HSl hO hL
       go_wp2_with fail
       go_roundw
       case rel => exact ⟨i + 1, by go_num, by omega, by rw [HA2.out], HR1, HR2, hbo, by rw [World.size_setCell]; exact hlx⟩
       case measure => simp [RowKit.intOf]; omega
      | true =>
       cases ai with
       | true =>
        have HA2 : Hid ((NW.take (i + 1)).any id = mo) := Lib.hid (by rw [HAn.out, HNg1.out, ← HMm.out]; simp)
        have HR1 := Lib.hid (HSo.out wr false hO.out (by rw [HNg1.out]; rfl))
        have HR2 : Hid ((wr.setCell ⟨og, i, none⟩ (.bool false)).ownsRow wA.heap.size 4 1 (.slice (some ⟨lg, 0, none⟩) (s.length + 1) lc) (s.length + 1) ((mixL OA all (i + 1)).map (fun x => Value.bool x))) := Lib.hid (by rw [HMl.out (by rw [HOg1.out]; rfl)]; exact HKo.out)
        clear HSo HSl hO hL
        go_wp2_with fail
        go_roundw
        case rel => exact ⟨i + 1, by go_num, by omega, by rw [HA2.out], HR1, HR2, hbo, by rw [World.size_setCell]; exact hlx⟩
        case measure => simp [RowKit.intOf]; omega
       | false =>
        have HA2 : Hid ((NW.take (i + 1)).any id = true) := Lib.hid (by rw [HAn.out, HNg1.out]; simp)
        have HR1 := Lib.hid (HSl.out wr true hL.out (by rw [HOg1.out]; rfl))
        have HR2 : Hid ((wr.setCell ⟨lg, i, none⟩ (.bool true)).ownsRow wA.heap.size 4 1 (.slice (some ⟨og, 0, none⟩) (s.length + 1) oc) (s.length + 1) ((mixL NW C (i + 1)).map (fun x => Value.bool x))) := Lib.hid (by rw [HMo.out (by rw [HNg1.out]; rfl)]; exact HKl.out)
        clear HSo HSl hO hL
        go_wp2_with fail
        go_roundw
        case rel => exact ⟨i + 1, by go_num, by omega, by rw [HA2.out], HR2, HR1, hbl, by rw [World.size_setCell]; exact hlx⟩
        case measure => simp [RowKit.intOf]; omega
     ·obtain rfl : i = s.length + 1 := by omega
      have hiI : ¬ ((s.length + 1 : Nat) : Int) < (s.length : Int) + 1 := by omega
      have HO2 : Hid (PlNew wr wA.heap.size (.slice (some ⟨og, 0, none⟩) (s.length + 1) oc) NW) := Lib.hid (by
       have := hO.out
       rw [show s.length + 1 = C.length from HCl.out.symm, mix_all (by rw [HNl.out, HCl.out])] at this
       unfold PlNew
       rw [HNl.out, ← HCl.out]
       exact this)
      have HL2 : Hid (PlNew wr wA.heap.size (.slice (some ⟨lg, 0, none⟩) (s.length + 1) lc) OA) := Lib.hid (by
       have := hL.out
       rw [show s.length + 1 = all.length from HLa.out.symm, mix_all (by rw [HOl.out, HLa.out])] at this
       unfold PlNew
       rw [HOl.out, ← HLa.out]
       exact this)
      have HTk : Hid ((NW.take (s.length + 1)).any id = NW.any id) := Lib.hid (by rw [show s.length + 1 = NW.length from HNl.out.symm, List.take_length])
      obtain ⟨mo, hmo⟩ : ∃ m, m = NW.any id := ⟨_, rfl⟩
      have HMo := Lib.hid hmo
      rw [HTk.out, ← hmo]
      clear hmo hO hL
      cases mo with
      | false =>
       have HE : Hid (OA = R) := Lib.hid (by
        rw [HR.out, HOA.out, HC.out]
        refine hI.out.stop HLin.out ?_
        rw [← HC.out, ← HNW.out]
        exact HMo.out.symm)
       have HB := Lib.hid (HFin.out wr hbx)
       have HW := HWl
       go_wp2_with fail
       go_ret
       exact ⟨_, rfl, by rw [← HE.out]; exact own_base HL2.out (Nat.le_of_lt HW.out), HB.out⟩
      | true =>
       have hnx := hI.out.next HLin.out (by rw [← HC.out, ← HNW.out]; exact HMo.out.symm) HK.out
       rw [← HC.out, ← HNW.out, ← HOA.out] at hnx
       have HNx := Lib.hid hnx.1
       have hkc := hnx.1.kc
       have hcl := cnt_le OA
       have hol := HOl.out
       have HF3 : Hid (Fits3 wr tv s (.slice (some ⟨og, 0, none⟩) (s.length + 1) oc) NW) := Lib.hid ⟨HTx.out wr hbx, PlNew.at HO2.out, HNl.out, hs4⟩
       have hk1 : k + 1 ≤ s.length + 1 := by omega
       clear hnx hkc hcl hol hI
       go_wp2_with fail
       go_roundw
       case rel => exact ⟨k + 1, _, NW, OA, rfl, by go_num, HNx, HF3, HL2, hbx, hlx, hk1⟩
       case measure => simp [RowKit.intOf]; omega

theorem pcC_get (xs : List (Value × Pc)) : ∀ k (h : k < xs.length), (pcC xs)[k * 3]? = some xs[k].1 ∧ (pcC xs)[k * 3 + 1]? = some (.int .i64 xs[k].2.lo) ∧ (pcC xs)[k * 3 + 2]? = some (.int .i64 xs[k].2.hi) := by
 induction xs with
 | nil => intro k h; exact absurd h (Nat.not_lt_zero _)
 | cons x r ih =>
  intro k h
  show ((x.1 :: Value.int .i64 x.2.lo :: Value.int .i64 x.2.hi :: pcC r)[k * 3]? = _ ∧ _)
  cases k with
  | zero => exact ⟨rfl, rfl, rfl⟩
  | succ k =>
   have := ih k (by simpa using h)
   rw [show (k + 1) * 3 = k * 3 + 1 + 1 + 1 by omega]
   exact this
theorem along_step (n : Nat) (hp : PieceC n) : AlongC n := by
 intro S rv ps tv s av p w hR hf
 obtain ⟨xs, hxs, hown, hmem⟩ := hR
 obtain ⟨ra, rc, rfl, hmx, hrd⟩ := row_form hown.1
 have hmx : xs.length ≤ 9223372036854775807 := hmx
 obtain ⟨R, hR⟩ : ∃ R, R = rowE ps s p := ⟨_, rfl⟩
 rw [← hR]
 have HR : Hid (rowE ((xs.drop 0).map (fun x => x.2)) s p = R) := Lib.hid (by rw [hR, ← hxs]; rfl)
 have HRd := Lib.hid hrd
 have HMem := Lib.hid (fun w' (hb : Below w.heap.size w w') (k : Nat) (hk : k < xs.length) => (show PcOk xs[k].2 ∧ ∃ a, xs[k].2.f = Atm.fn a ∧ AtO n w' S xs[k].1 a by
  obtain ⟨ok, a, e, ha⟩ := hmem _ (List.getElem_mem hk)
  exact ⟨ok, a, e, ha.below hb⟩))
 have HF := Lib.hid hf
 have HP := Lib.hid hp
 have HAl : Hid (∀ g, av.ownBlock = some g → av.ownBlock = some g ∨ w.heap.size ≤ g) := Lib.hid (fun g e => .inl e)
 clear hp hxs hown hmem hrd hR hf
 go_enter Tryz.func248, Tryz.ntmps248
 go_wp2_with fail
 go_loopw [2, 11] (fun s2 s11 wr => ∃ (k : Nat) (av' : Value) (cur : List Bool), s11 = .int .i64 k ∧ av' = s2 ∧ k ≤ xs.length ∧ Hid (rowE ((xs.drop k).map (fun x => x.2)) s cur = R) ∧ Hid (Fits3 wr tv s av' cur) ∧ Hid (∀ g, av'.ownBlock = some g → av.ownBlock = some g ∨ w.heap.size ≤ g) ∧ Below w.heap.size w wr) (fun _ s11 _ => xs.length - (RowKit.intOf s11).toNat)
 case atStart => exact ⟨0, av, p, rfl, rfl, Nat.zero_le _, HR, HF, HAl, Below.refl _ _⟩
 case round =>
  obtain ⟨k, av', cur, rfl, rfl, hk, hI, hF, hA, hb⟩ := hrel
  by_cases hlt : k < xs.length
  ·obtain ⟨g, rfl, _, hg, hcs⟩ := HRd.out (by omega)
   obtain ⟨q0, q1, q2⟩ := pcC_get xs k hlt
   have e0 := (hb.cell (p := ⟨g, k * 3, none⟩) hg).trans (hcs (k * 3) (by omega))
   have e1 := (hb.cell (p := ⟨g, k * 3 + 1, none⟩) hg).trans (hcs (k * 3 + 1) (by omega))
   have e2 := (hb.cell (p := ⟨g, k * 3 + 2, none⟩) hg).trans (hcs (k * 3 + 2) (by omega))
   rw [q0] at e0
   rw [q1] at e1
   rw [q2] at e2
   obtain ⟨ok, a, ea, ha⟩ := HMem.out wr hb k hlt
   have hy := hI.out
   rw [List.drop_eq_getElem_cons hlt, List.map_cons] at hy
   have hkI : (k : Int) < (xs.length : Int) := by omega
   generalize xs[k] = x at *
   obtain ⟨v, f, lo, hi⟩ := x
   dsimp only at e0 e1 e2 ok ea ha hy
   obtain ⟨T1, p1, rfl⟩ := at_slice ha
   obtain ⟨W2, hW2⟩ : ∃ W2, W2 = wr.alloc (.cells #[.iface T1 (.pointer p1), .int .i64 lo, .int .i64 hi] 227) := ⟨_, rfl⟩
   have hb2 : Below wr.heap.size wr W2 := by rw [hW2]; exact (Below.refl _ _).alloc (Nat.le_refl _) _
   have f0 : W2.cell? ⟨wr.heap.size, 0, none⟩ = some (.iface T1 (.pointer p1)) := by rw [hW2, World.cell?_alloc_new]; rfl
   have f1 : W2.cell? ⟨wr.heap.size, 1, none⟩ = some (.int .i64 lo) := by rw [hW2, World.cell?_alloc_new]; rfl
   have f2 : W2.cell? ⟨wr.heap.size, 2, none⟩ = some (.int .i64 hi) := by rw [hW2, World.cell?_alloc_new]; rfl
   have hpc := HP.out S (.iface T1 (.pointer p1)) a ⟨f, lo, hi⟩ tv s av' cur W2 (ha.below hb2) ea ok (hF.out.below hb2)
   have HLn : Hid ((pcE ⟨f, lo, hi⟩ s cur).length = s.length + 1) := Lib.hid ((pc_lin (p := ⟨f, lo, hi⟩) (by rw [ea]; exact ha.lin)).len s cur hF.out.2.2.1)
   have hb02 := below_trans hb hb2
   have HY := Lib.hid hy
   have HF2 := Lib.hid (hF.out.below hb2)
   have hsz := hb02.size
   clear hI hy hcs q0 q1 q2 ok ea ha hF hA
   dsimp only at hpc
   go_upto_region 4 with fail
   rw [← hW2]
   clear hW2 e0 e1 e2
   go_wp2_with fail
   refine hpc.mono ?_
   rintro e w3 ⟨ov, rfl, hpl, hb3⟩
   have HF3 : Hid (Fits3 w3 tv s ov (pcE ⟨f, lo, hi⟩ s cur)) := Lib.hid ⟨own_below HF2.out.1 hb3, PlNew.at hpl, HLn.out, HF2.out.2.2.2⟩
   have HA3 : Hid (∀ g, ov.ownBlock = some g → av.ownBlock = some g ∨ w.heap.size ≤ g) := Lib.hid (fun g e => .inr (by have := (World.ownsRow.lt hpl g e).1; omega))
   clear hpc hpl hsz
   go_wp2_with fail
   go_roundw
   case rel => exact ⟨k + 1, ov, _, by go_num, rfl, by omega, HY, HF3, HA3, below_trans hb02 hb3⟩
   case measure => simp [RowKit.intOf]; omega
  ·have hkI : ¬ (k : Int) < (xs.length : Int) := by omega
   have HE : Hid (cur = R) := Lib.hid (by have := hI.out; rw [List.drop_eq_nil_of_le (Nat.le_of_not_lt hlt)] at this; exact this)
   clear hI
   go_wp2_with fail
   go_ret
   exact ⟨av', rfl, by rw [← HE.out]; exact hF.out.2.1, hA.out, hb⟩
theorem fold_cons (r : List Pc) (rs : List (List Pc)) (s : List Int) (a out : List Bool) : foldR (r :: rs) s a out = foldR rs s a (orL out (rowE r s a)) := rfl
theorem once_grp {n : Nat} (hal : AlongC n) {S : Nat → Prop} {v : Value} {a : Atm} {tv : Value} {s : List Int} {av : Value} {p : List Bool} {w : World} (h : GrpR (AtO n) w S v a) (hf : Fits3 w tv s av p) :
  Calls Tryz.prog 171 #[v, tv, av] w (PlE w.heap.size (a.fn s p) w) := by
 obtain ⟨gb, rv, rs, rfl, rfl, _, hb, hR⟩ := h
 have hlin := hR.lin
 obtain ⟨xs, hxs, hown, hmem⟩ := hR
 obtain ⟨ra, rc, rfl, hmx, hrd⟩ := row_form hown.1
 have hmx : xs.length ≤ 9223372036854775807 := hmx
 obtain ⟨ht, ha, hlen, hs4⟩ := hf
 obtain ⟨w1, hmk, hpl, hb1⟩ := mk_places p.length (by omega) w
 obtain ⟨R, hR⟩ : ∃ R, R = grpF rs s p := ⟨_, rfl⟩
 show Calls _ _ _ _ (PlE w.heap.size (grpF rs s p) w)
 rw [← hR]
 have HR : Hid (foldR ((xs.drop 0).map (fun x => x.2)) s p (zeros p.length) = R) := Lib.hid (by rw [hR, ← hxs]; rfl)
 have HRd := Lib.hid hrd
 have HMem := Lib.hid (fun w' (hb : Below w.heap.size w w') (k : Nat) (hk : k < xs.length) => (show RowR (AtO n) w' S xs[k].1 xs[k].2 from RowR.kept (r := none) (grownBy_below (World.grownBy.refl _ _) hb) (fun k e => by cases e) (hmem _ (List.getElem_mem hk))))
 have HLr := Lib.hid (fun (k : Nat) (hk : k < xs.length) => (row_lin xs[k].2 (hlin _ (by rw [← hxs]; exact List.mem_map.2 ⟨_, List.getElem_mem hk, rfl⟩))).len s p hlen)
 have HF := Lib.hid (fun w' (hb : Below w.heap.size w w') => (show Fits3 w' tv s av p from ⟨own_below ht hb, own_below ha hb, hlen, hs4⟩))
 have HAv := Lib.hid (fun g e => (World.ownsRow.lt ha g e).2)
 have HAl := Lib.hid hal
 have HLen := Lib.hid hlen
 have hta := ta_grp gb
 have c0 : w1.cell? ⟨gb, 0, none⟩ = some (.slice ra xs.length rc) := (hb.kept hb1).cell 0
 obtain ⟨G, hG⟩ : ∃ G, G = w.heap.size := ⟨_, rfl⟩
 have HG : Hid (G = w.heap.size) := Lib.hid hG
 rw [← hG] at hmk hpl
 have HP1 : Hid (PlNew w1 w.heap.size (.slice (some ⟨G, 0, none⟩) p.length p.length) (zeros p.length)) := Lib.hid (by rw [← hG]; exact hpl)
 have HZ : Hid ((zeros p.length).length = p.length) := Lib.hid (zeros_len _)
 obtain ⟨aa, ac, rfl, _, _⟩ := row_form ha
 have hp4 : p.length ≤ 4000001 := by omega
 clear hb ht ha hpl hR hG hlen hs4 hal hlin hxs hown hmem hrd
 generalize grpV gb = v at *
 go_enter Tryz.func171, Tryz.ntmps171
 go_wp2_with fail
 clear hmk c0
 go_loopw [31] (fun s31 wr => ∃ (k : Nat) (out : List Bool), s31 = .int .i64 k ∧ k ≤ xs.length ∧ Hid (PlNew wr w.heap.size (.slice (some ⟨G, 0, none⟩) p.length p.length) out) ∧ Hid (out.length = p.length) ∧ Hid (foldR ((xs.drop k).map (fun x => x.2)) s p out = R) ∧ Below w.heap.size w wr) (fun s31 _ => xs.length - (RowKit.intOf s31).toNat)
 case atStart => exact ⟨0, _, rfl, Nat.zero_le _, HP1, HZ, HR, hb1⟩
 case round =>
  clear HP1 HZ HR hb1
  obtain ⟨k, out, rfl, hk, hP, hOl, hI, hb⟩ := hrel
  by_cases hlt : k < xs.length
  ·obtain ⟨g, rfl, _, hg, hcs⟩ := HRd.out (by omega)
   have e0 := (hb.cell (p := ⟨g, k, none⟩) hg).trans (hcs k (by omega))
   rw [List.getElem?_map, List.getElem?_eq_getElem hlt] at e0
   have e0 : wr.cell? ⟨g, k, none⟩ = some xs[k].1 := e0
   have hrow := HMem.out wr hb k hlt
   have hll := HLr.out k hlt
   have hy := hI.out
   rw [List.drop_eq_getElem_cons hlt, List.map_cons, fold_cons] at hy
   have hkI : (k : Int) < (xs.length : Int) := by omega
   generalize xs[k] = x at *
   obtain ⟨v1, ps⟩ := x
   dsimp only at e0 hrow hll hy
   obtain ⟨va, vn, vcap, rfl⟩ : ∃ a n c, v1 = .slice a n c := by
    obtain ⟨ys, _, ho, _⟩ := hrow
    obtain ⟨a, c, e, _⟩ := row_form ho.1
    exact ⟨_, _, _, e⟩
   have hac := HAl.out S _ ps tv s _ p wr hrow (HF.out wr hb)
   obtain ⟨L, hL⟩ : ∃ L, L = rowE ps s p := ⟨_, rfl⟩
   rw [← hL] at hac hll hy
   have HLl : Hid (L.length = p.length) := Lib.hid (by rw [hll, HLen.out])
   have HY := Lib.hid hy
   have hGw : G < wr.heap.size := by
    have := (World.ownsRow.lt hP.out G rfl).2
    exact this
   clear hI hy hcs hrow hll hL
   go_wp2_with fail
   refine hac.mono ?_
   rintro e w2 ⟨ov, rfl, hpo, hal2, hb2⟩
   unfold PlAt PlNew at hpo
   rw [HLl.out] at hpo
   obtain ⟨oa, oc, rfl, _, hof⟩ := row_form hpo
   obtain ⟨og, rfl, _, _, _⟩ := hof (by rw [HLen.out]; omega)
   have hne : og ≠ G := by
    rcases hal2 og rfl with h | h
    ·have h1 := HAv.out og h
     have h2 := HG.out
     omega
    ·omega
   have hP2 := own_below hP.out hb2
   rw [hOl.out] at hP2
   obtain ⟨OA, hOA⟩ : ∃ OA, OA = orL out L := ⟨_, rfl⟩
   have HOl2 : Hid (OA.length = p.length) := Lib.hid (by rw [hOA, orL_len, hOl.out, HLl.out, Nat.min_self])
   have HOg := Lib.hid (fun (i : Nat) (h1 : i < OA.length) (h2 : i < L.length) (h3 : i < out.length) => (show OA[i] = (out[i] || L[i]) by subst hOA; exact orL_get _ _ _ _))
   have HO0 : Hid (w2.ownsRow w.heap.size 4 1 (.slice (some ⟨G, 0, none⟩) p.length p.length) p.length ((mixL OA out 0).map (fun x => Value.bool x))) := Lib.hid (by rw [mix_zero]; exact hP2)
   have HL1 := Lib.hid hpo
   have hb02 := below_trans hb hb2
   rw [← hOA] at HY
   clear hac hal2 hof hP2 hpo e0 hOA hGw
   go_wp2_with fail
   go_loopw [40] (fun s40 wx => ∃ i : Nat, s40 = .int .i64 i ∧ i ≤ p.length ∧ Hid (wx.ownsRow w.heap.size 4 1 (.slice (some ⟨G, 0, none⟩) p.length p.length) p.length ((mixL OA out i).map (fun x => Value.bool x))) ∧ Hid (wx.ownsRow 0 4 1 (.slice (some ⟨og, 0, none⟩) p.length oc) p.length (L.map (fun x => Value.bool x))) ∧ Below w.heap.size w wx) (fun s40 _ => p.length - (RowKit.intOf s40).toNat)
   case atStart => exact ⟨0, rfl, Nat.zero_le _, HO0, HL1, hb02⟩
   case round =>
    clear HO0 HL1 hb02
    obtain ⟨i, rfl, hi1, hO, hL, hbx⟩ := hrel
    by_cases hlt2 : i < p.length
    ·have e0 := pl_cell HOl2.out hOl.out hO.out hlt2
     have e1 : wr.cell? ⟨og, i, none⟩ = _ := hL.out.cellAt i (by omega)
     rw [pl_get (by rw [HLl.out]; exact hlt2)] at e1
     have f0 := hO.out.frozenAt i
     have hog2 := HOg.out i (by rw [HOl2.out]; exact hlt2) (by rw [HLl.out]; exact hlt2) (by rw [hOl.out]; exact hlt2)
     have HSo := Lib.hid (fun (b : Bool) hb => pl_store HOl2.out hOl.out hO.out hlt2 (b := b) hb)
     have HOg1 := Lib.hid hog2
     have hiI : (i : Int) < (p.length : Int) := by omega
     have HBs := Lib.hid (fun b => hbx.setCell (p := ⟨G, i, none⟩) (Nat.le_of_eq HG.out.symm) (.bool b))
     have HKl := Lib.hid (fun b => pl_keep (j := i) (u := .bool b) (i := 0) hL.out hne rfl)
     generalize out[i]'(by rw [hOl.out]; exact hlt2) = ci at *
     generalize L[i]'(by rw [HLl.out]; exact hlt2) = ai at *
     clear hog2 hO hL
     cases ci with
     | true =>
      have HR1 := Lib.hid (HSo.out true (by rw [HOg1.out]; rfl))
      clear HSo
      go_wp2_with fail
      go_roundw
      case rel => exact ⟨i + 1, by go_num, by omega, HR1, Lib.hid (HKl.out true), HBs.out true⟩
      case measure => simp [RowKit.intOf]; omega
     | false =>
      have HR1 := Lib.hid (HSo.out ai (by rw [HOg1.out]; rfl))
      clear HSo
      go_wp2_with fail
      go_roundw
      case rel => exact ⟨i + 1, by go_num, by omega, HR1, Lib.hid (HKl.out ai), HBs.out ai⟩
      case measure => simp [RowKit.intOf]; omega
    ·obtain rfl : i = p.length := by omega
     have HO2 : Hid (PlNew wr w.heap.size (.slice (some ⟨G, 0, none⟩) p.length p.length) OA) := Lib.hid (by
      have := hO.out
      rw [show mixL OA out p.length = OA by rw [← hOl.out]; exact mix_all (by rw [HOl2.out, hOl.out])] at this
      unfold PlNew
      rw [HOl2.out]
      exact this)
     clear hO hL
     go_wp2_with fail
     go_roundw
     case rel => exact ⟨k + 1, OA, by go_num, by omega, HO2, HOl2, HY, hbx⟩
     case measure => simp [RowKit.intOf]; omega
  ·have hkI : ¬ (k : Int) < (xs.length : Int) := by omega
   have HE : Hid (out = R) := Lib.hid (by have := hI.out; rw [List.drop_eq_nil_of_le (Nat.le_of_not_lt hlt)] at this; exact this)
   clear hI
   go_wp2_with fail
   go_ret
   exact ⟨_, rfl, by rw [← HE.out]; exact hP.out, hb⟩
theorem once_all : ∀ n, OnceC n ∧ AlongC n
 | 0 => by
  have h : OnceC 0 := fun S v a tv s av p w h hf => once_cls h hf
  exact ⟨h, along_step 0 (piece_step 0 h)⟩
 | n + 1 => by
  have h : OnceC (n + 1) := fun S v a tv s av p w h hf => by
   rcases h with h | h
   ·exact once_cls h hf
   ·exact once_grp (once_all n).2 h hf
  exact ⟨h, along_step (n + 1) (piece_step (n + 1) h)⟩

def patB (p : List UInt8) : Option (List (List Pc)) := match rowsF (3 * p.length + 3) 0 (runes p) with
 | some (rs, []) => some rs
 | _ => none
def readP (p : List UInt8) : Option (List (List Pc)) := if p.length ≤ 200 ∧ validD p = true then patB p else none
def fitsR (rs : List (List Pc)) (s : List Int) : Bool := (grpF rs s (true :: zeros s.length)).getD s.length false
def fitsP (p t : List UInt8) : Bool := match readP p with
 | none => false
 | some rs => fitsR rs (runes t)
def ReadE (p : List UInt8) (w : World) (e : Ending) (w' : World) : Prop :=
 ∃ a n c, e = .returned (.tuple #[.slice a n c, .bool (readP p).isSome]) ∧ (∀ rs, readP p = some rs → RowsR (AtO (3 * p.length + 3)) w' (From w.heap.size) (.slice a n c) rs) ∧ Below w.heap.size w w'
theorem read_no {p : List UInt8} (h : ¬ (p.length ≤ 200 ∧ validD p = true)) : readP p = none := if_neg h
theorem read_any (p : List UInt8) (hp : p.length ≤ 1000000) (w : World) (hU : GU w) : Calls Tryz.prog 168 #[.string ⟨p.toArray⟩] w (ReadE p w) := by
 by_cases h200 : p.length ≤ 200
 case neg =>
  have HN := Lib.hid (read_no (p := p) (fun g => h200 g.1))
  have hg : (200 : Int) < (p.length : Int) := by omega
  clear h200 hU
  go_enter Tryz.func168, Tryz.ntmps168
  go_wp2_with fail
  go_ret2
  exact ⟨none, 0, 0, by rw [HN.out]; rfl, fun rs e => (by rw [HN.out] at e; cases e), Below.refl _ _⟩
 have hg : ¬ (200 : Int) < (p.length : Int) := by omega
 have hv := valid_lib p (by omega) w hU
 cases hvd : validD p with
 | false =>
  have HN := Lib.hid (read_no (p := p) (fun g => by rw [hvd] at g; cases g.2))
  rw [hvd] at hv
  clear h200 hU hvd
  go_enter Tryz.func168, Tryz.ntmps168
  go_wp2_with fail
  refine hv.mono ?_
  rintro e w1 ⟨rfl, hb1⟩
  clear hv
  go_wp2_with fail
  go_ret2
  exact ⟨none, 0, 0, by rw [HN.out]; rfl, fun rs e => (by rw [HN.out] at e; cases e), hb1⟩
 | true =>
  have HY : Hid (readP p = patB p) := Lib.hid (if_pos ⟨h200, hvd⟩)
  rw [hvd] at hv
  have HU := Lib.hid hU
  have H200 := Lib.hid h200
  clear hU hvd h200
  go_enter Tryz.func168, Tryz.ntmps168
  go_wp2_with fail
  refine hv.mono ?_
  rintro e w1 ⟨rfl, hb1⟩
  clear hv
  obtain ⟨w0, hw0⟩ : ∃ x, x = w1.alloc (.cells #[.string ⟨p.toArray⟩, .int .i64 0, .bool false] 177) := ⟨_, rfl⟩
  have hba : Below w1.heap.size w1 w0 := by rw [hw0]; exact (Below.refl _ _).alloc (Nat.le_refl _) _
  have hrb : RB w0 w1.heap.size p ((0 : Nat) : Int) false := by rw [hw0]; exact Blk.fresh w1 _ _
  have hu1 := HU.out.below hb1
  have hgub : GUB w0 w1.heap.size := ⟨hu1.below hba, lt_of_cell (hu1.u8.1 0 (by decide)), lt_of_cell (hu1.u8.2 0 (by decide)).1⟩
  have hrows := (read_all (3 * p.length + 3)).2.2 w1.heap.size p 0 false w0 hrb hgub (by have := H200.out; omega) (by decide) (fun _ => by decide) (Nat.le_refl _)
  have HBa := Lib.hid hba
  have hsz := Blk.lt hrb
  clear hrb hgub hu1 hba
  go_upto_region 4 with fail
  rw [← hw0]
  clear hw0
  go_wp2_with fail
  refine hrows.mono ?_
  rintro e w3 ⟨v, s', bad', rfl, Q⟩
  obtain ⟨va, vn, vcap, rfl⟩ := Q.one
  clear hrows
  have hlow : Below w1.heap.size w1 w3 := HBa.out.grown Q.rd.own (Nat.le_of_lt hsz) (fun k e => by have e2 : w1.heap.size = k := Option.some.inj e; omega)
  have hb3 := below_trans hb1 hlow
  obtain ⟨ok, hok⟩ : ∃ ok, ok = (!bad' && decide (s' = [])) := ⟨_, rfl⟩
  have hfin : ok = (readP p).isSome ∧ ∀ rs, readP p = some rs → RowsR (AtO (3 * p.length + 3)) w3 (From w.heap.size) (.slice va vn vcap) rs := by
   rw [HY.out, hok]
   unfold patB
   cases hq : rowsF (3 * p.length + 3) 0 (runes p) with
   | none => exact ⟨by rw [Q.none rfl hq]; rfl, fun rs e => by cases e⟩
   | some y =>
    obtain ⟨rs, r2⟩ := y
    obtain ⟨q1, q2, q3⟩ := Q.good rfl rs r2 hq
    cases r2 with
    | nil =>
     have hs : s' = [] := (runes_eq_nil s').1 q2
     refine ⟨by rw [q1, hs]; rfl, fun rs1 e => ?_⟩
     cases e
     exact q3.sub (fun b _ hb => Nat.le_trans (Nat.le_trans hb1.size HBa.out.size) hb)
    | cons x r =>
     have hs : s' ≠ [] := by rintro rfl; cases q2
     exact ⟨by rw [q1, decide_eq_false hs]; rfl, fun rs1 e => by cases e⟩
  have HFin := Lib.hid hfin
  have HOk := Lib.hid hok
  have d0 := Q.rd.rb.c0
  have d2 := Q.rd.rb.c2
  clear hfin hok Q hlow
  go_upto_region 5 with fail
  go_cut [2, 3] (fun s2 s3 wx => s2 = .slice va vn vcap ∧ s3 = .bool ok ∧ wx = w3.drew)
  case first =>
   cases bad' with
   | true =>
    have HE : Hid (ok = false) := Lib.hid (by rw [HOk.out]; rfl)
    go_region
    all_goals
     go_wp2_with fail
     go_meet
     exact ⟨rfl, by rw [HE.out], rfl⟩
   | false =>
    by_cases hs : s' = []
    ·have HE : Hid (ok = true) := Lib.hid (by rw [HOk.out, decide_eq_true hs]; rfl)
     have hemp : s'.isEmpty = true := by simp [hs]
     clear hs
     go_region
     all_goals
      go_wp2_with fail
      go_meet
      exact ⟨rfl, by rw [HE.out], rfl⟩
    ·have HE : Hid (ok = false) := Lib.hid (by rw [HOk.out, decide_eq_false hs]; rfl)
     have hemp : s'.isEmpty = false := by simp [hs]
     clear hs
     go_region
     all_goals
      go_wp2_with fail
      go_meet
      exact ⟨rfl, by rw [HE.out], rfl⟩
  case rest =>
  obtain ⟨rfl, rfl, hwc⟩ := hcut
  subst hwc
  clear d0 d2
  go_wp2_with fail
  go_ret2
  exact ⟨va, vn, vcap, by rw [← HFin.out.1]; rfl, fun rs e => (HFin.out.2 rs e).kept (r := none) (grownBy_below (World.grownBy.refl _ _) (Below.refl _ w3).drew) (fun k e => by cases e), hb3.drew⟩
theorem right_any (p : List UInt8) (hp : p.length ≤ 1000000) (w : World) (hU : GU w) : Calls Tryz.prog 90 #[.string ⟨p.toArray⟩] w fun e w' => e = .returned (.bool (readP p).isSome) ∧ Below w.heap.size w w' := by
 have hr := read_any p hp w hU
 clear hU
 go_enter Tryz.func90, Tryz.ntmps90
 go_wp2_with fail
 refine hr.mono ?_
 rintro e w1 ⟨a, n, c, rfl, _, hb⟩
 clear hr
 go_wp2_with fail
 go_ret
 exact ⟨rfl, hb⟩
theorem lit_zeros (n : Nat) : (zeros (n + 1)).set 0 true = true :: zeros n := rfl
theorem fits_any (p t : List UInt8) (hp : p.length ≤ 1000000) (ht : t.length ≤ 4000) (w : World) (hU : GU w) :
  Calls Tryz.prog 94 #[.string ⟨p.toArray⟩, .string ⟨t.toArray⟩] w fun e w' => e = .returned (.tuple #[.bool (fitsP p t), .int .i64 (if (readP p).isSome then 0 else 1)]) ∧ Below w.heap.size w w' := by
 have hr := read_any p hp w hU
 have HFi : Hid (fitsP p t = match readP p with | none => false | some rs => fitsR rs (runes t)) := Lib.hid rfl
 generalize fitsP p t = ft at *
 clear hU
 cases hq : readP p with
 | none =>
  have HF0 : Hid (ft = false) := Lib.hid (by rw [HFi.out, hq])
  unfold ReadE at hr
  rw [hq] at hr
  clear hq HFi
  go_enter Tryz.func94, Tryz.ntmps94
  go_wp2_with fail
  refine hr.mono ?_
  rintro e w1 ⟨a, n, c, rfl, _, hb⟩
  clear hr
  go_wp2_with fail
  go_ret2
  exact ⟨by rw [HF0.out]; rfl, hb⟩
 | some rs =>
  have HF0 : Hid (ft = fitsR rs (runes t)) := Lib.hid (by rw [HFi.out, hq])
  unfold ReadE at hr
  rw [hq] at hr
  clear hq HFi
  have ht' : ¬ (4000 : Int) < (t.length : Int) := by omega
  obtain ⟨i0, hi0, hz0, hz1, hz2⟩ := info_parts infoR
  have HT := Lib.hid ht
  clear ht
  go_enter Tryz.func94, Tryz.ntmps94
  go_wp2_with fail
  refine hr.mono ?_
  rintro e w1 ⟨ra, rn, rc, rfl, hrr, hb1⟩
  have HRR := Lib.hid (hrr rs rfl)
  clear hr hrr
  obtain ⟨IT, hIT⟩ : ∃ k, k = w1.heap.size := ⟨_, rfl⟩
  have HIT := Lib.hid hIT
  go_wp2_with fail
  rw [← hIT]
  have hst : (w1.iter ⟨t.toArray⟩ 0).heap[IT]? = some (.stringIter ⟨t.toArray⟩ 0) := by rw [hIT]; exact World.iter_heap _ _ _
  have hb2 : Below w1.heap.size w1 (w1.iter ⟨t.toArray⟩ 0) := (Below.refl _ _).alloc (Nat.le_refl _) _
  have HSt := Lib.hid hst
  have HRu : Hid ([] ++ runesF t.length (t.drop 0) = runes t) := Lib.hid rfl
  clear hIT hst
  go_loopw [8] (fun s8 wr => ∃ (pos b : Nat) (acc : List Int) (v : Value), v = s8 ∧ Hid (wr.heap[IT]? = some (.stringIter ⟨t.toArray⟩ pos)) ∧ Hid (wr.ownsRow (IT + 1) 21 1 v acc.length (acc.map (fun x => .int .i32 x))) ∧ Hid (acc ++ runesF b (t.drop pos) = runes t) ∧ t.length ≤ pos + b ∧ acc.length ≤ pos ∧ pos ≤ t.length ∧ Below w1.heap.size w1 wr) (fun _ wr => t.length - wr.iterPos IT)
  case atStart => exact ⟨0, t.length, [], _, rfl, HSt, Lib.hid (World.ownsRow_nil _ _ _ _), HRu, by omega, Nat.le_refl _, Nat.zero_le _, hb2⟩
  case round =>
   obtain ⟨pos, b, acc, v, rfl, hk, hown, hI, hb, hal, hpl, hbw⟩ := hrel
   have hsz : (⟨t.toArray⟩ : ByteArray).size = t.length := rfl
   have hkl : IT < wr.heap.size := (Array.getElem?_eq_some_iff.1 hk.out).1
   have hip := Lib.hid (iterPos_of hk.out)
   by_cases hlt : pos < t.length
   ·have hnx : ∀ ty, (Instr.next (.pointer (some ⟨IT, 0, none⟩)) true ty).run Tryz.prog wr = _ := fun ty => run_next_any_at wr IT ⟨t.toArray⟩ pos ty hk.out (by rw [hsz]; exact hlt)
    have hde : decodeL (t.drop pos) = Utf8.decode ⟨t.toArray⟩ pos := decodeL_drop ⟨t.toArray⟩ pos
    rw [← hde] at hnx
    have hwd := decodeL_width (t.drop pos)
    have hne : t.drop pos ≠ [] := by
     intro e
     have := congrArg List.length e
     simp at this; omega
    have hle := decodeL_le (t.drop pos) hne
    rw [List.length_drop] at hle
    obtain ⟨b2, rfl⟩ : ∃ b2, b = b2 + 1 := ⟨b - 1, by omega⟩
    have HX : Hid ((acc ++ [((decodeL (t.drop pos)).1 : Int)]) ++ runesF b2 (t.drop (pos + (decodeL (t.drop pos)).2)) = runes t) := Lib.hid (by
     rw [← hI.out, List.append_assoc]
     conv => rhs; unfold runesF
     rw [if_neg hne, List.drop_drop]
     rfl)
    have hown2 := ownsRow_iterAt hown.out (Nat.lt_succ_self IT) ⟨t.toArray⟩ (pos + (decodeL (t.drop pos)).2)
    have hst2 := iterAt_heap wr IT ⟨t.toArray⟩ pos (pos + (decodeL (t.drop pos)).2) hk.out
    have hbw2 := below_iterAt hbw (Nat.le_of_eq HIT.out.symm) ⟨t.toArray⟩ (pos + (decodeL (t.drop pos)).2)
    have hsz2 := iterAt_size wr IT ⟨t.toArray⟩ (pos + (decodeL (t.drop pos)).2)
    clear hde hne hsz hI hk
    generalize (decodeL (t.drop pos)).1 = r at *
    generalize (decodeL (t.drop pos)).2 = wd at *
    obtain ⟨wN, hwN⟩ : ∃ x, x = wr.iterAt IT ⟨t.toArray⟩ (pos + wd) := ⟨_, rfl⟩
    rw [← hwN] at hnx hown2 hst2 hbw2 hsz2
    have hklN : IT < wN.heap.size := by rw [hsz2]; exact hkl
    obtain ⟨va, vc, rfl, _, _⟩ := row_form hown2
    have hba : Below wN.heap.size wN (wN.alloc (.cells #[.int .i32 (r : Int)] 21)) := (Below.refl _ _).alloc (Nat.le_refl _) _
    have hownA := own_below hown2 hba
    have hacl : acc.length ≤ 4000 := by have := HT.out; omega
    have HB1 : Hid ((∀ u ∈ [Value.int .i32 (r : Int)], u.oneCell' = true) ∧ acc.length + 1 ≤ maxLen ∧ (acc.length + 1) * 4 ≤ 140737488355328 ∧ IT + 1 ≤ (wN.alloc (.cells #[.int .i32 (r : Int)] 21)).heap.size) := Lib.hid ⟨fun u hu => (by rw [List.mem_singleton.1 hu]; rfl), by unfold maxLen; omega, by omega, by rw [World.size_alloc]; omega⟩
    have HSt2 := Lib.hid hst2
    have HbA := Lib.hid hba
    have HCn := Lib.hid (cells_new wN [.int .i32 (r : Int)] 21)
    clear hwN hsz2 hown2 hst2 hba hown hkl
    go_wp2_with (at_builtin; refine wpList_append_own_at _ rfl _ _ 135 rfl (IT + 1) 21 i0 _ 1 4 Tryz.underlying135 hi0 hz0 hz1 hz2 rfl (by decide) _ _ _ rfl hownA ⟨wN.heap.size, 0, none⟩ 1 1 [.int .i32 (r : Int)] (by rfl) (by rfl) HCn.out HB1.out.1 HB1.out.2.1 HB1.out.2.2.1 HB1.out.2.2.2 ?_)
    intro v' w9 hown9 hgrow9 _ _
    have hrow : ∀ k, (Value.slice va acc.length vc).ownBlock = some k → IT + 1 ≤ k := fun k e => (World.ownsRow.lt hownA k e).1
    have hst9 : w9.heap[IT]? = some (.stringIter ⟨t.toArray⟩ (pos + wd)) := by
     rw [hgrow9.block IT (by rw [World.size_alloc]; omega) (fun e => by have := hrow IT e.symm; omega), HbA.out.block IT hklN]
     exact HSt2.out
    have hb9 : Below w1.heap.size w1 w9 := ((hbw2.alloc (by have := HIT.out; omega) _)).grown hgrow9 (by rw [World.size_alloc]; have := HIT.out; omega) (fun k e => by have := hrow k e; have := HIT.out; omega)
    have HS9 := Lib.hid hst9
    have HO9 : Hid (w9.ownsRow (IT + 1) 21 1 v' (acc ++ [(r : Int)]).length ((acc ++ [(r : Int)]).map (fun x => .int .i32 x))) := Lib.hid (by rw [List.length_append, List.map_append]; exact hown9)
    have hm9 := Lib.hid (iterPos_of hst9)
    clear hown9 hgrow9 hst9 hownA hbw2 hrow hnx
    go_wp2_with fail
    go_roundw
    case rel => exact ⟨pos + wd, b2, acc ++ [(r : Int)], v', rfl, HS9, HO9, HX, by omega, by rw [List.length_append, List.length_singleton]; omega, by omega, hb9⟩
    case measure => rw [hm9.out, hip.out]; omega
   ·have hnx : ∀ ty, (Instr.next (.pointer (some ⟨IT, 0, none⟩)) true ty).run Tryz.prog wr = _ := fun ty => run_next_end_at wr IT ⟨t.toArray⟩ pos ty hk.out (by rw [hsz]; exact hlt)
    have hacc : acc = runes t := by
     have := hI.out
     rw [List.drop_eq_nil_of_le (by omega), runesF_nil, List.append_nil] at this
     exact this
    have hst4 := HT.out
    have hown3 := hown.out
    rw [hacc] at hown3
    have hnl : (runes t).length ≤ 4000 := Nat.le_trans (runes_le t) hst4
    generalize runes t = s at *
    obtain ⟨va, vc, rfl, _, _⟩ := row_form hown3
    obtain ⟨w4, hmk, hpl4, hb4⟩ := mk_places (s.length + 1) (by omega) wr
    have hmk : (Instr.makeSlice 136 (.int .i64 ((s.length : Int) + 1)) (.int .i64 ((s.length : Int) + 1))).run Tryz.prog wr = _ := hmk
    obtain ⟨G, hG⟩ : ∃ G, G = wr.heap.size := ⟨_, rfl⟩
    rw [← hG] at hmk hpl4
    have hpl5 : w4.ownsRow G 4 1 (.slice (some ⟨G, 0, none⟩) (s.length + 1) (s.length + 1)) (s.length + 1) ((zeros (s.length + 1)).map (fun x => Value.bool x)) := by
     have := hpl4
     unfold PlNew at this
     rw [zeros_len] at this
     exact this
    have e0 : w4.cell? ⟨G, 0, none⟩ = some (.bool false) := hpl5.cellAt 0 (by omega)
    have f0 := hpl5.frozenAt 0
    have hs5 := (hpl5.stored 0 (.bool true)).1
    rw [pl_set, lit_zeros] at hs5
    obtain ⟨w5, hw5⟩ : ∃ x, x = w4.setCell ⟨G, 0, none⟩ (.bool true) := ⟨_, rfl⟩
    rw [← hw5] at hs5
    have hb45 : Below wr.heap.size wr w5 := by rw [hw5]; exact hb4.setCell (by show wr.heap.size ≤ G; omega) _
    obtain ⟨w6, hw6⟩ : ∃ x, x = w5.alloc (.cells #[.slice ra rn rc] 140) := ⟨_, rfl⟩
    have hb56 : Below w5.heap.size w5 w6 := by rw [hw6]; exact (Below.refl _ _).alloc (Nat.le_refl _) _
    have hb06 := below_trans hb45 hb56
    have hbW6 := below_trans hbw hb06
    have hA : AtO (3 * p.length + 3 + 1) w6 (fun _ => True) (grpV w5.heap.size) (.grp (grpF rs)) := .inr ⟨w5.heap.size, _, rs, rfl, rfl, trivial, by rw [hw6]; exact Blk.fresh w5 _ _, (HRR.out.kept (r := none) (grownBy_below (World.grownBy.refl _ _) hbW6) (fun k e => by cases e)).sub (fun _ _ _ => trivial)⟩
    have hfits : Fits3 w6 (.slice va s.length vc) s (.slice (some ⟨G, 0, none⟩) (s.length + 1) (s.length + 1)) (true :: zeros s.length) := by
     have hz : (true :: zeros s.length).length = s.length + 1 := by rw [List.length_cons, zeros_len]
     refine ⟨own_below (own_low hown3) hb06, ?_, hz, by omega⟩
     unfold PlAt PlNew
     rw [hz]
     exact own_below (own_low hs5) hb56
    have hon := (once_all (3 * p.length + 3 + 1)).1 _ _ _ _ s _ (true :: zeros s.length) w6 hA hfits
    have hgl : (grpF rs s (true :: zeros s.length)).length = s.length + 1 := (hA.lin).len s _ hfits.2.2.1
    have HGl := Lib.hid hgl
    have HHid := Lib.hid (show fitsR rs s = (grpF rs s (true :: zeros s.length)).getD s.length false from rfl)
    obtain ⟨L, hL⟩ : ∃ L, L = grpF rs s (true :: zeros s.length) := ⟨_, rfl⟩
    have hon : Calls Tryz.prog 171 #[grpV w5.heap.size, .slice va s.length vc, .slice (some ⟨G, 0, none⟩) (s.length + 1) (s.length + 1)] w6 (PlE w6.heap.size L w6) := by rw [hL]; exact hon
    rw [← hL] at HGl HHid
    have HW6 := Lib.hid hbW6
    clear hgl hA hfits hs5 hpl4 hpl5 hb4 hb56 hb06 hb45 hI hk hL hacc hown hown3 hG
    go_upto_region 13 with fail
    rw [← hw5]
    clear hw5
    rw [hw6] at hon
    unfold grpV at hon
    go_wp2_with fail
    refine hon.mono ?_
    rintro e w7 ⟨ov, rfl, hpo, hb7⟩
    rw [← hw6] at hb7
    have hpo1 := hpo
    unfold PlNew at hpo1
    rw [HGl.out] at hpo1
    obtain ⟨oa, oc, rfl, _, hof⟩ := row_form hpo1
    obtain ⟨og, rfl, _, _, hcs⟩ := hof (by omega)
    have e1 := hcs s.length (by omega)
    rw [pl_get (by rw [HGl.out]; omega)] at e1
    have HE : Hid (ft = L[s.length]'(by rw [HGl.out]; omega)) := Lib.hid (by
     rw [HF0.out, HHid.out, List.getD_eq_getElem?_getD, List.getElem?_eq_getElem (by rw [HGl.out]; omega)]; rfl)
    have hb8 := below_trans hb1 (below_trans HW6.out hb7)
    generalize L[s.length]'(by rw [HGl.out]; omega) = bo at *
    clear hon hpo hpo1 hof hcs hw6
    go_wp2_with fail
    go_ret2
    exact ⟨by rw [HE.out]; rfl, hb8⟩
end Go.Proofs.YtkhlfggnjcbniaaGreatDoor.pat
