/- A part of the proofs: lemmas and contracts. -/
import Derived.Maps.GroupsBeside
import Derived.WideKeyEntry
import Derived.Test.YtkhlfggnjcbniaaGreatDoorP26
set_option maxHeartbeats 12800000
set_option maxRecDepth 1000000
namespace Go.Proofs.YtkhlfggnjcbniaaGreatDoor.doc
open Go Go.Maps Go.WideElems Go.MapKept Go.RowKit Go.ChangeShapes Go.WideShapes Go.Lib
open Go.ChangeMaps (setBlock heap_setBlock_same heap_setBlock_other)

theorem laidO : laidOutB Tryz.prog = true := by kernel_rfl
theorem rowK : 121 < Tryz.prog.types.size := of_decide_eq_true (by kernel_rfl)
theorem cellsK : Tryz.prog.cellsOf 121 = 4 := by kernel_rfl
theorem cellsS : Tryz.prog.cellsOf 9 = 1 := by kernel_rfl
theorem cellsI : Tryz.prog.cellsOf 3 = 1 := by kernel_rfl
theorem keyTyK : Tryz.prog.keyType 121 = true := by kernel_rfl
theorem wideK : (match Tryz.prog.underlying 121 with | some (.array _ _) | some (.struct _) => true | _ => false) = true := by rw [Tryz.underlying121]
theorem kta : Tryz.prog.keyTypeAt 4 121 = true := by kernel_rfl
theorem lawK : WideMaps.KeyLaw Tryz.prog 121 := deep_law_laid laidO (m := 4) (by omega) rowK kta wideK
theorem keyedK : Keyed Tryz.prog 121 := Keyed.of_law lawK
theorem sizeK : ∃ m, Tryz.prog.types.size = m + 1 := ⟨Tryz.prog.types.size - 1, by have := rowK; omega⟩

def wfK (κ : Key) : Prop := κ.1.length ≤ 1000000 ∧ (Lit.int .i64 κ.2.1).wf = true ∧ (Lit.int .i64 κ.2.2.1).wf = true ∧ (Lit.int .i64 κ.2.2.2).wf = true
def litK (κ : Key) : Lit := .string (keyBytes [.string κ.1, .int .i64 κ.2.1, .int .i64 κ.2.2.1, .int .i64 κ.2.2.2])
theorem keyOf_key (κ : Key) (h : wfK κ) : keyOf Tryz.prog 121 (keyV κ) = some (litK κ) := by
 obtain ⟨m, hm⟩ := sizeK
 obtain ⟨h0, h1, h2, h3⟩ := h
 obtain ⟨s, a, b, c⟩ := κ
 have hs : (⟨s.toArray⟩ : ByteArray).size ≤ maxLen := by
  show s.length ≤ _
  simp only [maxLen] at *; omega
 unfold keyOf keyV litK
 simp only [Tryz.underlying121]
 rw [if_pos (by simp [keyTyK, Value.formed, Tryz.underlying121, cellsK]), hm]
 unfold Program.keyLits
 simp only [Tryz.underlying121, Value.cells]
 rw [if_pos ⟨by rw [cellsK]; rfl, by decide +kernel⟩]
 simp [cellsS, cellsI, Program.keyLits, Tryz.underlying9, Tryz.underlying3, hs, h1, h2, h3]
theorem litK_inj (κ κ' : Key) (h : wfK κ) (h' : wfK κ') (e : litK κ = litK κ') : κ = κ' := by
 have := keyedK.inj (keyOf_key κ h) (by rw [keyOf_key κ' h', e])
 unfold keyV at this
 injection this with e1
 injection e1 with e1
 simp only [List.cons.injEq, Value.string.injEq, Value.int.injEq, true_and, and_true] at e1
 obtain ⟨a, b, c, d⟩ := e1
 obtain ⟨s, x, y, z⟩ := κ
 obtain ⟨s', x', y', z'⟩ := κ'
 have : s = s' := by
  injection a with a
  exact List.toArray_inj a
 subst this; subst b; subst c; subst d; rfl
end Go.Proofs.YtkhlfggnjcbniaaGreatDoor.doc
namespace Go.Proofs.YtkhlfggnjcbniaaGreatDoor.doc
open Go Go.Maps Go.WideElems Go.MapKept Go.RowKit Go.ChangeShapes Go.WideShapes
open Go.ChangeMaps (setBlock heap_setBlock_same heap_setBlock_other modify_eq_set)
section
variable {H : Type} {P : Program} {w : World} {t k e : TypeId} {R : Value → Option (DataW H × List MemPlace)} {b : Nat} {es : Array MapEntry} {clock : Nat}

theorem entry_two (K : Keyed P k) (ht : P.underlying t = some (.map k e)) {z : Value} (hz : ∀ u : World, (zeroValue e).run P u = .ok z u) (hb : w.heap[b]? = some (.map es clock)) (F : Fit P k R es clock)
  {key : Value} {kl : Lit} (hkey : keyOf P k key = some kl) :
  ∃ (v0 : Value) (st : Nat) (es1 : Array MapEntry) (clock1 : Nat), (Instr.mapEntry t (.map (some b)) key).run P w = .ok (.tuple #[v0, goInt st]) (setBlock w b (.map es1 clock1)) ∧
   (Instr.lookup t (.map (some b)) key false).run P w = .ok v0 w ∧
   ∀ (w2 : World) (val : Value), w2.heap[b]? = some (.map es1 clock1) → ∃ es' clock', (Instr.entryStore t (.map (some b)) (goInt st) val).run P w2 = .ok () (setBlock w2 b (.map es' clock')) ∧
    ∀ w3 : World, w3.heap[b]? = some (.map es clock) → (Instr.mapUpdate t (.map (some b)) key val).run P w3 = .ok () (setBlock w3 b (.map es' clock')) := by
 obtain ⟨s1, s2, s3⟩ := F.stamped
 rcases K.find w hkey es.toList F.keys with ⟨h1, h2⟩ | ⟨j, e0, h1, h2, h3⟩
 ·refine ⟨z, clock, es.push ⟨key, z, clock⟩, clock + 1, ?_, ?_, fun w2 val hw2 => ⟨es.push ⟨key, val, clock⟩, clock + 1, ?_, fun w3 hw3 => ?_⟩⟩
  ·simp [Instr.mapEntry, run_underlying ht, MapKept.run_getObj_map hb, K.check w false hkey, h1, hz, MapKept.run_setObj_map _ hb, Result.andThen, setBlock]
  ·simp [Instr.lookup, run_underlying ht, MapKept.run_getObj_map hb, K.check w _ hkey, h1, hz, Result.andThen]
  ·have hidx : (es.push ⟨key, z, clock⟩).findIdx? (fun e => ((e.born : Nat) : Int) == ((clock : Nat) : Int)) = some es.size := by
    rw [findIdx_arr]
    have := findIdx_born (l := (es.push ⟨key, z, clock⟩).toList) (j := es.size) (e0 := ⟨key, z, clock⟩) (by
     simp only [Array.toList_push, List.map_append, List.map_cons, List.map_nil]
     refine List.nodup_append.2 ⟨s2, by simp, fun a ha c hc e1 => ?_⟩
     simp only [List.mem_singleton] at hc
     obtain ⟨x, hx, rfl⟩ := List.mem_map.1 ha
     have := s1 x hx
     omega) (by simp)
    exact this
   have hmod : (es.push ⟨key, z, clock⟩).modify es.size (fun e => { e with val := val }) = es.push ⟨key, val, clock⟩ := by
    apply Array.ext'
    rw [Array.toList_modify, Array.toList_push, Array.toList_push, ← Array.length_toList, modify_last]
   simp [Instr.entryStore, MapKept.run_getObj_map hw2, asInt, asIntOf, goInt, hidx, hmod, MapKept.run_setObj_map _ hw2, Result.andThen, setBlock]
  ·rcases K.find w3 hkey es.toList F.keys with ⟨g1, _⟩ | ⟨j', e', _, g2, g3⟩
   ·simp [Instr.mapUpdate, run_underlying ht, MapKept.run_getObj_map hw3, K.check w3 false hkey, g1, MapKept.run_setObj_map _ hw3, Result.andThen, setBlock]
   ·exact absurd g3 (h2 e' (List.mem_of_getElem? g2))
 ·have hj : es[j]? = some e0 := by simpa using h2
  have hsame : es.modify j (fun e => { e with key := key }) = es := by
   apply Array.ext'
   rw [Array.toList_modify, modify_eq_set _ _ _ _ h2]
   have : ({ e0 with key := key } : MapEntry) = e0 := by rw [← h3]
   rw [this]
   exact set_self _ _ _ h2
  refine ⟨e0.val, e0.born, es, clock, ?_, ?_, fun w2 val hw2 => ⟨es.modify j (fun e' => { e' with key := key, val := val }), clock, ?_, fun w3 hw3 => ?_⟩⟩
  ·simp [Instr.mapEntry, run_underlying ht, MapKept.run_getObj_map hb, K.check w false hkey, h1, hj, h3, K.stays w hkey, hsame, MapKept.run_setObj_map _ hb, Result.andThen, setBlock]
  ·simp [Instr.lookup, run_underlying ht, MapKept.run_getObj_map hb, K.check w _ hkey, h1, Result.andThen]
  ·have hidx : es.findIdx? (fun e => ((e.born : Nat) : Int) == ((e0.born : Nat) : Int)) = some j := by
    rw [findIdx_arr]
    exact findIdx_born s2 h2
   have hmod : es.modify j (fun e => { e with val := val }) = es.modify j (fun e' => { e' with key := key, val := val }) := by
    apply Array.ext'
    rw [Array.toList_modify, Array.toList_modify, modify_eq_set _ _ _ _ h2, modify_eq_set _ _ _ _ h2, ← h3]
   simp [Instr.entryStore, MapKept.run_getObj_map hw2, asInt, asIntOf, goInt, hidx, hmod, MapKept.run_setObj_map _ hw2, Result.andThen, setBlock]
  ·rcases K.find w3 hkey es.toList F.keys with ⟨_, g2⟩ | ⟨j', e', g1, g2, g3⟩
   ·exact absurd h3 (g2 e0 (List.mem_of_getElem? h2))
   ·have hjj : j' = j := by
     have a1 : (es.toList.map (·.key))[j']? = some key := by rw [List.getElem?_map, g2, ← g3]; rfl
     have a2 : (es.toList.map (·.key))[j]? = some key := by rw [List.getElem?_map, h2, ← h3]; rfl
     have hl : j' < (es.toList.map (·.key)).length := (List.getElem?_eq_some_iff.1 a1).1
     exact (List.getElem?_inj hl s3).1 (by rw [a1, a2])
    subst hjj
    obtain rfl : e' = e0 := by rw [g2] at h2; exact Option.some.inj h2
    simp [Instr.mapUpdate, run_underlying ht, MapKept.run_getObj_map hw3, K.check w3 false hkey, g1, hj, h3, K.stays w3 hkey, MapKept.run_setObj_map _ hw3, Result.andThen, setBlock]

theorem grown_set (hb : w.heap[b]? = some (.map es clock)) (o : Obj) : w.grownBy (setBlock w b o) (some b) :=
 ⟨rfl, rfl, rfl, by simp [setBlock], fun i _ hne => heap_setBlock_other hb o (fun e => hne (by rw [e]))⟩
theorem set_set (w : World) (b : Nat) (o o' : Obj) : setBlock (setBlock w b o) b o' = setBlock w b o' := by
 simp [setBlock]

theorem group_step {base n : Nat} {D : DataW H} {el : TypeId} {q : IntKind} (hown : w.ownsGroups P k base el q b n D) (K : Keyed P k) (ht : P.underlying t = some (.map k e)) (hz : ∀ u : World, (zeroValue e).run P u = .ok (.slice none 0 0) u) (hn : n < maxLen)
  {key : Value} {kl : Lit} (hkey : keyOf P k key = some kl) (x : Int) (hx : (Lit.int q x).wf = true) {No : Nat → Prop} (hsh : w.Shuns b No) (hNo : ∀ g, No g → g < w.heap.size) :
  ∃ (v0 : Value) (st : Nat) (wA : World) (zs : List Int), (Instr.mapEntry t (.map (some b)) key).run P w = .ok (.tuple #[v0, goInt st]) wA ∧ D.atKey kl .nil = rowDatum q v0 zs ∧ zs.length ≤ n ∧ w.grownBy wA (some b) ∧ wA.heap.size = w.heap.size ∧
   wA.ownsRow base el 1 v0 zs.length (zs.map (Value.int q)) ∧ (∀ g, v0.ownBlock = some g → ¬ No g) ∧
   ∀ (wB : World) (v' : Value), wA.grownBy wB v0.ownBlock → wB.ownsRow base el 1 v' (zs.length + 1) (zs.map (Value.int q) ++ [.int q x]) → (v'.ownBlock = v0.ownBlock ∨ ∃ g, v'.ownBlock = some g ∧ w.heap.size ≤ g) →
    ∃ wC, (Instr.entryStore t (.map (some b)) (goInt st) v').run P wB = .ok () wC ∧ wC.ownsGroups P k base el q b (n + 1) (D.put kl (rowDatum q v' (zs ++ [x]))) ∧ wB.grownBy wC (some b) ∧ wC.Shuns b No := by
 obtain ⟨v, zs, hrun, hat, hoi, hzl, hback⟩ := hown.at K ht (hz w) hn hkey
 obtain ⟨es, clock, hb, F, hsz, _, hbb, _, _⟩ := hown
 have hv0 : ∀ g, v.ownBlock = some g → ¬ No g := by
  rcases Maps.fit_look false K ht (hz w) hb F hkey with ⟨hr, _, _⟩ | ⟨e0, y, hm0, _, hr, _, _, _⟩
  ·rw [hrun] at hr
   injection hr with e1
   rw [e1]
   intro g hg
   cases hg
  ·rw [hrun] at hr
   injection hr with e1
   rw [e1]
   exact fun g hg => hsh es clock hb e0 hm0 g hg
 obtain ⟨v0, st, es1, clock1, hme, hlk, hst⟩ := entry_two K ht hz hb F hkey
 obtain rfl : v0 = v := by
  rw [hrun] at hlk
  injection hlk with e1; exact e1.symm
 have hnb : v0.ownBlock = none ∨ v0.ownBlock ≠ some b := by
  cases hob : v0.ownBlock with
  | none => exact .inl rfl
  | some g => exact .inr (fun e1 => by cases e1; have := (hoi.1.lt _ hob).1; omega)
 have hgA := grown_set hb (.map es1 clock1)
 have hbA : (setBlock w b (.map es1 clock1)).heap[b]? = some (.map es1 clock1) := heap_setBlock_same hb _
 have hblt : b < w.heap.size := (Array.getElem?_eq_some_iff.1 hb).1
 refine ⟨v0, st, setBlock w b (.map es1 clock1), zs, hme, hat, hzl, hgA, by simp [setBlock], hoi.1.kept hgA hnb, hv0, ?_⟩
 intro wB v' hgB hrow hloc
 have hbne : some b ≠ v0.ownBlock := by
  rcases hnb with h | h
  ·rw [h]; exact fun e1 => by cases e1
  ·exact fun e1 => h e1.symm
 have hbB : wB.heap[b]? = some (.map es1 clock1) := (hgB.block b (by simpa [setBlock] using hblt) hbne).trans hbA
 obtain ⟨es', clock', hes, hmu⟩ := hst wB v' hbB
 have hb1 : (setBlock wB b (.map es clock)).heap[b]? = some (.map es clock) := heap_setBlock_same hbB _
 have hg1 := grown_set hbB (.map es clock)
 have hgr : w.grownBy (setBlock wB b (.map es clock)) v0.ownBlock := by
  refine ⟨hgB.os, hgB.tape, hgB.output, ?_, fun i hi hne => ?_⟩
  ·have := hgB.size
   simp [setBlock] at this ⊢; exact this
  ·by_cases hib : i = b
   ·subst hib; rw [hb1, hb]
   ·rw [heap_setBlock_other hbB _ hib, hgB.block i (by simpa [setBlock] using hi) hne, heap_setBlock_other hb _ hib]
 have hnb' : v'.ownBlock = none ∨ v'.ownBlock ≠ some b := by
  cases hob : v'.ownBlock with
  | none => exact .inl rfl
  | some g => exact .inr (fun e1 => by cases e1; have := (hrow.lt _ hob).1; omega)
 have hoi' := hoi.appended (hrow.kept hg1 hnb') hx
 obtain ⟨w2, hr2, ho2, _⟩ := hback _ v' (zs ++ [x]) hgr hoi' (by rw [List.length_append]; simp; omega) hloc
 have e2 := hmu _ hb1
 rw [hr2] at e2
 injection e2 with _ e2
 rw [set_set] at e2
 subst e2
 obtain ⟨es2, clock2, hh2, hwho⟩ := stored_who K ht hb1 F (Nat.lt_of_le_of_lt hsz hn) hkey (hmu _ hb1)
 rw [set_set] at hh2
 refine ⟨_, hes, ho2, grown_set hbB _, ?_⟩
 intro es3 clock3 hh3 y hy g hg
 obtain ⟨rfl, rfl⟩ : es2 = es3 ∧ clock2 = clock3 := by rw [hh2] at hh3; simpa using hh3
 rcases hwho y hy with ⟨hy0, _⟩ | ⟨_, hval⟩
 ·exact hsh es clock hb y hy0 g hg
 ·rw [hval] at hg
  rcases hloc with e1 | ⟨g', e1, hge⟩
  ·exact hv0 g (e1 ▸ hg)
  ·rw [e1] at hg
   injection hg with hg
   subst hg
   exact fun hno => by have := hNo _ hno; omega
end
end Go.Proofs.YtkhlfggnjcbniaaGreatDoor.doc
namespace Go.Proofs.YtkhlfggnjcbniaaGreatDoor.doc
open Go Go.Maps Go.WideElems Go.MapKept Go.RowKit Go.ChangeShapes Go.WideShapes

theorem wp_entry {H : Type} {P : Program} {w : World} {ops : Array Oper} {rest : List Oper} {a : Act} {Q : Exit → Act → World → Prop} {d : Option Tmp} {ty : TypeId} {ps : String} {af : Array Edge} {t : TypeId} {m x : Operand}
  {k e el : TypeId} {q : IntKind} {base b n : Nat} {D : DataW H} {key : Value} {kl : Lit} (y : Int)
  (hm : a.eval m = .map (some b)) (hx : a.eval x = key) (hown : w.ownsGroups P k base el q b n D) (K : Keyed P k) (ht : P.underlying t = some (.map k e)) (hz : ∀ u : World, (zeroValue e).run P u = .ok (.slice none 0 0) u) (hn : n < maxLen)
  (hkey : keyOf P k key = some kl) (hy : (Lit.int q y).wf = true) {No : Nat → Prop} (hsh : w.Shuns b No) (hNo : ∀ g, No g → g < w.heap.size)
  (h : ∀ (v0 : Value) (st : Nat) (wA : World) (zs : List Int), D.atKey kl .nil = rowDatum q v0 zs → zs.length ≤ n → w.grownBy wA (some b) → wA.heap.size = w.heap.size →
   wA.ownsRow base el 1 v0 zs.length (zs.map (Value.int q)) → (∀ g, v0.ownBlock = some g → ¬ No g) →
   (∀ (wB : World) (v' : Value), wA.grownBy wB v0.ownBlock → wB.ownsRow base el 1 v' (zs.length + 1) (zs.map (Value.int q) ++ [.int q y]) → (v'.ownBlock = v0.ownBlock ∨ ∃ g, v'.ownBlock = some g ∧ w.heap.size ≤ g) →
    ∃ wC, (Instr.entryStore t (.map (some b)) (goInt st) v').run P wB = .ok () wC ∧ wC.ownsGroups P k base el q b (n + 1) (D.put kl (rowDatum q v' (zs ++ [y]))) ∧ wB.grownBy wC (some b) ∧ wC.Shuns b No) →
   wpList P ops Q rest (a.put d (.tuple #[v0, goInt st])) wA) :
  wpList P ops Q ({ dst := d, op := Op.mapEntry t m x, type := ty, pos := ps, after := af, guard := none } :: rest) a w := by
 obtain ⟨v0, st, wA, zs, hrun, h1, h2, h3, h4, h5, h6, h7⟩ := group_step hown K ht hz hn hkey y hy hsh hNo
 refine wpList_plain rfl fun K' hK' => ?_
 unfold Oper.wp
 simp [execOp, hm, hx, hrun, Result.andThen]
 exact hK' _ _ (h v0 st wA zs h1 h2 h3 h4 h5 h6 h7)

theorem wp_store {P : Program} {w : World} {ops : Array Oper} {rest : List Oper} {a : Act} {Q : Exit → Act → World → Prop} {d : Option Tmp} {ty : TypeId} {ps : String} {af : Array Edge} {t : TypeId} {m s x : Operand}
  {b st : Nat} {v' : Value} {wC : World} (hm : a.eval m = .map (some b)) (hs : a.eval s = goInt st) (hx : a.eval x = v') (hrun : (Instr.entryStore t (.map (some b)) (goInt st) v').run P w = .ok () wC)
  (h : wpList P ops Q rest (a.put d undef) wC) :
  wpList P ops Q ({ dst := d, op := Op.entryStore t m s x, type := ty, pos := ps, after := af, guard := none } :: rest) a w := by
 refine wpList_plain rfl fun K' hK' => ?_
 unfold Oper.wp
 simp [execOp, hm, hs, hx, hrun, Result.andThen]
 exact hK' _ _ h

def rowD (zs : List Int) : DataW Unit := if zs = [] then .nil else .slice (lits .i64 zs) []
theorem lits_inj (a b : List Int) (h : lits (H := Unit) .i64 a = lits .i64 b) : a = b := by
 unfold lits at h
 refine List.map_inj_right ?_ |>.1 h
 intro x y e
 injection e with e; injection e
theorem rowD_of {w : World} {base : Nat} {v : Value} {zs g : List Int} (h : w.ownsRow base 3 1 v zs.length (zs.map (Value.int .i64))) (e : rowD g = rowDatum .i64 v zs) : zs = g := by
 unfold rowD at e
 rcases h.2 with ⟨rfl, h0⟩ | ⟨gb, cap, cur, rfl, _⟩
 ·have hz : zs = [] := List.length_eq_zero_iff.1 h0
  subst hz
  by_cases hg : g = []
  ·exact hg.symm
  ·rw [if_neg hg] at e
   cases e
 ·have e2 : rowDatum (H := Unit) .i64 (.slice (some ⟨gb, 0, none⟩) zs.length cap) zs = .slice (lits .i64 zs) [] := rfl
  rw [e2] at e
  by_cases hg : g = []
  ·rw [if_pos hg] at e; cases e
  ·rw [if_neg hg] at e
   injection e with e
   exact (lits_inj _ _ e).symm

structure GrpI (w : World) (b n : Nat) (g : Key → List Int) : Prop where
 own : ∃ D : DataW Unit, w.ownsGroups Tryz.prog 121 (b + 1) 3 .i64 b n D ∧ IsMap D ∧ ∀ κ, wfK κ → D.atKey (litK κ) .nil = rowD (g κ)
theorem GrpI.made (w : World) : GrpI (w.alloc (.map #[] 0)) w.heap.size 0 (fun _ => []) :=
 ⟨.map [], World.ownsGroups_made _ _ _ _ _, isMap_empty, fun _ _ => rfl⟩
theorem grown_none {w w' : World} (h : Below w.heap.size w w') : w.grownBy w' none := ⟨h.os, h.tape, h.output, h.size, fun i hi _ => h.block i hi⟩
theorem own_below {w w' : World} {b n : Nat} {D : DataW Unit} (h : w.ownsGroups Tryz.prog 121 (b + 1) 3 .i64 b n D) (hb : Below w.heap.size w w') : w'.ownsGroups Tryz.prog 121 (b + 1) 3 .i64 b n D :=
 h.kept (grown_none hb) (fun e => by cases e) (fun es clock _ x _ => by
  cases x.val.ownBlock with
  | none => exact .inl rfl
  | some g => exact .inr (fun e => by cases e))
theorem GrpI.below {w w' : World} {b n : Nat} {g : Key → List Int} (h : GrpI w b n g) (hb : Below w.heap.size w w') : GrpI w' b n g := by
 obtain ⟨D, h1, h2, h3⟩ := h.own
 exact ⟨D, own_below h1 hb, h2, h3⟩
theorem GrpI.congr {w : World} {b n : Nat} {g g' : Key → List Int} (h : GrpI w b n g) (e : ∀ κ, g κ = g' κ) : GrpI w b n g' := by
 have : g = g' := funext e
 rwa [this] at h
theorem shuns_below {w w' : World} {b : Nat} {No : Nat → Prop} (h : w.Shuns b No) (hlt : b < w.heap.size) (hb : Below w.heap.size w w') : w'.Shuns b No := h.kept (grown_none hb) hlt (fun e => by cases e)
theorem shuns_new {w w' : World} {b n g0 : Nat} {g : Key → List Int} (h : GrpI w b n g) (hlt : b < w.heap.size) (hb : Below w.heap.size w w') (hg : w.heap.size ≤ g0) : w'.Shuns b (fun x => x = g0) := by
 obtain ⟨D, h1, _, _⟩ := h.own
 have : w.Shuns b (fun _ => False) := fun _ _ _ _ _ _ _ hf => hf
 exact shuns_below (this.reno h1 (fun x hx => .inr (by rw [hx]; exact hg))) hlt hb
theorem GrpI.put {w : World} {b n : Nat} {g : Key → List Int} {D : DataW Unit} {κ : Key} {v' : Value} {zs : List Int} {y : Int} (hκ : wfK κ) (hm : IsMap D) (ha : ∀ κ, wfK κ → D.atKey (litK κ) .nil = rowD (g κ)) (hz : zs = g κ)
  (ho : w.ownsGroups Tryz.prog 121 (b + 1) 3 .i64 b (n + 1) (D.put (litK κ) (rowDatum .i64 v' (zs ++ [y])))) (hv : ∃ x c, v' = .slice (some x) (zs.length + 1) c) : GrpI w b (n + 1) (fun κ' => if κ' = κ then g κ ++ [y] else g κ') := by
 refine ⟨_, ho, hm.put _ _, fun κ' hκ' => ?_⟩
 by_cases e : κ' = κ
 ·subst e
  rw [if_pos rfl, atKey_put_same hm (keyedK.key (keyOf_key _ hκ))]
  obtain ⟨x, c, rfl⟩ := hv
  unfold rowD
  rw [if_neg (by simp), hz]; rfl
 ·rw [if_neg e, atKey_put_other (fun e2 => e (litK_inj _ _ hκ' hκ e2)), ha κ' hκ']
end Go.Proofs.YtkhlfggnjcbniaaGreatDoor.doc
namespace Go.Proofs.YtkhlfggnjcbniaaGreatDoor.doc
open Go.ChangeShapes Go.WideShapes Go.ChangeAt Go.RowKit Go.Lib Go.Maps atr link

theorem wf_small (n : Int) (h0 : -1000 ≤ n) (h1 : n ≤ 1000000) : (Lit.int .i64 n).wf = true := by
 have a : IntKind.i64.min = -9223372036854775808 := by decide
 have b : IntKind.i64.max = 9223372036854775807 := by decide
 simp only [Lit.wf]
 simp
 omega
theorem near_in {l : List Nd} (h : Rt l) (nm : List UInt8) : ∀ k, inR l k → nearP l k nm = -1 ∨ inR l (nearP l k nm) := by
 refine by_up h _ (fun k hk ih => ?_)
 rw [near_eq h k hk]
 by_cases g : (nd l k).parent < 0
 ·rw [if_pos g]; exact .inl rfl
 ·rw [if_neg g]
  have hp : inR l (nd l k).parent := ⟨by omega, (h.par k hk).2⟩
  by_cases g2 : (nd l (nd l k).parent).name = nm
  ·rw [if_pos g2]; exact .inr hp
  ·rw [if_neg g2]; exact ih.resolve_left g
theorem form_in {l : List Nd} (h : Rt l) (k : Int) (hk : inR l k) : formP l k = -1 ∨ inR l (formP l k) := by
 cases g : ownsB (kN l k) with
 | false => rw [form_no l k g]; exact .inl rfl
 | true =>
  cases g2 : (hasA nForm (nd l k).attrs && decide (topP l k = 0)) with
  | true =>
   rw [form_nam l k g g2]
   by_cases g3 : kO l (fnamP l k) = 30
   ·rw [if_pos g3]; exact nam_in h _
   ·rw [if_neg g3]; exact .inl rfl
  | false => rw [form_up l k g g2]; exact near_in h _ k hk
theorem key_wf {l : List Nd} (h : Rt l) (k : Int) (hk : inR l k) : wfK (keyP l k) := by
 have hf := h.few
 obtain ⟨k0, k1⟩ := hk
 have hnm : (nmP l k).length ≤ 1000000 := by
  unfold nmP
  cases g : fval nNameA (nd l k).attrs with
  | none => simp
  | some s => have := val_short h k ⟨k0, k1⟩ _ _ g; simp; omega
 unfold keyP
 by_cases g : nmP l k = []
 ·rw [if_pos g]
  exact ⟨by simp, wf_small _ (by show (-1000 : Int) ≤ -2; decide) (by show (-2 : Int) ≤ 1000000; decide), wf_small _ (by show (-1000 : Int) ≤ 0; decide) (by show (0 : Int) ≤ 1000000; decide), wf_small _ (by show (-1000 : Int) ≤ k; omega) (by show k ≤ (1000000 : Int); omega)⟩
 ·rw [if_neg g]
  have hfm := form_in h k ⟨k0, k1⟩
  have htp := (top_in h k ⟨k0, k1⟩).1
  refine ⟨hnm, wf_small _ ?_ ?_, wf_small _ ?_ ?_, wf_small _ (by show (-1000 : Int) ≤ -1; decide) (by show (-1 : Int) ≤ 1000000; decide)⟩
  ·show (-1000 : Int) ≤ formP l k
   rcases hfm with h1 | h1
   ·omega
   ·have := h1.1; omega
  ·show formP l k ≤ (1000000 : Int)
   rcases hfm with h1 | h1
   ·omega
   ·have := h1.2; omega
  ·show (-1000 : Int) ≤ topP l k
   have := htp.1; omega
  ·show topP l k ≤ (1000000 : Int)
   have := htp.2; omega

def OsAt (w : World) (g : Nat) (os : List Int) : Prop := ∀ j (h : j < os.length), w.cell? ⟨g, j, none⟩ = some (.int .i64 os[j])
theorem OsAt.same {w w' : World} {g : Nat} {os : List Int} (h : OsAt w g os) (e : w'.heap[g]? = w.heap[g]?) : OsAt w' g os := fun j hj => by
 rw [World.cell?_of_block (w := w) e]; exact h j hj
theorem own_os {w : World} {B : Nat} {v : Value} {os : List Int} (h : OwnI w B v os) (hp : 0 < os.length) : ∃ g cap, v = .slice (some ⟨g, 0, none⟩) os.length cap ∧ OsAt w g os ∧ B ≤ g ∧ g < w.heap.size := by
 obtain ⟨h1, h | ⟨g, cap, cur, rfl, hg, hh, hc, hm, hs, ht⟩⟩ := h
 ·omega
 ·have hos : OsAt w g os := by
   intro j hj
   have e : cur[j]? = some (.int .i64 os[j]) := by
    rw [← Array.getElem?_toList]
    have e2 : (cur.toList.take (os.length * 1))[j]? = (intsV os)[j]? := by rw [ht]
    rw [List.getElem?_take, if_pos (by omega)] at e2
    rw [e2]
    simp [intsV, hj]
   simp [World.cell?, hh, e]
  exact ⟨g, cap, rfl, hos, hg, lt_of_cell (hos 0 hp)⟩
theorem upto_root (l : List Nd) (κ : Key) (i : Nat) (h : (nd l (i : Int)).parent < 0) : uptoP l κ (i + 1) = uptoP l κ i ++ withP l κ (i : Int) := by rw [uptoP, if_pos h]
theorem upto_kid (l : List Nd) (κ : Key) (i : Nat) (h : ¬ (nd l (i : Int)).parent < 0) : uptoP l κ (i + 1) = uptoP l κ i := by rw [uptoP, if_neg h, List.append_nil]
theorem zeroI (u : World) : (zeroValue 39).run Tryz.prog u = .ok (.slice none 0 0) u := by kernel_rfl

def sumP (l : List Nd) (i : Nat) (os : List Int) (j : Nat) (κ : Key) : List Int := uptoP l κ i ++ (os.take j).filter (wtB l κ)
theorem sum_zero (l : List Nd) (i : Nat) (os : List Int) (κ : Key) : uptoP l κ i = sumP l i os 0 κ := by unfold sumP; rw [List.take_zero]; simp
theorem sum_no (l : List Nd) (i : Nat) (os : List Int) (j : Nat) (hj : j < os.length) (h : radB l os[j] = false) (κ : Key) : sumP l i os j κ = sumP l i os (j + 1) κ := by
 unfold sumP; rw [filt_no _ _ j hj (by unfold wtB; rw [h]; exact Bool.noConfusion)]
theorem sum_yes (l : List Nd) (i : Nat) (os : List Int) (j : Nat) (hj : j < os.length) (h : radB l os[j] = true) (κ : Key) : (if κ = keyP l os[j] then sumP l i os j (keyP l os[j]) ++ [os[j]] else sumP l i os j κ) = sumP l i os (j + 1) κ := by
 by_cases e : κ = keyP l os[j]
 ·rw [if_pos e, e]
  unfold sumP
  rw [filt_yes _ _ j hj (by unfold wtB; rw [h, decide_eq_true rfl]; rfl), List.append_assoc]
 ·rw [if_neg e]
  unfold sumP
  rw [filt_no _ _ j hj (by unfold wtB; rw [decide_eq_false (fun x => e x.symm), Bool.and_false]; exact Bool.noConfusion)]

theorem news_kept {w4 wA : World} {o : Obj} {x : Value} {t : TypeId} {b : Nat} (hg : ((w4.alloc o).alloc (.cells #[x] t)).grownBy wA (some b)) (hb : b < w4.heap.size) : ∀ j u, [x][j]? = some u → wA.cell? ((⟨w4.heap.size + 1, 0, none⟩ : Addr).add j) = some u := by
 intro j u hj
 have hs : (w4.alloc o).heap.size = w4.heap.size + 1 := by simp
 have e := hg.block (w4.heap.size + 1) (by simp) (fun e => by cases e; omega)
 match j, hj with
 | 0, hj =>
  have h0 := cell_one_new (w4.alloc o) x t 0 u hj
  rw [hs] at h0
  simp only [Addr.add, Nat.add_zero] at h0 ⊢
  rw [← h0]
  exact World.cell?_of_block e
theorem two_below (w : World) (o o' : Obj) : Below w.heap.size w ((w.alloc o).alloc o') := ((Below.refl _ _).alloc (Nat.le_refl _) _).alloc (by simp) _
theorem two_size (w : World) (o o' : Obj) : ((w.alloc o).alloc o').heap.size = w.heap.size + 2 := by simp
theorem all_any (v : Value) (l : List Nd) (hL : LFine l) (hR : rightB l = true) (w : World) (hA : NodesAt w v l) :
  Calls Tryz.prog 150 #[v] w fun e w' => ∃ n, e = .returned (.map (some w.heap.size)) ∧ n ≤ 1000000 ∧ GrpI w' w.heap.size n (fun κ => uptoP l κ l.length) ∧ Below w.heap.size w w' := by
 have hRt := right_rt l hR
 have hf := hRt.few
 have h1 := hRt.some1
 obtain ⟨b, off, cap, rfl, hb⟩ := nodes_addr hA (by omega)
 have HN := Lib.hid (fun w' (h : Below w.heap.size w w') j hj => nodes_get (hA.below h) j hj)
 have HOr := Lib.hid (fun i (hi : i < l.length) w' (h : Below w.heap.size w w') => gorder_any _ l hR i hi w' (hA.below h))
 have HRa := Lib.hid (fun (k : Nat) (hk : k < l.length) w' (h : Below w.heap.size w w') => by
  have := radio_any _ l hL (by omega) (k : Int) w' (hA.below h)
  rwa [decide_eq_true ⟨by omega, by omega⟩, Bool.true_and] at this)
 have HOf := Lib.hid (fun (k : Nat) (hk : k < l.length) w' (h : Below w.heap.size w w') => gof_any _ l hL hR k hk w' (hA.below h))
 have HIn := Lib.hid (fun (i : Nat) (hi : i < l.length) x hx => (ord_in hRt (i : Int) ⟨by omega, by omega⟩ x hx).1)
 have HLe := Lib.hid (fun (i : Nat) (hi : i < l.length) => (⟨ord_le hRt (i : Int) ⟨by omega, by omega⟩, ord_pos hRt (i : Int) ⟨by omega, by omega⟩⟩ : (ordP l (i : Int)).length ≤ l.length ∧ 1 ≤ (ordP l (i : Int)).length))
 have HWf := Lib.hid (fun (k : Nat) (hk : k < l.length) => key_wf hRt (k : Int) ⟨by omega, by omega⟩)
 obtain ⟨i0, hi0, hz0, hz1, hz2⟩ := info_parts infoI
 have hmk := fun w => run_makeMap (P := Tryz.prog) 118 w
 clear hA hL hR
 go_enter Tryz.func150, Tryz.ntmps150
 go_wp2_with fail
 have hG0 := GrpI.made w
 have hb0 : Below w.heap.size w (w.alloc (.map #[] 0)) := (Below.refl _ _).alloc (Nat.le_refl _) _
 have hs0 : w.heap.size < (w.alloc (.map #[] 0)).heap.size := by simp
 have HG0 : Hid (GrpI (w.alloc (.map #[] 0)) w.heap.size 0 (fun κ => uptoP l κ 0)) := Lib.hid hG0
 clear hG0 hmk
 generalize w.alloc (.map #[] 0) = wa at *
 go_wp2_with fail
 go_loopw [11] (fun s11 wr => ∃ i n : Nat, s11 = .int .i64 i ∧ i ≤ l.length ∧ n ≤ i * 400 ∧ Hid (GrpI wr w.heap.size n (fun κ => uptoP l κ i)) ∧ Below w.heap.size w wr ∧ w.heap.size < wr.heap.size) (fun s11 _ => l.length - (RowKit.intOf s11).toNat)
 case atStart => exact ⟨0, 0, rfl, by omega, by omega, HG0, hb0, hs0⟩
 case round =>
  obtain ⟨i, n, rfl, hi, hn, hgr, hbw, hsw⟩ := hrel
  by_cases hlt : i < l.length
  case neg =>
   obtain rfl : i = l.length := by omega
   go_wp2_with fail
   go_ret
   exact ⟨n, rfl, by omega, hgr.out, hbw⟩
  obtain ⟨va, vk, hnd⟩ := HN.out wr hbw i hlt
  have c3 := hnd.c3
  clear hnd
  have HUr := Lib.hid (fun κ => upto_root l κ i)
  have HUk := Lib.hid (fun κ => upto_kid l κ i)
  by_cases g : (nd l (i : Int)).parent < 0
  case neg =>
   have g2 : 0 ≤ (nd l (i : Int)).parent := by omega
   have HG2 : Hid (GrpI wr w.heap.size n (fun κ => uptoP l κ (i + 1))) := Lib.hid (hgr.out.congr (fun κ => (HUk.out κ g).symm))
   clear HUr HUk hgr g
   generalize (nd l (i : Int)).parent = pr at *
   go_wp2_with fail
   go_roundw
   case rel => exact ⟨i + 1, n, by go_num, by omega, by omega, HG2, hbw, hsw⟩
   case measure => simp [RowKit.intOf]; omega
  have g2 : ¬ 0 ≤ (nd l (i : Int)).parent := by omega
  have hor := HOr.out i hlt wr hbw
  have HInI := Lib.hid (HIn.out i hlt)
  obtain ⟨hle1, hle2⟩ := HLe.out i hlt
  have HU : Hid (∀ κ, uptoP l κ (i + 1) = sumP l i (ordP l (i : Int)) (ordP l (i : Int)).length κ) := Lib.hid (fun κ => by
   rw [HUr.out κ g, withP_eq]; unfold sumP; rw [List.take_length])
  have HG2 : Hid (GrpI wr w.heap.size n (fun κ => sumP l i (ordP l (i : Int)) 0 κ)) := Lib.hid (hgr.out.congr (fun κ => sum_zero l i _ κ))
  have HNo := Lib.hid (fun j hj h κ => sum_no l i (ordP l (i : Int)) j hj h κ)
  have HYes := Lib.hid (fun j hj h κ => sum_yes l i (ordP l (i : Int)) j hj h κ)
  clear HUr HUk hgr g
  generalize ordP l (i : Int) = os at *
  generalize (nd l (i : Int)).parent = pr at *
  go_wp2_with fail
  refine hor.mono ?_
  rintro e w2 ⟨v2, rfl, hown, hb2⟩
  obtain ⟨gO, cO, rfl, hos, hgO1, hgO2⟩ := own_os hown (by omega)
  have HO := Lib.hid hos
  have HSh := Lib.hid (shuns_new HG2.out hsw hb2 hgO1)
  have HG3 := Lib.hid (HG2.out.below hb2)
  have hbw2 := below_trans hbw hb2
  have hsw2 : w.heap.size < w2.heap.size := Nat.lt_of_lt_of_le hsw hb2.size
  have hgO3 : w.heap.size < gO := by omega
  clear hor hown hos HG2 c3
  go_wp2_with fail
  go_loopw [24] (fun s24 wx => ∃ j m : Nat, s24 = .int .i64 j ∧ j ≤ os.length ∧ m ≤ i * 400 + j ∧ Hid (GrpI wx w.heap.size m (fun κ => sumP l i os j κ)) ∧ Hid (OsAt wx gO os) ∧ Hid (wx.Shuns w.heap.size (fun x => x = gO)) ∧ Below w.heap.size w wx ∧ gO < wx.heap.size) (fun s24 _ => os.length - (RowKit.intOf s24).toNat)
  case atStart => exact ⟨0, n, rfl, by omega, by omega, HG3, HO, HSh, hbw2, hgO2⟩
  case round =>
   obtain ⟨j, m, rfl, hj, hm, hgx, hox, hsx, hbx, hgx2⟩ := hrel
   by_cases hjl : j < os.length
   case neg =>
    obtain rfl : j = os.length := by omega
    have HG4 := Lib.hid (GrpI.congr (g' := fun κ => uptoP l κ (i + 1)) hgx.out (fun κ => (HU.out κ).symm))
    clear hgx hox hsx HO HSh HG3
    go_wp2_with fail
    go_roundw
    case rel => exact ⟨i + 1, m, by go_num, by omega, by omega, HG4, hbx, by omega⟩
    case measure => simp [RowKit.intOf]; omega
   have hr := HInI.out os[j] (List.getElem_mem hjl)
   have e0 := hox.out j hjl
   have HY := Lib.hid (HYes.out j hjl)
   have HN2 := Lib.hid (HNo.out j hjl)
   generalize os[j] = c at *
   obtain ⟨hr1, hr2⟩ := hr
   obtain ⟨cn, rfl⟩ : ∃ cn : Nat, c = (cn : Int) := ⟨c.toNat, by omega⟩
   have hcn : cn < l.length := by omega
   have hra := HRa.out cn hcn _ hbx
   have hwf := HWf.out cn hcn
   cases hrb : radB l (cn : Int)
   case false =>
    rw [hrb] at hra
    have HG4 := Lib.hid (GrpI.congr hgx.out (HN2.out hrb))
    clear HY HN2 hgx HO HSh HG3 hrb hwf
    go_wp2_with fail
    refine hra.mono ?_
    rintro e w3 ⟨rfl, hb3⟩
    have HGn := Lib.hid (HG4.out.below hb3)
    have HOn := Lib.hid (hox.out.same (hb3.block _ hgx2))
    have HSn := Lib.hid (shuns_below hsx.out (by omega) hb3)
    have hbn := below_trans hbx hb3
    have hsz := hb3.size
    clear HG4 hox hsx hra
    go_wp2_with fail
    go_roundw
    case rel => exact ⟨j + 1, m, by go_num, by omega, by omega, HGn, HOn, HSn, hbn, by omega⟩
    case measure => simp [RowKit.intOf]; omega
   rw [hrb] at hra
   have HY2 := Lib.hid (HY.out hrb)
   clear HY HN2 HO HSh HG3 hrb
   go_wp2_with fail
   refine hra.mono ?_
   rintro e w3 ⟨rfl, hb3⟩
   have hb03 := below_trans hbx hb3
   have hof := HOf.out cn hcn w3 hb03
   have hsz3 := hb3.size
   clear hra e0
   obtain ⟨κ, hκ⟩ : ∃ κ, κ = keyP l (cn : Int) := ⟨_, rfl⟩
   rw [← hκ] at hof hwf HY2
   go_wp2_with fail
   refine hof.mono ?_
   rintro e w4 ⟨rfl, hb4⟩
   have HG4 := Lib.hid ((hgx.out.below hb3).below hb4)
   have hsz4 := hb4.size
   have HO4 := Lib.hid ((hox.out.same (hb3.block _ hgx2)).same (hb4.block _ (by omega)))
   have HS4 := Lib.hid (shuns_below (shuns_below hsx.out (by omega) hb3) (by omega) hb4)
   have hb04 := below_trans hb03 hb4
   clear hof hgx hox hsx hκ
   obtain ⟨D, hD1, hD2, hD3⟩ := HG4.out.own
   have HD1 := Lib.hid hD1
   have HD2 := Lib.hid hD2
   have HD3 := Lib.hid hD3
   have HWF := Lib.hid hwf
   clear hD1 hD2 hD3 hwf HG4
   obtain ⟨ks, kf, kt, kself⟩ := κ
   unfold keyV
   go_wp2_with (refine wp_entry (cn : Int) rfl rfl (own_below HD1.out ?qb) keyedK Tryz.underlying118 zeroI (by unfold maxLen; omega) (keyOf_key (ks, kf, kt, kself) HWF.out) (wf_small _ (by omega) (by omega)) (shuns_below HS4.out (by omega) ?qb2) ?qn ?_)
   case qb => exact two_below _ _ _
   case qb2 => exact two_below _ _ _
   case qn => rintro x rfl; rw [two_size]; omega
   intro v0 st wA zs hat hzl hgA hsA hrow hv0 hnext
   rw [two_size] at hsA
   have hnews := news_kept hgA (by omega)
   have hOA := HO4.out.same ((hgA.block gO (by rw [two_size]; omega) (fun e => by cases e; omega)).trans ((two_below w4 _ _).block gO (by omega)))
   have hbA := (below_trans hb04 (two_below w4 _ _)).grown hgA (by rw [two_size]; omega) (fun x e => by cases e; exact Nat.le_refl _)
   have hzs := rowD_of hrow ((HD3.out _ HWF.out).symm.trans hat)
   have HOA := Lib.hid hOA
   have HNx := Lib.hid hnext
   have HZ := Lib.hid hzs
   have HVo := Lib.hid hv0
   have hrlt := Lib.hid (fun x e => (hrow.lt x e).1)
   clear hOA hnext hzs hv0 hat HD1 HO4 HS4
   go_wp2_with (at_builtin; refine wpList_append_own_at _ rfl _ _ 39 rfl (w.heap.size + 1) 3 i0 _ 1 8 Tryz.underlying39 hi0 hz0 hz1 hz2 rfl (by decide) _ _ _ rfl hrow ⟨w4.heap.size + 1, 0, none⟩ 1 1 [.int .i64 (cn : Int)] rfl rfl hnews ?q2 ?q3 ?q4 ?q5 ?_)
   case q2 => intro u hu; simp at hu; subst hu; rfl
   case q3 => unfold maxLen; omega
   case q4 => omega
   case q5 => omega
   intro v' wB hown' hgB _ hloc
   obtain ⟨wC, hrunC, hoC, hgC, hshC⟩ := HNx.out wB v' hgB hown' (hloc.imp id (fun e => ⟨_, e, Nat.le_of_eq (two_size _ _ _)⟩))
   have HOC := Lib.hid ((HOA.out.same (hgB.block gO (by omega) (fun e => (HVo.out gO e.symm) rfl))).same (hgC.block gO (by have := hgB.size; omega) (fun e => by cases e; omega)))
   have hbC := (hbA.grown hgB (by omega) (fun x e => Nat.le_trans (Nat.le_succ _) (hrlt.out x e))).grown hgC (by have := hgB.size; omega) (fun x e => by cases e; exact Nat.le_refl _)
   have hszC : w4.heap.size + 2 ≤ wC.heap.size := by have := hgB.size; have := hgC.size; omega
   have HGC := Lib.hid (GrpI.congr (GrpI.put HWF.out HD2.out HD3.out HZ.out hoC (by
    rcases hown'.2 with ⟨_, h0⟩ | ⟨gb, cp, cur, e, _⟩
    ·omega
    ·exact ⟨_, _, e⟩)) HY2.out)
   have HSC := Lib.hid hshC
   clear hown' hgB hloc hoC hgC hshC HNx HZ HVo hrlt HOA hbA hnews hrow hgA HD2 HD3 HY2 HWF hsA
   go_wp2_with (refine wp_store rfl rfl rfl hrunC ?_)
   go_roundw
   case rel => exact ⟨j + 1, m + 1, by go_num, by omega, by omega, HGC, HOC, HSC, hbC, by omega⟩
   case measure => simp [RowKit.intOf]; omega

theorem wp_look {P : Program} {w : World} {ops : Array Oper} {rest : List Oper} {a : Act} {Q : Exit → Act → World → Prop} {d : Option Tmp} {ty : TypeId} {ps : String} {af : Array Edge} {t : TypeId} {m x : Operand}
  {k E e : TypeId} {q : IntKind} (K : Keyed P k) (ht : P.underlying t = some (.map k E)) (hz : (zeroValue E).run P w = .ok (.slice none 0 0) w) {base b n : Nat} {D : DataW Unit}
  (hm : a.eval m = .map (some b)) (hown : w.ownsGroups P k base e q b n D) (hn : n < maxLen) {key : Value} {kl : Lit} (hx : a.eval x = key) (hkey : keyOf P k key = some kl)
  (hK : ∀ v zs, D.atKey kl .nil = rowDatum q v zs → w.ownsInts base e q v zs → wpList P ops Q rest (a.put d v) w) :
  wpList P ops Q ({ dst := d, op := Op.lookup t m x false, type := ty, pos := ps, after := af, guard := none } :: rest) a w :=
 wpList_lookup_groups w rfl m x t rfl k E e q K ht hz base b n D hm hown hn key kl hx hkey (fun v zs h1 h2 _ _ => hK v zs h1 h2)

theorem members_any (v : Value) (l : List Nd) (hL : LFine l) (k : Int) (w : World) (hA : NodesAt w v l) :
  Calls Tryz.prog 81 #[v, .int .i64 k] w fun e w' => ∃ v', e = .returned v' ∧ OwnI w' w.heap.size v' (membQ l k) ∧ Below w.heap.size w w' := by
 have hri := right_any v l hL w hA
 cases hR : rightB l
 ·rw [hR] at hri
  have HX : Hid (membQ l k = []) := Lib.hid (by
   unfold membQ
   rw [if_neg]
   intro h
   rw [((isP_iff l k 17).1 h).2.2] at hR; cases hR)
  rw [HX.out]
  obtain ⟨oa, cap, rfl⟩ := NodesAt.lenN hA
  clear hA hL HX hR
  go_enter Tryz.func81, Tryz.ntmps81
  go_wp2_with fail
  refine hri.mono ?_
  rintro e w1 ⟨rfl, hb1⟩
  go_wp2_with fail
  go_ret
  exact ⟨_, rfl, OwnI.nil _ _, hb1⟩
 rw [hR] at hri
 have hRt := right_rt l hR
 have hf := hRt.few
 have HRa := Lib.hid (fun w' (h : Below w.heap.size w w') => radio_any v l hL (by omega) k w' (hA.below h))
 cases hq : (decide (0 ≤ k ∧ k < (l.length : Int)) && radB l k)
 ·rw [hq] at HRa
  have HX : Hid (membQ l k = []) := Lib.hid (by
   unfold membQ
   rw [if_neg]
   intro h
   obtain ⟨h1, h2, _⟩ := (isP_iff l k 17).1 h
   rw [decide_eq_true (⟨h1.1, h1.2⟩ : 0 ≤ k ∧ k < (l.length : Int)), Bool.true_and] at hq
   unfold radB at hq
   rw [h2] at hq; cases hq)
  rw [HX.out]
  obtain ⟨oa, cap, rfl⟩ := NodesAt.lenN hA
  clear hA hL HX hR hq hRt
  go_enter Tryz.func81, Tryz.ntmps81
  go_wp2_with fail
  refine hri.mono ?_
  rintro e w1 ⟨rfl, hb1⟩
  go_wp2_with fail
  refine (HRa.out w1 hb1).mono ?_
  rintro e w2 ⟨rfl, hb2⟩
  go_wp2_with fail
  go_ret
  exact ⟨_, rfl, OwnI.nil _ _, below_trans hb1 hb2⟩
 rw [hq] at HRa
 rw [Bool.and_eq_true, decide_eq_true_eq] at hq
 obtain ⟨⟨h0, h1⟩, hrad⟩ := hq
 obtain ⟨kn, rfl⟩ : ∃ kn : Nat, k = (kn : Int) := ⟨k.toNat, by omega⟩
 have hkn : kn < l.length := by omega
 have hin : inR l (kn : Int) := ⟨h0, h1⟩
 have HX : Hid (membQ l (kn : Int) = uptoP l (keyP l (kn : Int)) l.length) := Lib.hid (by
  rw [← memb_upto hRt (kn : Int) hin hrad]
  unfold membQ membP
  rw [if_pos ((isP_iff l (kn : Int) 17).2 ⟨⟨h0, h1⟩, by unfold radB at hrad; exact eq_of_beq hrad, hR⟩), if_pos ⟨⟨h0, h1⟩, hrad⟩])
 have HAl := Lib.hid (fun w' (h : Below w.heap.size w w') => all_any v l hL hR w' (hA.below h))
 have HOf := Lib.hid (fun w' (h : Below w.heap.size w w') => gof_any v l hL hR kn hkn w' (hA.below h))
 have hwf := key_wf hRt (kn : Int) hin
 rw [HX.out]
 obtain ⟨oa, cap, rfl⟩ := NodesAt.lenN hA
 obtain ⟨κ, hκ⟩ : ∃ κ, κ = keyP l (kn : Int) := ⟨_, rfl⟩
 rw [← hκ] at HOf hwf ⊢
 have HWF := Lib.hid hwf
 clear hA hL hR hRt hκ HX hrad hin hwf
 go_enter Tryz.func81, Tryz.ntmps81
 go_wp2_with fail
 refine hri.mono ?_
 rintro e w1 ⟨rfl, hb1⟩
 go_wp2_with fail
 refine (HRa.out w1 hb1).mono ?_
 rintro e w2 ⟨rfl, hb2⟩
 have hb02 := below_trans hb1 hb2
 have hal := HAl.out w2 hb02
 clear hri HRa HAl
 go_wp2_with fail
 refine hal.mono ?_
 rintro e w3 ⟨n, rfl, hn, hG, hb3⟩
 have hb03 := below_trans hb02 hb3
 have hof := HOf.out w3 hb03
 have hsz := hb02.size
 clear hal HOf
 go_wp2_with fail
 refine hof.mono ?_
 rintro e w4 ⟨rfl, hb4⟩
 have hb04 := below_trans hb03 hb4
 obtain ⟨D, hD1, hD2, hD3⟩ := (hG.below hb4).own
 have HD3 := Lib.hid hD3
 clear hof hG hD2 hD3
 obtain ⟨ks, kf, kt, kself⟩ := κ
 unfold keyV
 go_wp2_with (refine wp_look keyedK Tryz.underlying118 (zeroI _) rfl hD1 (by unfold maxLen; omega) rfl (keyOf_key (ks, kf, kt, kself) HWF.out) ?_)
 intro v' zs hat hoi
 have hzs : zs = uptoP l (ks, kf, kt, kself) l.length := rowD_of hoi.1 ((HD3.out _ HWF.out).symm.trans hat)
 have hown := hoi.1
 obtain ⟨ra, rc, rfl⟩ := RowAt.lenN (RowAt.of_owns hown)
 have HZ := Lib.hid hzs
 have HOwn := Lib.hid hown
 clear hat hoi hzs hown hD1
 go_wp2_with fail
 go_ret
 refine ⟨_, rfl, ?_, hb04⟩
 rw [← HZ.out]
 exact ownsRow_lower HOwn.out (by omega)
end Go.Proofs.YtkhlfggnjcbniaaGreatDoor.doc
