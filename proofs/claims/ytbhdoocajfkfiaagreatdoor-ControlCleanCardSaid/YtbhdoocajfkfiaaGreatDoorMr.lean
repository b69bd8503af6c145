/- law14: long. What is read takes few bytes, deep down; a slice of structs, a struct by value, opened field by field. A control, as it comes in: its cells, its files, its attributes. -/
import Derived.Test.YtbhdoocajfkfiaaGreatDoorMn
import Derived.Test.YtbhdoocajfkfiaaGreatDoorMl
import Derived.Test.YtbhdoocajfkfiaaGreatDoorMd
import Derived.SizedLaws
import Derived.Deep.Slices
import Derived.Deep.Fields
import Derived.ChangeSame
import Derived.WalkKit
import Derived.ProofKit
namespace Go.Proofs.YtbhdoocajfkfiaaGreatDoor.ctl
open Go.ChangeShapes Go.WideShapes Go.ChangeAt Go.RowKit Go.Lib Go.Proofs.YtbhdoocajfkfiaaGreatDoor.num Go.Proofs.YtbhdoocajfkfiaaGreatDoor.mom Go.Proofs.YtbhdoocajfkfiaaGreatDoor.fits Go.Proofs.YtbhdoocajfkfiaaGreatDoor.atr Go.Proofs.YtbhdoocajfkfiaaGreatDoor.link Go.Proofs.YtbhdoocajfkfiaaGreatDoor.stp Go.Proofs.YtbhdoocajfkfiaaGreatDoor.cln

/-- an item's value -/
def itemV (kind : Int) (v : List UInt8) (d t ch dc m s ds : Bool) (cu : List UInt8) (f va : Value) : Value :=
  .agg #[.int .i64 kind, .string ⟨v.toArray⟩, .bool d, .bool t, .bool ch, .bool dc, .bool m, .bool s, .bool ds, .string ⟨cu.toArray⟩, f, va]
structure Short4 (v : List UInt8) (l : List Attr) (s : List UInt8) : Prop where
  few : l.length ≤ 100
  text : s.length ≤ 8192
  value : v.length ≤ 8192
  each : ∀ a ∈ l, a.2.length ≤ 8192
theorem Short4.fine {v : List UInt8} {l : List Attr} {s : List UInt8} (h : Short4 v l s) : Fine l := ⟨by have := h.few; omega, fun a ha => by have := h.each a ha; omega⟩
def Long4 (v : List UInt8) (l : List Attr) (s : List UInt8) (e : Ending) : Prop := ∃ b, e = .returned (.bool b) ∧ (b = false → Short4 v l s)
theorem Long4.yes (v : List UInt8) (l : List Attr) (s : List UInt8) : Long4 v l s (.returned (.bool true)) := ⟨true, rfl, fun h => (by cases h)⟩
theorem Long4.no {v : List UInt8} {l : List Attr} {s : List UInt8} (h : Short4 v l s) : Long4 v l s (.returned (.bool false)) := ⟨false, rfl, fun _ => h⟩

set_option maxHeartbeats 3200000 in
set_option maxRecDepth 100000 in
theorem long14_any (kind : Int) (v : List UInt8) (d t ch dc m sl ds : Bool) (cu : List UInt8) (f va : Value) (l : List Attr) (s : List UInt8) (w : World) (hA : AttrsAt w va l) :
    Calls Tryz.prog 16 #[itemV kind v d t ch dc m sl ds cu f va, .string ⟨s.toArray⟩] w fun e w' => Long4 v l s e ∧ Below w.heap.size w w' := by
  unfold itemV
  have hB : Below w.heap.size w (w.alloc (.cells #[.int .i64 kind, .string ⟨v.toArray⟩, .bool d, .bool t, .bool ch, .bool dc, .bool m, .bool sl, .bool ds, .string ⟨cu.toArray⟩, f, va] 27)) := (Below.refl _ _).alloc (Nat.le_refl _) _
  have hK := Blk.fresh w [.int .i64 kind, .string ⟨v.toArray⟩, .bool d, .bool t, .bool ch, .bool dc, .bool m, .bool sl, .bool ds, .string ⟨cu.toArray⟩, f, va] 27
  have c11 : (w.alloc (.cells #[.int .i64 kind, .string ⟨v.toArray⟩, .bool d, .bool t, .bool ch, .bool dc, .bool m, .bool sl, .bool ds, .string ⟨cu.toArray⟩, f, va] 27)).cell? ⟨w.heap.size, 11, none⟩ = some va := hK.cell 11
  clear hK
  rcases hA with ⟨rfl, oa, cap, rfl⟩ | ⟨b, off, cap, rfl, h0, hb, hR⟩
  · by_cases g : (8192 : Int) < s.length
    · go_enter Tryz.func16, Tryz.ntmps16
      go_wp2_with fail
      go_ret
      exact ⟨Long4.yes _ _ _, hB⟩
    by_cases g2 : (8192 : Int) < v.length
    · go_enter Tryz.func16, Tryz.ntmps16
      go_wp2_with fail
      go_ret
      exact ⟨Long4.yes _ _ _, hB⟩
    have HX : Hid (Short4 v [] s) := Lib.hid ⟨by simp, by omega, by omega, fun a h => by cases h⟩
    go_enter Tryz.func16, Tryz.ntmps16
    go_wp2_with fail
    go_loopw [25] (fun s16 wr => s16 = .int .i64 0 ∧ Below w.heap.size w wr) (fun _ _ => 0)
    case atStart => exact ⟨rfl, hB⟩
    case round =>
      obtain ⟨rfl, hbw⟩ := hrel
      go_wp2_with fail
      go_ret
      exact ⟨Long4.no HX.out, hbw⟩
  · by_cases g0 : (100 : Int) < l.length
    · go_enter Tryz.func16, Tryz.ntmps16
      go_wp2_with fail
      go_ret
      exact ⟨Long4.yes _ _ _, hB⟩
    by_cases g : (8192 : Int) < s.length
    · go_enter Tryz.func16, Tryz.ntmps16
      go_wp2_with fail
      go_ret
      exact ⟨Long4.yes _ _ _, hB⟩
    by_cases g2 : (8192 : Int) < v.length
    · go_enter Tryz.func16, Tryz.ntmps16
      go_wp2_with fail
      go_ret
      exact ⟨Long4.yes _ _ _, hB⟩
    have HS : Hid (l.length ≤ 100 ∧ s.length ≤ 8192 ∧ v.length ≤ 8192) := Lib.hid ⟨by omega, by omega, by omega⟩
    have HR : Hid (∀ j (h : j < l.length) w', Below w.heap.size w w' → w'.cell? ⟨b, off + j * 2 + 1, none⟩ = some (.string ⟨l[j].2.toArray⟩)) := Lib.hid (fun j h w' hbw => (hbw.cell (p := ⟨b, off + j * 2 + 1, none⟩) hb).trans (hR j h).2)
    clear hR
    have HC := Lib.hid c11
    clear c11
    go_enter Tryz.func16, Tryz.ntmps16
    go_wp2_with fail
    have c11 := HC.out
    clear HC
    go_loopw [25] (fun s16 wr => ∃ k : Nat, s16 = .int .i64 k ∧ k ≤ l.length ∧ Hid (∀ j (hj : j < k) (hl : j < l.length), l[j].2.length ≤ 8192) ∧ Below w.heap.size w wr ∧ wr.cell? ⟨w.heap.size, 11, none⟩ = some (.slice (some ⟨b, off, none⟩) l.length cap)) (fun s16 _ => (101 - RowKit.intOf s16).toNat)
    case atStart => exact ⟨0, rfl, by omega, Lib.hid (fun j hj => absurd hj (Nat.not_lt_zero _)), hB, c11⟩
    case round =>
      obtain ⟨k, rfl, hk, hn, hbw, cw⟩ := hrel
      clear c11
      by_cases hlt : k < l.length
      · have c2 := HR.out k hlt wr hbw
        by_cases hq : (8192 : Int) < l[k].2.length
        · generalize l[k].2 = y at *
          clear hn
          go_wp2_with fail
          go_ret
          exact ⟨Long4.yes _ _ _, hbw⟩
        · have HX : Hid (∀ j (hj : j < k + 1) (hl : j < l.length), l[j].2.length ≤ 8192) := Lib.hid (by
            intro j hj hl
            rcases Nat.lt_or_ge j k with g | g
            · exact hn.out j g hl
            · have : j = k := by omega
              subst this; omega)
          generalize l[k].2 = y at *
          clear hn
          go_wp2_with fail
          go_roundw
          case rel => exact ⟨k + 1, by go_num, by omega, HX, hbw, cw⟩
          case measure => simp [RowKit.intOf]; omega
      · have HX : Hid (Short4 v l s) := Lib.hid ⟨HS.out.1, HS.out.2.1, HS.out.2.2, fun a ha => by
          obtain ⟨j, hj, rfl⟩ := List.getElem_of_mem ha
          exact hn.out j (by omega) hj⟩
        clear hn
        go_wp2_with fail
        go_ret
        exact ⟨Long4.no HX.out, hbw⟩
end Go.Proofs.YtbhdoocajfkfiaaGreatDoor.ctl

namespace Go.Proofs.YtbhdoocajfkfiaaGreatDoor
open Go.ChangeShapes Go.WideShapes Go.Deep Go.RowKit

section
variable {H : Type} {P : Program}
def Light (P : Program) (t : TypeId) (d : DataW H) : Prop := ∀ n ∈ d.weights P t, n ≤ reachBytes
theorem Light.str {t : TypeId} {bs : List UInt8} (h : Light P t (.lit (.string bs) : DataW H)) : bs.length ≤ reachBytes := h _ (by simp [DataW.weights])
theorem Light.slice {t e : TypeId} {a b : List (DataW H)} (hu : P.underlying t = some (.slice e)) (h : Light P t (.slice a b : DataW H)) : (a.length + b.length) * P.bytesOf e ≤ reachBytes :=
  h _ (by simp [DataW.weights, hu])
theorem mem_all {e : TypeId} : ∀ {l : List (DataW H)} {i : Nat} {d : DataW H}, l[i]? = some d → ∀ n ∈ d.weights P e, n ∈ DataW.weightsAll P e l
  | x :: l, 0, d, h, n, hn => by
    simp only [List.getElem?_cons_zero, Option.some.injEq] at h
    subst h
    simp only [DataW.weightsAll, List.mem_append]
    exact Or.inl hn
  | x :: l, i + 1, d, h, n, hn => by
    simp only [List.getElem?_cons_succ] at h
    simp only [DataW.weightsAll, List.mem_append]
    exact Or.inr (mem_all h n hn)
  | [], _, _, h, _, _ => by simp at h
theorem Light.elem {t e : TypeId} {a b : List (DataW H)} (hu : P.underlying t = some (.slice e)) (h : Light P t (.slice a b : DataW H)) {i : Nat} {d : DataW H} (hi : a[i]? = some d) : Light P e d :=
  fun n hn => h n (by
    have := mem_all hi n hn
    simp [DataW.weights, hu, this])
theorem Light.field {t : TypeId} {fs : Array Field} {ps : List (DataW H)} (hu : P.underlying t = some (.struct fs)) (h : Light P t (.agg ps : DataW H)) {j : Nat} {f : Field} {d : DataW H} (hf : fs[j]? = some f) (hd : ps[j]? = some d) : Light P f.type d :=
  fun n hn => h n (by
    have : n ∈ DataW.weightsEach P (fs.toList.map (·.type)) ps := DataW.weights_mem_each (j := j) (t := f.type) (by simp [hf]) hd n hn
    simpa [DataW.weights, hu] using this)
theorem Light.arg {ts : List TypeId} {ds : List (DataW H)} (h : (DataW.weightsEach P ts ds).all (· ≤ reachBytes) = true) {j : Nat} {t : TypeId} {d : DataW H} (ht : ts[j]? = some t) (hd : ds[j]? = some d) : Light P t d := by
  intro n hn
  have := List.all_eq_true.1 h n (DataW.weights_mem_each ht hd n hn)
  simpa using this
end

section
variable {H : Type} {enc : TypeId × Value → H} {P : Program} {w : World} {base : Nat} {spare : Nat → Bool} {held : Bool}
/-- a slice of structs whose fields have one cell each -/
theorem open_rows {t e : TypeId} {fs : Array Field} {fuel : Nat} {cs : List Value} {x : DataW H × List MemPlace} (ht : P.underlying t = some (.slice e)) (he : P.underlying e = some (.struct fs))
    (hone : oneCellFields P fs = true) (hC : P.cellsOf e = fs.size) (h : DataW.trod enc P w base spare held fuel t cs = some x) (hL : Light P t x.1) :
    (cs = [.slice none 0 0] ∧ x = (.nil, [])) ∨
    ∃ (a : Addr) (len cap : Nat), cs = [.slice (some a) len cap] ∧ len ≤ cap ∧ cap ≤ maxLen ∧ len * P.bytesOf e ≤ reachBytes ∧ (∀ k, k < len * fs.size → .cell a.block (a.off + k) ∈ x.2) ∧
      ∀ i, i < len → ∀ (j : Nat) (f : Field), fs[j]? = some f → ∃ (v : Value) (y : DataW H × List MemPlace) (n : Nat), w.cell? (a.add (i * fs.size + j)) = some v ∧ DataW.trod enc P w base spare held n f.type [v] = some y ∧ Light P f.type y.1 ∧ ∀ p ∈ y.2, p ∈ x.2 := by
  rcases open_slice ht h with h0 | ⟨a, len, cap, m, n, D, Pl, hcs, hb, hl, hm, hmm, hx, hi⟩
  · exact .inl h0
  · have hml : len ≤ m := by rw [hmm]; split <;> omega
    refine .inr ⟨a, len, cap, hcs, hl, hm, ?_, ?_, fun i hil j f hj => ?_⟩
    · rw [hx] at hL
      have := hL.slice ht
      simp only [List.length_map, List.length_range] at this
      exact Nat.le_trans (Nat.mul_le_mul (Nat.le_add_right _ _) (Nat.le_refl _)) this
    · intro k hk
      rw [hx, hC]
      refine List.mem_append_left _ (MemPlace.mem_row.2 ⟨k, ?_, rfl⟩)
      exact Nat.lt_of_lt_of_le hk (Nat.mul_le_mul hml (Nat.le_refl _))
    · have him : i < m := Nat.lt_of_lt_of_le hil hml
      have hLi : Light P e (D i) := by
        rw [hx] at hL
        exact hL.elem ht (i := i) (by simp [hil])
      obtain ⟨cs', hc, ht'⟩ := hi i him
      rw [hC] at hc
      obtain ⟨ys, n', hn', hy, hlen, hyl, hf⟩ := DataW.trod_struct he ht'
      obtain ⟨_, hcl, hat⟩ := World.cells?_some hc
      simp only [Prod.mk.injEq] at hy
      obtain ⟨ho, hk⟩ := hone_of hone j f hj
      have hjl : j < fs.size := (Array.getElem?_eq_some_iff.1 hj).1
      have hcell := hat j hjl
      have hv : cs'[j]? = some (cs'[j]'(by omega)) := List.getElem?_eq_getElem (by omega)
      have h1 := hf j f hj
      rw [ho, hk] at h1
      have hone' : (cs'.drop j).take 1 = [cs'[j]'(by omega)] := by
        rw [List.drop_eq_getElem_cons (by omega)]
        rfl
      rw [hone'] at h1
      have hys : ys[j]? = some (ys[j]'(by omega)) := List.getElem?_eq_getElem (by omega)
      refine ⟨_, ys[j]'(by omega), n', ?_, h1.trans hys, ?_, ?_⟩
      · rw [← Go.Deep.add_add, hcell, hv]
      · rw [hy.1] at hLi
        exact hLi.field he hj (by rw [List.getElem?_map, hys]; rfl)
      · intro p hp
        rw [hx]
        refine List.mem_append_right _ (List.mem_flatMap.2 ⟨i, List.mem_range.2 him, ?_⟩)
        rw [hy.2]
        exact List.mem_flatMap.2 ⟨_, List.getElem_mem (by omega), hp⟩
/-- a struct by value: a field of it -/
theorem open_fields {t : TypeId} {fs : Array Field} {fuel : Nat} {cs : List Value} {x : DataW H × List MemPlace} (ht : P.underlying t = some (.struct fs)) (h : DataW.trod enc P w base spare held fuel t cs = some x) (hL : Light P t x.1) :
    cs.length = P.cellsOf t ∧ ∀ (j : Nat) (f : Field), fs[j]? = some f → ∃ (y : DataW H × List MemPlace) (n : Nat), DataW.trod enc P w base spare held n f.type ((cs.drop f.offset).take (P.cellsOf f.type)) = some y ∧ Light P f.type y.1 ∧ ∀ p ∈ y.2, p ∈ x.2 := by
  obtain ⟨ys, n', hn', hy, hlen, hyl, hf⟩ := DataW.trod_struct ht h
  refine ⟨hlen, fun j f hj => ?_⟩
  have hjl : j < fs.size := (Array.getElem?_eq_some_iff.1 hj).1
  have hys : ys[j]? = some (ys[j]'(by omega)) := List.getElem?_eq_getElem (by omega)
  refine ⟨ys[j]'(by omega), n', (hf j f hj).trans hys, ?_, ?_⟩
  · rw [hy] at hL
    exact hL.field ht hj (by rw [List.getElem?_map, hys]; rfl)
  · intro p hp
    rw [hy]
    exact List.mem_flatMap.2 ⟨_, List.getElem_mem (by omega), hp⟩
end
end Go.Proofs.YtbhdoocajfkfiaaGreatDoor

namespace Go.Proofs.YtbhdoocajfkfiaaGreatDoor.ctl
open Go.ChangeShapes Go.WideShapes Go.RowKit Go.Lib Go.Deep Go.Proofs.YtbhdoocajfkfiaaGreatDoor.atr

def boolOf : Value → Bool
  | .bool b => b
  | _ => false
section
variable {H : Type} {enc : TypeId × Value → H} {W : World} {base : Nat} {sp : Nat → Bool} {held : Bool}
theorem str_field {n : Nat} {v : Value} {y : DataW H × List MemPlace} (h : DataW.trod enc Tryz.prog W base sp held n 9 [v] = some y) (hL : Light Tryz.prog 9 y.1) : v = .string ⟨(strOf v).toArray⟩ ∧ (strOf v).length ≤ reachBytes := by
  obtain ⟨s, e, hy, _⟩ := DataW.trod_string Tryz.underlying9 h
  have e := (List.cons.inj e).1
  subst e
  refine ⟨rfl, ?_⟩
  rw [hy] at hL
  exact hL.str
theorem bool_field {n : Nat} {v : Value} {y : DataW H × List MemPlace} (h : DataW.trod enc Tryz.prog W base sp held n 4 [v] = some y) : v = .bool (boolOf v) := by
  obtain ⟨s, e, _⟩ := DataW.trod_bool Tryz.underlying4 h
  have e := (List.cons.inj e).1
  subst e; rfl
/-- the cell's value -/
def cellAt (W : World) (b o : Nat) : Value := (W.cell? ⟨b, o, none⟩).getD undef
set_option maxRecDepth 100000 in
theorem open_ents_cells {fuel : Nat} {cs : List Value} {x : DataW H × List MemPlace} (hL : Light Tryz.prog 22 x.1) (hlt : ∀ p ∈ x.2, p.block < W.heap.size) (h : DataW.trod enc Tryz.prog W base sp held fuel 22 cs = some x) :
    ∃ (v : Value) (fs : List Ent), cs = [v] ∧ EntsAt W v fs ∧ fs.length * 72 ≤ reachBytes ∧ ∀ a ∈ fs, a.fname.length ≤ reachBytes := by
  rcases open_rows Tryz.underlying22 Tryz.underlying84 (by kernel_rfl) (by kernel_rfl) h hL with ⟨rfl, _⟩ | ⟨a, len, cap, rfl, hlc, hcm, hby, hpl, hf⟩
  · exact ⟨_, [], rfl, EntsAt.nil W, Nat.zero_le _, fun a h => by cases h⟩
  · have hsz : Tryz.prog.bytesOf 84 = 72 := by kernel_rfl
    rw [hsz] at hby
    rcases Nat.eq_zero_or_pos len with h0 | h0
    · subst h0
      exact ⟨_, [], rfl, .inl ⟨rfl, rfl, _, _, rfl⟩, Nat.zero_le _, fun a h => by cases h⟩
    · obtain ⟨b, off, spot⟩ := a
      have hspot : spot = none := by
        obtain ⟨v, y, n, hc, _⟩ := hf 0 h0 0 _ rfl
        simpa [Addr.add] using World.cell?_spot hc
      subst hspot
      have key : ∀ i, i < len → ∀ k, k < 5 → W.cell? ⟨b, off + (i * 5 + k), none⟩ = (encE ⟨strOf (cellAt W b (off + (i * 5 + 0))), strOf (cellAt W b (off + (i * 5 + 1))), boolOf (cellAt W b (off + (i * 5 + 2))), strOf (cellAt W b (off + (i * 5 + 3))), strOf (cellAt W b (off + (i * 5 + 4)))⟩)[k]? ∧ (strOf (cellAt W b (off + (i * 5 + 3)))).length ≤ reachBytes := by
        intro i hi k hk
        obtain ⟨v0, y0, n0, c0, t0, l0, _⟩ := hf i hi 0 _ rfl
        obtain ⟨v1, y1, n1, c1, t1, l1, _⟩ := hf i hi 1 _ rfl
        obtain ⟨v2, y2, n2, c2, t2, l2, _⟩ := hf i hi 2 _ rfl
        obtain ⟨v3, y3, n3, c3, t3, l3, _⟩ := hf i hi 3 _ rfl
        obtain ⟨v4, y4, n4, c4, t4, l4, _⟩ := hf i hi 4 _ rfl
        have c0 : W.cell? ⟨b, off + (i * 5 + 0), none⟩ = some v0 := by rw [Go.WideShapes.add_plain] at c0; exact c0
        have c1 : W.cell? ⟨b, off + (i * 5 + 1), none⟩ = some v1 := by rw [Go.WideShapes.add_plain] at c1; exact c1
        have c2 : W.cell? ⟨b, off + (i * 5 + 2), none⟩ = some v2 := by rw [Go.WideShapes.add_plain] at c2; exact c2
        have c3 : W.cell? ⟨b, off + (i * 5 + 3), none⟩ = some v3 := by rw [Go.WideShapes.add_plain] at c3; exact c3
        have c4 : W.cell? ⟨b, off + (i * 5 + 4), none⟩ = some v4 := by rw [Go.WideShapes.add_plain] at c4; exact c4
        have e0 := str_field t0 l0
        have e1 := str_field t1 l1
        have e2 := bool_field t2
        have e3 := str_field t3 l3
        have e4 := str_field t4 l4
        unfold cellAt
        rw [c0, c1, c2, c3, c4]
        dsimp only [Option.getD, encE]
        refine ⟨?_, e3.2⟩
        match k, hk with
        | 0, _ => rw [c0]; exact congrArg some e0.1
        | 1, _ => rw [c1]; exact congrArg some e1.1
        | 2, _ => rw [c2]; exact congrArg some e2
        | 3, _ => rw [c3]; exact congrArg some e3.1
        | 4, _ => rw [c4]; exact congrArg some e4.1
      refine ⟨_, (List.range len).map (fun i => ⟨strOf (cellAt W b (off + (i * 5 + 0))), strOf (cellAt W b (off + (i * 5 + 1))), boolOf (cellAt W b (off + (i * 5 + 2))), strOf (cellAt W b (off + (i * 5 + 3))), strOf (cellAt W b (off + (i * 5 + 4)))⟩), rfl, ?_, by simpa using hby, ?_⟩
      · right
        refine ⟨b, off, cap, by simp, by simpa using h0, ?_, ?_⟩
        · exact hlt _ (hpl 0 (by show 0 < len * 5; omega))
        · intro j u hj
          have hlen := flat_len encE 5 encE_len ((List.range len).map (fun i => (⟨strOf (cellAt W b (off + (i * 5 + 0))), strOf (cellAt W b (off + (i * 5 + 1))), boolOf (cellAt W b (off + (i * 5 + 2))), strOf (cellAt W b (off + (i * 5 + 3))), strOf (cellAt W b (off + (i * 5 + 4)))⟩ : Ent)))
          have hjl := (List.getElem?_eq_some_iff.1 hj).1
          rw [hlen] at hjl
          have hlr : (List.range len).length = len := List.length_range
          rw [List.length_map, hlr] at hjl
          have hi : j / 5 < len := by omega
          have hk : j % 5 < 5 := by omega
          have e : j = j / 5 * 5 + j % 5 := by omega
          have h1 := flat_at encE 5 encE_len ((List.range len).map (fun i => (⟨strOf (cellAt W b (off + (i * 5 + 0))), strOf (cellAt W b (off + (i * 5 + 1))), boolOf (cellAt W b (off + (i * 5 + 2))), strOf (cellAt W b (off + (i * 5 + 3))), strOf (cellAt W b (off + (i * 5 + 4)))⟩ : Ent))) (j / 5) (by simpa using hi) (j % 5) hk
          rw [← e, hj, List.getElem_map, List.getElem_range] at h1
          have h2 := (key (j / 5) hi (j % 5) hk).1
          rw [← e] at h2
          rw [h2]; exact h1.symm
      · intro a ha
        obtain ⟨i, hi, rfl⟩ := List.mem_map.1 ha
        exact (key i (List.mem_range.1 hi) 0 (by decide)).2
/-- a state's ten cells -/
theorem open_ctl_cells {fuel : Nat} {c0 c1 c2 c3 c4 c5 c6 c7 c8 c9 : Value} {x : DataW H × List MemPlace} (hL : Light Tryz.prog 24 x.1) (hlt : ∀ p ∈ x.2, p.block < W.heap.size) (h : DataW.trod enc Tryz.prog W base sp held fuel 24 [c0, c1, c2, c3, c4, c5, c6, c7, c8, c9] = some x) :
    c0 = .string ⟨(strOf c0).toArray⟩ ∧ c1 = .bool (boolOf c1) ∧ c2 = .bool (boolOf c2) ∧ c3 = .bool (boolOf c3) ∧ c4 = .bool (boolOf c4) ∧ c5 = .bool (boolOf c5) ∧ c6 = .bool (boolOf c6) ∧ c7 = .bool (boolOf c7) ∧ c8 = .string ⟨(strOf c8).toArray⟩ ∧
      ∃ fs : List Ent, EntsAt W c9 fs ∧ fs.length * 72 ≤ reachBytes ∧ ∀ a ∈ fs, a.fname.length ≤ reachBytes := by
  obtain ⟨_, hf⟩ := open_fields Tryz.underlying24 h hL
  obtain ⟨y0, n0, t0, l0, _⟩ := hf 0 _ rfl
  obtain ⟨y1, n1, t1, _⟩ := hf 1 _ rfl
  obtain ⟨y2, n2, t2, _⟩ := hf 2 _ rfl
  obtain ⟨y3, n3, t3, _⟩ := hf 3 _ rfl
  obtain ⟨y4, n4, t4, _⟩ := hf 4 _ rfl
  obtain ⟨y5, n5, t5, _⟩ := hf 5 _ rfl
  obtain ⟨y6, n6, t6, _⟩ := hf 6 _ rfl
  obtain ⟨y7, n7, t7, _⟩ := hf 7 _ rfl
  obtain ⟨y8, n8, t8, l8, _⟩ := hf 8 _ rfl
  obtain ⟨y9, n9, t9, l9, p9⟩ := hf 9 _ rfl
  have z9 : Tryz.prog.cellsOf 9 = 1 := by kernel_rfl
  have z4 : Tryz.prog.cellsOf 4 = 1 := by kernel_rfl
  have z22 : Tryz.prog.cellsOf 22 = 1 := by kernel_rfl
  have t0 : DataW.trod enc Tryz.prog W base sp held n0 9 (([c0, c1, c2, c3, c4, c5, c6, c7, c8, c9].drop 0).take (Tryz.prog.cellsOf 9)) = some y0 := t0
  have t1 : DataW.trod enc Tryz.prog W base sp held n1 4 (([c0, c1, c2, c3, c4, c5, c6, c7, c8, c9].drop 1).take (Tryz.prog.cellsOf 4)) = some y1 := t1
  have t2 : DataW.trod enc Tryz.prog W base sp held n2 4 (([c0, c1, c2, c3, c4, c5, c6, c7, c8, c9].drop 2).take (Tryz.prog.cellsOf 4)) = some y2 := t2
  have t3 : DataW.trod enc Tryz.prog W base sp held n3 4 (([c0, c1, c2, c3, c4, c5, c6, c7, c8, c9].drop 3).take (Tryz.prog.cellsOf 4)) = some y3 := t3
  have t4 : DataW.trod enc Tryz.prog W base sp held n4 4 (([c0, c1, c2, c3, c4, c5, c6, c7, c8, c9].drop 4).take (Tryz.prog.cellsOf 4)) = some y4 := t4
  have t5 : DataW.trod enc Tryz.prog W base sp held n5 4 (([c0, c1, c2, c3, c4, c5, c6, c7, c8, c9].drop 5).take (Tryz.prog.cellsOf 4)) = some y5 := t5
  have t6 : DataW.trod enc Tryz.prog W base sp held n6 4 (([c0, c1, c2, c3, c4, c5, c6, c7, c8, c9].drop 6).take (Tryz.prog.cellsOf 4)) = some y6 := t6
  have t7 : DataW.trod enc Tryz.prog W base sp held n7 4 (([c0, c1, c2, c3, c4, c5, c6, c7, c8, c9].drop 7).take (Tryz.prog.cellsOf 4)) = some y7 := t7
  have t8 : DataW.trod enc Tryz.prog W base sp held n8 9 (([c0, c1, c2, c3, c4, c5, c6, c7, c8, c9].drop 8).take (Tryz.prog.cellsOf 9)) = some y8 := t8
  have t9 : DataW.trod enc Tryz.prog W base sp held n9 22 (([c0, c1, c2, c3, c4, c5, c6, c7, c8, c9].drop 9).take (Tryz.prog.cellsOf 22)) = some y9 := t9
  rw [z9] at t0 t8
  rw [z4] at t1 t2 t3 t4 t5 t6 t7
  rw [z22] at t9
  refine ⟨(str_field (v := c0) t0 l0).1, bool_field (v := c1) t1, bool_field (v := c2) t2, bool_field (v := c3) t3, bool_field (v := c4) t4, bool_field (v := c5) t5, bool_field (v := c6) t6, bool_field (v := c7) t7, (str_field (v := c8) t8 l8).1, ?_⟩
  obtain ⟨v, fs, e, h1, h2, h3⟩ := open_ents_cells (cs := [c9]) l9 (fun p hp => hlt p (p9 p hp)) t9
  have e := (List.cons.inj e).1
  subst e
  exact ⟨fs, h1, h2, h3⟩
set_option maxRecDepth 100000 in
theorem open_item {r : Reach} {b0 : Nat} {v : Value} {dd : DataW H} {p : List MemPlace} (hv : Value.okWide Tryz.prog W r b0 27 v) (h : DataW.Trod enc Tryz.prog W 0 (fun _ => true) true 27 v dd p) (hL : Light Tryz.prog 27 dd) (hlt : ∀ q ∈ p, q.block < W.heap.size) :
    ∃ (kind : Int) (x : List UInt8) (d t ch dc m s ds : Bool) (cu : List UInt8) (f : Value) (fs : List Ent) (va : Value) (l : List Attr), v = itemV kind x d t ch dc m s ds cu f va ∧ (Lit.int .i64 kind).wf = true ∧ EntsAt W f fs ∧ fs.length * 72 ≤ reachBytes ∧ (∀ a ∈ fs, a.fname.length ≤ reachBytes) ∧ AttrsAt W va l := by
  obtain ⟨cs, rfl, hsz⟩ := okWide_struct Tryz.underlying27 hv
  obtain ⟨l⟩ := cs
  have hC : Tryz.prog.cellsOf 27 = 12 := by kernel_rfl
  match l, hsz.trans hC with
  | [c0, c1, c2, c3, c4, c5, c6, c7, c8, c9, c10, c11], _ =>
    obtain ⟨fuel, hf⟩ := h
    obtain ⟨_, hf⟩ := open_fields (x := (dd, p)) Tryz.underlying27 hf hL
    obtain ⟨y0, n0, t0, _⟩ := hf 0 _ rfl
    obtain ⟨y1, n1, t1, l1, p1⟩ := hf 1 _ rfl
    obtain ⟨y2, n2, t2, l2, p2⟩ := hf 2 _ rfl
    have z3 : Tryz.prog.cellsOf 3 = 1 := by kernel_rfl
    have z24 : Tryz.prog.cellsOf 24 = 10 := by kernel_rfl
    have z25 : Tryz.prog.cellsOf 25 = 1 := by kernel_rfl
    have t0 : DataW.trod enc Tryz.prog W 0 (fun _ => true) true n0 3 (([c0, c1, c2, c3, c4, c5, c6, c7, c8, c9, c10, c11].drop 0).take (Tryz.prog.cellsOf 3)) = some y0 := t0
    have t1 : DataW.trod enc Tryz.prog W 0 (fun _ => true) true n1 24 (([c0, c1, c2, c3, c4, c5, c6, c7, c8, c9, c10, c11].drop 1).take (Tryz.prog.cellsOf 24)) = some y1 := t1
    have t2 : DataW.trod enc Tryz.prog W 0 (fun _ => true) true n2 25 (([c0, c1, c2, c3, c4, c5, c6, c7, c8, c9, c10, c11].drop 11).take (Tryz.prog.cellsOf 25)) = some y2 := t2
    rw [z3] at t0
    rw [z24] at t1
    rw [z25] at t2
    obtain ⟨kind, e0, _, hk⟩ := DataW.trod_int Tryz.underlying3 t0
    have e0 : c0 = .int .i64 kind := (List.cons.inj e0).1
    obtain ⟨e1, e2, e3, e4, e5, e6, e7, e8, e9, fs, h1, h2, h3⟩ := open_ctl_cells (c0 := c1) (c1 := c2) (c2 := c3) (c3 := c4) (c4 := c5) (c5 := c6) (c6 := c7) (c7 := c8) (c8 := c9) (c9 := c10) l1 (fun q hq => hlt q (p1 q hq)) t1
    obtain ⟨va, la, e11, h4, _⟩ := open_attrs_cells (x := y2) (fun q hq => hlt q (p2 q hq)) t2
    have e11 : c11 = va := (List.cons.inj e11).1
    refine ⟨kind, strOf c1, boolOf c2, boolOf c3, boolOf c4, boolOf c5, boolOf c6, boolOf c7, boolOf c8, strOf c9, c10, fs, va, la, ?_, hk, h1, h2, h3, h4⟩
    unfold itemV
    rw [← e1, ← e2, ← e3, ← e4, ← e5, ← e6, ← e7, ← e8, ← e9, e0, e11]
end
end Go.Proofs.YtbhdoocajfkfiaaGreatDoor.ctl
