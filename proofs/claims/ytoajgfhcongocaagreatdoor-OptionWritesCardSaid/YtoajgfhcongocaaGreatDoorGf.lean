/- The contracts of kinds.attr, types, Of. The contract of kinds.Of. The contract of the reference's Type. The contract of the reference's Of. The contracts of option.has, is, owner, and of the reference's Has, Is, Owner. The contracts of option.owner, off, Off, and of the reference's Owner, Off. The contracts of option.off, Off, and of the reference's Off. -/
import Derived.Test.YtoajgfhcongocaaGreatDoorZRRight
import Derived.Test.YtoajgfhcongocaaGreatDoorGa
import Derived.Test.YtoajgfhcongocaaGreatDoorGc
import Derived.Test.YtoajgfhcongocaaGreatDoorGd
namespace Go.Proofs.YtoajgfhcongocaaGreatDoor.doc
open Go.ChangeShapes Go.WideShapes Go.ChangeAt Go.RowKit Go.Lib Go.Proofs.YtoajgfhcongocaaGreatDoor.atr Go.Proofs.YtoajgfhcongocaaGreatDoor.link

def typesV : Value := .agg #[.string ⟨#[104, 105, 100, 100, 101, 110]⟩, .string ⟨#[116, 101, 120, 116]⟩, .string ⟨#[115, 101, 97, 114, 99, 104]⟩, .string ⟨#[116, 101, 108]⟩, .string ⟨#[117, 114, 108]⟩, .string ⟨#[101, 109, 97, 105, 108]⟩, .string ⟨#[112, 97, 115, 115, 119, 111, 114, 100]⟩, .string ⟨#[100, 97, 116, 101]⟩, .string ⟨#[109, 111, 110, 116, 104]⟩, .string ⟨#[119, 101, 101, 107]⟩, .string ⟨#[116, 105, 109, 101]⟩, .string ⟨#[100, 97, 116, 101, 116, 105, 109, 101, 45, 108, 111, 99, 97, 108]⟩, .string ⟨#[110, 117, 109, 98, 101, 114]⟩, .string ⟨#[114, 97, 110, 103, 101]⟩, .string ⟨#[99, 111, 108, 111, 114]⟩, .string ⟨#[99, 104, 101, 99, 107, 98, 111, 120]⟩, .string ⟨#[114, 97, 100, 105, 111]⟩, .string ⟨#[102, 105, 108, 101]⟩, .string ⟨#[115, 117, 98, 109, 105, 116]⟩, .string ⟨#[105, 109, 97, 103, 101]⟩, .string ⟨#[114, 101, 115, 101, 116]⟩, .string ⟨#[98, 117, 116, 116, 111, 110]⟩]
def elemsV : Value := .agg #[.string ⟨#[111, 117, 116, 112, 117, 116]⟩, .string ⟨#[102, 105, 101, 108, 100, 115, 101, 116]⟩, .string ⟨#[102, 111, 114, 109]⟩, .string ⟨#[108, 97, 98, 101, 108]⟩, .string ⟨#[111, 112, 116, 105, 111, 110]⟩, .string ⟨#[111, 112, 116, 103, 114, 111, 117, 112]⟩, .string ⟨#[108, 101, 103, 101, 110, 100]⟩, .string ⟨#[100, 97, 116, 97, 108, 105, 115, 116]⟩]

theorem types_i0 (w : World) : (Instr.index 94 typesV (.int .i64 (0 : Nat))).run Tryz.prog w = .ok (.string ⟨(typeNames[0]'(by decide)).toArray⟩) w := by kernel_rfl
theorem types_i1 (w : World) : (Instr.index 94 typesV (.int .i64 (1 : Nat))).run Tryz.prog w = .ok (.string ⟨(typeNames[1]'(by decide)).toArray⟩) w := by kernel_rfl
theorem types_i2 (w : World) : (Instr.index 94 typesV (.int .i64 (2 : Nat))).run Tryz.prog w = .ok (.string ⟨(typeNames[2]'(by decide)).toArray⟩) w := by kernel_rfl
theorem types_i3 (w : World) : (Instr.index 94 typesV (.int .i64 (3 : Nat))).run Tryz.prog w = .ok (.string ⟨(typeNames[3]'(by decide)).toArray⟩) w := by kernel_rfl
theorem types_i4 (w : World) : (Instr.index 94 typesV (.int .i64 (4 : Nat))).run Tryz.prog w = .ok (.string ⟨(typeNames[4]'(by decide)).toArray⟩) w := by kernel_rfl
theorem types_i5 (w : World) : (Instr.index 94 typesV (.int .i64 (5 : Nat))).run Tryz.prog w = .ok (.string ⟨(typeNames[5]'(by decide)).toArray⟩) w := by kernel_rfl
theorem types_i6 (w : World) : (Instr.index 94 typesV (.int .i64 (6 : Nat))).run Tryz.prog w = .ok (.string ⟨(typeNames[6]'(by decide)).toArray⟩) w := by kernel_rfl
theorem types_i7 (w : World) : (Instr.index 94 typesV (.int .i64 (7 : Nat))).run Tryz.prog w = .ok (.string ⟨(typeNames[7]'(by decide)).toArray⟩) w := by kernel_rfl
theorem types_i8 (w : World) : (Instr.index 94 typesV (.int .i64 (8 : Nat))).run Tryz.prog w = .ok (.string ⟨(typeNames[8]'(by decide)).toArray⟩) w := by kernel_rfl
theorem types_i9 (w : World) : (Instr.index 94 typesV (.int .i64 (9 : Nat))).run Tryz.prog w = .ok (.string ⟨(typeNames[9]'(by decide)).toArray⟩) w := by kernel_rfl
theorem types_i10 (w : World) : (Instr.index 94 typesV (.int .i64 (10 : Nat))).run Tryz.prog w = .ok (.string ⟨(typeNames[10]'(by decide)).toArray⟩) w := by kernel_rfl
theorem types_i11 (w : World) : (Instr.index 94 typesV (.int .i64 (11 : Nat))).run Tryz.prog w = .ok (.string ⟨(typeNames[11]'(by decide)).toArray⟩) w := by kernel_rfl
theorem types_i12 (w : World) : (Instr.index 94 typesV (.int .i64 (12 : Nat))).run Tryz.prog w = .ok (.string ⟨(typeNames[12]'(by decide)).toArray⟩) w := by kernel_rfl
theorem types_i13 (w : World) : (Instr.index 94 typesV (.int .i64 (13 : Nat))).run Tryz.prog w = .ok (.string ⟨(typeNames[13]'(by decide)).toArray⟩) w := by kernel_rfl
theorem types_i14 (w : World) : (Instr.index 94 typesV (.int .i64 (14 : Nat))).run Tryz.prog w = .ok (.string ⟨(typeNames[14]'(by decide)).toArray⟩) w := by kernel_rfl
theorem types_i15 (w : World) : (Instr.index 94 typesV (.int .i64 (15 : Nat))).run Tryz.prog w = .ok (.string ⟨(typeNames[15]'(by decide)).toArray⟩) w := by kernel_rfl
theorem types_i16 (w : World) : (Instr.index 94 typesV (.int .i64 (16 : Nat))).run Tryz.prog w = .ok (.string ⟨(typeNames[16]'(by decide)).toArray⟩) w := by kernel_rfl
theorem types_i17 (w : World) : (Instr.index 94 typesV (.int .i64 (17 : Nat))).run Tryz.prog w = .ok (.string ⟨(typeNames[17]'(by decide)).toArray⟩) w := by kernel_rfl
theorem types_i18 (w : World) : (Instr.index 94 typesV (.int .i64 (18 : Nat))).run Tryz.prog w = .ok (.string ⟨(typeNames[18]'(by decide)).toArray⟩) w := by kernel_rfl
theorem types_i19 (w : World) : (Instr.index 94 typesV (.int .i64 (19 : Nat))).run Tryz.prog w = .ok (.string ⟨(typeNames[19]'(by decide)).toArray⟩) w := by kernel_rfl
theorem types_i20 (w : World) : (Instr.index 94 typesV (.int .i64 (20 : Nat))).run Tryz.prog w = .ok (.string ⟨(typeNames[20]'(by decide)).toArray⟩) w := by kernel_rfl
theorem types_i21 (w : World) : (Instr.index 94 typesV (.int .i64 (21 : Nat))).run Tryz.prog w = .ok (.string ⟨(typeNames[21]'(by decide)).toArray⟩) w := by kernel_rfl
theorem types_ix (k : Nat) (h : k < 22) (w : World) : (Instr.index 94 typesV (.int .i64 (k : Int))).run Tryz.prog w = .ok (.string ⟨(typeNames[k]'(by have : typeNames.length = 22 := rfl; omega)).toArray⟩) w := by
  match k, h with
  | 0, _ => exact types_i0 w
  | 1, _ => exact types_i1 w
  | 2, _ => exact types_i2 w
  | 3, _ => exact types_i3 w
  | 4, _ => exact types_i4 w
  | 5, _ => exact types_i5 w
  | 6, _ => exact types_i6 w
  | 7, _ => exact types_i7 w
  | 8, _ => exact types_i8 w
  | 9, _ => exact types_i9 w
  | 10, _ => exact types_i10 w
  | 11, _ => exact types_i11 w
  | 12, _ => exact types_i12 w
  | 13, _ => exact types_i13 w
  | 14, _ => exact types_i14 w
  | 15, _ => exact types_i15 w
  | 16, _ => exact types_i16 w
  | 17, _ => exact types_i17 w
  | 18, _ => exact types_i18 w
  | 19, _ => exact types_i19 w
  | 20, _ => exact types_i20 w
  | 21, _ => exact types_i21 w
  | k + 22, h => exact absurd h (by omega)
theorem elems_i0 (w : World) : (Instr.index 96 elemsV (.int .i64 (0 : Nat))).run Tryz.prog w = .ok (.string ⟨(elemNames[0]'(by decide)).toArray⟩) w := by kernel_rfl
theorem elems_i1 (w : World) : (Instr.index 96 elemsV (.int .i64 (1 : Nat))).run Tryz.prog w = .ok (.string ⟨(elemNames[1]'(by decide)).toArray⟩) w := by kernel_rfl
theorem elems_i2 (w : World) : (Instr.index 96 elemsV (.int .i64 (2 : Nat))).run Tryz.prog w = .ok (.string ⟨(elemNames[2]'(by decide)).toArray⟩) w := by kernel_rfl
theorem elems_i3 (w : World) : (Instr.index 96 elemsV (.int .i64 (3 : Nat))).run Tryz.prog w = .ok (.string ⟨(elemNames[3]'(by decide)).toArray⟩) w := by kernel_rfl
theorem elems_i4 (w : World) : (Instr.index 96 elemsV (.int .i64 (4 : Nat))).run Tryz.prog w = .ok (.string ⟨(elemNames[4]'(by decide)).toArray⟩) w := by kernel_rfl
theorem elems_i5 (w : World) : (Instr.index 96 elemsV (.int .i64 (5 : Nat))).run Tryz.prog w = .ok (.string ⟨(elemNames[5]'(by decide)).toArray⟩) w := by kernel_rfl
theorem elems_i6 (w : World) : (Instr.index 96 elemsV (.int .i64 (6 : Nat))).run Tryz.prog w = .ok (.string ⟨(elemNames[6]'(by decide)).toArray⟩) w := by kernel_rfl
theorem elems_i7 (w : World) : (Instr.index 96 elemsV (.int .i64 (7 : Nat))).run Tryz.prog w = .ok (.string ⟨(elemNames[7]'(by decide)).toArray⟩) w := by kernel_rfl
theorem elems_ix (k : Nat) (h : k < 8) (w : World) : (Instr.index 96 elemsV (.int .i64 (k : Int))).run Tryz.prog w = .ok (.string ⟨(elemNames[k]'(by have : elemNames.length = 8 := rfl; omega)).toArray⟩) w := by
  match k, h with
  | 0, _ => exact elems_i0 w
  | 1, _ => exact elems_i1 w
  | 2, _ => exact elems_i2 w
  | 3, _ => exact elems_i3 w
  | 4, _ => exact elems_i4 w
  | 5, _ => exact elems_i5 w
  | 6, _ => exact elems_i6 w
  | 7, _ => exact elems_i7 w
  | k + 8, h => exact absurd h (by omega)
theorem place_at (s : List UInt8) : ∀ (l : List (List UInt8)) (k : Nat) (h : k < l.length), (∀ j (hj : j < k), l[j] ≠ s) → l[k] = s → placeL s l = k := by
  intro l
  induction l with
  | nil => intro k h; exact absurd h (Nat.not_lt_zero _)
  | cons x r ih =>
    intro k h hn e
    cases k with
    | zero =>
      have e : x = s := e
      unfold placeL; rw [if_pos e]
    | succ k =>
      have h0 : x ≠ s := hn 0 (Nat.succ_pos _)
      unfold placeL; rw [if_neg h0, ih k (by simpa using h) (fun j hj => hn (j + 1) (by omega)) e]
theorem place_no (s : List UInt8) : ∀ (l : List (List UInt8)), (∀ j (hj : j < l.length), l[j] ≠ s) → placeL s l = l.length := by
  intro l
  induction l with
  | nil => intro _; rfl
  | cons x r ih =>
    intro hn
    have h0 : x ≠ s := hn 0 (Nat.succ_pos _)
    unfold placeL; rw [if_neg h0, ih (fun j hj => hn (j + 1) (by simpa using hj))]; rfl
theorem find_mem (nm : List UInt8) (l : List Attr) (s : List UInt8) (h : fval nm l = some s) : ∃ a ∈ l, a.2 = s := by
  induction l with
  | nil => cases h
  | cons a r ih =>
    unfold fval at h
    split at h
    · exact ⟨a, List.mem_cons_self, Option.some.inj h⟩
    · obtain ⟨b, hb, e⟩ := ih h
      exact ⟨b, List.mem_cons_of_mem _ hb, e⟩

def typesC : List Value := typeNames.map (fun s => .string ⟨s.toArray⟩)
theorem typesC_is : Value.agg typesC.toArray = typesV := by rfl
theorem typesC_one : ∀ v ∈ typesC, v.oneCell' = true := by
  intro v hv
  obtain ⟨s, _, rfl⟩ := List.mem_map.1 hv
  rfl
theorem there_fresh (w : World) (cs : Array Value) (T : TypeId) (n : Nat) (h : n ≤ cs.size) : (w.alloc (.cells cs T)).there w.heap.size 0 n := fun j hj => by
  rw [Nat.zero_add]
  refine ⟨?_, ?_⟩
  · rw [World.cell?_alloc_new, Array.getElem?_eq_getElem (by omega)]; rfl
  · simp
theorem setCells_below {w0 : World} {b : Nat} (hb : w0.heap.size ≤ b) : ∀ (vs : List Value) (o : Nat) (w : World), Below w0.heap.size w0 w → Below w0.heap.size w0 (w.setCells b o vs)
  | [], _, _, h => h
  | v :: r, o, _, h => setCells_below hb r (o + 1) _ (h.setCell (p := ⟨b, o, none⟩) hb v)
set_option maxHeartbeats 1600000 in
set_option maxRecDepth 100000 in
theorem types_any (w : World) : Calls Tryz.prog 81 #[] w fun e w' => e = .returned typesV ∧ Below w.heap.size w w' := by
  have hlen : typesC.length = 22 := rfl
  have hu : Tryz.prog.underlying 94 = some (.array 22 9) := by kernel_rfl
  have hsz : (Tryz.prog.info? 94).map (·.size) = some 22 := by kernel_rfl
  go_enter Tryz.func81, Tryz.ntmps81
  go_wp2_with (refine wpList_store_mid rfl 94 _ _ rfl w.heap.size 0 typesC.toArray rfl rfl ?s1 ?s2 ?s3 ?s4)
  case s1 => exact there_fresh w _ _ _ (by decide)
  case s2 => rw [hsz]; rfl
  case s3 => exact all_oneCell_toArray typesC_one
  case s4 =>
  have hr := World.rangeAt_setCells_same _ w.heap.size 0 typesC (there_fresh w #[.string ⟨#[]⟩, .string ⟨#[]⟩, .string ⟨#[]⟩, .string ⟨#[]⟩, .string ⟨#[]⟩, .string ⟨#[]⟩, .string ⟨#[]⟩, .string ⟨#[]⟩, .string ⟨#[]⟩, .string ⟨#[]⟩, .string ⟨#[]⟩, .string ⟨#[]⟩, .string ⟨#[]⟩, .string ⟨#[]⟩, .string ⟨#[]⟩, .string ⟨#[]⟩, .string ⟨#[]⟩, .string ⟨#[]⟩, .string ⟨#[]⟩, .string ⟨#[]⟩, .string ⟨#[]⟩, .string ⟨#[]⟩] 94 22 (Nat.le_refl _))
  have hload := run_loadVar_mid (P := Tryz.prog) _ w.heap.size 0 94 typesC _ hr hu rfl (by rw [hsz]; rfl)
  rw [typesC_is] at hload
  refine bodyPost_ret (v := typesV) ?_ rfl ⟨rfl, setCells_below (Nat.le_refl _) _ _ _ ((Below.refl _ w).alloc (Nat.le_refl _) _)⟩
  generalize (World.setCells _ _ _ _) = W at hload
  rw [rcell1 (p := 0) (ty := 94) rfl, show (asAddr _).run Tryz.prog W = .ok ⟨w.heap.size, 0, none⟩ W from rfl, Result.andThen_ok]
  exact hload

set_option maxHeartbeats 1600000 in
set_option maxRecDepth 100000 in
theorem kattr_any (n : Nd) (va vk : Value) (nm : List UInt8) (hn : n.attrs.length ≤ 140737488355328) (w : World) (hA : AttrsAt w va n.attrs) (hK : IntsAt w vk n.kids) :
    Calls Tryz.prog 80 #[nodeV n va vk, .string ⟨nm.toArray⟩] w fun e w' => e = .returned (.string ⟨((fval nm n.attrs).getD []).toArray⟩) ∧ Below w.heap.size w w' := by
  obtain ⟨nme, tx, a, p, ks⟩ := n
  dsimp only at hn hA hK
  obtain ⟨ka, kc, rfl⟩ := RowAt.lenN hK
  obtain ⟨aa, ac, rfl⟩ := AttrsAt.lenN hA
  unfold nodeV
  dsimp only
  obtain ⟨w1, hw1⟩ : ∃ w1, w1 = (w.alloc (.cells #[.string ⟨nme.toArray⟩, .string ⟨tx.toArray⟩, .slice aa a.length ac, .int .i64 p, .slice ka ks.length kc] 43)).alloc (.cells #[.string ⟨nm.toArray⟩] 9) := ⟨_, rfl⟩
  have hB1 : Below w.heap.size w w1 := by rw [hw1]; exact ((Below.refl _ w).alloc (Nat.le_refl _) _).alloc (by simp) _
  have eg : ∀ args w, (callFunc 100 args).run Tryz.prog w = .ok (.enter 100 args) w := enters_of Tryz.func100 (by kernel_rfl) rfl
  have f2 : w1.cell? ⟨w.heap.size, 2, none⟩ = some (.slice aa a.length ac) := by
    rw [hw1, World.cell?_alloc_lt _ _ _ (by simp), World.cell?_alloc_new]; rfl
  have f0 : w1.cell? ⟨w.heap.size + 1, 0, none⟩ = some (.string ⟨nm.toArray⟩) := by
    have := World.cell?_alloc_new (w.alloc (.cells #[.string ⟨nme.toArray⟩, .string ⟨tx.toArray⟩, .slice aa a.length ac, .int .i64 p, .slice ka ks.length kc] 43)) #[.string ⟨nm.toArray⟩] 9 0
    rw [World.size_alloc] at this
    rw [hw1, this]; rfl
  have hI := idxfN_any 100 #[.pointer (some ⟨w.heap.size + 1, 0, none⟩)] eg nm _ a hn w1 (hA.below hB1)
    (pred_kattr nm (w.heap.size + 1) _ (lt_of_cell f0) f0)
  have hw := fint_ways nm a
  have HA := Lib.hid hA
  have HI := Lib.hid hI
  clear hA hI eg f0
  obtain ⟨s, hs⟩ : ∃ s, s = (fval nm a).getD [] := ⟨_, rfl⟩
  rw [← hs]
  have HS := Lib.hid hs
  clear hs
  rcases hw with ⟨k, hk, h1, h2, h3, h4⟩ | ⟨h1, h2, h3⟩
  · have hI := HI.out
    rw [h1] at hI
    have HX : Hid (s = a[k].2) := Lib.hid (by rw [HS.out, h4]; rfl)
    clear h1 h2 h3 h4 HI
    rcases HA.out with ⟨rfl, _⟩ | ⟨b, off, cap, e, h0, hb, hR⟩
    · exact absurd hk (Nat.not_lt_zero _)
    cases e
    have HC : Hid (∀ w', Below w.heap.size w w' → w'.cell? ⟨b, off + k * 2 + 1, none⟩ = some (.string ⟨(a[k].2).toArray⟩)) := Lib.hid (fun w' h => (h.cell (p := ⟨b, off + k * 2 + 1, none⟩) hb).trans (hR k hk).2)
    generalize a[k].2 = y at *
    obtain rfl := HX.out
    clear hR HS HX
    go_enter Tryz.func80, Tryz.ntmps80
    go_wp2_with fail
    rw [← hw1]
    refine hI.mono ?_
    rintro e w' ⟨rfl, hb'⟩
    clear hI
    have hBB := below_trans hB1 hb'
    have hc := HC.out w' hBB
    have hf2 := cell_below hb' f2
    clear HC
    go_wp2_with fail
    go_ret
    exact ⟨rfl, hBB⟩
  · have hI := HI.out
    rw [h1] at hI
    have HX : Hid (s = []) := Lib.hid (by rw [HS.out, h3]; rfl)
    obtain rfl := HX.out
    clear h1 h2 h3 HI HA HS HX
    go_enter Tryz.func80, Tryz.ntmps80
    go_wp2_with fail
    rw [← hw1]
    refine hI.mono ?_
    rintro e w' ⟨rfl, hb'⟩
    clear hI
    go_wp2_with fail
    go_ret
    exact ⟨rfl, below_trans hB1 hb'⟩
end Go.Proofs.YtoajgfhcongocaaGreatDoor.doc

namespace Go.Proofs.YtoajgfhcongocaaGreatDoor.doc
open Go.ChangeShapes Go.WideShapes Go.ChangeAt Go.RowKit Go.Lib Go.Proofs.YtoajgfhcongocaaGreatDoor.atr Go.Proofs.YtoajgfhcongocaaGreatDoor.link

theorem typeT_len (a : List Attr) (ha : ∀ x ∈ a, x.1.length ≤ 140737488355328 ∧ x.2.length ≤ 140737488355328) : ((fval nType a).getD []).length ≤ 140737488355328 := by
  cases h : fval nType a with
  | none => simp
  | some s =>
    obtain ⟨x, hx, rfl⟩ := find_mem nType a s h
    exact (ha x hx).2
theorem kind_in_at (a : List Attr) (i : Nat) (hi : i < 22) (hn : ∀ j (hj : j < i), typeNames[j]'(by have : typeNames.length = 22 := rfl; omega) ≠ typeT a) (e : typeNames[i]'(by have : typeNames.length = 22 := rfl; omega) = typeT a) : kindP nInput a = (i : Int) + 1 := by
  have := place_at (typeT a) typeNames i (by have : typeNames.length = 22 := rfl; omega) hn e
  unfold kindP
  rw [if_pos rfl, this, if_pos hi]
theorem kind_in_no (a : List Attr) (hn : ∀ j (hj : j < 22), typeNames[j]'(by have : typeNames.length = 22 := rfl; omega) ≠ typeT a) : kindP nInput a = 2 := by
  have := place_no (typeT a) typeNames hn
  unfold kindP
  rw [if_pos rfl, this, if_neg (by decide)]
theorem kind_el_at (nm : List UInt8) (a : List Attr) (i : Nat) (hi : i < 8) (e : elemNames[i]'(by have : elemNames.length = 8 := rfl; omega) = nm) : kindP nm a = 28 + (i : Int) := by
  rw [(kind_elem nm a i (by have : elemNames.length = 8 := rfl; omega)).2 e.symm]; omega
theorem kind_el_no (nm : List UInt8) (a : List Attr) (h1 : nm ≠ nInput) (h2 : nm ≠ nButton) (h3 : nm ≠ nSelect) (h4 : nm ≠ nTextarea) (hn : ∀ j (hj : j < 8), elemNames[j]'(by have : elemNames.length = 8 := rfl; omega) ≠ nm) : kindP nm a = 0 := by
  rw [kind_rest nm a h1 h2 h3 h4, place_no nm elemNames hn, if_neg (by decide)]

set_option maxHeartbeats 3200000 in
set_option maxRecDepth 100000 in
theorem of_any (n : Nd) (va vk : Value) (hN : NFine n) (w : World) (hA : AttrsAt w va n.attrs) (hK : IntsAt w vk n.kids) :
    Calls Tryz.prog 59 #[nodeV n va vk] w fun e w' => e = .returned (.int .i64 (kindP n.name n.attrs)) ∧ Below w.heap.size w w' := by
  have hat := fun w h1 h2 => kattr_any n va vk nType hN.attrs w h1 h2
  have hlow := fun w => tlowerN_any ((fval nType n.attrs).getD []) (typeT_len n.attrs hN.an) w
  have eT : lowS ((fval nType n.attrs).getD []) = typeT n.attrs := rfl
  rw [eT] at hlow
  clear eT hN
  obtain ⟨nme, tx, a, p, ks⟩ := n
  dsimp only at hA hK hat hlow ⊢
  obtain ⟨ka, kc, rfl⟩ := RowAt.lenN hK
  obtain ⟨aa, ac, rfl⟩ := AttrsAt.lenN hA
  unfold nodeV at hat ⊢
  dsimp only at hat ⊢
  generalize (fval nType a).getD [] = s0 at *
  obtain ⟨w1, hw1⟩ : ∃ w1, w1 = w.alloc (.cells #[.string ⟨nme.toArray⟩, .string ⟨tx.toArray⟩, .slice aa a.length ac, .int .i64 p, .slice ka ks.length kc] 43) := ⟨_, rfl⟩
  have hB1 : Below w.heap.size w w1 := by rw [hw1]; exact (Below.refl _ w).alloc (Nat.le_refl _) _
  have f0 : w1.cell? ⟨w.heap.size, 0, none⟩ = some (.string ⟨nme.toArray⟩) := by rw [hw1, World.cell?_alloc_new]; rfl
  have f1 : w1.cell? ⟨w.heap.size, 1, none⟩ = some (.string ⟨tx.toArray⟩) := by rw [hw1, World.cell?_alloc_new]; rfl
  have f2 : w1.cell? ⟨w.heap.size, 2, none⟩ = some (.slice aa a.length ac) := by rw [hw1, World.cell?_alloc_new]; rfl
  have f3 : w1.cell? ⟨w.heap.size, 3, none⟩ = some (.int .i64 p) := by rw [hw1, World.cell?_alloc_new]; rfl
  have f4 : w1.cell? ⟨w.heap.size, 4, none⟩ = some (.slice ka ks.length kc) := by rw [hw1, World.cell?_alloc_new]; rfl
  have hA1 := hA.below hB1
  have hK1 := IntsAt.below hK hB1
  clear hA hK
  have HIa := Lib.hid (kind_in_at a)
  have HIn := Lib.hid (kind_in_no a)
  have HBu : Hid (kindP nButton a = if typeT a = nReset then 26 else if typeT a = nButton then 27 else 25) := Lib.hid (by unfold kindP; rw [if_neg (by decide), if_pos rfl])
  generalize typeT a = kd at *
  obtain ⟨res, hres⟩ : ∃ r, r = kindP nme a := ⟨_, rfl⟩
  have HR := Lib.hid hres
  rw [← hres]
  clear hres
  go_enter Tryz.func59, Tryz.ntmps59
  go_wp2_with fail
  rw [← hw1]
  clear hw1
  go_wp2_with fail
  refine (hat _ hA1 hK1).mono ?_
  rintro e w2 ⟨rfl, hb2⟩
  go_wp2_with fail
  refine (hlow _).mono ?_
  rintro e w3 ⟨rfl, hb3⟩
  have g0 := cell_below (below_trans hb2 hb3) f0
  have hB3 := below_trans hB1 (below_trans hb2 hb3)
  clear f0 f1 f2 f3 f4 hat hlow hb2 hb3 hA1 hK1 hB1
  have q1 := lst_eq nme [105, 110, 112, 117, 116]
  have q2 := lst_eq nme [98, 117, 116, 116, 111, 110]
  have q3 := lst_eq nme [115, 101, 108, 101, 99, 116]
  have q4 := lst_eq nme [116, 101, 120, 116, 97, 114, 101, 97]
  by_cases h1 : nme = nInput
  · subst h1
    replace g0 : w3.cell? ⟨w.heap.size, 0, none⟩ = some (.string ⟨#[105, 110, 112, 117, 116]⟩) := g0
    clear q1 q2 q3 q4 HBu
    go_wp2_with fail
    refine (types_any _).mono ?_
    rintro e w4 ⟨rfl, hb4⟩
    have hB4 := below_trans hB3 hb4
    clear g0 hb4
    go_wp2_with fail
    go_loopw [16] (fun s16 wr => ∃ i : Nat, s16 = .int .i64 i ∧ i ≤ 22 ∧ Hid (∀ j (hj : j < i) (h : j < 22), typeNames[j]'(by have : typeNames.length = 22 := rfl; omega) ≠ kd) ∧ wr = w4) (fun s _ => 22 - (RowKit.intOf s).toNat)
    case atStart => exact ⟨0, rfl, by omega, Lib.hid (fun j hj => absurd hj (Nat.not_lt_zero _)), rfl⟩
    case round =>
      obtain ⟨i, rfl, hi, hn, rfl⟩ := hrel
      by_cases hlt : i < 22
      · have hix := fun w => types_ix i hlt w
        have he := lst_eq (typeNames[i]'(by have : typeNames.length = 22 := rfl; omega)) kd
        by_cases hq : typeNames[i]'(by have : typeNames.length = 22 := rfl; omega) = kd
        · have HX : Hid (res = (i : Int) + 1) := Lib.hid (by rw [HR.out]; exact HIa.out i hlt (fun j hj => hn.out j hj (by omega)) hq)
          rw [decide_eq_true hq] at he
          generalize typeNames[i]'(by have : typeNames.length = 22 := rfl; omega) = x at *
          clear hq hn
          go_wp2_with fail
          go_ret
          exact ⟨ret_int (by rw [HX.out]), hB4⟩
        · have HN : Hid (∀ j (hj : j < i + 1) (h : j < 22), typeNames[j]'(by have : typeNames.length = 22 := rfl; omega) ≠ kd) := Lib.hid (fun j hj h => by
            rcases Nat.lt_or_ge j i with g | g
            · exact hn.out j g h
            · have : j = i := by omega
              subst this; exact hq)
          rw [decide_eq_false hq] at he
          generalize typeNames[i]'(by have : typeNames.length = 22 := rfl; omega) = x at *
          clear hq hn
          go_wp2_with fail
          go_roundw
          case rel => exact ⟨i + 1, by go_num, by omega, HN, by first | rfl | trivial⟩
          case measure => simp [RowKit.intOf]; omega
      · have HX : Hid (res = 2) := Lib.hid (by rw [HR.out]; exact HIn.out (fun j hj => hn.out j (by omega) hj))
        clear hn
        go_wp2_with fail
        go_ret
        exact ⟨ret_int (by rw [HX.out]), hB4⟩
  replace q1 : (nme == [105, 110, 112, 117, 116]) = false := by rw [q1]; exact decide_eq_false h1
  by_cases h2 : nme = nButton
  · subst h2
    replace g0 : w3.cell? ⟨w.heap.size, 0, none⟩ = some (.string ⟨#[98, 117, 116, 116, 111, 110]⟩) := g0
    have k1 := lst_eq kd [114, 101, 115, 101, 116]
    have k2 := lst_eq kd [98, 117, 116, 116, 111, 110]
    clear q1 q2 q3 q4 HIa HIn
    by_cases r1 : kd = nReset
    · have HX : Hid (res = 26) := Lib.hid (by rw [HR.out, HBu.out, if_pos r1])
      replace k1 : (kd == [114, 101, 115, 101, 116]) = true := by rw [k1]; exact decide_eq_true r1
      clear r1 k2
      go_wp2_with fail
      go_ret
      exact ⟨ret_int (by rw [HX.out]), hB3⟩
    replace k1 : (kd == [114, 101, 115, 101, 116]) = false := by rw [k1]; exact decide_eq_false r1
    by_cases r2 : kd = nButton
    · have HX : Hid (res = 27) := Lib.hid (by rw [HR.out, HBu.out, if_neg r1, if_pos r2])
      replace k2 : (kd == [98, 117, 116, 116, 111, 110]) = true := by rw [k2]; exact decide_eq_true r2
      clear r1 r2
      go_wp2_with fail
      go_ret
      exact ⟨ret_int (by rw [HX.out]), hB3⟩
    · have HX : Hid (res = 25) := Lib.hid (by rw [HR.out, HBu.out, if_neg r1, if_neg r2])
      replace k2 : (kd == [98, 117, 116, 116, 111, 110]) = false := by rw [k2]; exact decide_eq_false r2
      clear r1 r2
      go_wp2_with fail
      go_ret
      exact ⟨ret_int (by rw [HX.out]), hB3⟩
  replace q2 : (nme == [98, 117, 116, 116, 111, 110]) = false := by rw [q2]; exact decide_eq_false h2
  by_cases h3 : nme = nSelect
  · have HX : Hid (res = 23) := Lib.hid (by rw [HR.out, h3, kind_select])
    replace q3 : (nme == [115, 101, 108, 101, 99, 116]) = true := by rw [q3]; exact decide_eq_true h3
    clear h1 h2 h3
    go_wp2_with fail
    go_ret
    exact ⟨ret_int (by rw [HX.out]), hB3⟩
  replace q3 : (nme == [115, 101, 108, 101, 99, 116]) = false := by rw [q3]; exact decide_eq_false h3
  by_cases h4 : nme = nTextarea
  · have HX : Hid (res = 24) := Lib.hid (by rw [HR.out, h4, kind_area])
    replace q4 : (nme == [116, 101, 120, 116, 97, 114, 101, 97]) = true := by rw [q4]; exact decide_eq_true h4
    clear h1 h2 h4
    go_wp2_with fail
    go_ret
    exact ⟨ret_int (by rw [HX.out]), hB3⟩
  replace q4 : (nme == [116, 101, 120, 116, 97, 114, 101, 97]) = false := by rw [q4]; exact decide_eq_false h4
  have HEa := Lib.hid (kind_el_at nme a)
  have HEn := Lib.hid (kind_el_no nme a h1 h2 h3 h4)
  clear h1 h2 h3 h4 HIa HIn HBu
  go_wp2_with fail
  clear q1 q2 q3 q4
  go_loopw [38] (fun s38 wr => ∃ i : Nat, s38 = .int .i64 i ∧ i ≤ 8 ∧ Hid (∀ j (hj : j < i) (h : j < 8), elemNames[j]'(by have : elemNames.length = 8 := rfl; omega) ≠ nme) ∧ wr = w3) (fun s _ => 8 - (RowKit.intOf s).toNat)
  case atStart => exact ⟨0, rfl, by omega, Lib.hid (fun j hj => absurd hj (Nat.not_lt_zero _)), rfl⟩
  case round =>
    obtain ⟨i, rfl, hi, hn, rfl⟩ := hrel
    by_cases hlt : i < 8
    · have hix := fun w => elems_ix i hlt w
      unfold elemsV at hix
      have he := lst_eq (elemNames[i]'(by have : elemNames.length = 8 := rfl; omega)) nme
      by_cases hq : elemNames[i]'(by have : elemNames.length = 8 := rfl; omega) = nme
      · have HX : Hid (res = 28 + (i : Int)) := Lib.hid (by rw [HR.out]; exact HEa.out i hlt hq)
        rw [decide_eq_true hq] at he
        generalize elemNames[i]'(by have : elemNames.length = 8 := rfl; omega) = x at *
        clear hq hn
        go_wp2_with fail
        go_ret
        exact ⟨ret_int (by rw [HX.out]), hB3⟩
      · have HN : Hid (∀ j (hj : j < i + 1) (h : j < 8), elemNames[j]'(by have : elemNames.length = 8 := rfl; omega) ≠ nme) := Lib.hid (fun j hj h => by
          rcases Nat.lt_or_ge j i with g | g
          · exact hn.out j g h
          · have : j = i := by omega
            subst this; exact hq)
        rw [decide_eq_false hq] at he
        generalize elemNames[i]'(by have : elemNames.length = 8 := rfl; omega) = x at *
        clear hq hn
        go_wp2_with fail
        go_roundw
        case rel => exact ⟨i + 1, by go_num, by omega, HN, by first | rfl | trivial⟩
        case measure => simp [RowKit.intOf]; omega
    · have HX : Hid (res = 0) := Lib.hid (by rw [HR.out]; exact HEn.out (fun j hj => hn.out j (by omega) hj))
      clear hn
      go_wp2_with fail
      go_ret
      exact ⟨ret_int (by rw [HX.out]), hB3⟩
end Go.Proofs.YtoajgfhcongocaaGreatDoor.doc

namespace Go.Proofs.YtoajgfhcongocaaGreatDoor.doc
open Go.ChangeShapes Go.WideShapes Go.ChangeAt Go.RowKit Go.Lib Go.Proofs.YtoajgfhcongocaaGreatDoor.atr Go.Proofs.YtoajgfhcongocaaGreatDoor.link

set_option maxRecDepth 100000 in
theorem rtype_1 (w : World) : Calls Tryz.prog 69 #[.int .i64 1] w fun e w' => e = .returned (.string ⟨(typeNames[0]'(by decide)).toArray⟩) ∧ w = w' := by
  go_enter Tryz.func69, Tryz.ntmps69
  go_wp2_with fail
  go_ret
  exact ⟨rfl, rfl⟩
set_option maxRecDepth 100000 in
theorem rtype_2 (w : World) : Calls Tryz.prog 69 #[.int .i64 2] w fun e w' => e = .returned (.string ⟨(typeNames[1]'(by decide)).toArray⟩) ∧ w = w' := by
  go_enter Tryz.func69, Tryz.ntmps69
  go_wp2_with fail
  go_ret
  exact ⟨rfl, rfl⟩
set_option maxRecDepth 100000 in
theorem rtype_3 (w : World) : Calls Tryz.prog 69 #[.int .i64 3] w fun e w' => e = .returned (.string ⟨(typeNames[2]'(by decide)).toArray⟩) ∧ w = w' := by
  go_enter Tryz.func69, Tryz.ntmps69
  go_wp2_with fail
  go_ret
  exact ⟨rfl, rfl⟩
set_option maxRecDepth 100000 in
theorem rtype_4 (w : World) : Calls Tryz.prog 69 #[.int .i64 4] w fun e w' => e = .returned (.string ⟨(typeNames[3]'(by decide)).toArray⟩) ∧ w = w' := by
  go_enter Tryz.func69, Tryz.ntmps69
  go_wp2_with fail
  go_ret
  exact ⟨rfl, rfl⟩
set_option maxRecDepth 100000 in
theorem rtype_5 (w : World) : Calls Tryz.prog 69 #[.int .i64 5] w fun e w' => e = .returned (.string ⟨(typeNames[4]'(by decide)).toArray⟩) ∧ w = w' := by
  go_enter Tryz.func69, Tryz.ntmps69
  go_wp2_with fail
  go_ret
  exact ⟨rfl, rfl⟩
set_option maxRecDepth 100000 in
theorem rtype_6 (w : World) : Calls Tryz.prog 69 #[.int .i64 6] w fun e w' => e = .returned (.string ⟨(typeNames[5]'(by decide)).toArray⟩) ∧ w = w' := by
  go_enter Tryz.func69, Tryz.ntmps69
  go_wp2_with fail
  go_ret
  exact ⟨rfl, rfl⟩
set_option maxRecDepth 100000 in
theorem rtype_7 (w : World) : Calls Tryz.prog 69 #[.int .i64 7] w fun e w' => e = .returned (.string ⟨(typeNames[6]'(by decide)).toArray⟩) ∧ w = w' := by
  go_enter Tryz.func69, Tryz.ntmps69
  go_wp2_with fail
  go_ret
  exact ⟨rfl, rfl⟩
set_option maxRecDepth 100000 in
theorem rtype_8 (w : World) : Calls Tryz.prog 69 #[.int .i64 8] w fun e w' => e = .returned (.string ⟨(typeNames[7]'(by decide)).toArray⟩) ∧ w = w' := by
  go_enter Tryz.func69, Tryz.ntmps69
  go_wp2_with fail
  go_ret
  exact ⟨rfl, rfl⟩
set_option maxRecDepth 100000 in
theorem rtype_9 (w : World) : Calls Tryz.prog 69 #[.int .i64 9] w fun e w' => e = .returned (.string ⟨(typeNames[8]'(by decide)).toArray⟩) ∧ w = w' := by
  go_enter Tryz.func69, Tryz.ntmps69
  go_wp2_with fail
  go_ret
  exact ⟨rfl, rfl⟩
set_option maxRecDepth 100000 in
theorem rtype_10 (w : World) : Calls Tryz.prog 69 #[.int .i64 10] w fun e w' => e = .returned (.string ⟨(typeNames[9]'(by decide)).toArray⟩) ∧ w = w' := by
  go_enter Tryz.func69, Tryz.ntmps69
  go_wp2_with fail
  go_ret
  exact ⟨rfl, rfl⟩
set_option maxRecDepth 100000 in
theorem rtype_11 (w : World) : Calls Tryz.prog 69 #[.int .i64 11] w fun e w' => e = .returned (.string ⟨(typeNames[10]'(by decide)).toArray⟩) ∧ w = w' := by
  go_enter Tryz.func69, Tryz.ntmps69
  go_wp2_with fail
  go_ret
  exact ⟨rfl, rfl⟩
set_option maxRecDepth 100000 in
theorem rtype_12 (w : World) : Calls Tryz.prog 69 #[.int .i64 12] w fun e w' => e = .returned (.string ⟨(typeNames[11]'(by decide)).toArray⟩) ∧ w = w' := by
  go_enter Tryz.func69, Tryz.ntmps69
  go_wp2_with fail
  go_ret
  exact ⟨rfl, rfl⟩
set_option maxRecDepth 100000 in
theorem rtype_13 (w : World) : Calls Tryz.prog 69 #[.int .i64 13] w fun e w' => e = .returned (.string ⟨(typeNames[12]'(by decide)).toArray⟩) ∧ w = w' := by
  go_enter Tryz.func69, Tryz.ntmps69
  go_wp2_with fail
  go_ret
  exact ⟨rfl, rfl⟩
set_option maxRecDepth 100000 in
theorem rtype_14 (w : World) : Calls Tryz.prog 69 #[.int .i64 14] w fun e w' => e = .returned (.string ⟨(typeNames[13]'(by decide)).toArray⟩) ∧ w = w' := by
  go_enter Tryz.func69, Tryz.ntmps69
  go_wp2_with fail
  go_ret
  exact ⟨rfl, rfl⟩
set_option maxRecDepth 100000 in
theorem rtype_15 (w : World) : Calls Tryz.prog 69 #[.int .i64 15] w fun e w' => e = .returned (.string ⟨(typeNames[14]'(by decide)).toArray⟩) ∧ w = w' := by
  go_enter Tryz.func69, Tryz.ntmps69
  go_wp2_with fail
  go_ret
  exact ⟨rfl, rfl⟩
set_option maxRecDepth 100000 in
theorem rtype_16 (w : World) : Calls Tryz.prog 69 #[.int .i64 16] w fun e w' => e = .returned (.string ⟨(typeNames[15]'(by decide)).toArray⟩) ∧ w = w' := by
  go_enter Tryz.func69, Tryz.ntmps69
  go_wp2_with fail
  go_ret
  exact ⟨rfl, rfl⟩
set_option maxRecDepth 100000 in
theorem rtype_17 (w : World) : Calls Tryz.prog 69 #[.int .i64 17] w fun e w' => e = .returned (.string ⟨(typeNames[16]'(by decide)).toArray⟩) ∧ w = w' := by
  go_enter Tryz.func69, Tryz.ntmps69
  go_wp2_with fail
  go_ret
  exact ⟨rfl, rfl⟩
set_option maxRecDepth 100000 in
theorem rtype_18 (w : World) : Calls Tryz.prog 69 #[.int .i64 18] w fun e w' => e = .returned (.string ⟨(typeNames[17]'(by decide)).toArray⟩) ∧ w = w' := by
  go_enter Tryz.func69, Tryz.ntmps69
  go_wp2_with fail
  go_ret
  exact ⟨rfl, rfl⟩
set_option maxRecDepth 100000 in
theorem rtype_19 (w : World) : Calls Tryz.prog 69 #[.int .i64 19] w fun e w' => e = .returned (.string ⟨(typeNames[18]'(by decide)).toArray⟩) ∧ w = w' := by
  go_enter Tryz.func69, Tryz.ntmps69
  go_wp2_with fail
  go_ret
  exact ⟨rfl, rfl⟩
set_option maxRecDepth 100000 in
theorem rtype_20 (w : World) : Calls Tryz.prog 69 #[.int .i64 20] w fun e w' => e = .returned (.string ⟨(typeNames[19]'(by decide)).toArray⟩) ∧ w = w' := by
  go_enter Tryz.func69, Tryz.ntmps69
  go_wp2_with fail
  go_ret
  exact ⟨rfl, rfl⟩
set_option maxRecDepth 100000 in
theorem rtype_21 (w : World) : Calls Tryz.prog 69 #[.int .i64 21] w fun e w' => e = .returned (.string ⟨(typeNames[20]'(by decide)).toArray⟩) ∧ w = w' := by
  go_enter Tryz.func69, Tryz.ntmps69
  go_wp2_with fail
  go_ret
  exact ⟨rfl, rfl⟩
set_option maxRecDepth 100000 in
theorem rtype_22 (w : World) : Calls Tryz.prog 69 #[.int .i64 22] w fun e w' => e = .returned (.string ⟨(typeNames[21]'(by decide)).toArray⟩) ∧ w = w' := by
  go_enter Tryz.func69, Tryz.ntmps69
  go_wp2_with fail
  go_ret
  exact ⟨rfl, rfl⟩
theorem rtype_any (k : Nat) (h : k < 22) (w : World) : Calls Tryz.prog 69 #[.int .i64 ((k : Int) + 1)] w fun e w' => e = .returned (.string ⟨(typeNames[k]'(by have : typeNames.length = 22 := rfl; omega)).toArray⟩) ∧ w = w' := by
  match k, h with
  | 0, _ => exact rtype_1 w
  | 1, _ => exact rtype_2 w
  | 2, _ => exact rtype_3 w
  | 3, _ => exact rtype_4 w
  | 4, _ => exact rtype_5 w
  | 5, _ => exact rtype_6 w
  | 6, _ => exact rtype_7 w
  | 7, _ => exact rtype_8 w
  | 8, _ => exact rtype_9 w
  | 9, _ => exact rtype_10 w
  | 10, _ => exact rtype_11 w
  | 11, _ => exact rtype_12 w
  | 12, _ => exact rtype_13 w
  | 13, _ => exact rtype_14 w
  | 14, _ => exact rtype_15 w
  | 15, _ => exact rtype_16 w
  | 16, _ => exact rtype_17 w
  | 17, _ => exact rtype_18 w
  | 18, _ => exact rtype_19 w
  | 19, _ => exact rtype_20 w
  | 20, _ => exact rtype_21 w
  | 21, _ => exact rtype_22 w
  | k + 22, h => exact absurd h (by omega)
end Go.Proofs.YtoajgfhcongocaaGreatDoor.doc

namespace Go.Proofs.YtoajgfhcongocaaGreatDoor.doc
open Go.ChangeShapes Go.WideShapes Go.ChangeAt Go.RowKit Go.Lib Go.Proofs.YtoajgfhcongocaaGreatDoor.atr Go.Proofs.YtoajgfhcongocaaGreatDoor.link

set_option maxHeartbeats 3200000 in
set_option maxRecDepth 100000 in
theorem rof_any (n : Nd) (va vk : Value) (hN : NFine n) (w : World) (hA : AttrsAt w va n.attrs) (hK : IntsAt w vk n.kids) :
    Calls Tryz.prog 50 #[nodeV n va vk] w fun e w' => e = .returned (.int .i64 (kindP n.name n.attrs)) ∧ Below w.heap.size w w' := by
  have hfd := fun w h => rfindN_any va n.attrs nType hN.attrs w h
  have HLow := Lib.hid (fun w => rlowerN_any ((fval nType n.attrs).getD []) (typeT_len n.attrs hN.an) w)
  have eT : lowS ((fval nType n.attrs).getD []) = typeT n.attrs := rfl
  rw [eT] at HLow
  clear hN
  obtain ⟨nme, tx, a, p, ks⟩ := n
  dsimp only at hA hK hfd HLow eT ⊢
  obtain ⟨ka, kc, rfl⟩ := RowAt.lenN hK
  obtain ⟨aa, ac, rfl⟩ := AttrsAt.lenN hA
  unfold nodeV
  dsimp only
  obtain ⟨w1, hw1⟩ : ∃ w1, w1 = w.alloc (.cells #[.string ⟨nme.toArray⟩, .string ⟨tx.toArray⟩, .slice aa a.length ac, .int .i64 p, .slice ka ks.length kc] 43) := ⟨_, rfl⟩
  have hB1 : Below w.heap.size w w1 := by rw [hw1]; exact (Below.refl _ w).alloc (Nat.le_refl _) _
  have f0 : w1.cell? ⟨w.heap.size, 0, none⟩ = some (.string ⟨nme.toArray⟩) := by rw [hw1, World.cell?_alloc_new]; rfl
  have f2 : w1.cell? ⟨w.heap.size, 2, none⟩ = some (.slice aa a.length ac) := by rw [hw1, World.cell?_alloc_new]; rfl
  have hA1 := hA.below hB1
  have HA1 := Lib.hid hA1
  clear hA hK
  have HIa := Lib.hid (kind_in_at a)
  have HIn := Lib.hid (kind_in_no a)
  have HBu : Hid (kindP nButton a = if typeT a = nReset then 26 else if typeT a = nButton then 27 else 25) := Lib.hid (by unfold kindP; rw [if_neg (by decide), if_pos rfl])
  have hw := Lib.hid (fint_ways nType a)
  have HT0 : Hid (fval nType a = none → typeT a = []) := Lib.hid (fun h => by unfold typeT; rw [h]; rfl)
  generalize hs0 : (fval nType a).getD [] = s0 at *
  have HS0 := Lib.hid hs0
  clear hs0 eT
  generalize typeT a = kd at *
  obtain ⟨res, hres⟩ : ∃ r, r = kindP nme a := ⟨_, rfl⟩
  have HR := Lib.hid hres
  rw [← hres]
  clear hres
  go_enter Tryz.func50, Tryz.ntmps50
  go_upto_region 1 with fail
  rw [← hw1]
  clear hw1
  go_wp2_with fail
  refine (hfd _ hA1).mono ?_
  rintro e w' ⟨rfl, rfl⟩
  clear hfd hA1
  generalize fint nType a = fi at *
  go_upto_if 10 with fail
  go_cut [4] (fun s4 wx => s4 = .string ⟨kd.toArray⟩ ∧ Below w1.heap.size w1 wx)
  case first =>
    rcases hw.out with ⟨k, hk, h1, _, _, h4⟩ | ⟨h1, _, h3⟩
    · subst h1
      rcases HA1.out with ⟨rfl, _⟩ | ⟨b, off, cap, e, h0, hb, hR⟩
      · exact absurd hk (Nat.not_lt_zero _)
      cases e
      have hc := (hR k hk).2
      have HX : Hid (a[k].2 = s0) := Lib.hid (by rw [← HS0.out, h4]; rfl)
      rw [HX.out] at hc
      have hlow := HLow.out
      clear h4 hR HX f0
      go_wp2_with fail
      refine (hlow _).mono ?_
      rintro e w3 ⟨rfl, hb3⟩
      go_wp2_with fail
      go_meet
      exact ⟨rfl, hb3⟩
    · subst h1
      obtain rfl := HT0.out h3
      clear h3 f0
      go_wp2_with fail
      go_meet
      exact ⟨rfl, Below.refl _ _⟩
  case rest =>
  obtain ⟨rfl, hbc⟩ := hcut
  have g0 := cell_below hbc f0
  have hB3 := below_trans hB1 hbc
  clear f0 f2 HA1 hw HS0 HT0 HLow hB1 hbc
  have q1 := lst_eq nme [105, 110, 112, 117, 116]
  have q2 := lst_eq nme [98, 117, 116, 116, 111, 110]
  have q3 := lst_eq nme [115, 101, 108, 101, 99, 116]
  have q4 := lst_eq nme [116, 101, 120, 116, 97, 114, 101, 97]
  by_cases h1 : nme = nInput
  · subst h1
    replace g0 : wc.cell? ⟨w.heap.size, 0, none⟩ = some (.string ⟨#[105, 110, 112, 117, 116]⟩) := g0
    clear q1 q2 q3 q4 HBu
    go_wp2_with fail
    clear g0
    go_loopw [5] (fun s5 wr => ∃ i : Nat, s5 = .int .i64 ((i : Int) + 1) ∧ i ≤ 22 ∧ Hid (∀ j (hj : j < i) (h : j < 22), typeNames[j]'(by have : typeNames.length = 22 := rfl; omega) ≠ kd) ∧ wr = wc) (fun s _ => 23 - (RowKit.intOf s).toNat)
    case atStart => exact ⟨0, by first | rfl | go_num, by omega, Lib.hid (fun j hj => absurd hj (Nat.not_lt_zero _)), rfl⟩
    case round =>
      obtain ⟨i, rfl, hi, hn, rfl⟩ := hrel
      by_cases hlt : i < 22
      · have hix := fun w => rtype_any i hlt w
        have he := lst_eq (typeNames[i]'(by have : typeNames.length = 22 := rfl; omega)) kd
        by_cases hq : typeNames[i]'(by have : typeNames.length = 22 := rfl; omega) = kd
        · have HX : Hid (res = (i : Int) + 1) := Lib.hid (by rw [HR.out]; exact HIa.out i hlt (fun j hj => hn.out j hj (by omega)) hq)
          rw [decide_eq_true hq] at he
          generalize typeNames[i]'(by have : typeNames.length = 22 := rfl; omega) = x at *
          clear hq hn
          go_wp2_with fail
          refine (hix _).mono ?_
          rintro e w' ⟨rfl, rfl⟩
          go_wp2_with fail
          go_ret
          exact ⟨ret_int (by rw [HX.out]), hB3⟩
        · have HN : Hid (∀ j (hj : j < i + 1) (h : j < 22), typeNames[j]'(by have : typeNames.length = 22 := rfl; omega) ≠ kd) := Lib.hid (fun j hj h => by
            rcases Nat.lt_or_ge j i with g | g
            · exact hn.out j g h
            · have : j = i := by omega
              subst this; exact hq)
          rw [decide_eq_false hq] at he
          generalize typeNames[i]'(by have : typeNames.length = 22 := rfl; omega) = x at *
          clear hq hn
          go_wp2_with fail
          refine (hix _).mono ?_
          rintro e w' ⟨rfl, rfl⟩
          go_wp2_with fail
          go_roundw
          case rel => exact ⟨i + 1, by first | go_num | (congr 1; omega), by omega, HN, by first | rfl | trivial⟩
          case measure => simp [RowKit.intOf]; omega
      · have HX : Hid (res = 2) := Lib.hid (by rw [HR.out]; exact HIn.out (fun j hj => hn.out j (by omega) hj))
        clear hn
        go_wp2_with fail
        go_ret
        exact ⟨ret_int (by rw [HX.out]), hB3⟩
  replace q1 : (nme == [105, 110, 112, 117, 116]) = false := by rw [q1]; exact decide_eq_false h1
  by_cases h2 : nme = nButton
  · subst h2
    replace g0 : wc.cell? ⟨w.heap.size, 0, none⟩ = some (.string ⟨#[98, 117, 116, 116, 111, 110]⟩) := g0
    have k1 := lst_eq kd [114, 101, 115, 101, 116]
    have k2 := lst_eq kd [98, 117, 116, 116, 111, 110]
    clear q1 q2 q3 q4 HIa HIn
    by_cases r1 : kd = nReset
    · have HX : Hid (res = 26) := Lib.hid (by rw [HR.out, HBu.out, if_pos r1])
      replace k1 : (kd == [114, 101, 115, 101, 116]) = true := by rw [k1]; exact decide_eq_true r1
      clear r1 k2
      go_wp2_with fail
      go_ret
      exact ⟨ret_int (by rw [HX.out]), hB3⟩
    replace k1 : (kd == [114, 101, 115, 101, 116]) = false := by rw [k1]; exact decide_eq_false r1
    by_cases r2 : kd = nButton
    · have HX : Hid (res = 27) := Lib.hid (by rw [HR.out, HBu.out, if_neg r1, if_pos r2])
      replace k2 : (kd == [98, 117, 116, 116, 111, 110]) = true := by rw [k2]; exact decide_eq_true r2
      clear r1 r2
      go_wp2_with fail
      go_ret
      exact ⟨ret_int (by rw [HX.out]), hB3⟩
    · have HX : Hid (res = 25) := Lib.hid (by rw [HR.out, HBu.out, if_neg r1, if_neg r2])
      replace k2 : (kd == [98, 117, 116, 116, 111, 110]) = false := by rw [k2]; exact decide_eq_false r2
      clear r1 r2
      go_wp2_with fail
      go_ret
      exact ⟨ret_int (by rw [HX.out]), hB3⟩
  replace q2 : (nme == [98, 117, 116, 116, 111, 110]) = false := by rw [q2]; exact decide_eq_false h2
  by_cases h3 : nme = nSelect
  · have HX : Hid (res = 23) := Lib.hid (by rw [HR.out, h3, kind_select])
    replace q3 : (nme == [115, 101, 108, 101, 99, 116]) = true := by rw [q3]; exact decide_eq_true h3
    clear h1 h2 h3
    go_wp2_with fail
    go_ret
    exact ⟨ret_int (by rw [HX.out]), hB3⟩
  replace q3 : (nme == [115, 101, 108, 101, 99, 116]) = false := by rw [q3]; exact decide_eq_false h3
  by_cases h4 : nme = nTextarea
  · have HX : Hid (res = 24) := Lib.hid (by rw [HR.out, h4, kind_area])
    replace q4 : (nme == [116, 101, 120, 116, 97, 114, 101, 97]) = true := by rw [q4]; exact decide_eq_true h4
    clear h1 h2 h4
    go_wp2_with fail
    go_ret
    exact ⟨ret_int (by rw [HX.out]), hB3⟩
  replace q4 : (nme == [116, 101, 120, 116, 97, 114, 101, 97]) = false := by rw [q4]; exact decide_eq_false h4
  have HEa := Lib.hid (kind_el_at nme a)
  have HEn := Lib.hid (kind_el_no nme a h1 h2 h3 h4)
  clear h1 h2 h3 h4 HIa HIn HBu
  have p0 := lst_eq nme [111, 117, 116, 112, 117, 116]
  by_cases r0 : nme = [111, 117, 116, 112, 117, 116]
  · have HX : Hid (res = 28) := Lib.hid (by rw [HR.out]; exact HEa.out 0 (by decide) (r0.symm))
    rw [decide_eq_true r0] at p0
    clear HEa HEn
    go_wp2_with fail
    go_ret
    exact ⟨ret_int (by rw [HX.out]), hB3⟩
  rw [decide_eq_false r0] at p0
  have R0 := Lib.hid r0
  clear r0
  have p1 := lst_eq nme [102, 105, 101, 108, 100, 115, 101, 116]
  by_cases r1 : nme = [102, 105, 101, 108, 100, 115, 101, 116]
  · have HX : Hid (res = 29) := Lib.hid (by rw [HR.out]; exact HEa.out 1 (by decide) (r1.symm))
    rw [decide_eq_true r1] at p1
    clear HEa HEn
    go_wp2_with fail
    go_ret
    exact ⟨ret_int (by rw [HX.out]), hB3⟩
  rw [decide_eq_false r1] at p1
  have R1 := Lib.hid r1
  clear r1
  have p2 := lst_eq nme [102, 111, 114, 109]
  by_cases r2 : nme = [102, 111, 114, 109]
  · have HX : Hid (res = 30) := Lib.hid (by rw [HR.out]; exact HEa.out 2 (by decide) (r2.symm))
    rw [decide_eq_true r2] at p2
    clear HEa HEn
    go_wp2_with fail
    go_ret
    exact ⟨ret_int (by rw [HX.out]), hB3⟩
  rw [decide_eq_false r2] at p2
  have R2 := Lib.hid r2
  clear r2
  have p3 := lst_eq nme [108, 97, 98, 101, 108]
  by_cases r3 : nme = [108, 97, 98, 101, 108]
  · have HX : Hid (res = 31) := Lib.hid (by rw [HR.out]; exact HEa.out 3 (by decide) (r3.symm))
    rw [decide_eq_true r3] at p3
    clear HEa HEn
    go_wp2_with fail
    go_ret
    exact ⟨ret_int (by rw [HX.out]), hB3⟩
  rw [decide_eq_false r3] at p3
  have R3 := Lib.hid r3
  clear r3
  have p4 := lst_eq nme [111, 112, 116, 105, 111, 110]
  by_cases r4 : nme = [111, 112, 116, 105, 111, 110]
  · have HX : Hid (res = 32) := Lib.hid (by rw [HR.out]; exact HEa.out 4 (by decide) (r4.symm))
    rw [decide_eq_true r4] at p4
    clear HEa HEn
    go_wp2_with fail
    go_ret
    exact ⟨ret_int (by rw [HX.out]), hB3⟩
  rw [decide_eq_false r4] at p4
  have R4 := Lib.hid r4
  clear r4
  have p5 := lst_eq nme [111, 112, 116, 103, 114, 111, 117, 112]
  by_cases r5 : nme = [111, 112, 116, 103, 114, 111, 117, 112]
  · have HX : Hid (res = 33) := Lib.hid (by rw [HR.out]; exact HEa.out 5 (by decide) (r5.symm))
    rw [decide_eq_true r5] at p5
    clear HEa HEn
    go_wp2_with fail
    go_ret
    exact ⟨ret_int (by rw [HX.out]), hB3⟩
  rw [decide_eq_false r5] at p5
  have R5 := Lib.hid r5
  clear r5
  have p6 := lst_eq nme [108, 101, 103, 101, 110, 100]
  by_cases r6 : nme = [108, 101, 103, 101, 110, 100]
  · have HX : Hid (res = 34) := Lib.hid (by rw [HR.out]; exact HEa.out 6 (by decide) (r6.symm))
    rw [decide_eq_true r6] at p6
    clear HEa HEn
    go_wp2_with fail
    go_ret
    exact ⟨ret_int (by rw [HX.out]), hB3⟩
  rw [decide_eq_false r6] at p6
  have R6 := Lib.hid r6
  clear r6
  have p7 := lst_eq nme [100, 97, 116, 97, 108, 105, 115, 116]
  by_cases r7 : nme = [100, 97, 116, 97, 108, 105, 115, 116]
  · have HX : Hid (res = 35) := Lib.hid (by rw [HR.out]; exact HEa.out 7 (by decide) (r7.symm))
    rw [decide_eq_true r7] at p7
    clear HEa HEn
    go_wp2_with fail
    go_ret
    exact ⟨ret_int (by rw [HX.out]), hB3⟩
  rw [decide_eq_false r7] at p7
  have R7 := Lib.hid r7
  clear r7
  have HX : Hid (res = 0) := Lib.hid (by
    rw [HR.out]
    refine HEn.out (fun j hj => ?_)
    match j, hj with
    | 0, _ => exact fun e => R0.out e.symm
    | 1, _ => exact fun e => R1.out e.symm
    | 2, _ => exact fun e => R2.out e.symm
    | 3, _ => exact fun e => R3.out e.symm
    | 4, _ => exact fun e => R4.out e.symm
    | 5, _ => exact fun e => R5.out e.symm
    | 6, _ => exact fun e => R6.out e.symm
    | 7, _ => exact fun e => R7.out e.symm
    | j + 8, h => exact absurd h (by omega))
  clear HEa HEn
  go_wp2_with fail
  go_ret
  exact ⟨ret_int (by rw [HX.out]), hB3⟩
end Go.Proofs.YtoajgfhcongocaaGreatDoor.doc

namespace Go.Proofs.YtoajgfhcongocaaGreatDoor.doc
open Go.ChangeShapes Go.WideShapes Go.ChangeAt Go.RowKit Go.Lib Go.Proofs.YtoajgfhcongocaaGreatDoor.atr Go.Proofs.YtoajgfhcongocaaGreatDoor.link

set_option maxHeartbeats 1600000 in
set_option maxRecDepth 100000 in
theorem ohas_any (n : Nd) (va vk : Value) (nm : List UInt8) (hn : n.attrs.length ≤ 140737488355328) (w : World) (hA : AttrsAt w va n.attrs) (hK : IntsAt w vk n.kids) :
    Calls Tryz.prog 42 #[nodeV n va vk, .string ⟨nm.toArray⟩] w fun e w' => e = .returned (.bool (hasA nm n.attrs)) ∧ Below w.heap.size w w' := by
  obtain ⟨nme, tx, a, p, ks⟩ := n
  dsimp only at hn hA hK
  obtain ⟨ka, kc, rfl⟩ := RowAt.lenN hK
  obtain ⟨aa, ac, rfl⟩ := AttrsAt.lenN hA
  unfold nodeV hasA
  dsimp only
  obtain ⟨w1, hw1⟩ : ∃ w1, w1 = (w.alloc (.cells #[.string ⟨nme.toArray⟩, .string ⟨tx.toArray⟩, .slice aa a.length ac, .int .i64 p, .slice ka ks.length kc] 43)).alloc (.cells #[.string ⟨nm.toArray⟩] 9) := ⟨_, rfl⟩
  have hB1 : Below w.heap.size w w1 := by rw [hw1]; exact ((Below.refl _ w).alloc (Nat.le_refl _) _).alloc (by simp) _
  have eg : ∀ args w, (callFunc 63 args).run Tryz.prog w = .ok (.enter 63 args) w := enters_of Tryz.func63 (by kernel_rfl) rfl
  have f0 : w1.cell? ⟨w.heap.size + 1, 0, none⟩ = some (.string ⟨nm.toArray⟩) := by
    have := World.cell?_alloc_new (w.alloc (.cells #[.string ⟨nme.toArray⟩, .string ⟨tx.toArray⟩, .slice aa a.length ac, .int .i64 p, .slice ka ks.length kc] 43)) #[.string ⟨nm.toArray⟩] 9 0
    rw [World.size_alloc] at this
    rw [hw1, this]; rfl
  have hI := contf_any 63 #[.pointer (some ⟨w.heap.size + 1, 0, none⟩)] eg nm _ a hn w1 (hA.below hB1)
    (pred_has nm (w.heap.size + 1) _ (lt_of_cell f0) f0)
  clear hA eg f0
  generalize (fval nm a).isSome = r at *
  go_enter Tryz.func42, Tryz.ntmps42
  go_wp2_with fail
  rw [← hw1]
  refine hI.mono ?_
  rintro e w' ⟨rfl, hb'⟩
  clear hI
  go_wp2_with fail
  go_ret
  exact ⟨rfl, below_trans hB1 hb'⟩

theorem fint_has (nm : List UInt8) (l : List Attr) : decide (0 ≤ fint nm l) = (fval nm l).isSome := by
  rcases fint_ways nm l with ⟨k, hk, h1, _, _, h4⟩ | ⟨h1, _, h3⟩
  · rw [h1, h4]; exact decide_eq_true (by omega)
  · rw [h1, h3]; rfl
set_option maxHeartbeats 1600000 in
set_option maxRecDepth 100000 in
theorem rhas15_any (n : Nd) (va vk : Value) (nm : List UInt8) (hn : n.attrs.length ≤ 140737488355328) (w : World) (hA : AttrsAt w va n.attrs) (hK : IntsAt w vk n.kids) :
    Calls Tryz.prog 19 #[nodeV n va vk, .string ⟨nm.toArray⟩] w fun e w' => e = .returned (.bool (hasA nm n.attrs)) ∧ Below w.heap.size w w' := by
  obtain ⟨nme, tx, a, p, ks⟩ := n
  dsimp only at hn hA hK
  obtain ⟨ka, kc, rfl⟩ := RowAt.lenN hK
  obtain ⟨aa, ac, rfl⟩ := AttrsAt.lenN hA
  unfold nodeV
  dsimp only
  have HE : Hid (hasA nm a = decide (0 ≤ fint nm a)) := Lib.hid (fint_has nm a).symm
  have hB1 : Below w.heap.size w (w.alloc (.cells #[.string ⟨nme.toArray⟩, .string ⟨tx.toArray⟩, .slice aa a.length ac, .int .i64 p, .slice ka ks.length kc] 43)) := (Below.refl _ w).alloc (Nat.le_refl _) _
  have hf := rfindN_any _ a nm hn _ (hA.below hB1)
  generalize fint nm a = fi at *
  generalize hasA nm a = r at *
  clear hA
  go_enter Tryz.func19, Tryz.ntmps19
  go_wp2_with fail
  refine hf.mono ?_
  rintro e w' ⟨rfl, rfl⟩
  clear hf
  go_wp2_with fail
  go_ret
  exact ⟨ret_bool HE.out.symm, hB1⟩

set_option maxHeartbeats 1600000 in
set_option maxRecDepth 100000 in
theorem is_any (v : Value) (l : List Nd) (k kind : Int) (hL : LFine l) (w : World) (hA : NodesAt w v l) :
    Calls Tryz.prog 38 #[v, .int .i64 k, .int .i64 kind] w fun e w' => e = .returned (.bool (isP l k kind)) ∧ Below w.heap.size w w' := by
  have hr := fun w' (h : Below w.heap.size w w') => right_any v l hL w' (hA.below h)
  have HP : Hid (isP l k kind = (decide (0 ≤ k) && decide (k < (l.length : Int)) && (kN l k == kind) && rightB l)) := Lib.hid rfl
  have hlen := hL.len
  by_cases g0 : 0 ≤ k
  case neg =>
    have HX : Hid (isP l k kind = false) := Lib.hid (by rw [HP.out, decide_eq_false g0]; rfl)
    obtain ⟨oa, cap, rfl⟩ := NodesAt.lenN hA
    generalize isP l k kind = r at *
    clear hA hr HP hL
    go_enter Tryz.func38, Tryz.ntmps38
    go_wp2_with fail
    go_ret
    exact ⟨ret_bool HX.out.symm, Below.refl _ _⟩
  by_cases g1 : k < (l.length : Int)
  case neg =>
    have HX : Hid (isP l k kind = false) := Lib.hid (by rw [HP.out, decide_eq_false g1, Bool.and_false]; rfl)
    obtain ⟨oa, cap, rfl⟩ := NodesAt.lenN hA
    generalize isP l k kind = r at *
    clear hA hr HP hL
    go_enter Tryz.func38, Tryz.ntmps38
    go_wp2_with fail
    go_ret
    exact ⟨ret_bool HX.out.symm, Below.refl _ _⟩
  obtain ⟨kn, rfl⟩ : ∃ kn : Nat, k = (kn : Int) := ⟨k.toNat, by omega⟩
  obtain ⟨b, off, cap, rfl, hb⟩ := nodes_addr hA (by omega)
  obtain ⟨va, vk, hn⟩ := nodes_get hA kn (by omega)
  have hof := of_any (nd l (kn : Int)) va vk (hL.nd _ g0 g1) w hn.attrs hn.kids
  unfold nodeV at hof
  have HK : Hid (kindP (nd l (kn : Int)).name (nd l (kn : Int)).attrs = kN l (kn : Int)) := Lib.hid rfl
  have HP2 : Hid (isP l (kn : Int) kind = ((kN l (kn : Int) == kind) && rightB l)) := Lib.hid (by rw [HP.out, decide_eq_true g0, decide_eq_true g1]; rfl)
  rw [HK.out] at hof
  obtain ⟨c0, c1, c2, c3, c4, _, _, _⟩ := hn
  generalize isP l (kn : Int) kind = r at *
  generalize kN l (kn : Int) = kd at *
  generalize rightB l = rb at *
  generalize nd l (kn : Int) = n at *
  clear HP hA hL
  by_cases g2 : kd = kind
  · subst g2
    have HX : Hid (r = rb) := Lib.hid (by rw [HP2.out]; simp)
    go_enter Tryz.func38, Tryz.ntmps38
    go_wp2_with fail
    refine hof.mono ?_
    rintro e w1 ⟨rfl, hb1⟩
    have hr1 := hr w1 hb1
    clear hr hof c0 c1 c2 c3 c4
    go_wp2_with fail
    refine hr1.mono ?_
    rintro e w2 ⟨rfl, hb2⟩
    go_wp2_with fail
    go_ret
    exact ⟨ret_bool HX.out.symm, below_trans hb1 hb2⟩
  · have gb : (kd == kind) = false := by simpa using g2
    have HX : Hid (r = false) := Lib.hid (by rw [HP2.out, gb]; rfl)
    clear hr g2
    go_enter Tryz.func38, Tryz.ntmps38
    go_wp2_with fail
    refine hof.mono ?_
    rintro e w1 ⟨rfl, hb1⟩
    go_wp2_with fail
    go_ret
    exact ⟨ret_bool HX.out.symm, hb1⟩

set_option maxHeartbeats 1600000 in
set_option maxRecDepth 100000 in
theorem ris_any (v : Value) (l : List Nd) (k kind : Int) (hL : LFine l) (w : World) (hA : NodesAt w v l) :
    Calls Tryz.prog 18 #[v, .int .i64 k, .int .i64 kind] w fun e w' => e = .returned (.bool (isP l k kind)) ∧ Below w.heap.size w w' := by
  have hh := rhas_any v l k hL w hA
  have HP : Hid (isP l k kind = (decide (0 ≤ k) && decide (k < (l.length : Int)) && (kN l k == kind) && rightB l)) := Lib.hid rfl
  obtain ⟨q, hq⟩ : ∃ q, q = (decide (0 ≤ k) && decide (k < (l.length : Int)) && rightB l) := ⟨_, rfl⟩
  rw [← hq] at hh
  cases q
  · have HX : Hid (isP l k kind = false) := Lib.hid (by
      rw [HP.out]
      revert hq
      generalize decide (0 ≤ k) = a
      generalize decide (k < (l.length : Int)) = b
      generalize rightB l = c
      generalize (kN l k == kind) = d
      cases a <;> cases b <;> cases c <;> cases d <;> simp)
    obtain ⟨oa, cap, rfl⟩ := NodesAt.lenN hA
    generalize isP l k kind = r at *
    clear hA HP hL hq
    go_enter Tryz.func18, Tryz.ntmps18
    go_wp2_with fail
    refine hh.mono ?_
    rintro e w1 ⟨rfl, hb1⟩
    go_wp2_with fail
    go_ret
    exact ⟨ret_bool HX.out.symm, hb1⟩
  · have hq2 : 0 ≤ k ∧ k < (l.length : Int) ∧ rightB l = true := by
      have := hq.symm
      simp only [Bool.and_eq_true, decide_eq_true_eq] at this
      exact ⟨this.1.1, this.1.2, this.2⟩
    obtain ⟨g0, g1, g2⟩ := hq2
    have HP2 : Hid (isP l k kind = (kN l k == kind)) := Lib.hid (by rw [HP.out, decide_eq_true g0, decide_eq_true g1, g2]; simp)
    obtain ⟨kn, rfl⟩ : ∃ kn : Nat, k = (kn : Int) := ⟨k.toNat, by omega⟩
    obtain ⟨b, off, cap, rfl, hb⟩ := nodes_addr hA (by omega)
    have HN := Lib.hid (fun w' (h : Below w.heap.size w w') => nodes_get (hA.below h) kn (by omega))
    have hfn := hL.nd _ g0 g1
    have HOf := Lib.hid (fun w' va vk h1 h2 => rof_any (nd l (kn : Int)) va vk hfn w' h1 h2)
    have HK : Hid (kindP (nd l (kn : Int)).name (nd l (kn : Int)).attrs = kN l (kn : Int)) := Lib.hid rfl
    rw [HK.out] at HOf
    generalize isP l (kn : Int) kind = r at *
    generalize kN l (kn : Int) = kd at *
    have hlen := hL.len
    clear hA hL hfn HP hq g2
    go_enter Tryz.func18, Tryz.ntmps18
    go_wp2_with fail
    refine hh.mono ?_
    rintro e w1 ⟨rfl, hb1⟩
    clear hh
    obtain ⟨va, vk, hn⟩ := HN.out w1 hb1
    have hof := HOf.out w1 va vk hn.attrs hn.kids
    unfold nodeV at hof
    obtain ⟨c0, c1, c2, c3, c4, _, _, _⟩ := hn
    generalize nd l (kn : Int) = n at *
    go_wp2_with fail
    refine hof.mono ?_
    rintro e w2 ⟨rfl, hb2⟩
    go_wp2_with fail
    go_ret
    exact ⟨ret_bool HP2.out.symm, below_trans hb1 hb2⟩
end Go.Proofs.YtoajgfhcongocaaGreatDoor.doc

namespace Go.Proofs.YtoajgfhcongocaaGreatDoor.doc
open Go.ChangeShapes Go.WideShapes Go.ChangeAt Go.RowKit Go.Lib Go.Proofs.YtoajgfhcongocaaGreatDoor.atr Go.Proofs.YtoajgfhcongocaaGreatDoor.link

theorem kN_group (l : List Nd) (k : Int) : kN l k = 33 ↔ (nd l k).name = nOptgroup := kind_optgroup _ _
theorem kN_select (l : List Nd) (k : Int) : kN l k = 23 ↔ (nd l k).name = nSelect := kind_is_select _ _
theorem kN_option (l : List Nd) (k : Int) : kN l k = 32 ↔ (nd l k).name = nOption := kind_option _ _
/-- up from a node, past a group -/
theorem upP_neg (l : List Nd) (o : Int) (h : (nd l o).parent < 0) : upP l o = (nd l o).parent := by unfold upP; rw [if_neg (by omega)]
theorem upP_yes (l : List Nd) (o : Int) (h : 0 ≤ (nd l o).parent) (g : (nd l (nd l o).parent).name = nOptgroup) : upP l o = (nd l (nd l o).parent).parent := by unfold upP; rw [if_pos ⟨h, g⟩]
theorem upP_no (l : List Nd) (o : Int) (g : (nd l (nd l o).parent).name ≠ nOptgroup) : upP l o = (nd l o).parent := by unfold upP; rw [if_neg (fun h => g h.2)]
theorem own_yes (l : List Nd) (o : Int) (h : 0 ≤ upP l o) (g : (nd l (upP l o)).name = nSelect) : ownerP l o = upP l o := by unfold ownerP; rw [if_neg (by rintro (h2 | h2); omega; exact h2 g)]
theorem own_no (l : List Nd) (o : Int) (g : upP l o < 0 ∨ (nd l (upP l o)).name ≠ nSelect) : ownerP l o = -1 := by unfold ownerP; rw [if_pos g]

set_option maxHeartbeats 3200000 in
set_option maxRecDepth 100000 in
theorem owner_any (v : Value) (l : List Nd) (hL : LFine l) (hR : rightB l = true) (k : Nat) (hk : k < l.length) (w : World) (hA : NodesAt w v l) :
    Calls Tryz.prog 39 #[v, .int .i64 k] w fun e w' => e = .returned (.int .i64 (ownerP l (k : Int))) ∧ Below w.heap.size w w' := by
  have hRt := right_rt l hR
  have hf := hRt.few
  obtain ⟨b, off, cap, rfl, hb⟩ := nodes_addr hA (by omega)
  have HN := Lib.hid (fun w' (h : Below w.heap.size w w') j hj => nodes_get (hA.below h) j hj)
  have HOf := Lib.hid (fun w' (j : Nat) (hj : j < l.length) va vk h1 h2 => of_any (nd l (j : Int)) va vk (hL.nd _ (by omega) (by omega)) w' h1 h2)
  have HK : Hid (∀ j : Nat, kindP (nd l (j : Int)).name (nd l (j : Int)).attrs = kN l (j : Int)) := Lib.hid (fun j => rfl)
  have HP := Lib.hid (fun (j : Nat) (hj : j < l.length) => hRt.par (j : Int) ⟨by omega, by omega⟩)
  have hpk := HP.out k hk
  obtain ⟨vak, vkk, hnk⟩ := HN.out w (Below.refl _ _) k hk
  have d3 := hnk.c3
  have U1 := Lib.hid (upP_neg l (k : Int))
  have U2 := Lib.hid (upP_yes l (k : Int))
  have U3 := Lib.hid (upP_no l (k : Int))
  have O1 := Lib.hid (own_yes l (k : Int))
  have O2 := Lib.hid (own_no l (k : Int))
  have GK := Lib.hid (fun j => kN_group l j)
  have SK := Lib.hid (fun j => kN_select l j)
  have h0 : (0 : Int) ≤ (k : Int) := by omega
  have hk' : (k : Int) < (l.length : Int) := by omega
  generalize ownerP l (k : Int) = res at *
  generalize upP l (k : Int) = up at *
  generalize (nd l (k : Int)).parent = p at *
  clear hnk hRt hR hL hA
  go_enter Tryz.func39, Tryz.ntmps39
  go_upto_region 2 with fail
  clear d3
  go_cut [20] (fun s20 wx => ∃ q, s20 = .bool q ∧ Hid (q = true ↔ 0 ≤ p ∧ kN l p = 33) ∧ Below w.heap.size w wx)
  case first =>
    by_cases g : 0 ≤ p
    · obtain ⟨pn, rfl⟩ : ∃ pn : Nat, p = (pn : Int) := ⟨p.toNat, by omega⟩
      obtain ⟨va, vk, hn⟩ := HN.out w (Below.refl _ _) pn (by omega)
      have hof := HOf.out w pn (by omega) va vk hn.attrs hn.kids
      rw [HK.out] at hof
      unfold nodeV at hof
      obtain ⟨c0, c1, c2, c3, c4, _, _, _⟩ := hn
      generalize nd l (pn : Int) = n at *
      by_cases g3 : kN l (pn : Int) = 33
      · have gb : (kN l (pn : Int) == 33) = true := by simp [g3]
        have HQ : Hid (true = true ↔ 0 ≤ (pn : Int) ∧ kN l (pn : Int) = 33) := Lib.hid ⟨fun _ => ⟨g, g3⟩, fun _ => rfl⟩
        generalize kN l (pn : Int) = kd at *
        clear g3
        go_wp2_with fail
        refine hof.mono ?_
        rintro e w1 ⟨rfl, hb1⟩
        go_wp2_with fail
        go_meet
        exact ⟨_, rfl, Lib.hid (by have := HQ.out; simpa using this), hb1⟩
      · have gb : (kN l (pn : Int) == 33) = false := by simpa using g3
        have HQ : Hid (false = true ↔ 0 ≤ (pn : Int) ∧ kN l (pn : Int) = 33) := Lib.hid ⟨fun h => (by cases h), fun h => absurd h.2 g3⟩
        generalize kN l (pn : Int) = kd at *
        clear g3
        go_wp2_with fail
        refine hof.mono ?_
        rintro e w1 ⟨rfl, hb1⟩
        go_wp2_with fail
        go_meet
        exact ⟨_, rfl, Lib.hid (by have := HQ.out; simpa using this), hb1⟩
    · go_wp2_with fail
      go_meet
      exact ⟨_, rfl, Lib.hid ⟨fun h => (by cases h), fun h => (by omega)⟩, Below.refl _ _⟩
  case rest =>
  obtain ⟨q, rfl, hq, hb1⟩ := hcut
  have HUp : Hid (-1 ≤ up ∧ up < (l.length : Int)) := Lib.hid (by
    by_cases g : p < 0
    · rw [U1.out g]; exact hpk
    · by_cases g2 : (nd l p).name = nOptgroup
      · rw [U2.out (by omega) g2]
        have := HP.out p.toNat (by omega)
        rwa [show ((p.toNat : Nat) : Int) = p from by omega] at this
      · rw [U3.out g2]; exact hpk)
  go_upto_if 20 with fail
  go_cut [5] (fun s5 wx => s5 = .int .i64 up ∧ wx = wc)
  case first =>
    cases q
    · have HX : Hid (p = up) := Lib.hid (by
        by_cases g : p < 0
        · exact (U1.out g).symm
        · refine (U3.out (fun g2 => ?_)).symm
          have := hq.out.2 ⟨by omega, (GK.out p).2 g2⟩
          cases this)
      go_wp2_with fail
      go_meet
      exact ⟨by rw [HX.out], rfl⟩
    · have hq2 := hq.out.1 rfl
      obtain ⟨pn, rfl⟩ : ∃ pn : Nat, p = (pn : Int) := ⟨p.toNat, by omega⟩
      have HX : Hid (up = (nd l (pn : Int)).parent) := Lib.hid (U2.out hq2.1 ((GK.out _).1 hq2.2))
      obtain ⟨va, vk, hn⟩ := HN.out wc hb1 pn (by omega)
      have c3 := hn.c3
      have h0p := hq2.1
      clear hn hq2
      generalize (nd l (pn : Int)).parent = pp at *
      go_wp2_with fail
      go_meet
      exact ⟨by rw [HX.out], rfl⟩
  case rest =>
  obtain ⟨rfl, rfl⟩ := hcut
  have hup := HUp.out
  clear hq
  go_upto_region 4 with fail
  go_cut [35] (fun s35 wx => ∃ q, s35 = .bool q ∧ Hid (q = true ↔ (up < 0 ∨ kN l up ≠ 23)) ∧ Below w.heap.size w wx)
  case first =>
    by_cases g : up < 0
    · go_wp2_with fail
      go_meet
      exact ⟨_, rfl, Lib.hid ⟨fun _ => .inl g, fun _ => rfl⟩, hb1⟩
    · obtain ⟨pn, rfl⟩ : ∃ pn : Nat, up = (pn : Int) := ⟨up.toNat, by omega⟩
      obtain ⟨va, vk, hn⟩ := HN.out wc hb1 pn (by omega)
      have hof := HOf.out wc pn (by omega) va vk hn.attrs hn.kids
      rw [HK.out] at hof
      unfold nodeV at hof
      obtain ⟨c0, c1, c2, c3, c4, _, _, _⟩ := hn
      generalize nd l (pn : Int) = n at *
      by_cases g3 : kN l (pn : Int) = 23
      · have gb : (kN l (pn : Int) != 23) = false := by simp [g3]
        have HQ : Hid (false = true ↔ ((pn : Int) < 0 ∨ kN l (pn : Int) ≠ 23)) := Lib.hid ⟨fun h => (by cases h), fun h => (by rcases h with h | h; omega; exact absurd g3 h)⟩
        generalize kN l (pn : Int) = kd at *
        clear g3
        go_wp2_with fail
        refine hof.mono ?_
        rintro e w1 ⟨rfl, hb2⟩
        go_wp2_with fail
        go_meet
        exact ⟨_, rfl, Lib.hid (by have := HQ.out; simpa using this), below_trans hb1 hb2⟩
      · have gb : (kN l (pn : Int) != 23) = true := by simpa using g3
        have HQ : Hid (true = true ↔ ((pn : Int) < 0 ∨ kN l (pn : Int) ≠ 23)) := Lib.hid ⟨fun _ => .inr g3, fun _ => rfl⟩
        generalize kN l (pn : Int) = kd at *
        clear g3
        go_wp2_with fail
        refine hof.mono ?_
        rintro e w1 ⟨rfl, hb2⟩
        go_wp2_with fail
        go_meet
        exact ⟨_, rfl, Lib.hid (by have := HQ.out; simpa using this), below_trans hb1 hb2⟩
  case rest =>
  obtain ⟨q, rfl, hq, hb2⟩ := hcut
  cases q
  · have HX : Hid (res = up) := Lib.hid (by
      have g1 : ¬ up < 0 := fun g => by have := hq.out.2 (.inl g); cases this
      have g2 : kN l up = 23 := by
        by_cases g : kN l up = 23
        · exact g
        · have := hq.out.2 (.inr g); cases this
      exact O1.out (by omega) ((SK.out up).1 g2))
    go_wp2_with fail
    go_ret
    exact ⟨ret_int HX.out.symm, hb2⟩
  · have HX : Hid (res = -1) := Lib.hid (O2.out (by
      rcases hq.out.1 rfl with h | h
      · exact .inl h
      · exact .inr (fun e => h ((SK.out up).2 e))))
    go_wp2_with fail
    go_ret
    exact ⟨ret_int HX.out.symm, hb2⟩
set_option maxHeartbeats 3200000 in
set_option maxRecDepth 100000 in
theorem rowner_any (v : Value) (l : List Nd) (hR : rightB l = true) (k : Nat) (hk : k < l.length) (w : World) (hA : NodesAt w v l) :
    Calls Tryz.prog 44 #[v, .int .i64 k] w fun e w' => e = .returned (.int .i64 (ownerP l (k : Int))) ∧ Below w.heap.size w w' := by
  have hRt := right_rt l hR
  have hf := hRt.few
  obtain ⟨b, off, cap, rfl, hb⟩ := nodes_addr hA (by omega)
  have HN := Lib.hid (fun w' (h : Below w.heap.size w w') j hj => nodes_get (hA.below h) j hj)
  have HP := Lib.hid (fun (j : Nat) (hj : j < l.length) => hRt.par (j : Int) ⟨by omega, by omega⟩)
  have hpk := HP.out k hk
  obtain ⟨vak, vkk, hnk⟩ := HN.out w (Below.refl _ _) k hk
  have d3 := hnk.c3
  have U1 := Lib.hid (upP_neg l (k : Int))
  have U2 := Lib.hid (upP_yes l (k : Int))
  have U3 := Lib.hid (upP_no l (k : Int))
  have O1 := Lib.hid (own_yes l (k : Int))
  have O2 := Lib.hid (own_no l (k : Int))
  have h0 : (0 : Int) ≤ (k : Int) := by omega
  have hk' : (k : Int) < (l.length : Int) := by omega
  generalize ownerP l (k : Int) = res at *
  generalize upP l (k : Int) = up at *
  generalize (nd l (k : Int)).parent = p at *
  clear hnk hRt hR hA
  go_enter Tryz.func44, Tryz.ntmps44
  go_upto_region 2 with fail
  clear d3
  go_cut [20] (fun s20 wx => ∃ q, s20 = .bool q ∧ Hid (q = true ↔ 0 ≤ p ∧ (nd l p).name = nOptgroup) ∧ Below w.heap.size w wx)
  case first =>
    by_cases g : 0 ≤ p
    · obtain ⟨pn, rfl⟩ : ∃ pn : Nat, p = (pn : Int) := ⟨p.toNat, by omega⟩
      obtain ⟨va, vk, hn⟩ := HN.out w (Below.refl _ _) pn (by omega)
      have c0 := hn.c0
      have hq0 := lst_eq (nd l (pn : Int)).name [111, 112, 116, 103, 114, 111, 117, 112]
      clear hn
      by_cases g3 : (nd l (pn : Int)).name = nOptgroup
      · replace hq0 : ((nd l (pn : Int)).name == [111, 112, 116, 103, 114, 111, 117, 112]) = true := by rw [hq0]; exact decide_eq_true g3
        have HQ : Hid (true = true ↔ 0 ≤ (pn : Int) ∧ (nd l (pn : Int)).name = nOptgroup) := Lib.hid ⟨fun _ => ⟨g, g3⟩, fun _ => rfl⟩
        generalize (nd l (pn : Int)).name = kd at *
        clear g3
        go_wp2_with fail
        go_meet
        exact ⟨_, rfl, Lib.hid (by have := HQ.out; simpa using this), Below.refl _ _⟩
      · replace hq0 : ((nd l (pn : Int)).name == [111, 112, 116, 103, 114, 111, 117, 112]) = false := by rw [hq0]; exact decide_eq_false g3
        have HQ : Hid (false = true ↔ 0 ≤ (pn : Int) ∧ (nd l (pn : Int)).name = nOptgroup) := Lib.hid ⟨fun h => (by cases h), fun h => absurd h.2 g3⟩
        generalize (nd l (pn : Int)).name = kd at *
        clear g3
        go_wp2_with fail
        go_meet
        exact ⟨_, rfl, Lib.hid (by have := HQ.out; simpa using this), Below.refl _ _⟩
    · go_wp2_with fail
      go_meet
      exact ⟨_, rfl, Lib.hid ⟨fun h => (by cases h), fun h => (by omega)⟩, Below.refl _ _⟩
  case rest =>
  obtain ⟨q, rfl, hq, hb1⟩ := hcut
  have HUp : Hid (-1 ≤ up ∧ up < (l.length : Int)) := Lib.hid (by
    by_cases g : p < 0
    · rw [U1.out g]; exact hpk
    · by_cases g2 : (nd l p).name = nOptgroup
      · rw [U2.out (by omega) g2]
        have := HP.out p.toNat (by omega)
        rwa [show ((p.toNat : Nat) : Int) = p from by omega] at this
      · rw [U3.out g2]; exact hpk)
  go_upto_if 20 with fail
  go_cut [5] (fun s5 wx => s5 = .int .i64 up ∧ wx = wc)
  case first =>
    cases q
    · have HX : Hid (p = up) := Lib.hid (by
        by_cases g : p < 0
        · exact (U1.out g).symm
        · refine (U3.out (fun g2 => ?_)).symm
          have := hq.out.2 ⟨by omega, g2⟩
          cases this)
      go_wp2_with fail
      go_meet
      exact ⟨by rw [HX.out], rfl⟩
    · have hq2 := hq.out.1 rfl
      obtain ⟨pn, rfl⟩ : ∃ pn : Nat, p = (pn : Int) := ⟨p.toNat, by omega⟩
      have HX : Hid (up = (nd l (pn : Int)).parent) := Lib.hid (U2.out hq2.1 hq2.2)
      obtain ⟨va, vk, hn⟩ := HN.out wc hb1 pn (by omega)
      have c3 := hn.c3
      have h0p := hq2.1
      clear hn hq2
      generalize (nd l (pn : Int)).parent = pp at *
      go_wp2_with fail
      go_meet
      exact ⟨by rw [HX.out], rfl⟩
  case rest =>
  obtain ⟨rfl, rfl⟩ := hcut
  have hup := HUp.out
  clear hq
  go_upto_region 4 with fail
  go_cut [35] (fun s35 wx => ∃ q, s35 = .bool q ∧ Hid (q = true ↔ (up < 0 ∨ (nd l up).name ≠ nSelect)) ∧ Below w.heap.size w wx)
  case first =>
    by_cases g : up < 0
    · go_wp2_with fail
      go_meet
      exact ⟨_, rfl, Lib.hid ⟨fun _ => .inl g, fun _ => rfl⟩, hb1⟩
    · obtain ⟨pn, rfl⟩ : ∃ pn : Nat, up = (pn : Int) := ⟨up.toNat, by omega⟩
      obtain ⟨va, vk, hn⟩ := HN.out wc hb1 pn (by omega)
      have c0 := hn.c0
      have hq0 := lst_eq (nd l (pn : Int)).name [115, 101, 108, 101, 99, 116]
      clear hn
      by_cases g3 : (nd l (pn : Int)).name = nSelect
      · have hb0 : ((nd l (pn : Int)).name != [115, 101, 108, 101, 99, 116]) = false := by rw [bne, hq0]; simp; exact g3
        clear hq0
        have HQ : Hid (false = true ↔ ((pn : Int) < 0 ∨ (nd l (pn : Int)).name ≠ nSelect)) := Lib.hid ⟨fun h => (by cases h), fun h => (by rcases h with h | h; omega; exact absurd g3 h)⟩
        generalize (nd l (pn : Int)).name = kd at *
        clear g3
        go_wp2_with fail
        go_meet
        exact ⟨_, rfl, Lib.hid ⟨fun h => .inr (show ¬ kd = [115, 101, 108, 101, 99, 116] by simpa using h), fun h => by
          rcases h with h | h
          · omega
          · have h : ¬ kd = [115, 101, 108, 101, 99, 116] := h
            simpa using h⟩, hb1⟩
      · have hb0 : ((nd l (pn : Int)).name != [115, 101, 108, 101, 99, 116]) = true := by rw [bne, hq0]; simp; exact g3
        clear hq0
        have HQ : Hid (true = true ↔ ((pn : Int) < 0 ∨ (nd l (pn : Int)).name ≠ nSelect)) := Lib.hid ⟨fun _ => .inr g3, fun _ => rfl⟩
        generalize (nd l (pn : Int)).name = kd at *
        clear g3
        go_wp2_with fail
        go_meet
        exact ⟨_, rfl, Lib.hid ⟨fun h => .inr (show ¬ kd = [115, 101, 108, 101, 99, 116] by simpa using h), fun h => by
          rcases h with h | h
          · omega
          · have h : ¬ kd = [115, 101, 108, 101, 99, 116] := h
            simpa using h⟩, hb1⟩
  case rest =>
  obtain ⟨q, rfl, hq, hb2⟩ := hcut
  cases q
  · have HX : Hid (res = up) := Lib.hid (by
      have g1 : ¬ up < 0 := fun g => by have := hq.out.2 (.inl g); cases this
      have g2 : (nd l up).name = nSelect := by
        by_cases g : (nd l up).name = nSelect
        · exact g
        · have := hq.out.2 (.inr g); cases this
      exact O1.out (by omega) g2)
    go_wp2_with fail
    go_ret
    exact ⟨ret_int HX.out.symm, hb2⟩
  · have HX : Hid (res = -1) := Lib.hid (O2.out (by
      rcases hq.out.1 rfl with h | h
      · exact .inl h
      · exact .inr h))
    go_wp2_with fail
    go_ret
    exact ⟨ret_int HX.out.symm, hb2⟩
end Go.Proofs.YtoajgfhcongocaaGreatDoor.doc

namespace Go.Proofs.YtoajgfhcongocaaGreatDoor.doc
open Go.ChangeShapes Go.WideShapes Go.ChangeAt Go.RowKit Go.Lib Go.Proofs.YtoajgfhcongocaaGreatDoor.atr Go.Proofs.YtoajgfhcongocaaGreatDoor.link

theorem off_own (l : List Nd) (o : Int) (h : hasA nDisabled (nd l o).attrs = true) : offP l o = true := by unfold offP; rw [h]; rfl
theorem off_top (l : List Nd) (o : Int) (h : hasA nDisabled (nd l o).attrs = false) (g : (nd l o).parent < 0) : offP l o = false := by unfold offP; rw [h, decide_eq_false (by omega)]; rfl
theorem off_plain (l : List Nd) (o : Int) (h : hasA nDisabled (nd l o).attrs = false) (g : kN l (nd l o).parent ≠ 33) : offP l o = false := by
  unfold offP; rw [h, show (kN l (nd l o).parent == 33) = false from by simpa using g]; simp
theorem off_group (l : List Nd) (o : Int) (h : hasA nDisabled (nd l o).attrs = false) (g0 : 0 ≤ (nd l o).parent) (g : kN l (nd l o).parent = 33) : offP l o = hasA nDisabled (nd l (nd l o).parent).attrs := by
  unfold offP; rw [h, decide_eq_true g0, g]; rfl

set_option maxHeartbeats 3200000 in
set_option maxRecDepth 100000 in
theorem off_any (v : Value) (l : List Nd) (hL : LFine l) (hR : rightB l = true) (k : Nat) (hk : k < l.length) (w : World) (hA : NodesAt w v l) :
    Calls Tryz.prog 40 #[v, .int .i64 k] w fun e w' => e = .returned (.bool (offP l (k : Int))) ∧ Below w.heap.size w w' := by
  have hRt := right_rt l hR
  have hf := hRt.few
  obtain ⟨b, off, cap, rfl, hb⟩ := nodes_addr hA (by omega)
  have HN := Lib.hid (fun w' (h : Below w.heap.size w w') j hj => nodes_get (hA.below h) j hj)
  have HOf := Lib.hid (fun w' (j : Nat) (hj : j < l.length) va vk h1 h2 => of_any (nd l (j : Int)) va vk (hL.nd _ (by omega) (by omega)) w' h1 h2)
  have HHas := Lib.hid (fun w' (j : Nat) (hj : j < l.length) va vk h1 h2 => ohas_any (nd l (j : Int)) va vk nDisabled (hL.nd _ (by omega) (by omega)).attrs w' h1 h2)
  have HK : Hid (∀ j : Nat, kindP (nd l (j : Int)).name (nd l (j : Int)).attrs = kN l (j : Int)) := Lib.hid (fun j => rfl)
  have hpk := hRt.par (k : Int) ⟨by omega, by omega⟩
  obtain ⟨vak, vkk, hnk⟩ := HN.out w (Below.refl _ _) k hk
  have hhk := HHas.out w k hk vak vkk hnk.attrs hnk.kids
  unfold nodeV at hhk
  have F1 := Lib.hid (off_own l (k : Int))
  have F2 := Lib.hid (off_top l (k : Int))
  have F3 := Lib.hid (off_plain l (k : Int))
  have F4 := Lib.hid (off_group l (k : Int))
  have h0 : (0 : Int) ≤ (k : Int) := by omega
  have hk' : (k : Int) < (l.length : Int) := by omega
  obtain ⟨c0, c1, c2, c3, c4, _, _, _⟩ := hnk
  generalize offP l (k : Int) = res at *
  generalize hasA nDisabled (nd l (k : Int)).attrs = q1 at *
  generalize nd l (k : Int) = n at *
  obtain ⟨nme, tx, a, p, ks⟩ := n
  dsimp only at *
  clear hRt hR hL hA
  cases q1
  case true =>
    have HX := Lib.hid (F1.out rfl)
    clear F1 F2 F3 F4
    go_enter Tryz.func40, Tryz.ntmps40
    go_wp2_with fail
    refine hhk.mono ?_
    rintro e w1 ⟨rfl, hb1⟩
    go_wp2_with fail
    go_ret
    exact ⟨ret_bool HX.out.symm, hb1⟩
  by_cases g : p < 0
  · have HX := Lib.hid (F2.out rfl g)
    clear F1 F2 F3 F4
    go_enter Tryz.func40, Tryz.ntmps40
    go_wp2_with fail
    refine hhk.mono ?_
    rintro e w1 ⟨rfl, hb1⟩
    go_wp2_with fail
    go_ret
    exact ⟨ret_bool HX.out.symm, hb1⟩
  obtain ⟨pn, rfl⟩ : ∃ pn : Nat, p = (pn : Int) := ⟨p.toNat, by omega⟩
  go_enter Tryz.func40, Tryz.ntmps40
  go_wp2_with fail
  refine hhk.mono ?_
  rintro e w1 ⟨rfl, hb1⟩
  clear c0 c1 c2 c3 c4 hhk
  obtain ⟨vap, vkp, hnp⟩ := HN.out w1 hb1 pn (by omega)
  have hof := HOf.out w1 pn (by omega) vap vkp hnp.attrs hnp.kids
  rw [HK.out] at hof
  unfold nodeV at hof
  have HNp := Lib.hid hnp
  obtain ⟨c0, c1, c2, c3, c4, _, _, _⟩ := hnp
  have g0 : (0 : Int) ≤ (pn : Int) := by omega
  by_cases g3 : kN l (pn : Int) = 33
  · have HX := Lib.hid (F4.out (by first | rfl | trivial) g0 g3)
    rw [g3] at hof
    clear F1 F2 F3 F4 g3
    go_wp2_with fail
    refine hof.mono ?_
    rintro e w2 ⟨rfl, hb2⟩
    have hn2 := HNp.out.below hb2
    have hh2 := HHas.out w2 pn (by omega) vap vkp hn2.attrs hn2.kids
    unfold nodeV at hh2
    clear c0 c1 c2 c3 c4 hof
    obtain ⟨c0, c1, c2, c3, c4, _, _, _⟩ := hn2
    generalize hasA nDisabled (nd l (pn : Int)).attrs = q2 at *
    generalize nd l (pn : Int) = n2 at *
    go_wp2_with fail
    refine hh2.mono ?_
    rintro e w3 ⟨rfl, hb3⟩
    go_wp2_with fail
    go_ret
    exact ⟨ret_bool HX.out.symm, below_trans hb1 (below_trans hb2 hb3)⟩
  · have HX := Lib.hid (F3.out (by first | rfl | trivial) g3)
    have gb : (kN l (pn : Int) == 33) = false := by simpa using g3
    generalize kN l (pn : Int) = kd at *
    generalize nd l (pn : Int) = n2 at *
    clear F1 F2 F3 F4 g3
    go_wp2_with fail
    refine hof.mono ?_
    rintro e w2 ⟨rfl, hb2⟩
    go_wp2_with fail
    go_ret
    exact ⟨ret_bool HX.out.symm, below_trans hb1 hb2⟩

set_option maxHeartbeats 1600000 in
set_option maxRecDepth 100000 in
theorem offU_any (v : Value) (l : List Nd) (hL : LFine l) (k : Int) (w : World) (hA : NodesAt w v l) :
    Calls Tryz.prog 31 #[v, .int .i64 k] w fun e w' => e = .returned (.bool (OffP l k)) ∧ Below w.heap.size w w' := by
  have hi := is_any v l k 32 hL w hA
  have HP : Hid (OffP l k = (isP l k 32 && offP l k)) := Lib.hid rfl
  cases hq : isP l k 32
  · rw [hq] at hi HP
    have HX : Hid (OffP l k = false) := Lib.hid HP.out
    obtain ⟨oa, cap, rfl⟩ := NodesAt.lenN hA
    generalize OffP l k = r at *
    clear hA hq HP hL
    go_enter Tryz.func31, Tryz.ntmps31
    go_wp2_with fail
    refine hi.mono ?_
    rintro e w1 ⟨rfl, hb1⟩
    go_wp2_with fail
    go_ret
    exact ⟨ret_bool HX.out.symm, hb1⟩
  · obtain ⟨⟨h0, h1⟩, _, h3⟩ := (isP_iff l k 32).1 hq
    rw [hq] at hi HP
    have HX : Hid (OffP l k = offP l k) := Lib.hid HP.out
    obtain ⟨kn, rfl⟩ : ∃ kn : Nat, k = (kn : Int) := ⟨k.toNat, by omega⟩
    have HO := Lib.hid (fun w' (h : Below w.heap.size w w') => off_any v l hL h3 kn (by omega) w' (hA.below h))
    obtain ⟨oa, cap, rfl⟩ := NodesAt.lenN hA
    generalize OffP l (kn : Int) = r at *
    generalize offP l (kn : Int) = r2 at *
    clear hA hq HP hL h3
    go_enter Tryz.func31, Tryz.ntmps31
    go_wp2_with fail
    refine hi.mono ?_
    rintro e w1 ⟨rfl, hb1⟩
    have ho := HO.out w1 hb1
    clear hi
    go_wp2_with fail
    refine ho.mono ?_
    rintro e w2 ⟨rfl, hb2⟩
    go_wp2_with fail
    go_ret
    exact ⟨ret_bool HX.out.symm, below_trans hb1 hb2⟩

set_option maxHeartbeats 3200000 in
set_option maxRecDepth 100000 in
theorem roff_any (v : Value) (l : List Nd) (hL : LFine l) (k : Int) (w : World) (hA : NodesAt w v l) :
    Calls Tryz.prog 21 #[v, .int .i64 k] w fun e w' => e = .returned (.bool (OffP l k)) ∧ Below w.heap.size w w' := by
  have hi := ris_any v l k 32 hL w hA
  have HP : Hid (OffP l k = (isP l k 32 && offP l k)) := Lib.hid rfl
  cases hq : isP l k 32
  · rw [hq] at hi HP
    have HX : Hid (OffP l k = false) := Lib.hid HP.out
    obtain ⟨oa, cap, rfl⟩ := NodesAt.lenN hA
    generalize OffP l k = r at *
    clear hA hq HP hL
    go_enter Tryz.func21, Tryz.ntmps21
    go_wp2_with fail
    refine hi.mono ?_
    rintro e w1 ⟨rfl, hb1⟩
    go_wp2_with fail
    go_ret
    exact ⟨ret_bool HX.out.symm, hb1⟩
  · obtain ⟨⟨h0, h1⟩, _, hR⟩ := (isP_iff l k 32).1 hq
    rw [hq] at hi HP
    have HX : Hid (OffP l k = offP l k) := Lib.hid HP.out
    obtain ⟨kn, rfl⟩ : ∃ kn : Nat, k = (kn : Int) := ⟨k.toNat, by omega⟩
    have hRt := right_rt l hR
    have hf := hRt.few
    obtain ⟨b, off, cap, rfl, hb⟩ := nodes_addr hA (by omega)
    have HN := Lib.hid (fun w' (h : Below w.heap.size w w') j hj => nodes_get (hA.below h) j hj)
    have HHas := Lib.hid (fun w' (j : Nat) (hj : j < l.length) va vk h1 h2 => rhas15_any (nd l (j : Int)) va vk nDisabled (hL.nd _ (by omega) (by omega)).attrs w' h1 h2)
    have hpk := hRt.par (kn : Int) ⟨by omega, by omega⟩
    have F1 := Lib.hid (off_own l (kn : Int))
    have F2 := Lib.hid (off_top l (kn : Int))
    have F3 := Lib.hid (off_plain l (kn : Int))
    have F4 := Lib.hid (off_group l (kn : Int))
    have GK := Lib.hid (fun j => kN_group l j)
    generalize OffP l (kn : Int) = r at *
    generalize offP l (kn : Int) = r2 at *
    obtain ⟨q1, hq1⟩ : ∃ q, q = hasA nDisabled (nd l (kn : Int)).attrs := ⟨_, rfl⟩
    have HQ1 := Lib.hid hq1
    rw [← hq1] at F1 F2 F3 F4
    obtain ⟨p, hp⟩ : ∃ p, p = (nd l (kn : Int)).parent := ⟨_, rfl⟩
    have HPp := Lib.hid hp
    rw [← hp] at F2 F3 F4 hpk
    clear hA hq HP hL hR hRt hq1 hp
    go_enter Tryz.func21, Tryz.ntmps21
    go_wp2_with fail
    refine hi.mono ?_
    rintro e w1 ⟨rfl, hb1⟩
    clear hi
    obtain ⟨va, vk, hn⟩ := HN.out w1 hb1 kn (by omega)
    have hhk := HHas.out w1 kn (by omega) va vk hn.attrs hn.kids
    rw [← HQ1.out] at hhk
    unfold nodeV at hhk
    obtain ⟨c0, c1, c2, c3, c4, _, _, _⟩ := hn
    rw [← HPp.out] at c3 hhk
    generalize nd l (kn : Int) = n at *
    cases q1
    case true =>
      have HY : Hid (r = true) := Lib.hid (by rw [HX.out]; exact F1.out rfl)
      clear F1 F2 F3 F4
      go_wp2_with fail
      refine hhk.mono ?_
      rintro e w2 ⟨rfl, hb2⟩
      go_wp2_with fail
      go_ret
      exact ⟨ret_bool HY.out.symm, below_trans hb1 hb2⟩
    by_cases g : p < 0
    · have HY : Hid (r = false) := Lib.hid (by rw [HX.out]; exact F2.out rfl g)
      clear F1 F2 F3 F4
      go_wp2_with fail
      refine hhk.mono ?_
      rintro e w2 ⟨rfl, hb2⟩
      go_wp2_with fail
      go_ret
      exact ⟨ret_bool HY.out.symm, below_trans hb1 hb2⟩
    obtain ⟨pn, rfl⟩ : ∃ pn : Nat, p = (pn : Int) := ⟨p.toNat, by omega⟩
    go_wp2_with fail
    refine hhk.mono ?_
    rintro e w2 ⟨rfl, hb2⟩
    have hb12 := below_trans hb1 hb2
    clear c0 c1 c2 c3 c4 hhk
    obtain ⟨vap, vkp, hnp⟩ := HN.out w2 hb12 pn (by omega)
    have hhp := HHas.out w2 pn (by omega) vap vkp hnp.attrs hnp.kids
    unfold nodeV at hhp
    obtain ⟨c0, c1, c2, c3, c4, _, _, _⟩ := hnp
    have g0 : (0 : Int) ≤ (pn : Int) := by omega
    have hq0 := lst_eq (nd l (pn : Int)).name [111, 112, 116, 103, 114, 111, 117, 112]
    by_cases g3 : (nd l (pn : Int)).name = nOptgroup
    · have HY : Hid (r = hasA nDisabled (nd l (pn : Int)).attrs) := Lib.hid (by rw [HX.out]; exact F4.out (by first | rfl | trivial) g0 ((GK.out _).2 g3))
      replace hq0 : ((nd l (pn : Int)).name == [111, 112, 116, 103, 114, 111, 117, 112]) = true := by rw [hq0]; exact decide_eq_true g3
      generalize hasA nDisabled (nd l (pn : Int)).attrs = q2 at *
      generalize nd l (pn : Int) = n2 at *
      clear F1 F2 F3 F4 g3
      go_wp2_with fail
      refine hhp.mono ?_
      rintro e w3 ⟨rfl, hb3⟩
      go_wp2_with fail
      go_ret
      exact ⟨ret_bool HY.out.symm, below_trans hb12 hb3⟩
    · have HY : Hid (r = false) := Lib.hid (by rw [HX.out]; exact F3.out (by first | rfl | trivial) (fun e => g3 ((GK.out _).1 e)))
      replace hq0 : ((nd l (pn : Int)).name == [111, 112, 116, 103, 114, 111, 117, 112]) = false := by rw [hq0]; exact decide_eq_false g3
      generalize nd l (pn : Int) = n2 at *
      clear F1 F2 F3 F4 g3 hhp
      go_wp2_with fail
      go_ret
      exact ⟨ret_bool HY.out.symm, hb12⟩
end Go.Proofs.YtoajgfhcongocaaGreatDoor.doc
