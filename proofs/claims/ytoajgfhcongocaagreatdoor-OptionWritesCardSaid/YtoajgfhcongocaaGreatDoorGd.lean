/- A node and what is within it, in order: each once; by a list of those that are to be gone to: plain. The contracts of the reference's Text, and of tree.Text: in a right document. The contract of the reference's Order. The contract of the reference's Copied of nodes. The copy is the document again. The contract of SameInts, at equal ones. -/
import Derived.Test.YtoajgfhcongocaaGreatDoorZRightW
import Derived.Test.YtoajgfhcongocaaGreatDoorGa
import Derived.Deep.AppendLies
import Derived.Deep.RegionHeld
import Derived.RegionTactic
import Derived.Deep.RegionLaw
import Derived.RangeFuncBox
import Derived.Deep.RegionLawGrows
import Derived.Test.YtoajgfhcongocaaGreatDoorGc
namespace Go.Proofs.YtoajgfhcongocaaGreatDoor.doc

theorem climb_add (l : List Nd) : ∀ (m n : Nat) (k : Int), climb l (m + n) k = climb l n (climb l m k) := by
  intro m
  induction m with
  | zero => intro n k; rw [Nat.zero_add]; rfl
  | succ m ih =>
    intro n k
    rw [show m + 1 + n = (m + n) + 1 from by omega, climb_step, climb_step]
    by_cases h : k < 0
    · rw [if_pos h, if_pos h, climb_neg l n k h]
    · rw [if_neg h, if_neg h, ih]
theorem ord_anc {l : List Nd} (h : Rt l) : ∀ k, inR l k → ∀ x ∈ ordP l k, climb l (dep l x - dep l k) x = k := by
  refine by_depth h (fun k => ∀ x ∈ ordP l k, climb l (dep l x - dep l k) x = k) ?_
  intro k hk ih x hx
  rw [ord_eq h k hk] at hx
  rcases List.mem_cons.1 hx with rfl | hx
  · rw [Nat.sub_self]; rfl
  · obtain ⟨c, hc, hx⟩ := List.mem_flatMap.1 hx
    obtain ⟨c1, c2⟩ := h.kid k c hk hc
    have hd := dep_kid h c c1
    rw [c2] at hd
    have hx2 := (ord_in h c c1 x hx).2
    have e := ih c hc x hx
    rw [show dep l x - dep l k = (dep l x - dep l c) + 1 from by omega, climb_add, e, climb_step, if_neg (by have := c1.1; omega), c2]; rfl
theorem ord_nodup {l : List Nd} (h : Rt l) : ∀ k, inR l k → (ordP l k).Nodup := by
  refine by_depth h (fun k => (ordP l k).Nodup) ?_
  intro k hk ih
  rw [ord_eq h k hk, List.nodup_cons]
  refine ⟨?_, flat_nodup _ _ (kids_nodup h k hk) ih ?_⟩
  · intro hx
    obtain ⟨c, hc, hx⟩ := List.mem_flatMap.1 hx
    obtain ⟨c1, c2⟩ := h.kid k c hk hc
    have hd := dep_kid h c c1
    rw [c2] at hd
    have := (ord_in h c c1 k hx).2
    omega
  · intro x hx y hy hxy z hz hw
    obtain ⟨x1, x2⟩ := h.kid k x hk hx
    obtain ⟨y1, y2⟩ := h.kid k y hk hy
    have dx := dep_kid h x x1
    have dy := dep_kid h y y1
    rw [x2] at dx
    rw [y2] at dy
    have e1 := ord_anc h x x1 z hz
    have e2 := ord_anc h y y1 z hw
    rw [show dep l y = dep l x from by omega] at e2
    exact hxy (e1.symm.trans e2)
theorem ord_le {l : List Nd} (h : Rt l) (k : Int) (hk : inR l k) : (ordP l k).length ≤ l.length :=
  seen_le l _ (ord_nodup h k hk) (fun x hx => (ord_in h k hk x hx).1)
theorem ord_pos {l : List Nd} (h : Rt l) (k : Int) (hk : inR l k) : 1 ≤ (ordP l k).length := by rw [ord_eq h k hk, List.length_cons]; omega
theorem flat_ge {l : List Nd} (h : Rt l) : ∀ (st : List Int), (∀ c ∈ st, inR l c) → st.length ≤ (st.flatMap (ordP l)).length := by
  intro st
  induction st with
  | nil => intro _; exact Nat.zero_le _
  | cons c r ih =>
    intro hc
    have h1 := ih (fun x hx => hc x (List.mem_cons_of_mem _ hx))
    have h2 := ord_pos h c (hc c List.mem_cons_self)
    rw [List.flatMap_cons, List.length_append, List.length_cons]
    omega
/-- what is out, and what is to be gone to -/
structure St (l : List Nd) (id : Int) (out st : List Int) : Prop where
  sum : out ++ st.reverse.flatMap (ordP l) = ordP l id
  inr : ∀ c ∈ st, inR l c
theorem St.start {l : List Nd} (id : Int) (hi : inR l id) : St l id [] [id] := ⟨by simp, fun c hc => by rw [List.mem_singleton] at hc; rw [hc]; exact hi⟩
theorem St.le {l : List Nd} (h : Rt l) {id : Int} (hi : inR l id) {out st : List Int} (hs : St l id out st) : out.length + st.length ≤ l.length := by
  have h1 := ord_le h id hi
  have h2 := flat_ge h st.reverse (fun c hc => hs.inr c (List.mem_reverse.1 hc))
  have h3 := congrArg List.length hs.sum
  rw [List.length_append] at h3
  rw [List.length_reverse] at h2
  omega
theorem St.pop {l : List Nd} (h : Rt l) {id : Int} {out st : List Int} {k : Int} (hs : St l id out (st ++ [k])) : St l id (out ++ [k]) (st ++ (nd l k).kids.reverse) := by
  have hk := hs.inr k (List.mem_append_right _ List.mem_cons_self)
  refine ⟨?_, fun c hc => ?_⟩
  · rw [← hs.sum]
    simp [ord_eq h k hk]
  · rcases List.mem_append.1 hc with hc | hc
    · exact hs.inr c (List.mem_append_left _ hc)
    · exact (h.kid k c hk (List.mem_reverse.1 hc)).1
theorem St.done {l : List Nd} {id : Int} {out : List Int} (hs : St l id out []) : out = ordP l id := by have := hs.sum; simpa using this
theorem push_at (ks : List Int) (r : Nat) (h : r < ks.length) : (ks.drop r).reverse = (ks.drop (r + 1)).reverse ++ [ks[r]] := by
  rw [List.drop_eq_getElem_cons h, List.reverse_cons]
end Go.Proofs.YtoajgfhcongocaaGreatDoor.doc

namespace Go.Proofs.YtoajgfhcongocaaGreatDoor.doc
open Go.ChangeShapes Go.WideShapes Go.ChangeAt Go.RowKit Go.Lib Go.Proofs.YtoajgfhcongocaaGreatDoor.atr Go.Proofs.YtoajgfhcongocaaGreatDoor.link

theorem ret_str {a b : List UInt8} (h : a = b) : Ending.returned (.string ⟨a.toArray⟩) = .returned (.string ⟨b.toArray⟩) := by rw [h]
def txK (l : List Nd) (k : Int) : List UInt8 := (nd l k).text
/-- the text so far -/
def txT (l : List Nd) (o : Int) (m : Nat) : List UInt8 := (nd l o).text ++ ((nd l o).kids.take m).flatMap (txK l)
theorem txT_zero (l : List Nd) (o : Int) : txT l o 0 = (nd l o).text := by unfold txT; simp
theorem txT_all (l : List Nd) (o : Int) : txT l o (nd l o).kids.length = textP l o := by unfold txT textP; rw [List.take_length]; rfl
theorem txT_succ (l : List Nd) (o : Int) (m : Nat) (h : m < (nd l o).kids.length) : txT l o (m + 1) = txT l o m ++ txK l ((nd l o).kids[m]) := by
  unfold txT
  rw [List.take_succ_eq_append_getElem h, List.flatMap_append, List.append_assoc]
  simp

theorem text_le {l : List Nd} (h : Rt l) (k : Int) (hk : inR l k) : (nd l k).text.length ≤ 4000 := by
  have := h.alone k hk
  unfold aloneP at this
  split at this
  · simp only [Bool.and_eq_true, decide_eq_true_eq] at this
    exact this.2
  · simp only [Bool.and_eq_true, List.isEmpty_iff] at this
    rw [this.1.1.2]; simp
theorem flat_le (l : List Nd) (h : Rt l) : ∀ (ks : List Int), (∀ c ∈ ks, inR l c) → (ks.flatMap (txK l)).length ≤ 4000 * ks.length := by
  intro ks
  induction ks with
  | nil => intro _; simp
  | cons c r ih =>
    intro hc
    have h1 := ih (fun x hx => hc x (List.mem_cons_of_mem _ hx))
    have h2 := text_le h c (hc c List.mem_cons_self)
    rw [List.flatMap_cons, List.length_append, List.length_cons]
    unfold txK at *
    omega
theorem txT_le {l : List Nd} (h : Rt l) (o : Int) (ho : inR l o) (m : Nat) (hk : (nd l o).kids.length ≤ 400) : (txT l o m).length ≤ 1604000 := by
  unfold txT
  have h1 := text_le h o ho
  have h2 := flat_le l h ((nd l o).kids.take m) (fun c hc => (h.kid o c ho (List.mem_of_mem_take hc)).1)
  have h3 : ((nd l o).kids.take m).length ≤ 400 := by rw [List.length_take]; omega
  rw [List.length_append]
  omega
theorem strAdd (a b : List UInt8) (h : a.length + b.length ≤ 9223372036854775807) (w : World) : (Op.stringOp .add ⟨a.toArray⟩ ⟨b.toArray⟩).run Tryz.prog w = .ok (.string ⟨(a ++ b).toArray⟩) w := by
  have := run_string_add_sum (P := Tryz.prog) (w := w) ⟨a.toArray⟩ ⟨b.toArray⟩ (by rw [bsize, bsize]; exact h)
  rw [bapp] at this
  exact this
/-- nodes of a document, in a world behind -/
theorem nodes_get {w : World} {b off : Nat} {l : List Nd} {cap n : Nat} (hA : NodesAt w (.slice (some ⟨b, off, none⟩) n cap) l) (k : Nat) (hk : k < l.length) : ∃ va vk, NodeAt w b (off + k * 5) (nd l (k : Int)) va vk := by
  obtain ⟨b', off', cap', e, _, h⟩ := NodesAt.at hA (by omega)
  cases e
  have := h (k : Int) (by omega) (by omega)
  rwa [Int.toNat_natCast] at this
theorem nodes_addr {w : World} {v : Value} {l : List Nd} (hA : NodesAt w v l) (h0 : 0 < l.length) : ∃ b off cap, v = .slice (some ⟨b, off, none⟩) l.length cap ∧ b < w.heap.size := by
  obtain ⟨b', off', cap', e, hb, _⟩ := NodesAt.at hA h0
  exact ⟨_, _, _, e, hb⟩

set_option maxHeartbeats 1600000 in
set_option maxRecDepth 100000 in
theorem rtext_any (v : Value) (l : List Nd) (hR : rightB l = true) (k : Nat) (hk : k < l.length) (w : World) (hA : NodesAt w v l) :
    Calls Tryz.prog 58 #[v, .int .i64 k] w fun e w' => e = .returned (.string ⟨(textP l (k : Int)).toArray⟩) ∧ w = w' := by
  have hRt := right_rt l hR
  have hf := hRt.few
  obtain ⟨b, off, cap, rfl, hb⟩ := nodes_addr hA (by omega)
  obtain ⟨va, vk, hn⟩ := nodes_get hA k hk
  have HG := Lib.hid (fun j hj => nodes_get hA j hj)
  have HK := Lib.hid (fun c hc => (hRt.kid (k : Int) c ⟨by omega, by omega⟩ hc).1)
  have hkl : (nd l (k : Int)).kids.length ≤ 400 := by
    have := seen_le l _ (kids_nodup hRt (k : Int) ⟨by omega, by omega⟩) (fun x hx => HK.out x hx)
    omega
  have HT0 := Lib.hid (txT_zero l (k : Int))
  have HTA := Lib.hid (txT_all l (k : Int))
  have HTS := Lib.hid (fun m h => txT_succ l (k : Int) m h)
  have HLe := Lib.hid (fun m => txT_le hRt (k : Int) ⟨by omega, by omega⟩ m hkl)
  have HTk := Lib.hid (fun c hc => text_le hRt c hc)
  have d1 := hn.c1
  have d4 := hn.c4
  have HKS := Lib.hid hn.kids
  clear hn hA hRt hR
  obtain ⟨res, hres⟩ : ∃ r, r = textP l (k : Int) := ⟨_, rfl⟩
  rw [← hres] at HTA ⊢
  clear hres
  rw [← HT0.out] at d1
  obtain ⟨ks, hks⟩ : ∃ ks, ks = (nd l (k : Int)).kids := ⟨_, rfl⟩
  rw [← hks] at HK hkl HTA HTS HKS
  clear hks HT0
  obtain ⟨ka, kc, rfl⟩ := RowAt.lenN HKS.out
  have h0 : (0 : Int) ≤ (k : Int) := by omega
  have hk' : (k : Int) < (l.length : Int) := by omega
  go_enter Tryz.func58, Tryz.ntmps58
  go_wp2_with fail
  clear d1
  go_loopw [5, 6] (fun s5 s6 wr => ∃ m : Nat, s6 = .int .i64 m ∧ m ≤ ks.length ∧ s5 = .string ⟨(txT l (k : Int) m).toArray⟩ ∧ w = wr) (fun _ s6 _ => ks.length - (RowKit.intOf s6).toNat)
  case atStart => exact ⟨0, rfl, by omega, rfl, rfl⟩
  case round =>
    obtain ⟨m, rfl, hm, rfl, rfl⟩ := hrel
    by_cases hlt : m < ks.length
    · obtain ⟨kb, ko, kcap, e, hkb⟩ := IntsAt.addr HKS.out (by omega)
      cases e
      have e0 := IntsAt.cellAt HKS.out m hlt
      have hr := HK.out ks[m] (List.getElem_mem hlt)
      have HS := Lib.hid (HTS.out m hlt)
      obtain ⟨hr1, hr2⟩ := hr
      generalize ks[m] = c at *
      obtain ⟨cn, rfl⟩ : ∃ cn : Nat, c = (cn : Int) := ⟨c.toNat, by omega⟩
      obtain ⟨va2, vk2, hn2⟩ := HG.out cn (by omega)
      have e1 : w.cell? ⟨b, off + cn * 5 + 1, none⟩ = some (.string ⟨(txK l (cn : Int)).toArray⟩) := hn2.c1
      clear hn2
      have hadd := fun w => strAdd (txT l (k : Int) m) (txK l (cn : Int)) (by have h1 := HLe.out m; have h2 : (txK l (cn : Int)).length ≤ 4000 := HTk.out (cn : Int) ⟨by omega, by omega⟩; omega) w
      generalize txK l (cn : Int) = y at *
      go_wp2_with fail
      go_roundw
      case rel => exact ⟨m + 1, by go_num, by omega, by rw [HS.out], by first | rfl | trivial⟩
      case measure => simp [RowKit.intOf]; omega
    · obtain rfl : m = ks.length := by omega
      go_wp2_with fail
      go_ret
      exact ⟨ret_str HTA.out, rfl⟩

set_option maxHeartbeats 1600000 in
set_option maxRecDepth 100000 in
theorem ttext_any (v : Value) (l : List Nd) (hL : LFine l) (hR : rightB l = true) (k : Nat) (hk : k < l.length) (w : World) (hA : NodesAt w v l) :
    Calls Tryz.prog 74 #[v, .int .i64 k] w fun e w' => e = .returned (.string ⟨(textP l (k : Int)).toArray⟩) ∧ Below w.heap.size w w' := by
  have hh := thas_any v l (k : Int) hL w hA
  rw [hR, decide_eq_true (by omega : (0 : Int) ≤ (k : Int)), decide_eq_true (by omega : (k : Int) < (l.length : Int))] at hh
  have hRt := right_rt l hR
  have hf := hRt.few
  obtain ⟨b, off, cap, rfl, hb⟩ := nodes_addr hA (by omega)
  have HA := Lib.hid (fun w' (h : Below w.heap.size w w') => hA.below h)
  have HK := Lib.hid (fun c hc => (hRt.kid (k : Int) c ⟨by omega, by omega⟩ hc).1)
  have hkl : (nd l (k : Int)).kids.length ≤ 400 := by
    have := seen_le l _ (kids_nodup hRt (k : Int) ⟨by omega, by omega⟩) (fun x hx => HK.out x hx)
    omega
  have HT0 := Lib.hid (txT_zero l (k : Int))
  have HTA := Lib.hid (txT_all l (k : Int))
  have HTS := Lib.hid (fun m h => txT_succ l (k : Int) m h)
  have HLe := Lib.hid (fun m => txT_le hRt (k : Int) ⟨by omega, by omega⟩ m hkl)
  have HTk := Lib.hid (fun c hc => text_le hRt c hc)
  clear hA hRt hR
  obtain ⟨res, hres⟩ : ∃ r, r = textP l (k : Int) := ⟨_, rfl⟩
  rw [← hres] at HTA ⊢
  clear hres
  have h0 : (0 : Int) ≤ (k : Int) := by omega
  have hk' : (k : Int) < (l.length : Int) := by omega
  go_enter Tryz.func74, Tryz.ntmps74
  go_wp2_with fail
  refine hh.mono ?_
  rintro e w1 ⟨rfl, hb1⟩
  have HG := Lib.hid (fun j hj => nodes_get (HA.out w1 hb1) j hj)
  obtain ⟨va, vk, hn⟩ := HG.out k hk
  have d1 := hn.c1
  have d4 := hn.c4
  have HKS := Lib.hid hn.kids
  clear hn hh HA
  rw [← HT0.out] at d1
  obtain ⟨ks, hks⟩ : ∃ ks, ks = (nd l (k : Int)).kids := ⟨_, rfl⟩
  rw [← hks] at HK hkl HTA HTS HKS
  clear hks HT0
  obtain ⟨ka, kc, rfl⟩ := RowAt.lenN HKS.out
  go_wp2_with fail
  clear d1 d4
  go_loopw [5, 23] (fun s5 s6 wr => ∃ m : Nat, s6 = .int .i64 m ∧ m ≤ ks.length ∧ s5 = .string ⟨(txT l (k : Int) m).toArray⟩ ∧ w1 = wr) (fun _ s6 _ => ks.length - (RowKit.intOf s6).toNat)
  case atStart => exact ⟨0, rfl, by omega, rfl, rfl⟩
  case round =>
    obtain ⟨m, rfl, hm, rfl, rfl⟩ := hrel
    by_cases hlt : m < ks.length
    · obtain ⟨kb, ko, kcap, e, hkb⟩ := IntsAt.addr HKS.out (by omega)
      cases e
      have e0 := IntsAt.cellAt HKS.out m hlt
      have hr := HK.out ks[m] (List.getElem_mem hlt)
      have HS := Lib.hid (HTS.out m hlt)
      obtain ⟨hr1, hr2⟩ := hr
      generalize ks[m] = c at *
      obtain ⟨cn, rfl⟩ : ∃ cn : Nat, c = (cn : Int) := ⟨c.toNat, by omega⟩
      obtain ⟨va2, vk2, hn2⟩ := HG.out cn (by omega)
      have e1 : w1.cell? ⟨b, off + cn * 5 + 1, none⟩ = some (.string ⟨(txK l (cn : Int)).toArray⟩) := hn2.c1
      clear hn2
      have hadd := fun w => strAdd (txT l (k : Int) m) (txK l (cn : Int)) (by have h1 := HLe.out m; have h2 : (txK l (cn : Int)).length ≤ 4000 := HTk.out (cn : Int) ⟨by omega, by omega⟩; omega) w
      generalize txK l (cn : Int) = y at *
      go_wp2_with fail
      go_roundw
      case rel => exact ⟨m + 1, by go_num, by omega, by rw [HS.out], by first | rfl | trivial⟩
      case measure => simp [RowKit.intOf]; omega
    · obtain rfl : m = ks.length := by omega
      go_wp2_with fail
      go_ret
      exact ⟨ret_str HTA.out, hb1⟩
end Go.Proofs.YtoajgfhcongocaaGreatDoor.doc

namespace Go.Proofs.YtoajgfhcongocaaGreatDoor.doc
open Go.ChangeShapes Go.WideShapes Go.ChangeAt Go.RowKit Go.Lib Go.Proofs.YtoajgfhcongocaaGreatDoor.atr Go.Proofs.YtoajgfhcongocaaGreatDoor.link

theorem infoI : (Tryz.prog.info? 3).map (fun i => (i.zero, i.size, i.bytes)) = some (some (.int .i64 0), 1, 8) := by kernel_rfl
def intsV (ks : List Int) : List Value := ks.map (Value.int .i64)
theorem intsV_flat (ks : List Int) : ks.flatMap encI = intsV ks := by
  induction ks with
  | nil => rfl
  | cons x r ih => rw [List.flatMap_cons, ih]; rfl
theorem intsV_app (a b : List Int) : intsV (a ++ b) = intsV a ++ intsV b := by unfold intsV; rw [List.map_append]
theorem intsV_len (a : List Int) : (intsV a).length = a.length := by unfold intsV; rw [List.length_map]
theorem intsV_at (a : List Int) (j : Nat) (h : j < a.length) : (intsV a)[j]? = some (.int .i64 a[j]) := by unfold intsV; rw [List.getElem?_map, List.getElem?_eq_getElem h]; rfl
def slN : Value → Nat
  | .slice _ n _ => n
  | _ => 0
/-- a row of numbers that the call owns -/
def OwnI (w : World) (B : Nat) (v : Value) (ks : List Int) : Prop := w.ownsRow B 3 1 v ks.length (intsV ks)
theorem OwnI.ints {w : World} {B : Nat} {v : Value} {ks : List Int} (h : OwnI w B v ks) : IntsAt w v ks := by
  unfold IntsAt
  rw [intsV_flat]
  exact RowAt.of_owns h

/-- two rows lie in different blocks -/
def Apart (a b : Value) : Prop := ∀ j, a.ownBlock = some j → b.ownBlock ≠ some j
theorem OwnI.kept {w w' : World} {B : Nat} {v : Value} {ks : List Int} (h : OwnI w B v ks) {a : Value} (hg : w.grownBy w' a.ownBlock) (ha : Apart a v) : OwnI w' B v ks := by
  refine World.ownsRow.kept h hg ?_
  cases hv : v.ownBlock with
  | none => exact .inl rfl
  | some j => exact .inr (fun e => ha j e.symm hv)
theorem OwnI.alloc {w : World} {B : Nat} {v : Value} {ks : List Int} (h : OwnI w B v ks) (o : Obj) : OwnI (w.alloc o) B v ks := World.ownsRow.alloc h o
theorem OwnI.form {w : World} {B : Nat} {v : Value} {ks : List Int} (h : OwnI w B v ks) (h0 : 0 < ks.length) : ∃ g cap, v = .slice (some ⟨g, 0, none⟩) ks.length cap ∧ ks.length ≤ cap ∧ g < w.heap.size := by
  rcases h.2 with ⟨_, h1⟩ | ⟨g, cap, cur, hv, hb, hg, hn, _⟩
  · omega
  · refine ⟨g, cap, hv, hn, ?_⟩
    rcases Nat.lt_or_ge g w.heap.size with hlt | hge
    · exact hlt
    · rw [Array.getElem?_eq_none hge] at hg; cases hg
theorem OwnI.nil (w : World) (B : Nat) : OwnI w B (.slice none 0 0) [] := World.ownsRow_nil _ _ _ _
theorem OwnI.lt {w : World} {B : Nat} {v : Value} {ks : List Int} (h : OwnI w B v ks) (j : Nat) (hj : v.ownBlock = some j) : B ≤ j ∧ j < w.heap.size := World.ownsRow.lt h j hj
theorem OwnI.pop {w : World} {B g cap n : Nat} {ks : List Int} {c : Int} (hn : n = ks.length) (h : OwnI w B (.slice (some ⟨g, 0, none⟩) (n + 1) cap) (ks ++ [c])) : OwnI w B (.slice (some ⟨g, 0, none⟩) n cap) ks := by
  subst hn
  unfold OwnI at h ⊢
  rw [intsV_app, show (ks ++ [c]).length = ks.length + 1 from by simp] at h
  exact ownsRow_pop (by rw [intsV_len]; omega) h
theorem OwnI.top {w : World} {B g cap n : Nat} {ks : List Int} {c : Int} (hn : n = ks.length) (h : OwnI w B (.slice (some ⟨g, 0, none⟩) (n + 1) cap) (ks ++ [c])) : w.cell? ⟨g, n, none⟩ = some (.int .i64 c) := by
  subst hn
  unfold OwnI at h
  rw [show (ks ++ [c]).length = ks.length + 1 from by simp] at h
  rw [World.ownsRow.cellAt h ks.length (by omega), intsV_at _ _ (by simp)]
  simp
/-- behind an append -/
theorem grown_I {w wr w1 : World} {B : Nat} {v : Value} {ks : List Int} (hown : OwnI wr B v ks) (hb : Below B w wr) (hbs : B ≤ wr.heap.size) (o : Obj) (hg : (wr.alloc o).grownBy w1 v.ownBlock) : Below B w w1 ∧ B ≤ w1.heap.size :=
  low_rel w wr w1 B _ _ _ _ o hown hb hbs hg
set_option maxHeartbeats 6400000 in
set_option maxRecDepth 100000 in
theorem rorder_any (v : Value) (l : List Nd) (hR : rightB l = true) (k : Nat) (hk : k < l.length) (w : World) (hA : NodesAt w v l) :
    Calls Tryz.prog 52 #[v, .int .i64 k] w fun e w' => ∃ v', e = .returned v' ∧ OwnI w' w.heap.size v' (ordP l (k : Int)) ∧ Below w.heap.size w w' := by
  obtain ⟨i0, hi, hz0, hz1, hz2⟩ := info_parts infoI
  have hRt := right_rt l hR
  have hf := hRt.few
  obtain ⟨b, off, cap, rfl, hb⟩ := nodes_addr hA (by omega)
  have HA := Lib.hid (fun w' (h : Below w.heap.size w w') => hA.below h)
  have hin : inR l (k : Int) := ⟨by omega, by omega⟩
  have HLe := Lib.hid (fun out st (h : St l (k : Int) out st) => h.le hRt hin)
  have HPop := Lib.hid (fun out st c (h : St l (k : Int) out (st ++ [c])) => h.pop hRt)
  have HSt := Lib.hid (St.start (l := l) (k : Int) hin)
  have HKids := Lib.hid (fun c (hc : inR l c) => (seen_le l _ (kids_nodup hRt c hc) (fun x hx => (hRt.kid c x hc hx).1)))
  clear hA hRt hR hin
  obtain ⟨B, hB⟩ : ∃ B, B = w.heap.size := ⟨_, rfl⟩
  have HB := Lib.hid hB
  rw [← hB] at hb HA ⊢
  clear hB
  go_enter Tryz.func52, Tryz.ntmps52
  go_wp2_with fail
  go_loopw [5, 6] (fun s5 s6 wr => ∃ (out st : List Int), Hid (slN s5 = out.length) ∧ OwnI wr B s5 out ∧ OwnI wr B s6 st ∧ Hid (Apart s5 s6) ∧ Hid (St l (k : Int) out st) ∧ Below B w wr ∧ B ≤ wr.heap.size) (fun s5 _ _ => 401 - slN s5)
  case atStart =>
    refine ⟨[], [(k : Int)], Lib.hid rfl, OwnI.nil _ _, ?_, Lib.hid (fun j h => by cases h), HSt, by rw [HB.out]; exact (Below.refl _ _).alloc (Nat.le_refl _) _, by rw [HB.out]; simp⟩
    have := World.ownsRow_lit (base := B) (e := 3) (size := 1) w #[.int .i64 (k : Int)] 1 (by rw [HB.out]; omega) (by decide) rfl
    exact this
  case round =>
    obtain ⟨out, st, hM, ho, hs, hap, hst, hbw, hbs⟩ := hrel
    rcases List.eq_nil_or_concat st with rfl | ⟨st, c, rfl⟩
    · obtain ⟨sa, sc, rfl⟩ := RowAt.lenN hs.ints
      have HX : Hid (out = ordP l (k : Int)) := Lib.hid hst.out.done
      go_wp2_with fail
      go_ret
      exact ⟨_, rfl, by rw [← HX.out]; exact ho, hbw⟩
    · rw [List.concat_eq_append] at *
      have hsl : (st ++ [c]).length = st.length + 1 := by simp
      obtain ⟨g, scap, rfl, hgc, hgl⟩ := hs.form (by rw [hsl]; omega)
      rw [hsl] at hs hap hgc ⊢
      have hcell := OwnI.top rfl hs
      have hpop := OwnI.pop rfl hs
      have hcin := hst.out.inr c (List.mem_append_right _ List.mem_cons_self)
      have hle := HLe.out _ _ hst.out
      rw [hsl] at hle
      have HP := Lib.hid (HPop.out _ _ _ hst.out)
      have hkl := HKids.out c hcin
      have hcin1 := hcin.1
      have hcin2 := hcin.2
      obtain ⟨cn, rfl⟩ : ∃ cn : Nat, c = (cn : Int) := ⟨c.toNat, by omega⟩
      have HN := Lib.hid (fun w' h => nodes_get (HA.out w' h) cn (by omega))
      obtain ⟨ks, hks⟩ : ∃ ks, ks = (nd l (cn : Int)).kids := ⟨_, rfl⟩
      rw [← hks] at HP hkl
      have HKs := Lib.hid hks
      have HPop2 := Lib.hid hpop
      have hap' : Hid (Apart _ (.slice (some ⟨g, 0, none⟩) st.length scap)) := Lib.hid (fun j h => hap.out j h)
      clear hks hcin hst hs hpop hap
      go_upto_region 6 with fail
      have hgc2 : st.length ≤ scap := by omega
      go_wp2_with (at_builtin; refine wpList_append_lies _ rfl _ _ 41 rfl B 3 i0 _ 1 8 Tryz.underlying41 hi hz0 hz1 hz2 rfl (by decide) _ _ _ rfl (ho.alloc _) ⟨wr.heap.size, 0, none⟩ 1 1 [.int .i64 (cn : Int)] rfl rfl ?q1 ?q2 (by decide) ?q3 ?q4 ?q5 _ rfl ?q6)
      case q1 => exact cell_one_new _ _ _
      case q2 => intro u hu; simp at hu; subst hu; rfl
      case q3 => unfold maxLen; omega
      case q4 => omega
      case q5 => simp; omega
      intro g2 cap2 w2 hown2 hgrow2 hat2 hlt2
      have ho2 : OwnI w2 B (.slice (some ⟨g2, 0, none⟩) (out.length + 1) cap2) (out ++ [(cn : Int)]) := by
        unfold OwnI
        rw [intsV_app, show (out ++ [(cn : Int)]).length = out.length + 1 from by simp]
        exact hown2
      have hs2 := (HPop2.out.alloc (.cells #[.int .i64 (cn : Int)] 3)).kept hgrow2 hap'.out
      have hap2 : Hid (g2 ≠ g) := Lib.hid (by
        rcases hat2 with h | h
        · intro e
          rw [e] at h
          exact hap'.out g h rfl
        · rw [h]; simp; omega)
      obtain ⟨hbw2, hbs2⟩ := grown_I ho hbw hbs _ hgrow2
      clear hown2 hgrow2 hat2 hap' HPop2 ho hbw hbs hcell hgl
      obtain ⟨va, vk, hn⟩ := HN.out w2 hbw2
      have c4 := hn.c4
      have HI := Lib.hid hn.kids
      rw [← HKs.out] at HI
      clear hn
      obtain ⟨ka, kc, rfl⟩ := RowAt.lenN HI.out
      go_wp2_with fail
      clear c4
      go_loopw [6, 8] (fun s6 s8 wr => ∃ (x : Int) (r : Nat), s8 = .int .i64 x ∧ x + 1 = (r : Int) ∧ r ≤ ks.length ∧ OwnI wr B s6 (st ++ (ks.drop r).reverse) ∧ Hid (∀ j, s6.ownBlock = some j → j ≠ g2) ∧ OwnI wr B (.slice (some ⟨g2, 0, none⟩) (out.length + 1) cap2) (out ++ [(cn : Int)]) ∧ Below B w wr ∧ B ≤ wr.heap.size ∧ g2 < wr.heap.size) (fun _ s8 _ => (RowKit.intOf s8 + 1).toNat)
      case atStart => exact ⟨(ks.length : Int) - 1, ks.length, by first | rfl | go_num, by omega, by omega, by simpa using hs2, Lib.hid (fun j h => by
        have : g = j := by simpa [Value.ownBlock] using h
        rw [← this]; exact fun e => hap2.out e.symm), ho2, hbw2, hbs2, hlt2⟩
      case round =>
        obtain ⟨x, r, rfl, hx, hrl, hs3, hap3, ho3, hbw3, hbs3, hlt3⟩ := hrel
        clear hs2 hap2 ho2 hbw2 hbs2 hlt2
        by_cases g1 : x < 0
        · obtain rfl : r = 0 := by omega
          rw [List.drop_zero] at hs3
          have HAp : Hid (Apart (.slice (some ⟨g2, 0, none⟩) (out.length + 1) cap2) _) := Lib.hid (fun j h e => by
            have : g2 = j := by simpa [Value.ownBlock] using h
            exact hap3.out j e this.symm)
          go_wp2_with fail
          go_roundw
          case rel => exact ⟨out ++ [(cn : Int)], st ++ ks.reverse, Lib.hid (by simp [slN]), ho3, hs3, HAp, HP, hbw3, hbs3⟩
          case measure => rw [hM.out]; simp [slN]; omega
        · obtain ⟨rn, rfl⟩ : ∃ rn : Nat, x = (rn : Int) := ⟨x.toNat, by omega⟩
          obtain rfl : r = rn + 1 := by omega
          have hrk : rn < ks.length := by omega
          obtain ⟨va3, vk3, hn3⟩ := HN.out _ hbw3
          have c4 := hn3.c4
          have HI3 := Lib.hid hn3.kids
          rw [← HKs.out] at HI3
          clear hn3
          obtain ⟨kb, ko, kcap, e, hkb⟩ := IntsAt.addr HI3.out (by omega)
          cases e
          have e0 := IntsAt.cellAt HI3.out rn hrk
          have HPu := Lib.hid (push_at ks rn hrk)
          have hlen3 : (st ++ (ks.drop (rn + 1)).reverse).length ≤ 400 := by
            have := HLe.out _ _ HP.out
            simp at this ⊢; omega
          generalize ks[rn] = y at *
          have HPv : Hid (st ++ (ks.drop rn).reverse = (st ++ (ks.drop (rn + 1)).reverse) ++ [y]) := Lib.hid (by rw [HPu.out, List.append_assoc])
          generalize st ++ (ks.drop (rn + 1)).reverse = st3 at *
          clear HPu
          go_wp2_with (at_builtin; refine wpList_append_lies _ rfl _ _ 41 rfl B 3 i0 _ 1 8 Tryz.underlying41 hi hz0 hz1 hz2 rfl (by decide) _ _ _ rfl (hs3.alloc _) ⟨wr.heap.size, 0, none⟩ 1 1 [.int .i64 y] rfl rfl ?_ ?_ (by decide) ?_ ?_ ?_ _ rfl ?_)
          all_goals first | exact cell_one_new _ _ _ | (show Value.oneCell' _ = true; rfl) | (intro u hu; simp at hu; subst hu; rfl) | (unfold maxLen; omega) | omega | (simp; omega) | skip
          intro g4 cap4 w4 hown4 hgrow4 hat4 hlt4
          have hs4 : OwnI w4 B (.slice (some ⟨g4, 0, none⟩) (st3.length + 1) cap4) (st ++ (ks.drop rn).reverse) := by
            unfold OwnI
            rw [HPv.out, intsV_app, List.length_append (bs := [y])]
            exact hown4
          have ho4 := (ho3.alloc (.cells #[.int .i64 y] 3)).kept hgrow4 (fun j h e => by
            have : g2 = j := by simpa [Value.ownBlock] using e
            exact hap3.out j h this.symm)
          have hap4 : Hid (∀ j, (Value.slice (some ⟨g4, 0, none⟩) (st3.length + 1) cap4).ownBlock = some j → j ≠ g2) := Lib.hid (fun j h => by
            have hj : g4 = j := by simpa [Value.ownBlock] using h
            rw [← hj]
            rcases hat4 with h | h
            · exact hap3.out g4 h
            · rw [h]; simp; omega)
          obtain ⟨hbw4, hbs4⟩ := grown_I hs3 hbw3 hbs3 _ hgrow4
          have hlt5 := hgrow4.size
          rw [World.size_alloc] at hlt5
          clear hown4 hgrow4 hat4 hs3 ho3 hap3 e0
          go_wp2_with fail
          go_roundw
          case rel => exact ⟨(rn : Int) - 1, rn, by first | rfl | go_num, by omega, by omega, hs4, hap4, ho4, hbw4, hbs4, by omega⟩
          case measure => first | (simp [RowKit.intOf]; done) | (simp [RowKit.intOf]; omega)
end Go.Proofs.YtoajgfhcongocaaGreatDoor.doc

namespace Go.Proofs.YtoajgfhcongocaaGreatDoor.doc
open Go.ChangeShapes Go.WideShapes Go.ChangeAt Go.RowKit Go.Lib Go.Proofs.YtoajgfhcongocaaGreatDoor.atr Go.Proofs.YtoajgfhcongocaaGreatDoor.link

theorem infoA : (Tryz.prog.info? 76).map (fun i => (i.zero, i.size, i.bytes)) = some (some (.agg #[.string ⟨#[]⟩, .string ⟨#[]⟩]), 2, 32) := by kernel_rfl
theorem infoN : (Tryz.prog.info? 43).map (fun i => (i.zero, i.size, i.bytes)) = some (some (.agg #[.string ⟨#[]⟩, .string ⟨#[]⟩, .slice none 0 0, .int .i64 0, .slice none 0 0]), 5, 88) := by kernel_rfl

/-- 'append(nil, xs...)': a row of the call's own -/
theorem run_append_nil {P : Program} {w : World} (t ty e : TypeId) (i : TypeInfo) (z : Value) (size bytes : Nat) (ht : P.underlying t = some (.slice e)) (hi : P.info? e = some i) (hz : i.zero = some z)
    (hsize : i.size = size) (hby : i.bytes = bytes) (hzs : z.cells.size = size) (hsz : 0 < size) (v : Value) (m : Nat) (news : List Value) (hR : RowAt w v m news) (hl : news.length = m * size) (h1 : ∀ u ∈ news, u.oneCell' = true) (b1 : m ≤ maxLen) (b2 : m * bytes ≤ 140737488355328) :
    ∃ v' w', (Builtin.append_ #[t, t] ty #[.slice none 0 0, v]).run P w = .ok v' w' ∧ w'.ownsRow w.heap.size e size v' m news ∧ w.grownBy w' none := by
  have key : ∀ (ad : Addr) (c : Nat), (∀ j u, news[j]? = some u → w.cell? (ad.add j) = some u) → ∃ v' w', (Builtin.append_ #[t, t] ty #[.slice none 0 0, .slice (some ad) m c]).run P w = .ok v' w' ∧ w'.ownsRow w.heap.size e size v' m news ∧ w.grownBy w' none := by
    intro ad c hc
    obtain ⟨v', w', hr, h2, h3, _⟩ := run_append_own (P := P) w w.heap.size t ty e i z size bytes ht hi hz hsize hby hzs hsz (.slice none 0 0) 0 [] (World.ownsRow_nil _ _ _ _) ad m c news hl hc h1 (by omega) (by rw [Nat.zero_add]; exact b2) (Nat.le_refl _)
    refine ⟨v', w', hr, ?_, h3⟩
    rw [Nat.zero_add] at h2
    exact h2
  rcases hR with ⟨h0, h3, oa, cap, rfl⟩ | ⟨b, off, cap, rfl, h0, hb, hc⟩
  · subst h0 h3
    cases oa with
    | some ad => exact key ad cap (fun j u hu => by simp at hu)
    | none =>
      exact ⟨_, w, by simp [Builtin.append_, run_underlying ht, sizeOf, typeInfo, hi, Builtin.lenOf, Builtin.firstCells], World.ownsRow_nil _ _ _ _, World.grownBy.refl _ _⟩
  · exact key ⟨b, off, none⟩ cap (fun j u hu => by rw [Lib.add_plain]; exact hc j u hu)
theorem step_append_nil {P : Program} {ops : Array Oper} {o : Oper} {a : Act} {w : World} {K : Act → World → Prop} {Q : Exit → Act → World → Prop} {E : Prop}
    (hg : o.guard = none) (s x : Operand) (t : TypeId) (hop : o.op = Op.call { callee := Callee.builtin Builtin.append, args := #[s, x], argTypes := #[t, t] })
    (e : TypeId) (i : TypeInfo) (z : Value) (size bytes : Nat) (ht : P.underlying t = some (.slice e)) (hi : P.info? e = some i) (hz : i.zero = some z)
    (hsize : i.size = size) (hby : i.bytes = bytes) (hzs : z.cells.size = size) (hsz : 0 < size) (hs : a.eval s = .slice none 0 0) (v : Value) (hx : a.eval x = v) (m : Nat) (news : List Value) (hR : RowAt w v m news) (hl : news.length = m * size) (h1 : ∀ u ∈ news, u.oneCell' = true) (b1 : m ≤ maxLen) (b2 : m * bytes ≤ 140737488355328)
    (hK : ∀ v' w', w'.ownsRow w.heap.size e size v' m news → w.grownBy w' none → K (a.put o.dst v') w') :
    if Region.wanted o (yielded ops a.tmps) = true then Oper.wp P o a w K Q else E := by
  have hw : Region.wanted o (yielded ops a.tmps) = true := by simp [Region.wanted, hg]
  rw [if_pos hw]
  obtain ⟨v', w', hrun, r1, r2⟩ := run_append_nil (P := P) (w := w) t o.type e i z size bytes ht hi hz hsize hby hzs hsz v m news hR hl h1 b1 b2
  unfold Oper.wp
  simp [execOp, hop, resolve, invoke, builtin, hs, hx, hrun, Result.andThen]
  exact hK v' w' r1 r2

theorem nodes_all {w : World} {v : Value} {l : List Nd} (hA : NodesAt w v l) (k : Nat) (hk : k < l.length) : ∃ b off cap va vk, v = .slice (some ⟨b, off, none⟩) l.length cap ∧ NodeAt w b (off + k * 5) (nd l (k : Int)) va vk := by
  obtain ⟨b, off, cap, rfl, _⟩ := nodes_addr hA (by omega)
  obtain ⟨va, vk, h⟩ := nodes_get hA k hk
  exact ⟨b, off, cap, va, vk, rfl, h⟩
theorem rowA_flat {w : World} {b : Nat} : ∀ (l : List Attr) (off : Nat), RowA w b off l → ∀ j u, (l.flatMap encA)[j]? = some u → w.cell? ⟨b, off + j, none⟩ = some u := by
  intro l
  induction l with
  | nil => intro off _ j u h; simp at h
  | cons x r ih =>
    intro off h j u hj
    rw [List.flatMap_cons] at hj
    match j with
    | 0 => have := (h 0 (by simp)).1; simp [encA] at hj; subst hj; simpa using this
    | 1 => have := (h 0 (by simp)).2; simp [encA] at hj; subst hj; simpa using this
    | j + 2 =>
      have hj' : (r.flatMap encA)[j]? = some u := by simpa [encA] using hj
      have := ih (off + 2) (fun k hk => by
        have := h (k + 1) (by simp; omega)
        simp only [List.getElem_cons_succ] at this
        rw [show off + 2 + k * 2 = off + (k + 1) * 2 from by omega]
        exact this) j u hj'
      rw [show off + (j + 2) = off + 2 + j from by omega]
      exact this
theorem attrs_row {w : World} {v : Value} {l : List Attr} (h : AttrsAt w v l) : RowAt w v l.length (l.flatMap encA) := by
  rcases h with ⟨rfl, oa, cap, rfl⟩ | ⟨b, off, cap, rfl, h0, hb, hR⟩
  · exact .inl ⟨rfl, rfl, oa, cap, rfl⟩
  · exact .inr ⟨b, off, cap, rfl, h0, hb, rowA_flat l off hR⟩
theorem encA_one (l : List Attr) : ∀ u ∈ l.flatMap encA, u.oneCell' = true := by
  intro u hu
  obtain ⟨x, _, hu⟩ := List.mem_flatMap.1 hu
  simp only [encA, List.mem_cons, List.not_mem_nil, or_false] at hu
  rcases hu with rfl | rfl <;> rfl
theorem encA_flat_len (l : List Attr) : (l.flatMap encA).length = l.length * 2 := by
  induction l with
  | nil => rfl
  | cons x r ih => rw [List.flatMap_cons, List.length_append, ih, List.length_cons]; simp [encA]; omega
theorem intsV_one (l : List Int) : ∀ u ∈ intsV l, u.oneCell' = true := by
  intro u hu
  obtain ⟨x, _, rfl⟩ := List.mem_map.1 hu
  rfl
theorem grownBy_set (W : World) (b o : Nat) (v : Value) : W.grownBy (W.setCell ⟨b, o, none⟩ v) (some b) :=
  ⟨rfl, rfl, rfl, (KeepsWalks.setCell W _ v).size, fun k _ hk => Below.heap_setCell _ _ _ k (fun e => hk (by rw [e]))⟩
theorem below_grown_by {w w1 w5 : World} (hb : Below w.heap.size w w1) (h : w1.grownBy w5 none) : Below w.heap.size w w5 :=
  hb.grown h hb.size (fun k e => by cases e)
/-- a node's five cells -/
def encN (n : Nd) (p : Value × Value) : List Value := [.string ⟨n.name.toArray⟩, .string ⟨n.text.toArray⟩, p.1, .int .i64 n.parent, p.2]
/-- the copies so far: the row of nodes, and each node's own two rows -/
structure CpR (w : World) (B : Nat) (v : Value) (l : List Nd) (ps : List (Value × Value)) : Prop where
  len : ps.length = l.length
  row : w.ownsRow B 43 5 v l.length ((l.zip ps).flatMap (fun x => encN x.1 x.2))
  attrs : ∀ j (h : j < l.length) (h' : j < ps.length), w.ownsRow B 76 2 ps[j].1 l[j].attrs.length (l[j].attrs.flatMap encA)
  kids : ∀ j (h : j < l.length) (h' : j < ps.length), w.ownsRow B 3 1 ps[j].2 l[j].kids.length (intsV l[j].kids)

theorem ownsRow_lower {w : World} {b b' : Nat} {e : TypeId} {size : Nat} {v : Value} {n : Nat} {xs : List Value} (h : w.ownsRow b e size v n xs) (hb : b' ≤ b) : w.ownsRow b' e size v n xs := by
  refine ⟨h.1, ?_⟩
  rcases h.2 with h | ⟨g', cap', cur, e1, e2, e3⟩
  · exact .inl h
  · exact .inr ⟨g', cap', cur, e1, Nat.le_trans hb e2, e3⟩
/-- the node that is built -/
structure Bx (W : World) (k : Nat) (x0 x1 x2 x3 x4 : Value) : Prop where
  c0 : W.cell? ⟨k, 0, none⟩ = some x0
  c1 : W.cell? ⟨k, 1, none⟩ = some x1
  c2 : W.cell? ⟨k, 2, none⟩ = some x2
  c3 : W.cell? ⟨k, 3, none⟩ = some x3
  c4 : W.cell? ⟨k, 4, none⟩ = some x4
  z2 : W.frozen? ⟨k, 2, none⟩ = false
  z4 : W.frozen? ⟨k, 4, none⟩ = false
theorem Bx.grown {W W' : World} {k : Nat} {x0 x1 x2 x3 x4 : Value} (h : Bx W k x0 x1 x2 x3 x4) (hg : W.grownBy W' none) : Bx W' k x0 x1 x2 x3 x4 :=
  ⟨cell_kept h.c0 hg (fun r e => by cases e), cell_kept h.c1 hg (fun r e => by cases e), cell_kept h.c2 hg (fun r e => by cases e), cell_kept h.c3 hg (fun r e => by cases e), cell_kept h.c4 hg (fun r e => by cases e),
   (frozen_kept h.c2 hg (fun r e => by cases e)).trans h.z2, (frozen_kept h.c4 hg (fun r e => by cases e)).trans h.z4⟩
theorem Bx.drew {W : World} {k : Nat} {x0 x1 x2 x3 x4 : Value} (h : Bx W k x0 x1 x2 x3 x4) : Bx W.drew k x0 x1 x2 x3 x4 := ⟨h.c0, h.c1, h.c2, h.c3, h.c4, h.z2, h.z4⟩
theorem Bx.set2 {W : World} {k : Nat} {x0 x1 x2 x3 x4 : Value} (h : Bx W k x0 x1 x2 x3 x4) (v : Value) : Bx (W.setCell ⟨k, 2, none⟩ v) k x0 x1 v x3 x4 :=
  ⟨(World.cell?_setCell_other _ _ _ _ (by simp)).trans h.c0, (World.cell?_setCell_other _ _ _ _ (by simp)).trans h.c1, World.cell?_setCell_same _ _ _ h.c2, (World.cell?_setCell_other _ _ _ _ (by simp)).trans h.c3, (World.cell?_setCell_other _ _ _ _ (by simp)).trans h.c4,
   by rw [World.frozen?_setCell]; exact h.z2, by rw [World.frozen?_setCell]; exact h.z4⟩
theorem Bx.set4 {W : World} {k : Nat} {x0 x1 x2 x3 x4 : Value} (h : Bx W k x0 x1 x2 x3 x4) (v : Value) : Bx (W.setCell ⟨k, 4, none⟩ v) k x0 x1 x2 x3 v :=
  ⟨(World.cell?_setCell_other _ _ _ _ (by simp)).trans h.c0, (World.cell?_setCell_other _ _ _ _ (by simp)).trans h.c1, (World.cell?_setCell_other _ _ _ _ (by simp)).trans h.c2, (World.cell?_setCell_other _ _ _ _ (by simp)).trans h.c3, World.cell?_setCell_same _ _ _ h.c4,
   by rw [World.frozen?_setCell]; exact h.z2, by rw [World.frozen?_setCell]; exact h.z4⟩
theorem own_set {w : World} {b e : Nat} {size : Nat} {v : Value} {n : Nat} {xs : List Value} (h : w.ownsRow b e size v n xs) {k : Nat} (hk : k < b) (o : Nat) (u : Value) : (w.setCell ⟨k, o, none⟩ u).ownsRow b e size v n xs :=
  h.kept (grownBy_set w k o u) (.inr (fun e' => by have := (h.lt k e').1; omega))
theorem own_grown {w w' : World} {b e : Nat} {size : Nat} {v : Value} {n : Nat} {xs : List Value} (h : w.ownsRow b e size v n xs) (hg : w.grownBy w' none) : w'.ownsRow b e size v n xs :=
  h.kept hg (by rcases Classical.em (v.ownBlock = none) with h | h; exact .inl h; exact .inr h)
/-- rows of different kinds lie in different blocks -/
theorem own_apart {w : World} {b e b' e' : Nat} {size size' : Nat} {v v' : Value} {n n' : Nat} {xs xs' : List Value} (h : w.ownsRow b e size v n xs) (h' : w.ownsRow b' e' size' v' n' xs') (he : e ≠ e') : v.ownBlock = none ∨ v.ownBlock ≠ v'.ownBlock := by
  rcases h.2 with ⟨rfl, _⟩ | ⟨g, cap, cur, rfl, _, hg, _⟩
  · exact .inl rfl
  · refine .inr fun e1 => ?_
    rcases h'.2 with ⟨rfl, _⟩ | ⟨g', cap', cur', rfl, _, hg', _⟩
    · simp [Value.ownBlock] at e1
    · obtain rfl : g = g' := by simpa [Value.ownBlock] using e1
      rw [hg] at hg'
      simp at hg'
      exact he hg'.2
theorem CpR.nil (w : World) (B : Nat) : CpR w B (.slice none 0 0) [] [] := ⟨rfl, World.ownsRow_nil _ _ _ _, fun j h => absurd h (by simp), fun j h => absurd h (by simp)⟩
theorem CpR.below {w w' : World} {B : Nat} {v : Value} {l : List Nd} {ps : List (Value × Value)} (h : CpR w B v l ps) (hb : Below w.heap.size w w') : CpR w' B v l ps :=
  ⟨h.len, ownsRow_below h.row hb, fun j a b => ownsRow_below (h.attrs j a b) hb, fun j a b => ownsRow_below (h.kids j a b) hb⟩
theorem CpR.snoc {w w9 : World} {B : Nat} {v v9 : Value} {l : List Nd} {ps : List (Value × Value)} (h : CpR w B v l ps) (n : Nd) (p : Value × Value) (o : Obj) (h2 : w.ownsRow B 76 2 p.1 n.attrs.length (n.attrs.flatMap encA)) (h4 : w.ownsRow B 3 1 p.2 n.kids.length (intsV n.kids))
    (hg : (w.alloc o).grownBy w9 v.ownBlock) (h9 : w9.ownsRow B 43 5 v9 (l.length + 1) ((l.zip ps).flatMap (fun x => encN x.1 x.2) ++ encN n p)) : CpR w9 B v9 (l ++ [n]) (ps ++ [p]) := by
  have hr := h.row.alloc o
  refine ⟨by rw [List.length_append, List.length_append, h.len]; rfl, ?_, ?_, ?_⟩
  · rw [List.zip_append h.len.symm, List.flatMap_append, List.length_append]
    simpa using h9
  · intro j hj hj'
    by_cases e : j < l.length
    · have e' : j < ps.length := by rw [h.len]; exact e
      have q := (h.attrs j e e').alloc o
      rw [List.getElem_append_left e, List.getElem_append_left e']
      exact q.kept hg (own_apart q hr (by decide))
    · obtain rfl : j = l.length := by simp at hj; omega
      have q := h2.alloc o
      have e1 : (l ++ [n])[l.length] = n := by simp
      have e2 : (ps ++ [p])[l.length]'hj' = p := by rw [List.getElem_append_right (by rw [h.len]; exact Nat.le_refl _)]; simp
      rw [e1, e2]
      exact q.kept hg (own_apart q hr (by decide))
  · intro j hj hj'
    by_cases e : j < l.length
    · have e' : j < ps.length := by rw [h.len]; exact e
      have q := (h.kids j e e').alloc o
      rw [List.getElem_append_left e, List.getElem_append_left e']
      exact q.kept hg (own_apart q hr (by decide))
    · obtain rfl : j = l.length := by simp at hj; omega
      have q := h4.alloc o
      have e1 : (l ++ [n])[l.length] = n := by simp
      have e2 : (ps ++ [p])[l.length]'hj' = p := by rw [List.getElem_append_right (by rw [h.len]; exact Nat.le_refl _)]; simp
      rw [e1, e2]
      exact q.kept hg (own_apart q hr (by decide))
theorem below_trans' {B : Nat} {w wr w8 : World} (h : Below B w wr) (k : Below wr.heap.size wr w8) (hB : B ≤ wr.heap.size) : Below B w w8 := h.trans (k.mono hB)
theorem take_snocN (l : List Nd) (m : Nat) (h : m < l.length) : l.take (m + 1) = l.take m ++ [nd l (m : Int)] := by rw [List.take_succ_eq_append_getElem h, nd_cast l m h]
theorem low_own {w wr w1 : World} {B e size n : Nat} {v : Value} {xs : List Value} (hrow : wr.ownsRow B e size v n xs) (hb : Below B w wr) (hbs : B ≤ wr.heap.size) (o : Obj) (hg : (wr.alloc o).grownBy w1 v.ownBlock) : Below B w w1 ∧ B ≤ w1.heap.size := by
  have h1 : B ≤ (wr.alloc o).heap.size := by simp; omega
  exact ⟨(hb.alloc hbs o).grown hg h1 (fun k e => (hrow.lt k e).1), Nat.le_trans h1 hg.size⟩
/-- the rows' bytes -/
structure LBytes (l : List Nd) : Prop where
  len : l.length * 88 ≤ 140737488355328
  attrs : ∀ n ∈ l, n.attrs.length * 32 ≤ 140737488355328
  kids : ∀ n ∈ l, n.kids.length * 8 ≤ 140737488355328
theorem LBytes.at {l : List Nd} (h : LBytes l) (m : Nat) (hm : m < l.length) : (nd l (m : Int)).attrs.length * 32 ≤ 140737488355328 ∧ (nd l (m : Int)).kids.length * 8 ≤ 140737488355328 := by
  have hk := nd_cast l m hm
  rw [hk]
  exact ⟨h.attrs _ (List.getElem_mem hm), h.kids _ (List.getElem_mem hm)⟩
set_option maxHeartbeats 6400000 in
set_option maxRecDepth 100000 in
theorem copied_any (v : Value) (l : List Nd) (hL : LBytes l) (w : World) (hA : NodesAt w v l) :
    Calls Tryz.prog 27 #[v] w fun e w' => ∃ v' ps, e = .returned v' ∧ CpR w' w.heap.size v' l ps ∧ Below w.heap.size w w' := by
  obtain ⟨ia, hia, hza, hza1, hza2⟩ := info_parts infoA
  obtain ⟨ii, hii, hzi, hzi1, hzi2⟩ := info_parts infoI
  obtain ⟨inn, hin, hzn, hzn1, hzn2⟩ := info_parts infoN
  have hlen := hL.len
  obtain ⟨oa, cap, rfl⟩ := NodesAt.lenN hA
  obtain ⟨B, hB⟩ : ∃ B, B = w.heap.size := ⟨_, rfl⟩
  rw [← hB]
  have HN := Lib.hid (fun w' (h : Below B w w') j hj => nodes_all (hA.below (w' := w') (by rw [← hB]; exact h)) j hj)
  have HB := Lib.hid hB
  clear hB
  go_enter Tryz.func27, Tryz.ntmps27
  go_wp2_with fail
  go_loopw [3, 4] (fun s3 s4 wr => ∃ (m : Nat) (ps : List (Value × Value)), s4 = .int .i64 m ∧ m ≤ l.length ∧ Hid (CpR wr B s3 (l.take m) ps) ∧ Below B w wr ∧ B ≤ wr.heap.size) (fun _ s4 _ => l.length - (RowKit.intOf s4).toNat)
  case atStart => exact ⟨0, [], rfl, Nat.zero_le _, Lib.hid (CpR.nil _ _), Below.refl _ _, by rw [HB.out]; exact Nat.le_refl _⟩
  case round =>
    obtain ⟨m, ps, rfl, hm, hcp, hbw, hbs⟩ := hrel
    by_cases hlt : m < l.length
    case neg =>
      obtain rfl : m = l.length := by omega
      have hcp2 := hcp.out
      rw [List.take_length] at hcp2
      obtain ⟨a3, c3', rfl⟩ := RowAt.lenN (RowAt.of_owns hcp2.row)
      have HCP := Lib.hid hcp2
      clear hcp hcp2
      go_wp2_with fail
      go_ret
      exact ⟨_, ps, rfl, HCP.out, hbw⟩
    obtain ⟨b, off, cap2, va, vk, e, hn⟩ := HN.out wr hbw m hlt
    cases e
    have c0 := hn.c0
    have c1 := hn.c1
    have c2 := hn.c2
    have c3 := hn.c3
    have c4 := hn.c4
    obtain ⟨X, hX⟩ : ∃ X, X = Obj.cells #[.string ⟨#[]⟩, .string ⟨#[]⟩, .slice none 0 0, .int .i64 0, .slice none 0 0] 43 := ⟨_, rfl⟩
    have hbX : Below wr.heap.size wr (wr.alloc X) := (Below.refl _ wr).alloc (Nat.le_refl _) _
    have d0 := cell_below hbX c0
    have d1 := cell_below hbX c1
    have d2 := cell_below hbX c2
    have d3 := cell_below hbX c3
    have d4 := cell_below hbX c4
    rw [hX] at d0 d1 d2 d3 d4
    go_upto_region 5 with fail
    go_region
    obtain ⟨wq, hwq⟩ : ∃ wq, wq = (wr.alloc (.cells #[.string ⟨(nd l (m : Int)).name.toArray⟩, .string ⟨(nd l (m : Int)).text.toArray⟩, .slice none 0 0, .int .i64 (nd l (m : Int)).parent, .slice none 0 0] 43)).drew := ⟨_, rfl⟩
    rw [← hwq]
    have hbq : Below wr.heap.size wr wq := by rw [hwq]; exact ((Below.refl _ wr).alloc (Nat.le_refl _) _).drew
    have hzq : wq.heap.size = wr.heap.size + 1 := by rw [hwq]; simp
    have hx5 : Bx wq wr.heap.size (.string ⟨(nd l (m : Int)).name.toArray⟩) (.string ⟨(nd l (m : Int)).text.toArray⟩) (.slice none 0 0) (.int .i64 (nd l (m : Int)).parent) (.slice none 0 0) := by rw [hwq]; constructor <;> simp
    have f2 := hx5.c2
    have g2 := cell_below hbq c2
    have g4 := cell_below hbq c4
    have HA := Lib.hid (attrs_row (hn.attrs.below hbq))
    have HK0 := Lib.hid hn.kids
    have H4 := Lib.hid c4
    have HLt := Lib.hid (lt_of_cell c4)
    clear hwq d0 d1 d2 d3 d4 c0 c1 c3 hX hbX
    obtain ⟨hat, hkd⟩ := hL.at m hlt
    have HAl := Lib.hid hat
    have HKl := Lib.hid hkd
    obtain ⟨aa, ac, rfl⟩ := AttrsAt.lenN hn.attrs
    obtain ⟨ka, kc, rfl⟩ := RowAt.lenN hn.kids
    clear hn hat hkd c2 c4
    go_wp2_with fail
    go_region_law (refine step_append_nil rfl _ _ 40 rfl 76 ia _ 2 32 Tryz.underlying40 hia hza hza1 hza2 rfl (by decide) (by simp [Act.eval]) _ rfl (nd l (m : Int)).attrs.length ((nd l (m : Int)).attrs.flatMap encA) (RowAt.below HA.out ((Below.refl _ _).drew) (Nat.le_refl _)) (encA_flat_len _) (encA_one _) (by have := HAl.out; unfold maxLen; omega) (by have := HAl.out; omega) ?_; intro v2 w5 hown2 hgrow2; have hx6 := hx5.drew.grown hgrow2; have h52 := hx6.c2; have h53 := hx6.z2; obtain ⟨a2, cp2, rfl⟩ := RowAt.lenN (RowAt.of_owns hown2))
    all_goals
      have hown2 : (w5.setCell ⟨wr.heap.size, 2, none⟩ (.slice a2 (nd l (m : Int)).attrs.length cp2)).ownsRow (wr.heap.size + 1) 76 2 (.slice a2 (nd l (m : Int)).attrs.length cp2) (nd l (m : Int)).attrs.length ((nd l (m : Int)).attrs.flatMap encA) :=
        own_set (by rw [show wq.drew.heap.size = wr.heap.size + 1 from hzq] at hown2; exact hown2) (by omega) 2 _
      have hx6 := hx6.set2 (.slice a2 (nd l (m : Int)).attrs.length cp2)
      have hb6 : Below wr.heap.size wr (w5.setCell ⟨wr.heap.size, 2, none⟩ (.slice a2 (nd l (m : Int)).attrs.length cp2)) := (below_grown_by hbq.drew hgrow2).setCell (p := ⟨wr.heap.size, 2, none⟩) (Nat.le_refl _) _
      obtain ⟨w6, hw6⟩ : ∃ w6, w6 = (w5.setCell ⟨wr.heap.size, 2, none⟩ (.slice a2 (nd l (m : Int)).attrs.length cp2)) := ⟨_, rfl⟩
      rw [← hw6] at hown2 hx6 hb6 ⊢
      clear hw6 h52 h53 hgrow2
      have k4 := (hb6.cell (p := ⟨b, off + m * 5 + 4, none⟩) HLt.out).trans H4.out
      have hKr : RowAt w6 (.slice ka (nd l (m : Int)).kids.length kc) (nd l (m : Int)).kids.length (intsV (nd l (m : Int)).kids) := by
        have := HK0.out
        unfold IntsAt at this
        rw [intsV_flat] at this
        exact RowAt.below this hb6 (Nat.le_refl _)
      have HKr := Lib.hid hKr
      have n4 := hx6.c4
      clear hKr f2 g2 g4
      go_wp2_with fail
      go_region_law (refine step_append_nil rfl _ _ 41 rfl 3 ii _ 1 8 Tryz.underlying41 hii hzi hzi1 hzi2 rfl (by decide) (by simp [Act.eval]) _ rfl (nd l (m : Int)).kids.length (intsV (nd l (m : Int)).kids) (RowAt.below HKr.out ((Below.refl _ _).drew) (Nat.le_refl _)) (by rw [intsV_len, Nat.mul_one]) (intsV_one _) (by have := HKl.out; unfold maxLen; omega) (by have := HKl.out; omega) ?_; intro v4 w7 hown4 hgrow4; have hx8 := hx6.drew.grown hgrow4; have h72 := hx8.c4; have h73 := hx8.z4; obtain ⟨a4, cp4, rfl⟩ := RowAt.lenN (RowAt.of_owns hown4))
    all_goals
      have hz6 := hb6.size
      have hlt6 : wr.heap.size < w6.heap.size := lt_of_cell n4
      have hown4 : (w7.setCell ⟨wr.heap.size, 4, none⟩ (.slice a4 (nd l (m : Int)).kids.length cp4)).ownsRow (wr.heap.size + 1) 3 1 (.slice a4 (nd l (m : Int)).kids.length cp4) (nd l (m : Int)).kids.length (intsV (nd l (m : Int)).kids) :=
        own_set (ownsRow_lower hown4 (show wr.heap.size + 1 ≤ w6.drew.heap.size from hlt6)) (by omega) 4 _
      have hown2 : (w7.setCell ⟨wr.heap.size, 4, none⟩ (.slice a4 (nd l (m : Int)).kids.length cp4)).ownsRow (wr.heap.size + 1) 76 2 (.slice a2 (nd l (m : Int)).attrs.length cp2) (nd l (m : Int)).attrs.length ((nd l (m : Int)).attrs.flatMap encA) :=
        own_set (own_grown hown2.drew hgrow4) (by omega) 4 _
      have hx8 := hx8.set4 (.slice a4 (nd l (m : Int)).kids.length cp4)
      have hb8 : Below wr.heap.size wr (w7.setCell ⟨wr.heap.size, 4, none⟩ (.slice a4 (nd l (m : Int)).kids.length cp4)) := (below_grown_by hb6.drew hgrow4).setCell (p := ⟨wr.heap.size, 4, none⟩) (Nat.le_refl _) _
      obtain ⟨w8, hw8⟩ : ∃ w8, w8 = (w7.setCell ⟨wr.heap.size, 4, none⟩ (.slice a4 (nd l (m : Int)).kids.length cp4)) := ⟨_, rfl⟩
      rw [← hw8] at hown4 hown2 hx8 hb8 ⊢
      clear hw8 h72 h73 hgrow4 hx6 hb6
      have hz8 := hb8.size
      have hcp8 := hcp.out.below hb8
      have hbw8 := below_trans' hbw hb8 hbs
      obtain ⟨x0, x1, x2, x3, x4, _, _⟩ := hx8
      have HTk := Lib.hid (take_snocN l m hlt)
      have HTl : Hid ((l.take m).length = m) := Lib.hid (by rw [List.length_take]; omega)
      obtain ⟨a3, c3', rfl⟩ := RowAt.lenN (RowAt.of_owns hcp8.row)
      have HCP := Lib.hid hcp8
      have hrow8 := hcp8.row
      rw [HTl.out] at hrow8
      rw [HTl.out]
      clear hcp8 hcp
      go_wp2_with (at_builtin; refine wpList_append_lies _ rfl _ _ 22 rfl B 43 inn _ 5 88 Tryz.underlying22 hin hzn hzn1 hzn2 rfl (by decide) _ _ _ rfl (World.ownsRow.alloc hrow8 _) ⟨w8.heap.size, 0, none⟩ 1 1 (encN (nd l (m : Int)) (.slice a2 (nd l (m : Int)).attrs.length cp2, .slice a4 (nd l (m : Int)).kids.length cp4)) rfl rfl ?_ ?_ (by decide) ?_ ?_ ?_ _ rfl ?_)
      all_goals first | exact World.news_of_block (cs := #[.string ⟨(nd l (m : Int)).name.toArray⟩, .string ⟨(nd l (m : Int)).text.toArray⟩, .slice a2 (nd l (m : Int)).attrs.length cp2, .int .i64 (nd l (m : Int)).parent, .slice a4 (nd l (m : Int)).kids.length cp4]) (t := 43) (fr := (0, 0)) (heap_alloc_new w8 _) | (intro u hu; simp only [encN, List.mem_cons, List.not_mem_nil, or_false] at hu; rcases hu with rfl | rfl | rfl | rfl | rfl <;> rfl) | (unfold maxLen; omega) | omega | (simp; omega) | skip
      intro g9 cap9 w9 hown9 hgrow9 hat9 hlt9
      have hcp9 : CpR w9 B (.slice (some ⟨g9, 0, none⟩) (m + 1) cap9) (l.take (m + 1)) (ps ++ [(.slice a2 (nd l (m : Int)).attrs.length cp2, .slice a4 (nd l (m : Int)).kids.length cp4)]) := by
        rw [HTk.out]
        exact HCP.out.snoc (nd l (m : Int)) _ _ (ownsRow_lower hown2 (by omega)) (ownsRow_lower hown4 (by omega)) (by rw [HTl.out]; exact hgrow9) (by rw [HTl.out]; exact hown9)
      obtain ⟨hbw9, hbs9⟩ := low_own hrow8 hbw8 (by omega) _ hgrow9
      have HC9 := Lib.hid hcp9
      clear hown9 hgrow9 hat9 hcp9 HCP hrow8 hown2 hown4 x0 x1 x2 x3 x4
      go_wp2_with fail
      go_roundw
      case rel => exact ⟨m + 1, _, by go_num, by omega, HC9, hbw9, hbs9⟩
      case measure => simp [RowKit.intOf]; omega
end Go.Proofs.YtoajgfhcongocaaGreatDoor.doc

namespace Go.Proofs.YtoajgfhcongocaaGreatDoor.doc
open Go.ChangeShapes Go.WideShapes Go.ChangeAt Go.RowKit Go.Lib Go.Proofs.YtoajgfhcongocaaGreatDoor.atr Go.Proofs.YtoajgfhcongocaaGreatDoor.link

theorem encN_len (x : Nd × (Value × Value)) : (encN x.1 x.2).length = 5 := rfl
theorem own_cap {w : World} {b e : Nat} {size : Nat} {v : Value} {n : Nat} {xs : List Value} (h : w.ownsRow b e size v n xs) : CapOk v := by
  rcases h.2 with ⟨rfl, _⟩ | ⟨g, cap, cur, rfl, _, _, hc, _⟩
  · exact CapOk.nil
  · intro a n' c' e; cases e; exact hc
theorem attrs_own {w : World} {B : Nat} {v : Value} {l : List Attr} (h : w.ownsRow B 76 2 v l.length (l.flatMap encA)) : AttrsAt w v l := by
  rcases RowAt.of_owns h with ⟨h0, _, oa, cap, rfl⟩ | ⟨b, off, cap, rfl, h0, hb, hc⟩
  · exact .inl ⟨List.length_eq_zero_iff.1 h0, oa, cap, rfl⟩
  · refine .inr ⟨b, off, cap, rfl, h0, hb, fun j hj => ?_⟩
    have e0 := flat_at encA 2 (fun _ => rfl) l j hj 0 (by decide)
    have e1 := flat_at encA 2 (fun _ => rfl) l j hj 1 (by decide)
    refine ⟨hc (j * 2) _ (by simpa [encA] using e0), ?_⟩
    have := hc (j * 2 + 1) (.string ⟨l[j].2.toArray⟩) (by simpa [encA] using e1)
    rw [Nat.add_assoc]
    exact this
theorem CpR.nodes {w : World} {B : Nat} {v : Value} {l : List Nd} {ps : List (Value × Value)} (h : CpR w B v l ps) : NodesAt w v l := by
  rcases RowAt.of_owns h.row with ⟨h0, _, oa, cap, rfl⟩ | ⟨b, off, cap, rfl, h0, hb, hc⟩
  · exact .inl ⟨List.length_eq_zero_iff.1 h0, oa, cap, rfl⟩
  · refine .inr ⟨b, off, cap, rfl, h0, hb, fun j hj => ?_⟩
    have hj' : j < ps.length := by rw [h.len]; exact hj
    have hz : j < (l.zip ps).length := by rw [List.length_zip, h.len, Nat.min_self]; exact hj
    have ez : (l.zip ps)[j] = (l[j], ps[j]) := List.getElem_zip
    have key : ∀ i (hi : i < 5) u, (encN l[j] ps[j])[i]? = some u → w.cell? ⟨b, off + j * 5 + i, none⟩ = some u := by
      intro i hi u hu
      have := flat_at (fun x : Nd × (Value × Value) => encN x.1 x.2) 5 encN_len (l.zip ps) j hz i hi
      rw [ez] at this
      rw [Nat.add_assoc]
      exact hc _ _ (this.trans hu)
    refine ⟨ps[j].1, ps[j].2, key 0 (by decide) _ rfl, key 1 (by decide) _ rfl, key 2 (by decide) _ rfl, key 3 (by decide) _ rfl, key 4 (by decide) _ rfl, attrs_own (h.attrs j hj hj'), ?_, own_cap (h.attrs j hj hj')⟩
    exact OwnI.ints (h.kids j hj hj')
end Go.Proofs.YtoajgfhcongocaaGreatDoor.doc

namespace Go.Proofs.YtoajgfhcongocaaGreatDoor.doc
open Go.ChangeShapes Go.WideShapes Go.ChangeAt Go.RowKit Go.Lib Go.Proofs.YtoajgfhcongocaaGreatDoor.atr Go.Proofs.YtoajgfhcongocaaGreatDoor.link

set_option maxHeartbeats 3200000 in
set_option maxRecDepth 100000 in
theorem sameints_any (va vb : Value) (ks : List Int) (hn : ks.length ≤ 100000) (w : World) (hA : IntsAt w va ks) (hB : IntsAt w vb ks) :
    Calls Tryz.prog 28 #[va, vb] w fun e w' => e = .returned (.bool true) ∧ Below w.heap.size w w' := by
  obtain ⟨oa, ca, rfl⟩ := RowAt.lenN hA
  obtain ⟨ob, cb, rfl⟩ := RowAt.lenN hB
  go_enter Tryz.func28, Tryz.ntmps28
  go_wp2_with fail
  go_loopw [5] (fun s5 wr => ∃ k : Nat, s5 = .int .i64 k ∧ k ≤ ks.length ∧ Below w.heap.size w wr) (fun s5 _ => ks.length - (RowKit.intOf s5).toNat)
  case atStart => exact ⟨0, rfl, by omega, Below.refl _ _⟩
  case round =>
    obtain ⟨k, rfl, hk, hbw⟩ := hrel
    by_cases hlt : k < ks.length
    · obtain ⟨b1, o1, c1, e, hb1⟩ := IntsAt.addr hA (by omega)
      cases e
      obtain ⟨b2, o2, c2, e, hb2⟩ := IntsAt.addr hB (by omega)
      cases e
      have e1 := cell_below hbw (IntsAt.cellAt hA k hlt)
      have e2 := cell_below hbw (IntsAt.cellAt hB k hlt)
      generalize ks[k] = x at *
      clear hA hB
      go_wp2_with fail
      go_region
      all_goals
        go_wp2_with fail
        go_roundw
        case rel => exact ⟨k + 1, by go_num, by omega, by first | exact hbw.drew | exact hbw⟩
        case measure => simp [RowKit.intOf]; omega
    · obtain rfl : k = ks.length := by omega
      go_wp2_with fail
      go_ret
      exact ⟨rfl, hbw⟩
end Go.Proofs.YtoajgfhcongocaaGreatDoor.doc
