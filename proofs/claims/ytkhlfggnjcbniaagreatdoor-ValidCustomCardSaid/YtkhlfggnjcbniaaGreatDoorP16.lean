/- A part of the proofs: lemmas and contracts. -/
import Derived.Test.YtkhlfggnjcbniaaGreatDoorP15
set_option maxHeartbeats 12800000
set_option maxRecDepth 1000000
namespace Go.Proofs.YtkhlfggnjcbniaaGreatDoor.doc

theorem climb_add (l : List Nd) : ∀ (m n : Nat) (k : Int), climb l (m + n) k = climb l n (climb l m k) := by
 intro m
 induction m with
 | zero => intro n k; rw [Nat.zero_add]; rfl
 | succ m ih =>
  intro n k
  rw [show m + 1 + n = (m + n) + 1 from by omega, climb_step, climb_step]
  by_cases h : k < 0
  ·rw [if_pos h, if_pos h, climb_neg l n k h]
  ·rw [if_neg h, if_neg h, ih]
theorem ord_anc {l : List Nd} (h : Rt l) : ∀ k, inR l k → ∀ x ∈ ordP l k, climb l (dep l x - dep l k) x = k := by
 refine by_depth h (fun k => ∀ x ∈ ordP l k, climb l (dep l x - dep l k) x = k) ?_
 intro k hk ih x hx
 rw [ord_eq h k hk] at hx
 rcases List.mem_cons.1 hx with rfl | hx
 ·rw [Nat.sub_self]; rfl
 ·obtain ⟨c, hc, hx⟩ := List.mem_flatMap.1 hx
  obtain ⟨c1, c2⟩ := h.kid k c hk hc
  have hd := dep_kid h c c1
  rw [c2] at hd
  have hx2 := (ord_in h c c1 x hx).2
  have e := ih c hc x hx
  rw [show dep l x - dep l k = (dep l x - dep l c) + 1 from by omega, climb_add, e, climb_step, if_neg (by have := c1.1; omega), c2]; rfl
theorem ord_nodup {l : List Nd} (h : Rt l) : ∀ k, inR l k → (ordP l k).Nodup := by
 refine by_depth h (fun k => (ordP l k).Nodup) ?_
 intro k hk ih
 rw [ord_eq h k hk, List.nodup_cons]
 refine ⟨?_, flat_nodup _ _ (kids_nodup h k hk) ih ?_⟩
 ·intro hx
  obtain ⟨c, hc, hx⟩ := List.mem_flatMap.1 hx
  obtain ⟨c1, c2⟩ := h.kid k c hk hc
  have hd := dep_kid h c c1
  rw [c2] at hd
  have := (ord_in h c c1 k hx).2
  omega
 ·intro x hx y hy hxy z hz hw
  obtain ⟨x1, x2⟩ := h.kid k x hk hx
  obtain ⟨y1, y2⟩ := h.kid k y hk hy
  have dx := dep_kid h x x1
  have dy := dep_kid h y y1
  rw [x2] at dx
  rw [y2] at dy
  have e1 := ord_anc h x x1 z hz
  have e2 := ord_anc h y y1 z hw
  rw [show dep l y = dep l x from by omega] at e2
  exact hxy (e1.symm.trans e2)
theorem ord_le {l : List Nd} (h : Rt l) (k : Int) (hk : inR l k) : (ordP l k).length ≤ l.length :=
 seen_le l _ (ord_nodup h k hk) (fun x hx => (ord_in h k hk x hx).1)
theorem ord_pos {l : List Nd} (h : Rt l) (k : Int) (hk : inR l k) : 1 ≤ (ordP l k).length := by rw [ord_eq h k hk, List.length_cons]; omega
structure St (l : List Nd) (id : Int) (out st : List Int) : Prop where
 sum : out ++ st.reverse.flatMap (ordP l) = ordP l id
 inr : ∀ c ∈ st, inR l c
end Go.Proofs.YtkhlfggnjcbniaaGreatDoor.doc
namespace Go.Proofs.YtkhlfggnjcbniaaGreatDoor.doc
open Go.ChangeShapes Go.WideShapes Go.ChangeAt Go.RowKit Go.Lib atr link

theorem ret_str {a b : List UInt8} (h : a = b) : Ending.returned (.string ⟨a.toArray⟩) = .returned (.string ⟨b.toArray⟩) := by rw [h]
def txK (l : List Nd) (k : Int) : List UInt8 := (nd l k).text
def txT (l : List Nd) (o : Int) (m : Nat) : List UInt8 := (nd l o).text ++ ((nd l o).kids.take m).flatMap (txK l)
theorem txT_zero (l : List Nd) (o : Int) : txT l o 0 = (nd l o).text := by unfold txT; simp
theorem txT_all (l : List Nd) (o : Int) : txT l o (nd l o).kids.length = textP l o := by unfold txT textP; rw [List.take_length]; rfl
theorem txT_succ (l : List Nd) (o : Int) (m : Nat) (h : m < (nd l o).kids.length) : txT l o (m + 1) = txT l o m ++ txK l ((nd l o).kids[m]) := by
 unfold txT
 rw [List.take_succ_eq_append_getElem h, List.flatMap_append, List.append_assoc]
 simp

theorem text_le {l : List Nd} (h : Rt l) (k : Int) (hk : inR l k) : (nd l k).text.length ≤ 4000 := by
 have := h.alone k hk
 unfold aloneP at this
 split at this
 ·simp only [Bool.and_eq_true, decide_eq_true_eq] at this
  exact this.2
 ·simp only [Bool.and_eq_true, List.isEmpty_iff] at this
  rw [this.1.1.2]; simp
theorem flat_le (l : List Nd) (h : Rt l) : ∀ (ks : List Int), (∀ c ∈ ks, inR l c) → (ks.flatMap (txK l)).length ≤ 4000 * ks.length := by
 intro ks
 induction ks with
 | nil => intro _; simp
 | cons c r ih =>
  intro hc
  have h1 := ih (fun x hx => hc x (List.mem_cons_of_mem _ hx))
  have h2 := text_le h c (hc c List.mem_cons_self)
  rw [List.flatMap_cons, List.length_append, List.length_cons]
  unfold txK at *
  omega
theorem txT_le {l : List Nd} (h : Rt l) (o : Int) (ho : inR l o) (m : Nat) (hk : (nd l o).kids.length ≤ 400) : (txT l o m).length ≤ 1604000 := by
 unfold txT
 have h1 := text_le h o ho
 have h2 := flat_le l h ((nd l o).kids.take m) (fun c hc => (h.kid o c ho (List.mem_of_mem_take hc)).1)
 have h3 : ((nd l o).kids.take m).length ≤ 400 := by rw [List.length_take]; omega
 rw [List.length_append]
 omega
theorem strAdd (a b : List UInt8) (h : a.length + b.length ≤ 9223372036854775807) (w : World) : (Op.stringOp .add ⟨a.toArray⟩ ⟨b.toArray⟩).run Tryz.prog w = .ok (.string ⟨(a ++ b).toArray⟩) w := by
 have := run_string_add_sum (P := Tryz.prog) (w := w) ⟨a.toArray⟩ ⟨b.toArray⟩ (by rw [bsize, bsize]; exact h)
 rw [bapp] at this
 exact this
theorem nodes_get {w : World} {b off : Nat} {l : List Nd} {cap n : Nat} (hA : NodesAt w (.slice (some ⟨b, off, none⟩) n cap) l) (k : Nat) (hk : k < l.length) : ∃ va vk, NodeAt w b (off + k * 5) (nd l (k : Int)) va vk := by
 obtain ⟨b', off', cap', e, _, h⟩ := NodesAt.at hA (by omega)
 cases e
 have := h (k : Int) (by omega) (by omega)
 rwa [Int.toNat_natCast] at this
theorem nodes_addr {w : World} {v : Value} {l : List Nd} (hA : NodesAt w v l) (h0 : 0 < l.length) : ∃ b off cap, v = .slice (some ⟨b, off, none⟩) l.length cap ∧ b < w.heap.size := by
 obtain ⟨b', off', cap', e, hb, _⟩ := NodesAt.at hA h0
 exact ⟨_, _, _, e, hb⟩

theorem rtext_any (v : Value) (l : List Nd) (hR : rightB l = true) (k : Nat) (hk : k < l.length) (w : World) (hA : NodesAt w v l) :
  Calls Tryz.prog 213 #[v, .int .i64 k] w fun e w' => e = .returned (.string ⟨(textP l (k : Int)).toArray⟩) ∧ w = w' := by
 have hRt := right_rt l hR
 have hf := hRt.few
 obtain ⟨b, off, cap, rfl, hb⟩ := nodes_addr hA (by omega)
 obtain ⟨va, vk, hn⟩ := nodes_get hA k hk
 have HG := Lib.hid (fun j hj => nodes_get hA j hj)
 have HK := Lib.hid (fun c hc => (hRt.kid (k : Int) c ⟨by omega, by omega⟩ hc).1)
 have hkl : (nd l (k : Int)).kids.length ≤ 400 := by
  have := seen_le l _ (kids_nodup hRt (k : Int) ⟨by omega, by omega⟩) (fun x hx => HK.out x hx)
  omega
 have HT0 := Lib.hid (txT_zero l (k : Int))
 have HTA := Lib.hid (txT_all l (k : Int))
 have HTS := Lib.hid (fun m h => txT_succ l (k : Int) m h)
 have HLe := Lib.hid (fun m => txT_le hRt (k : Int) ⟨by omega, by omega⟩ m hkl)
 have HTk := Lib.hid (fun c hc => text_le hRt c hc)
 have d1 := hn.c1
 have d4 := hn.c4
 have HKS := Lib.hid hn.kids
 clear hn hA hRt hR
 obtain ⟨res, hres⟩ : ∃ r, r = textP l (k : Int) := ⟨_, rfl⟩
 rw [← hres] at HTA ⊢
 clear hres
 rw [← HT0.out] at d1
 obtain ⟨ks, hks⟩ : ∃ ks, ks = (nd l (k : Int)).kids := ⟨_, rfl⟩
 rw [← hks] at HK hkl HTA HTS HKS
 clear hks HT0
 obtain ⟨ka, kc, rfl⟩ := RowAt.lenN HKS.out
 have h0 : (0 : Int) ≤ (k : Int) := by omega
 have hk' : (k : Int) < (l.length : Int) := by omega
 go_enter Tryz.func213, Tryz.ntmps213
 go_wp2_with fail
 clear d1
 go_loopw [5, 6] (fun s5 s6 wr => ∃ m : Nat, s6 = .int .i64 m ∧ m ≤ ks.length ∧ s5 = .string ⟨(txT l (k : Int) m).toArray⟩ ∧ w = wr) (fun _ s6 _ => ks.length - (RowKit.intOf s6).toNat)
 case atStart => exact ⟨0, rfl, by omega, rfl, rfl⟩
 case round =>
  obtain ⟨m, rfl, hm, rfl, rfl⟩ := hrel
  by_cases hlt : m < ks.length
  ·obtain ⟨kb, ko, kcap, e, hkb⟩ := IntsAt.addr HKS.out (by omega)
   cases e
   have e0 := IntsAt.cellAt HKS.out m hlt
   have hr := HK.out ks[m] (List.getElem_mem hlt)
   have HS := Lib.hid (HTS.out m hlt)
   obtain ⟨hr1, hr2⟩ := hr
   generalize ks[m] = c at *
   obtain ⟨cn, rfl⟩ : ∃ cn : Nat, c = (cn : Int) := ⟨c.toNat, by omega⟩
   obtain ⟨va2, vk2, hn2⟩ := HG.out cn (by omega)
   have e1 : w.cell? ⟨b, off + cn * 5 + 1, none⟩ = some (.string ⟨(txK l (cn : Int)).toArray⟩) := hn2.c1
   clear hn2
   have hadd := fun w => strAdd (txT l (k : Int) m) (txK l (cn : Int)) (by have h1 := HLe.out m; have h2 : (txK l (cn : Int)).length ≤ 4000 := HTk.out (cn : Int) ⟨by omega, by omega⟩; omega) w
   generalize txK l (cn : Int) = y at *
   go_wp2_with fail
   go_roundw
   case rel => exact ⟨m + 1, by go_num, by omega, by rw [HS.out], by first | rfl | trivial⟩
   case measure => simp [RowKit.intOf]; omega
  ·obtain rfl : m = ks.length := by omega
   go_wp2_with fail
   go_ret
   exact ⟨ret_str HTA.out, rfl⟩

theorem ttext_any (v : Value) (l : List Nd) (hL : LFine l) (hR : rightB l = true) (k : Nat) (hk : k < l.length) (w : World) (hA : NodesAt w v l) :
  Calls Tryz.prog 225 #[v, .int .i64 k] w fun e w' => e = .returned (.string ⟨(textP l (k : Int)).toArray⟩) ∧ Below w.heap.size w w' := by
 have hh := thas_any v l (k : Int) hL w hA
 rw [hR, decide_eq_true (by omega : (0 : Int) ≤ (k : Int)), decide_eq_true (by omega : (k : Int) < (l.length : Int))] at hh
 have hRt := right_rt l hR
 have hf := hRt.few
 obtain ⟨b, off, cap, rfl, hb⟩ := nodes_addr hA (by omega)
 have HA := Lib.hid (fun w' (h : Below w.heap.size w w') => hA.below h)
 have HK := Lib.hid (fun c hc => (hRt.kid (k : Int) c ⟨by omega, by omega⟩ hc).1)
 have hkl : (nd l (k : Int)).kids.length ≤ 400 := by
  have := seen_le l _ (kids_nodup hRt (k : Int) ⟨by omega, by omega⟩) (fun x hx => HK.out x hx)
  omega
 have HT0 := Lib.hid (txT_zero l (k : Int))
 have HTA := Lib.hid (txT_all l (k : Int))
 have HTS := Lib.hid (fun m h => txT_succ l (k : Int) m h)
 have HLe := Lib.hid (fun m => txT_le hRt (k : Int) ⟨by omega, by omega⟩ m hkl)
 have HTk := Lib.hid (fun c hc => text_le hRt c hc)
 clear hA hRt hR
 obtain ⟨res, hres⟩ : ∃ r, r = textP l (k : Int) := ⟨_, rfl⟩
 rw [← hres] at HTA ⊢
 clear hres
 have h0 : (0 : Int) ≤ (k : Int) := by omega
 have hk' : (k : Int) < (l.length : Int) := by omega
 go_enter Tryz.func225, Tryz.ntmps225
 go_wp2_with fail
 refine hh.mono ?_
 rintro e w1 ⟨rfl, hb1⟩
 have HG := Lib.hid (fun j hj => nodes_get (HA.out w1 hb1) j hj)
 obtain ⟨va, vk, hn⟩ := HG.out k hk
 have d1 := hn.c1
 have d4 := hn.c4
 have HKS := Lib.hid hn.kids
 clear hn hh HA
 rw [← HT0.out] at d1
 obtain ⟨ks, hks⟩ : ∃ ks, ks = (nd l (k : Int)).kids := ⟨_, rfl⟩
 rw [← hks] at HK hkl HTA HTS HKS
 clear hks HT0
 obtain ⟨ka, kc, rfl⟩ := RowAt.lenN HKS.out
 go_wp2_with fail
 clear d1 d4
 go_loopw [5, 23] (fun s5 s6 wr => ∃ m : Nat, s6 = .int .i64 m ∧ m ≤ ks.length ∧ s5 = .string ⟨(txT l (k : Int) m).toArray⟩ ∧ w1 = wr) (fun _ s6 _ => ks.length - (RowKit.intOf s6).toNat)
 case atStart => exact ⟨0, rfl, by omega, rfl, rfl⟩
 case round =>
  obtain ⟨m, rfl, hm, rfl, rfl⟩ := hrel
  by_cases hlt : m < ks.length
  ·obtain ⟨kb, ko, kcap, e, hkb⟩ := IntsAt.addr HKS.out (by omega)
   cases e
   have e0 := IntsAt.cellAt HKS.out m hlt
   have hr := HK.out ks[m] (List.getElem_mem hlt)
   have HS := Lib.hid (HTS.out m hlt)
   obtain ⟨hr1, hr2⟩ := hr
   generalize ks[m] = c at *
   obtain ⟨cn, rfl⟩ : ∃ cn : Nat, c = (cn : Int) := ⟨c.toNat, by omega⟩
   obtain ⟨va2, vk2, hn2⟩ := HG.out cn (by omega)
   have e1 : w1.cell? ⟨b, off + cn * 5 + 1, none⟩ = some (.string ⟨(txK l (cn : Int)).toArray⟩) := hn2.c1
   clear hn2
   have hadd := fun w => strAdd (txT l (k : Int) m) (txK l (cn : Int)) (by have h1 := HLe.out m; have h2 : (txK l (cn : Int)).length ≤ 4000 := HTk.out (cn : Int) ⟨by omega, by omega⟩; omega) w
   generalize txK l (cn : Int) = y at *
   go_wp2_with fail
   go_roundw
   case rel => exact ⟨m + 1, by go_num, by omega, by rw [HS.out], by first | rfl | trivial⟩
   case measure => simp [RowKit.intOf]; omega
  ·obtain rfl : m = ks.length := by omega
   go_wp2_with fail
   go_ret
   exact ⟨ret_str HTA.out, hb1⟩

theorem ohas_any (n : Nd) (va vk : Value) (nm : List UInt8) (hn : n.attrs.length ≤ 140737488355328) (w : World) (hA : AttrsAt w va n.attrs) (hK : IntsAt w vk n.kids) :
  Calls Tryz.prog 284 #[nodeV n va vk, .string ⟨nm.toArray⟩] w fun e w' => e = .returned (.bool (hasA nm n.attrs)) ∧ Below w.heap.size w w' := by
 obtain ⟨nme, tx, a, p, ks⟩ := n
 dsimp only at hn hA hK
 obtain ⟨ka, kc, rfl⟩ := RowAt.lenN hK
 obtain ⟨aa, ac, rfl⟩ := AttrsAt.lenN hA
 unfold nodeV hasA
 dsimp only
 obtain ⟨w1, hw1⟩ : ∃ w1, w1 = (w.alloc (.cells #[.string ⟨nme.toArray⟩, .string ⟨tx.toArray⟩, .slice aa a.length ac, .int .i64 p, .slice ka ks.length kc] 41)).alloc (.cells #[.string ⟨nm.toArray⟩] 9) := ⟨_, rfl⟩
 have hB1 : Below w.heap.size w w1 := by rw [hw1]; exact ((Below.refl _ w).alloc (Nat.le_refl _) _).alloc (by simp) _
 have eg : ∀ args w, (callFunc 323 args).run Tryz.prog w = .ok (.enter 323 args) w := enters_of Tryz.func323 (by kernel_rfl) rfl
 have f0 : w1.cell? ⟨w.heap.size + 1, 0, none⟩ = some (.string ⟨nm.toArray⟩) := by
  have := World.cell?_alloc_new (w.alloc (.cells #[.string ⟨nme.toArray⟩, .string ⟨tx.toArray⟩, .slice aa a.length ac, .int .i64 p, .slice ka ks.length kc] 41)) #[.string ⟨nm.toArray⟩] 9 0
  rw [World.size_alloc] at this
  rw [hw1, this]; rfl
 have hI := contf_any 323 #[.pointer (some ⟨w.heap.size + 1, 0, none⟩)] eg nm _ a hn w1 (hA.below hB1)
  (pred_has nm (w.heap.size + 1) _ (lt_of_cell f0) f0)
 clear hA eg f0
 generalize (fval nm a).isSome = r at *
 go_enter Tryz.func284, Tryz.ntmps284
 go_wp2_with fail
 rw [← hw1]
 refine hI.mono ?_
 rintro e w' ⟨rfl, hb'⟩
 clear hI
 go_wp2_with fail
 go_ret
 exact ⟨rfl, below_trans hB1 hb'⟩

theorem is_any (v : Value) (l : List Nd) (k kind : Int) (hL : LFine l) (w : World) (hA : NodesAt w v l) :
  Calls Tryz.prog 146 #[v, .int .i64 k, .int .i64 kind] w fun e w' => e = .returned (.bool (isP l k kind)) ∧ Below w.heap.size w w' := by
 have hr := fun w' (h : Below w.heap.size w w') => right_any v l hL w' (hA.below h)
 have HP : Hid (isP l k kind = (decide (0 ≤ k) && decide (k < (l.length : Int)) && (kN l k == kind) && rightB l)) := Lib.hid rfl
 have hlen := hL.len
 by_cases g0 : 0 ≤ k
 case neg =>
  have HX : Hid (isP l k kind = false) := Lib.hid (by rw [HP.out, decide_eq_false g0]; rfl)
  obtain ⟨oa, cap, rfl⟩ := NodesAt.lenN hA
  generalize isP l k kind = r at *
  clear hA hr HP hL
  go_enter Tryz.func146, Tryz.ntmps146
  go_wp2_with fail
  go_ret
  exact ⟨ret_bool HX.out.symm, Below.refl _ _⟩
 by_cases g1 : k < (l.length : Int)
 case neg =>
  have HX : Hid (isP l k kind = false) := Lib.hid (by rw [HP.out, decide_eq_false g1, Bool.and_false]; rfl)
  obtain ⟨oa, cap, rfl⟩ := NodesAt.lenN hA
  generalize isP l k kind = r at *
  clear hA hr HP hL
  go_enter Tryz.func146, Tryz.ntmps146
  go_wp2_with fail
  go_ret
  exact ⟨ret_bool HX.out.symm, Below.refl _ _⟩
 obtain ⟨kn, rfl⟩ : ∃ kn : Nat, k = (kn : Int) := ⟨k.toNat, by omega⟩
 obtain ⟨b, off, cap, rfl, hb⟩ := nodes_addr hA (by omega)
 obtain ⟨va, vk, hn⟩ := nodes_get hA kn (by omega)
 have hof := of_any (nd l (kn : Int)) va vk (hL.nd _ g0 g1) w hn.attrs hn.kids
 unfold nodeV at hof
 have HK : Hid (kindP (nd l (kn : Int)).name (nd l (kn : Int)).attrs = kN l (kn : Int)) := Lib.hid rfl
 have HP2 : Hid (isP l (kn : Int) kind = ((kN l (kn : Int) == kind) && rightB l)) := Lib.hid (by rw [HP.out, decide_eq_true g0, decide_eq_true g1]; rfl)
 rw [HK.out] at hof
 obtain ⟨c0, c1, c2, c3, c4, _, _, _⟩ := hn
 generalize isP l (kn : Int) kind = r at *
 generalize kN l (kn : Int) = kd at *
 generalize rightB l = rb at *
 generalize nd l (kn : Int) = n at *
 clear HP hA hL
 by_cases g2 : kd = kind
 ·subst g2
  have HX : Hid (r = rb) := Lib.hid (by rw [HP2.out]; simp)
  go_enter Tryz.func146, Tryz.ntmps146
  go_wp2_with fail
  refine hof.mono ?_
  rintro e w1 ⟨rfl, hb1⟩
  have hr1 := hr w1 hb1
  clear hr hof c0 c1 c2 c3 c4
  go_wp2_with fail
  refine hr1.mono ?_
  rintro e w2 ⟨rfl, hb2⟩
  go_wp2_with fail
  go_ret
  exact ⟨ret_bool HX.out.symm, below_trans hb1 hb2⟩
 ·have gb : (kd == kind) = false := by simpa using g2
  have HX : Hid (r = false) := Lib.hid (by rw [HP2.out, gb]; rfl)
  clear hr g2
  go_enter Tryz.func146, Tryz.ntmps146
  go_wp2_with fail
  refine hof.mono ?_
  rintro e w1 ⟨rfl, hb1⟩
  go_wp2_with fail
  go_ret
  exact ⟨ret_bool HX.out.symm, hb1⟩

end Go.Proofs.YtkhlfggnjcbniaaGreatDoor.doc
namespace Go.Proofs.YtkhlfggnjcbniaaGreatDoor.doc
open Go.ChangeShapes Go.WideShapes Go.ChangeAt Go.RowKit Go.Lib atr link cln

theorem idx_blank (c : UInt8) : (0 ≤ Lib.indexByte [9, 10, 12, 13, 32] c) = (isB c = true) := by
 have : ∀ n : Fin 256, (0 ≤ Lib.indexByte [9, 10, 12, 13, 32] (UInt8.ofNat n.1)) = (isB (UInt8.ofNat n.1) = true) := by
  have h2 : ∀ n : Fin 256, decide (0 ≤ Lib.indexByte [9, 10, 12, 13, 32] (UInt8.ofNat n.1)) = isB (UInt8.ofNat n.1) := by decide +kernel
  intro n
  rw [← h2 n, decide_eq_true_eq]
 have h := this ⟨c.toNat, c.toNat_lt⟩
 simpa using h
theorem colS_nil (out : List UInt8) (a : Bool) : colS out a [] = out := by rw [colS]
theorem colS_blank (out : List UInt8) (a : Bool) (c : UInt8) (r : List UInt8) (h : isB c = true) : colS out a (c :: r) = colS out (decide (0 < out.length)) r := by rw [colS, if_pos h]
theorem colS_on (out : List UInt8) (c : UInt8) (r : List UInt8) (h : isB c = false) : colS out true (c :: r) = colS (out ++ [32] ++ [c]) false r := by rw [colS, if_neg (by rw [h]; simp), if_pos rfl]
theorem colS_off (out : List UInt8) (c : UInt8) (r : List UInt8) (h : isB c = false) : colS out false (c :: r) = colS (out ++ [c]) false r := by rw [colS, if_neg (by rw [h]; simp), if_neg (by simp), List.append_nil]

theorem collapse_any (s : List UInt8) (hs : s.length ≤ 2000000) (w : World) :
  Calls Tryz.prog 224 #[.string ⟨s.toArray⟩] w fun e w' => e = .returned (.string ⟨(collapseS s).toArray⟩) ∧ Below w.heap.size w w' := by
 obtain ⟨res, hres⟩ : ∃ r, r = collapseS s := ⟨_, rfl⟩
 rw [← hres]
 have HR : Hid (colS [] false s = res) := Lib.hid hres.symm
 clear hres
 have hfb := Lib.IsBuilderF.of (Lib.fresh_isBuilder 214 5 w)
 have hlow := (Below.refl w.heap.size w).alloc (Nat.le_refl _) (.cells #[.pointer none, .slice none 0 0] 214)
 go_enter Tryz.func224, Tryz.ntmps224
 go_wp2_with fail
 go_loopw [4, 8] (fun s4 s8 wr => ∃ (k : Nat) (out : List UInt8) (a : Bool), s8 = .int .i64 k ∧ s4 = .bool a ∧ k ≤ s.length ∧ out.length ≤ 2 * k ∧ Hid (colS out a (s.drop k) = res) ∧ Lib.IsBuilderF 214 5 w.heap.size w.heap.size (Lib.byteCells out) wr ∧ Below w.heap.size w wr) (fun _ s8 _ => s.length - (RowKit.intOf s8).toNat)
 case atStart => exact ⟨0, [], false, rfl, rfl, by omega, by simp, by simpa using HR, hfb, hlow⟩
 case round =>
  obtain ⟨k, out, a, rfl, rfl, hk, hol, hc, hI, hbw⟩ := hrel
  clear hfb hlow
  have hsz := hbw.size
  by_cases hlt : k < s.length
  ·obtain ⟨c, rest, hd1, hd2, hidx⟩ := Go.Proofs.YtkhlfggnjcbniaaGreatDoor.link.byte_at s k hlt
   have hib := fun w => Tryz.strings_IndexByte ⟨#[9, 10, 12, 13, 32]⟩ (c.toNat : Int) w
   have e3 : (⟨#[9, 10, 12, 13, 32]⟩ : ByteArray).data.toList = [9, 10, 12, 13, 32] := rfl
   have e4 : ((c.toNat : Int).toNat).toUInt8 = c := by simp
   rw [e3, e4] at hib
   have HB := Lib.hid (idx_blank c)
   have hlt8 := c.toNat_lt
   rw [hd1] at hc
   have HD := Lib.hid hd2
   clear hd1 hd2 e3 e4
   generalize Lib.indexByte [9, 10, 12, 13, 32] c = r at *
   by_cases g : isB c = true
   ·have hr : 0 ≤ r := by rw [HB.out]; exact g
    have HC : Hid (colS out (decide (0 < out.length)) (s.drop (k + 1)) = res) := Lib.hid (by rw [HD.out, ← colS_blank out a c rest g]; exact hc.out)
    have hln := bld_len w.heap.size w.heap.size (Lib.byteCells out) wr hI
    rw [Lib.byteCells_length] at hln
    clear g HB
    go_wp2_with fail
    refine (hib _).mono ?_
    rintro e w' ⟨rfl, rfl⟩
    go_wp2_with fail
    refine hln.mono ?_
    rintro e w' ⟨rfl, rfl⟩
    go_wp2_with fail
    go_roundw
    case rel => exact ⟨k + 1, out, decide (0 < out.length), by go_num, by first | rfl | exact congrArg Value.bool (decide_eq_decide.2 (by omega)), by omega, by omega, HC, hI, hbw⟩
    case measure => simp [RowKit.intOf]; omega
   ·have hr : ¬ 0 ≤ r := by rw [HB.out]; exact g
    have g : isB c = false := by simpa using g
    cases a
    ·have HC : Hid (colS (out ++ [c]) false (s.drop (k + 1)) = res) := Lib.hid (by rw [HD.out, ← colS_off out c rest g]; exact hc.out)
     have hwr := bld_write w.heap.size w.heap.size (Lib.byteCells out) (c.toNat : Int) wr hI (by rw [Lib.byteCells_length]; omega) hsz
     clear g HB
     go_wp2_with fail
     refine (hib _).mono ?_
     rintro e w' ⟨rfl, rfl⟩
     go_wp2_with fail
     refine hwr.mono ?_
     rintro e w' ⟨rfl, hI', hb'⟩
     go_wp2_with fail
     go_roundw
     case rel => exact ⟨k + 1, out ++ [c], false, by go_num, rfl, by omega, by simp; omega, HC, by rw [Lib.byteCells_append]; exact hI', hbw.trans hb'⟩
     case measure => simp [RowKit.intOf]; omega
    ·have HC : Hid (colS (out ++ [32] ++ [c]) false (s.drop (k + 1)) = res) := Lib.hid (by rw [HD.out, ← colS_on out c rest g]; exact hc.out)
     have hwr := bld_write w.heap.size w.heap.size (Lib.byteCells out) 32 wr hI (by rw [Lib.byteCells_length]; omega) hsz
     clear g HB
     go_wp2_with fail
     refine (hib _).mono ?_
     rintro e w' ⟨rfl, rfl⟩
     go_wp2_with fail
     refine hwr.mono ?_
     rintro e w' ⟨rfl, hI', hb'⟩
     have hI' : Lib.IsBuilderF 214 5 w.heap.size w.heap.size (Lib.byteCells (out ++ [32])) w' := by rw [Lib.byteCells_append]; exact hI'
     have hwr2 := bld_write w.heap.size w.heap.size (Lib.byteCells (out ++ [32])) (c.toNat : Int) w' hI' (by rw [Lib.byteCells_length]; simp; omega) (hbw.trans hb').size
     clear hwr
     go_wp2_with fail
     refine hwr2.mono ?_
     rintro e w2 ⟨rfl, hI2, hb2⟩
     go_wp2_with fail
     go_roundw
     case rel => exact ⟨k + 1, out ++ [32] ++ [c], false, by go_num, rfl, by omega, by simp; omega, HC, by rw [Lib.byteCells_append]; exact hI2, (hbw.trans hb').trans hb2⟩
     case measure => simp [RowKit.intOf]; omega
  ·obtain rfl : k = s.length := by omega
   have HX : Hid (out = res) := Lib.hid (by have := hc.out; rw [List.drop_length, colS_nil] at this; exact this)
   have hst := bld_string w.heap.size w.heap.size out wr hI hsz
   go_wp2_with fail
   refine hst.mono ?_
   rintro e w' ⟨rfl, hb'⟩
   go_wp2_with fail
   go_ret
   exact ⟨ret_str HX.out, hbw.trans hb'⟩
end Go.Proofs.YtkhlfggnjcbniaaGreatDoor.doc
namespace Go.Proofs.YtkhlfggnjcbniaaGreatDoor.doc
open Go.ChangeShapes Go.WideShapes Go.ChangeAt Go.RowKit Go.Lib atr link

theorem pred_ownhas (nm : List UInt8) (B : Nat) (w : World) (hB : B < w.heap.size) (hcell : w.cell? ⟨B, 0, none⟩ = some (.string ⟨nm.toArray⟩)) :
  PredBelow Tryz.prog 219 #[.pointer (some ⟨B, 0, none⟩)] (fun x => .agg (encA x).toArray) (fun x => decide (x.1 = nm)) w := fun W x hb => by
 have hc : W.cell? ⟨B, 0, none⟩ = some (.string ⟨nm.toArray⟩) := (hb.cell (p := ⟨B, 0, none⟩) hB).trans hcell
 have hBW : B < W.heap.size := Nat.lt_of_lt_of_le hB hb.size
 have hne : B ≠ W.heap.size := by omega
 obtain ⟨a, b⟩ := x
 show Calls Tryz.prog 219 #[.agg #[.string ⟨a.toArray⟩, .string ⟨b.toArray⟩], .pointer (some ⟨B, 0, none⟩)] W _
 have he := lst_eq a nm
 have HE := Lib.hid he
 clear he
 go_enter Tryz.func219, Tryz.ntmps219
 go_wp2_with fail
 go_ret
 exact ⟨by first | rfl | (rw [← HE.out]; rfl), hb.alloc hb.size _⟩

theorem ownhas_any (n : Nd) (va vk : Value) (nm : List UInt8) (hn : n.attrs.length ≤ 140737488355328) (w : World) (hA : AttrsAt w va n.attrs) (hK : IntsAt w vk n.kids) :
  Calls Tryz.prog 136 #[nodeV n va vk, .string ⟨nm.toArray⟩] w fun e w' => e = .returned (.bool (hasA nm n.attrs)) ∧ Below w.heap.size w w' := by
 obtain ⟨nme, tx, a, p, ks⟩ := n
 dsimp only at hn hA hK
 obtain ⟨ka, kc, rfl⟩ := RowAt.lenN hK
 obtain ⟨aa, ac, rfl⟩ := AttrsAt.lenN hA
 unfold nodeV hasA
 dsimp only
 obtain ⟨w1, hw1⟩ : ∃ w1, w1 = (w.alloc (.cells #[.string ⟨nme.toArray⟩, .string ⟨tx.toArray⟩, .slice aa a.length ac, .int .i64 p, .slice ka ks.length kc] 41)).alloc (.cells #[.string ⟨nm.toArray⟩] 9) := ⟨_, rfl⟩
 have hB1 : Below w.heap.size w w1 := by rw [hw1]; exact ((Below.refl _ w).alloc (Nat.le_refl _) _).alloc (by simp) _
 have eg : ∀ args w, (callFunc 219 args).run Tryz.prog w = .ok (.enter 219 args) w := enters_of Tryz.func219 (by kernel_rfl) rfl
 have f0 : w1.cell? ⟨w.heap.size + 1, 0, none⟩ = some (.string ⟨nm.toArray⟩) := by
  have := World.cell?_alloc_new (w.alloc (.cells #[.string ⟨nme.toArray⟩, .string ⟨tx.toArray⟩, .slice aa a.length ac, .int .i64 p, .slice ka ks.length kc] 41)) #[.string ⟨nm.toArray⟩] 9 0
  rw [World.size_alloc] at this
  rw [hw1, this]; rfl
 have hI := contf_any 219 #[.pointer (some ⟨w.heap.size + 1, 0, none⟩)] eg nm _ a hn w1 (hA.below hB1)
  (pred_ownhas nm (w.heap.size + 1) _ (lt_of_cell f0) f0)
 clear hA eg f0
 generalize (fval nm a).isSome = r at *
 go_enter Tryz.func136, Tryz.ntmps136
 go_wp2_with fail
 rw [← hw1]
 refine hI.mono ?_
 rintro e w' ⟨rfl, hb'⟩
 clear hI
 go_wp2_with fail
 go_ret
 exact ⟨rfl, below_trans hB1 hb'⟩

theorem pred_vhas (nm : List UInt8) (B : Nat) (w : World) (hB : B < w.heap.size) (hcell : w.cell? ⟨B, 0, none⟩ = some (.string ⟨nm.toArray⟩)) :
  PredBelow Tryz.prog 140 #[.pointer (some ⟨B, 0, none⟩)] (fun x => .agg (encA x).toArray) (fun x => decide (x.1 = nm)) w := fun W x hb => by
 have hc : W.cell? ⟨B, 0, none⟩ = some (.string ⟨nm.toArray⟩) := (hb.cell (p := ⟨B, 0, none⟩) hB).trans hcell
 have hBW : B < W.heap.size := Nat.lt_of_lt_of_le hB hb.size
 have hne : B ≠ W.heap.size := by omega
 obtain ⟨a, b⟩ := x
 show Calls Tryz.prog 140 #[.agg #[.string ⟨a.toArray⟩, .string ⟨b.toArray⟩], .pointer (some ⟨B, 0, none⟩)] W _
 have he := lst_eq a nm
 have HE := Lib.hid he
 clear he
 go_enter Tryz.func140, Tryz.ntmps140
 go_wp2_with fail
 go_ret
 exact ⟨by first | rfl | (rw [← HE.out]; rfl), hb.alloc hb.size _⟩

theorem vhas_any (n : Nd) (va vk : Value) (nm : List UInt8) (hn : n.attrs.length ≤ 140737488355328) (w : World) (hA : AttrsAt w va n.attrs) (hK : IntsAt w vk n.kids) :
  Calls Tryz.prog 73 #[nodeV n va vk, .string ⟨nm.toArray⟩] w fun e w' => e = .returned (.bool (hasA nm n.attrs)) ∧ Below w.heap.size w w' := by
 obtain ⟨nme, tx, a, p, ks⟩ := n
 dsimp only at hn hA hK
 obtain ⟨ka, kc, rfl⟩ := RowAt.lenN hK
 obtain ⟨aa, ac, rfl⟩ := AttrsAt.lenN hA
 unfold nodeV hasA
 dsimp only
 obtain ⟨w1, hw1⟩ : ∃ w1, w1 = (w.alloc (.cells #[.string ⟨nme.toArray⟩, .string ⟨tx.toArray⟩, .slice aa a.length ac, .int .i64 p, .slice ka ks.length kc] 41)).alloc (.cells #[.string ⟨nm.toArray⟩] 9) := ⟨_, rfl⟩
 have hB1 : Below w.heap.size w w1 := by rw [hw1]; exact ((Below.refl _ w).alloc (Nat.le_refl _) _).alloc (by simp) _
 have eg : ∀ args w, (callFunc 140 args).run Tryz.prog w = .ok (.enter 140 args) w := enters_of Tryz.func140 (by kernel_rfl) rfl
 have f0 : w1.cell? ⟨w.heap.size + 1, 0, none⟩ = some (.string ⟨nm.toArray⟩) := by
  have := World.cell?_alloc_new (w.alloc (.cells #[.string ⟨nme.toArray⟩, .string ⟨tx.toArray⟩, .slice aa a.length ac, .int .i64 p, .slice ka ks.length kc] 41)) #[.string ⟨nm.toArray⟩] 9 0
  rw [World.size_alloc] at this
  rw [hw1, this]; rfl
 have hI := contf_any 140 #[.pointer (some ⟨w.heap.size + 1, 0, none⟩)] eg nm _ a hn w1 (hA.below hB1)
  (pred_vhas nm (w.heap.size + 1) _ (lt_of_cell f0) f0)
 clear hA eg f0
 generalize (fval nm a).isSome = r at *
 go_enter Tryz.func73, Tryz.ntmps73
 go_wp2_with fail
 rw [← hw1]
 refine hI.mono ?_
 rintro e w' ⟨rfl, hb'⟩
 clear hI
 go_wp2_with fail
 go_ret
 exact ⟨rfl, below_trans hB1 hb'⟩

theorem pred_vattr (nm : List UInt8) (B : Nat) (w : World) (hB : B < w.heap.size) (hcell : w.cell? ⟨B, 0, none⟩ = some (.string ⟨nm.toArray⟩)) :
  PredBelow Tryz.prog 167 #[.pointer (some ⟨B, 0, none⟩)] (fun x => .agg (encA x).toArray) (fun x => decide (x.1 = nm)) w := fun W x hb => by
 have hc : W.cell? ⟨B, 0, none⟩ = some (.string ⟨nm.toArray⟩) := (hb.cell (p := ⟨B, 0, none⟩) hB).trans hcell
 have hBW : B < W.heap.size := Nat.lt_of_lt_of_le hB hb.size
 have hne : B ≠ W.heap.size := by omega
 obtain ⟨a, b⟩ := x
 show Calls Tryz.prog 167 #[.agg #[.string ⟨a.toArray⟩, .string ⟨b.toArray⟩], .pointer (some ⟨B, 0, none⟩)] W _
 have he := lst_eq a nm
 have HE := Lib.hid he
 clear he
 go_enter Tryz.func167, Tryz.ntmps167
 go_wp2_with fail
 go_ret
 exact ⟨by first | rfl | (rw [← HE.out]; rfl), hb.alloc hb.size _⟩

theorem vattr_any (n : Nd) (va vk : Value) (nm : List UInt8) (hn : n.attrs.length ≤ 140737488355328) (w : World) (hA : AttrsAt w va n.attrs) (hK : IntsAt w vk n.kids) :
  Calls Tryz.prog 89 #[nodeV n va vk, .string ⟨nm.toArray⟩] w fun e w' => e = .returned (.string ⟨((fval nm n.attrs).getD []).toArray⟩) ∧ Below w.heap.size w w' := by
 obtain ⟨nme, tx, a, p, ks⟩ := n
 dsimp only at hn hA hK
 obtain ⟨ka, kc, rfl⟩ := RowAt.lenN hK
 obtain ⟨aa, ac, rfl⟩ := AttrsAt.lenN hA
 unfold nodeV
 dsimp only
 obtain ⟨w1, hw1⟩ : ∃ w1, w1 = (w.alloc (.cells #[.string ⟨nme.toArray⟩, .string ⟨tx.toArray⟩, .slice aa a.length ac, .int .i64 p, .slice ka ks.length kc] 41)).alloc (.cells #[.string ⟨nm.toArray⟩] 9) := ⟨_, rfl⟩
 have hB1 : Below w.heap.size w w1 := by rw [hw1]; exact ((Below.refl _ w).alloc (Nat.le_refl _) _).alloc (by simp) _
 have eg : ∀ args w, (callFunc 167 args).run Tryz.prog w = .ok (.enter 167 args) w := enters_of Tryz.func167 (by kernel_rfl) rfl
 have f2 : w1.cell? ⟨w.heap.size, 2, none⟩ = some (.slice aa a.length ac) := by
  rw [hw1, World.cell?_alloc_lt _ _ _ (by simp), World.cell?_alloc_new]; rfl
 have f0 : w1.cell? ⟨w.heap.size + 1, 0, none⟩ = some (.string ⟨nm.toArray⟩) := by
  have := World.cell?_alloc_new (w.alloc (.cells #[.string ⟨nme.toArray⟩, .string ⟨tx.toArray⟩, .slice aa a.length ac, .int .i64 p, .slice ka ks.length kc] 41)) #[.string ⟨nm.toArray⟩] 9 0
  rw [World.size_alloc] at this
  rw [hw1, this]; rfl
 have hI := idxfN_any 167 #[.pointer (some ⟨w.heap.size + 1, 0, none⟩)] eg nm _ a hn w1 (hA.below hB1)
  (pred_vattr nm (w.heap.size + 1) _ (lt_of_cell f0) f0)
 have hw := fint_ways nm a
 have HA := Lib.hid hA
 have HI := Lib.hid hI
 clear hA hI eg f0
 obtain ⟨s, hs⟩ : ∃ s, s = (fval nm a).getD [] := ⟨_, rfl⟩
 rw [← hs]
 have HS := Lib.hid hs
 clear hs
 rcases hw with ⟨k, hk, h1, h2, h3, h4⟩ | ⟨h1, h2, h3⟩
 ·have hI := HI.out
  rw [h1] at hI
  have HX : Hid (s = a[k].2) := Lib.hid (by rw [HS.out, h4]; rfl)
  clear h1 h2 h3 h4 HI
  rcases HA.out with ⟨rfl, _⟩ | ⟨b, off, cap, e, h0, hb, hR⟩
  ·exact absurd hk (Nat.not_lt_zero _)
  cases e
  have HC : Hid (∀ w', Below w.heap.size w w' → w'.cell? ⟨b, off + k * 2 + 1, none⟩ = some (.string ⟨(a[k].2).toArray⟩)) := Lib.hid (fun w' h => (h.cell (p := ⟨b, off + k * 2 + 1, none⟩) hb).trans (hR k hk).2)
  generalize a[k].2 = y at *
  obtain rfl := HX.out
  clear hR HS HX
  go_enter Tryz.func89, Tryz.ntmps89
  go_wp2_with fail
  rw [← hw1]
  refine hI.mono ?_
  rintro e w' ⟨rfl, hb'⟩
  clear hI
  have hBB := below_trans hB1 hb'
  have hc := HC.out w' hBB
  have hf2 := cell_below hb' f2
  clear HC
  go_wp2_with fail
  go_ret
  exact ⟨rfl, hBB⟩
 ·have hI := HI.out
  rw [h1] at hI
  have HX : Hid (s = []) := Lib.hid (by rw [HS.out, h3]; rfl)
  obtain rfl := HX.out
  clear h1 h2 h3 HI HA HS HX
  go_enter Tryz.func89, Tryz.ntmps89
  go_wp2_with fail
  rw [← hw1]
  refine hI.mono ?_
  rintro e w' ⟨rfl, hb'⟩
  clear hI
  go_wp2_with fail
  go_ret
  exact ⟨rfl, below_trans hB1 hb'⟩


def nearR (l : List Nd) (m : Int) (nm : List UInt8) : Int := if m < 0 then -1 else if (nd l m).name = nm then m else nearP l m nm
theorem near_R {l : List Nd} (h : Rt l) (k : Int) (hk : inR l k) (nm : List UInt8) : nearP l k nm = nearR l (nd l k).parent nm := near_eq h k hk nm
theorem nearR_neg (l : List Nd) (m : Int) (nm : List UInt8) (h : m < 0) : nearR l m nm = -1 := if_pos h
theorem nearR_yes (l : List Nd) (m : Int) (nm : List UInt8) (h : ¬ m < 0) (g : (nd l m).name = nm) : nearR l m nm = m := by unfold nearR; rw [if_neg h, if_pos g]
theorem nearR_no {l : List Nd} (h : Rt l) (m : Int) (hm : inR l m) (nm : List UInt8) (g : (nd l m).name ≠ nm) : nearR l m nm = nearR l (nd l m).parent nm := by
 have := near_R h m hm nm
 unfold nearR at this ⊢
 rw [if_neg (by have := hm.1; omega), if_neg g]; exact this
theorem dep_up {l : List Nd} (h : Rt l) (k : Nat) (hk : k < l.length) : dep l (nd l (k : Int)).parent < dep l (k : Int) := by
 have := dep_kid h (k : Int) ⟨by omega, by omega⟩
 omega

theorem up_any (v : Value) (l : List Nd) (hL : LFine l) (hR : rightB l = true) (k : Nat) (hk : k < l.length) (nm : List UInt8) (w : World) (hA : NodesAt w v l) :
  Calls Tryz.prog 33 #[v, .int .i64 k, .string ⟨nm.toArray⟩] w fun e w' => e = .returned (.int .i64 (nearP l (k : Int) nm)) ∧ Below w.heap.size w w' := by
 have hh := thas_any v l k hL w hA
 rw [hR, decide_eq_true (by omega : (0 : Int) ≤ (k : Int)), decide_eq_true (by omega : (k : Int) < (l.length : Int))] at hh
 have hRt := right_rt l hR
 have hf := hRt.few
 obtain ⟨b, off, cap, rfl, hb⟩ := nodes_addr hA (by omega)
 have HN := Lib.hid (fun w' (h : Below w.heap.size w w') j hj => nodes_get (hA.below h) j hj)
 have HP := Lib.hid (fun (j : Nat) (hj : j < l.length) => hRt.par (j : Int) ⟨by omega, by omega⟩)
 have HNo := Lib.hid (fun (j : Nat) (hj : j < l.length) => nearR_no hRt (j : Int) ⟨by omega, by omega⟩ nm)
 have HDe := Lib.hid (fun (j : Nat) (hj : j < l.length) => dep_up hRt j hj)
 have HX0 : Hid (nearP l (k : Int) nm = nearR l (nd l (k : Int)).parent nm) := Lib.hid (near_R hRt _ ⟨by omega, by omega⟩ nm)
 obtain ⟨res, hres⟩ : ∃ r, r = nearP l (k : Int) nm := ⟨_, rfl⟩
 rw [← hres] at HX0 ⊢
 have hpk := HP.out k hk
 clear hres hRt hR hL hA
 go_enter Tryz.func33, Tryz.ntmps33
 go_wp2_with fail
 refine hh.mono ?_
 rintro e w1 ⟨rfl, hb1⟩
 obtain ⟨vak, vkk, hnk⟩ := HN.out w1 hb1 k hk
 have d3 := hnk.c3
 clear hh hnk
 generalize (nd l (k : Int)).parent = p at *
 go_wp2_with fail
 go_loopw [7] (fun s7 wr => ∃ m : Int, s7 = .int .i64 m ∧ -1 ≤ m ∧ m < (l.length : Int) ∧ Hid (res = nearR l m nm) ∧ wr = w1) (fun s7 _ => dep l (RowKit.intOf s7))
 case atStart => exact ⟨p, rfl, hpk.1, hpk.2, HX0, rfl⟩
 case round =>
  obtain ⟨m, rfl, hm1, hm2, hx, rfl⟩ := hrel
  clear d3
  by_cases g : m < 0
  ·have HX : Hid (res = -1) := Lib.hid (by rw [hx.out, nearR_neg _ _ _ g])
   go_wp2_with fail
   go_ret
   exact ⟨ret_int HX.out.symm, hb1⟩
  ·obtain ⟨mn, rfl⟩ : ∃ mn : Nat, m = (mn : Int) := ⟨m.toNat, by omega⟩
   have hml : mn < l.length := by omega
   obtain ⟨va, vk, hn⟩ := HN.out wr hb1 mn hml
   have c0 := hn.c0
   have c3 := hn.c3
   have hq0 := lst_eq (nd l (mn : Int)).name nm
   clear hn
   have hpm := HP.out mn hml
   have hd := HDe.out mn hml
   by_cases g3 : (nd l (mn : Int)).name = nm
   ·have HX : Hid (res = (mn : Int)) := Lib.hid (by rw [hx.out, nearR_yes _ _ _ g g3])
    rw [decide_eq_true g3] at hq0
    generalize (nd l (mn : Int)).name = x at *
    clear g3 hd
    go_wp2_with fail
    go_ret
    exact ⟨ret_int HX.out.symm, hb1⟩
   ·have HX : Hid (res = nearR l (nd l (mn : Int)).parent nm) := Lib.hid (by rw [hx.out, HNo.out mn hml g3])
    rw [decide_eq_false g3] at hq0
    have HD := Lib.hid hd
    clear hd
    generalize (nd l (mn : Int)).name = x at *
    generalize (nd l (mn : Int)).parent = pp at *
    clear g3
    go_wp2_with fail
    go_roundw
    case rel => exact ⟨pp, rfl, hpm.1, hpm.2, HX, by first | rfl | trivial⟩
    case measure => exact HD.out

def kO (l : List Nd) (k : Int) : Int := if 0 ≤ k ∧ k < (l.length : Int) then kN l k else 0
theorem kO_in (l : List Nd) (k : Int) (h0 : 0 ≤ k) (h1 : k < (l.length : Int)) : kO l k = kN l k := if_pos ⟨h0, h1⟩
theorem kO_out (l : List Nd) (k : Int) (h : ¬ (0 ≤ k ∧ k < (l.length : Int))) : kO l k = 0 := if_neg h
theorem okind_any (v : Value) (l : List Nd) (hL : LFine l) (k : Int) (w : World) (hA : NodesAt w v l) :
  Calls Tryz.prog 135 #[v, .int .i64 k] w fun e w' => e = .returned (.int .i64 (kO l k)) ∧ Below w.heap.size w w' := by
 have hlen := hL.len
 by_cases g0 : 0 ≤ k
 case neg =>
  rw [kO_out l k (by omega)]
  obtain ⟨oa, cap, rfl⟩ := NodesAt.lenN hA
  clear hA hL
  go_enter Tryz.func135, Tryz.ntmps135
  go_wp2_with fail
  go_ret
  exact ⟨rfl, Below.refl _ _⟩
 by_cases g1 : k < (l.length : Int)
 case neg =>
  rw [kO_out l k (by omega)]
  obtain ⟨oa, cap, rfl⟩ := NodesAt.lenN hA
  clear hA hL
  go_enter Tryz.func135, Tryz.ntmps135
  go_wp2_with fail
  go_ret
  exact ⟨rfl, Below.refl _ _⟩
 rw [kO_in l k g0 g1]
 obtain ⟨kn, rfl⟩ : ∃ kn : Nat, k = (kn : Int) := ⟨k.toNat, by omega⟩
 obtain ⟨b, off, cap, rfl, hb⟩ := nodes_addr hA (by omega)
 obtain ⟨va, vk, hn⟩ := nodes_get hA kn (by omega)
 have hof := of_any (nd l (kn : Int)) va vk (hL.nd _ g0 g1) w hn.attrs hn.kids
 have HK : Hid (kindP (nd l (kn : Int)).name (nd l (kn : Int)).attrs = kN l (kn : Int)) := Lib.hid rfl
 rw [HK.out] at hof
 unfold nodeV at hof
 obtain ⟨c0, c1, c2, c3, c4, _, _, _⟩ := hn
 generalize kN l (kn : Int) = r at *
 generalize nd l (kn : Int) = n at *
 clear hA hL
 go_enter Tryz.func135, Tryz.ntmps135
 go_wp2_with fail
 refine hof.mono ?_
 rintro e w1 ⟨rfl, hb1⟩
 go_wp2_with fail
 go_ret
 exact ⟨rfl, hb1⟩

theorem pred_legend (v : Value) (l : List Nd) (hL : LFine l) (ks : List Int) (hks : ∀ x ∈ ks, inR l x) (B : Nat) (w : World) (hB : B < w.heap.size) (hcell : w.cell? ⟨B, 0, none⟩ = some v) (hA : NodesAt w v l) :
  PredI 220 #[.pointer (some ⟨B, 0, none⟩)] (lgB l) ks w := fun W x hx hb => by
 have hc : W.cell? ⟨B, 0, none⟩ = some v := (hb.cell (p := ⟨B, 0, none⟩) hB).trans hcell
 have hk := okind_any v l hL x W (hA.below hb)
 have hin := hks x hx
 rw [kO_in l x hin.1 hin.2] at hk
 obtain ⟨oa, cap, rfl⟩ := NodesAt.lenN hA
 show Calls Tryz.prog 220 #[.int .i64 x, .pointer (some ⟨B, 0, none⟩)] W _
 have HX : Hid (lgB l x = (kN l x == 34)) := Lib.hid rfl
 generalize lgB l x = q at *
 generalize kN l x = kd at *
 clear hA hL hcell hin hx hks
 go_enter Tryz.func220, Tryz.ntmps220
 go_wp2_with fail
 refine hk.mono ?_
 rintro e w1 ⟨rfl, hb1⟩
 clear hk
 go_wp2_with fail
 go_ret
 exact ⟨ret_bool HX.out.symm, hb.trans (hb1.mono hb.size)⟩

theorem legend_any (v : Value) (l : List Nd) (hL : LFine l) (hR : rightB l = true) (k : Nat) (hk : k < l.length) (w : World) (hA : NodesAt w v l) :
  Calls Tryz.prog 137 #[v, .int .i64 k] w fun e w' => e = .returned (.int .i64 (legP l (lgB l) (k : Int))) ∧ Below w.heap.size w w' := by
 have hRt := right_rt l hR
 have hkin : inR l (k : Int) := ⟨by omega, by omega⟩
 have hkk : ∀ x ∈ (nd l (k : Int)).kids, inR l x := fun x hx => (hRt.kid _ x hkin hx).1
 have hkl := (hL.nd (k : Int) (by omega) (by omega)).kids
 obtain ⟨b, off, cap, rfl, hb⟩ := nodes_addr hA (by omega)
 obtain ⟨w1, hw1⟩ : ∃ w1, w1 = w.alloc (.cells #[.slice (some ⟨b, off, none⟩) l.length cap] 22) := ⟨_, rfl⟩
 have hB1 : Below w.heap.size w w1 := by rw [hw1]; exact (Below.refl _ w).alloc (Nat.le_refl _) _
 have f0 : w1.cell? ⟨w.heap.size, 0, none⟩ = some (.slice (some ⟨b, off, none⟩) l.length cap) := by rw [hw1, World.cell?_alloc_new]; rfl
 have hA1 := hA.below hB1
 have HA1 := Lib.hid hA1
 have HN := Lib.hid (fun w' (h : Below w1.heap.size w1 w') => nodes_get (HA1.out.below h) k hk)
 obtain ⟨va, vk, hn0⟩ := nodes_get hA k hk
 have hn := hn0.below hB1
 have c4w := hn0.c4
 have eg : ∀ args w, (callFunc 220 args).run Tryz.prog w = .ok (.enter 220 args) w := enters_of Tryz.func220 (by kernel_rfl) rfl
 have hI := idxi_any 220 #[.pointer (some ⟨w.heap.size, 0, none⟩)] eg (lgB l) vk _ hkl w1 hn.kids (pred_legend _ l hL _ hkk w.heap.size w1 (lt_of_cell f0) f0 hA1)
 have hw := pidx_ways (lgB l) (nd l (k : Int)).kids
 have HL : Hid (legP l (lgB l) (k : Int) = ((nd l (k : Int)).kids.find? (lgB l)).getD (-1)) := Lib.hid rfl
 obtain ⟨res, hres⟩ : ∃ r, r = legP l (lgB l) (k : Int) := ⟨_, rfl⟩
 rw [← hres] at HL ⊢
 have c4 := hn.c4
 have HKs := Lib.hid hn.kids
 obtain ⟨ko, kc, rfl⟩ := RowAt.lenN hn.kids
 clear hres hn hn0 HN hRt hR hL hA hA1 hkin hkk eg
 rcases hw with ⟨j, hj, h1, h2, h3, h4, _⟩ | ⟨h1, h2, h3, _⟩
 ·have HX : Hid (res = (nd l (k : Int)).kids[j]) := Lib.hid (by rw [HL.out, h4]; rfl)
  obtain ⟨kb, ko2, kcap, e, hkb⟩ := IntsAt.addr HKs.out (by omega)
  cases e
  have e0 := IntsAt.cellAt HKs.out j hj
  rw [h1] at hI
  clear h1 h2 h3 h4 HL
  generalize (nd l (k : Int)).kids[j] = y at *
  obtain rfl := HX.out
  clear HX
  generalize (nd l (k : Int)).kids.length = kl at *
  go_enter Tryz.func137, Tryz.ntmps137
  go_wp2_with fail
  rw [← hw1]
  clear hw1 c4w
  refine hI.mono ?_
  rintro e w2 ⟨rfl, hb2⟩
  have g0 := cell_below hb2 f0
  have g4 := cell_below hb2 c4
  have g1 := cell_below hb2 e0
  clear hI f0 c4 e0
  go_wp2_with fail
  go_ret
  exact ⟨rfl, below_trans hB1 hb2⟩
 ·have HX : Hid (res = -1) := Lib.hid (by rw [HL.out, h3]; rfl)
  rw [h1] at hI
  clear h1 h2 h3 HL
  generalize (nd l (k : Int)).kids.length = kl at *
  go_enter Tryz.func137, Tryz.ntmps137
  go_wp2_with fail
  rw [← hw1]
  clear hw1 c4w
  refine hI.mono ?_
  rintro e w2 ⟨rfl, hb2⟩
  clear hI
  go_wp2_with fail
  go_ret
  exact ⟨ret_int HX.out.symm, below_trans hB1 hb2⟩
end Go.Proofs.YtkhlfggnjcbniaaGreatDoor.doc
