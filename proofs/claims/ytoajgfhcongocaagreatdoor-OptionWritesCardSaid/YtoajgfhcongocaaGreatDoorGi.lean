/- The contracts of option.value, Text, and of the reference's Text. The range over a select's options: the iterator's contract. The range over a select's options: the iterator's contract. The contract of option.List. -/
import Derived.Test.YtoajgfhcongocaaGreatDoorGg
import Derived.Test.YtoajgfhcongocaaGreatDoorGh
import Derived.RangeFuncNested
import Derived.RangeFuncBound
import Derived.RangeFuncCalls
import Derived.RangeFuncLeaves
import Derived.Shelf.Abstract
import Derived.Shelf.RegionOpen
import Derived.WalkKit
import Derived.OwnWalkIn
import Derived.TacticsInMore
import Derived.LoopNIn
import Derived.LoopIn
import Derived.Test.YtoajgfhcongocaaGreatDoorGd
import Derived.RangeFuncBox
import Derived.Maps.AppendAt
namespace Go.Proofs.YtoajgfhcongocaaGreatDoor.doc
open Go.ChangeShapes Go.WideShapes Go.ChangeAt Go.RowKit Go.Lib Go.Proofs.YtoajgfhcongocaaGreatDoor.atr Go.Proofs.YtoajgfhcongocaaGreatDoor.link

theorem valueP_some (l : List Nd) (o : Int) (s : List UInt8) (h : fval nValue (nd l o).attrs = some s) : valueP l o = s := by unfold valueP; rw [h]
theorem valueP_none (l : List Nd) (o : Int) (h : fval nValue (nd l o).attrs = none) : valueP l o = collapseS (textP l o) := by unfold valueP; rw [h]
theorem textP_le {l : List Nd} (h : Rt l) (o : Int) (ho : inR l o) : (textP l o).length ≤ 1604000 := by
  rw [← txT_all]
  refine txT_le h o ho _ ?_
  have := seen_le l _ (kids_nodup h o ho) (fun x hx => (h.kid o x ho hx).1)
  have := h.few
  omega

set_option maxHeartbeats 1600000 in
set_option maxRecDepth 100000 in
theorem value_any (v : Value) (l : List Nd) (hL : LFine l) (hR : rightB l = true) (k : Nat) (hk : k < l.length) (w : World) (hA : NodesAt w v l) :
    Calls Tryz.prog 55 #[v, .int .i64 k] w fun e w' => e = .returned (.string ⟨(valueP l (k : Int)).toArray⟩) ∧ Below w.heap.size w w' := by
  have hRt := right_rt l hR
  have hf := hRt.few
  obtain ⟨b, off, cap, rfl, hb⟩ := nodes_addr hA (by omega)
  have HN := Lib.hid (fun w' (h : Below w.heap.size w w') => nodes_get (hA.below h) k hk)
  have hfn := hL.nd (k : Int) (by omega) (by omega)
  have HTx := Lib.hid (fun w' (h : Below w.heap.size w w') => ttext_any _ l hL hR k hk w' (hA.below h))
  have HCo := Lib.hid (fun w' => collapse_any (textP l (k : Int)) (by have := textP_le hRt (k : Int) ⟨by omega, by omega⟩; omega) w')
  have HV1 := Lib.hid (valueP_some l (k : Int))
  have HV2 := Lib.hid (valueP_none l (k : Int))
  obtain ⟨vak, vkk, hnk⟩ := HN.out w (Below.refl _ _)
  have eg : ∀ args w, (callFunc 72 args).run Tryz.prog w = .ok (.enter 72 args) w := enters_of Tryz.func72 (by kernel_rfl) rfl
  have hI := idxfN_any 72 #[] eg nValue vak _ hfn.attrs w hnk.attrs (pred_value w)
  have hw := Lib.hid (fint_ways nValue (nd l (k : Int)).attrs)
  have HAt := Lib.hid hnk.attrs
  have c2 := hnk.c2
  have h0 : (0 : Int) ≤ (k : Int) := by omega
  have hk' : (k : Int) < (l.length : Int) := by omega
  obtain ⟨aa, ac, rfl⟩ := AttrsAt.lenN HAt.out
  generalize valueP l (k : Int) = res at *
  generalize collapseS (textP l (k : Int)) = cs at *
  generalize textP l (k : Int) = tx at *
  generalize (nd l (k : Int)).attrs = at0 at *
  generalize fint nValue at0 = fi at *
  clear hnk hRt hR hL hA hfn eg HN
  go_enter Tryz.func55, Tryz.ntmps55
  go_wp2_with fail
  refine hI.mono ?_
  rintro e w1 ⟨rfl, hb1⟩
  clear hI
  rcases hw.out with ⟨j, hj, h1, _, _, h4⟩ | ⟨h1, _, h3⟩
  · subst h1
    rcases HAt.out with ⟨rfl, _⟩ | ⟨b2, off2, cap2, e, h02, hb2, hR2⟩
    · exact absurd hj (Nat.not_lt_zero _)
    cases e
    have cv := cell_below hb1 (hR2 j hj).2
    have c2 := cell_below hb1 c2
    have HX : Hid (at0[j].2 = res) := Lib.hid (HV1.out _ h4).symm
    rw [HX.out] at cv
    clear h4 hR2 hw HX HV1 HV2 HTx HCo
    go_wp2_with fail
    go_ret
    exact ⟨rfl, hb1⟩
  · subst h1
    have HX := Lib.hid (HV2.out h3)
    have htx := HTx.out w1 hb1
    clear h3 HV1 HV2 c2 hw
    go_wp2_with fail
    refine htx.mono ?_
    rintro e w2 ⟨rfl, hb2⟩
    have hco := HCo.out w2
    clear htx
    go_wp2_with fail
    refine hco.mono ?_
    rintro e w3 ⟨rfl, hb3⟩
    go_wp2_with fail
    go_ret
    exact ⟨ret_str HX.out.symm, below_trans hb1 (below_trans hb2 hb3)⟩

set_option maxHeartbeats 1600000 in
set_option maxRecDepth 100000 in
theorem textU_any (v : Value) (l : List Nd) (hL : LFine l) (k : Int) (w : World) (hA : NodesAt w v l) :
    Calls Tryz.prog 32 #[v, .int .i64 k] w fun e w' => e = .returned (.string ⟨(TextP l k).toArray⟩) ∧ Below w.heap.size w w' := by
  have hi := is_any v l k 32 hL w hA
  have HP : Hid (TextP l k = if isP l k 32 then valueP l k else []) := Lib.hid rfl
  cases hq : isP l k 32
  · rw [hq] at hi HP
    have HX : Hid (TextP l k = []) := Lib.hid HP.out
    obtain ⟨oa, cap, rfl⟩ := NodesAt.lenN hA
    generalize TextP l k = r at *
    obtain rfl := HX.out
    clear hA hq HP hL HX
    go_enter Tryz.func32, Tryz.ntmps32
    go_wp2_with fail
    refine hi.mono ?_
    rintro e w1 ⟨rfl, hb1⟩
    go_wp2_with fail
    go_ret
    exact ⟨rfl, hb1⟩
  · obtain ⟨⟨h0, h1⟩, _, h3⟩ := (isP_iff l k 32).1 hq
    rw [hq] at hi HP
    have HX : Hid (TextP l k = valueP l k) := Lib.hid HP.out
    obtain ⟨kn, rfl⟩ : ∃ kn : Nat, k = (kn : Int) := ⟨k.toNat, by omega⟩
    have HO := Lib.hid (fun w' (h : Below w.heap.size w w') => value_any v l hL h3 kn (by omega) w' (hA.below h))
    obtain ⟨oa, cap, rfl⟩ := NodesAt.lenN hA
    generalize TextP l (kn : Int) = r at *
    generalize valueP l (kn : Int) = r2 at *
    clear hA hq HP hL h3
    go_enter Tryz.func32, Tryz.ntmps32
    go_wp2_with fail
    refine hi.mono ?_
    rintro e w1 ⟨rfl, hb1⟩
    have ho := HO.out w1 hb1
    clear hi
    go_wp2_with fail
    refine ho.mono ?_
    rintro e w2 ⟨rfl, hb2⟩
    go_wp2_with fail
    go_ret
    exact ⟨ret_str HX.out.symm, below_trans hb1 hb2⟩

set_option maxHeartbeats 1600000 in
set_option maxRecDepth 100000 in
theorem rtextU_any (v : Value) (l : List Nd) (hL : LFine l) (k : Int) (w : World) (hA : NodesAt w v l) :
    Calls Tryz.prog 33 #[v, .int .i64 k] w fun e w' => e = .returned (.string ⟨(TextP l k).toArray⟩) ∧ Below w.heap.size w w' := by
  have hi := ris_any v l k 32 hL w hA
  have HP : Hid (TextP l k = if isP l k 32 then valueP l k else []) := Lib.hid rfl
  cases hq : isP l k 32
  · rw [hq] at hi HP
    have HX : Hid (TextP l k = []) := Lib.hid HP.out
    obtain ⟨oa, cap, rfl⟩ := NodesAt.lenN hA
    generalize TextP l k = r at *
    obtain rfl := HX.out
    clear hA hq HP hL HX
    go_enter Tryz.func33, Tryz.ntmps33
    go_wp2_with fail
    refine hi.mono ?_
    rintro e w1 ⟨rfl, hb1⟩
    go_wp2_with fail
    go_ret
    exact ⟨rfl, hb1⟩
  · obtain ⟨⟨h0, h1⟩, _, hR⟩ := (isP_iff l k 32).1 hq
    rw [hq] at hi HP
    have HX : Hid (TextP l k = valueP l k) := Lib.hid HP.out
    obtain ⟨kn, rfl⟩ : ∃ kn : Nat, k = (kn : Int) := ⟨k.toNat, by omega⟩
    have hk : kn < l.length := by omega
    have hRt := right_rt l hR
    have hf := hRt.few
    obtain ⟨b, off, cap, rfl, hb⟩ := nodes_addr hA (by omega)
    have HN := Lib.hid (fun w' (h : Below w.heap.size w w') => nodes_get (hA.below h) kn hk)
    have hfn := hL.nd (kn : Int) (by omega) (by omega)
    have HTx := Lib.hid (fun w' (h : Below w.heap.size w w') => rtext_any _ l hR kn hk w' (hA.below h))
    have HCo := Lib.hid (fun w' => rcollapse_any (textP l (kn : Int)) (by have := textP_le hRt (kn : Int) ⟨by omega, by omega⟩; omega) w')
    have HV1 := Lib.hid (valueP_some l (kn : Int))
    have HV2 := Lib.hid (valueP_none l (kn : Int))
    have HAttr := Lib.hid (fun w' va h => rattrN_any va (nd l (kn : Int)).attrs nValue hfn.attrs w' h)
    have HSb : Hid (attrB nValue (nd l (kn : Int)).attrs = (fval nValue (nd l (kn : Int)).attrs).isSome ∧ attrS nValue (nd l (kn : Int)).attrs = (fval nValue (nd l (kn : Int)).attrs).getD []) := Lib.hid ⟨rfl, rfl⟩
    generalize TextP l (kn : Int) = res at *
    generalize valueP l (kn : Int) = r2 at *
    generalize collapseS (textP l (kn : Int)) = cs at *
    generalize textP l (kn : Int) = tx at *
    generalize attrB nValue (nd l (kn : Int)).attrs = sb at *
    generalize attrS nValue (nd l (kn : Int)).attrs = s at *
    clear hA hq HP hL hR hRt hfn
    go_enter Tryz.func33, Tryz.ntmps33
    go_wp2_with fail
    refine hi.mono ?_
    rintro e w1 ⟨rfl, hb1⟩
    clear hi
    obtain ⟨va, vk, hn⟩ := HN.out w1 hb1
    have hat := HAttr.out w1 va hn.attrs
    have c2 := hn.c2
    clear hn HAttr
    cases hv : fval nValue (nd l (kn : Int)).attrs with
    | some x =>
      have HY : Hid (sb = true ∧ s = res) := Lib.hid ⟨by rw [HSb.out.1, hv]; rfl, by rw [HX.out, HV1.out x hv, HSb.out.2, hv]; rfl⟩
      obtain ⟨rfl, rfl⟩ := HY.out
      clear hv HY HSb HV1 HV2 HX HTx HCo
      go_wp2_with fail
      refine hat.mono ?_
      rintro e w2 ⟨rfl, rfl⟩
      go_wp2_with fail
      go_ret
      exact ⟨rfl, hb1⟩
    | none =>
      have HY : Hid (sb = false ∧ res = cs) := Lib.hid ⟨by rw [HSb.out.1, hv]; rfl, by rw [HX.out, HV2.out hv]⟩
      obtain ⟨rfl, rfl⟩ := HY.out
      have htx := HTx.out w1 hb1
      clear hv HY HSb HV1 HV2 HX
      go_wp2_with fail
      refine hat.mono ?_
      rintro e w2 ⟨rfl, rfl⟩
      clear hat c2
      go_wp2_with fail
      refine htx.mono ?_
      rintro e w2 ⟨rfl, rfl⟩
      have hco := HCo.out w1
      clear htx
      go_wp2_with fail
      refine hco.mono ?_
      rintro e w3 ⟨rfl, hb3⟩
      go_wp2_with fail
      go_ret
      exact ⟨rfl, below_trans hb1 hb3⟩
end Go.Proofs.YtoajgfhcongocaaGreatDoor.doc

namespace Go.Proofs.YtoajgfhcongocaaGreatDoor.doc
open Go.ChangeShapes Go.WideShapes Go.ChangeAt Go.RowKit Go.Lib Go.Shelf Go.Proofs.YtoajgfhcongocaaGreatDoor.atr Go.Proofs.YtoajgfhcongocaaGreatDoor.link
attribute [local go_sem] Oper.semAt_some

/-- an option of a select: what the loop's body is handed -/
abbrev Opt (l : List Nd) (sel : Int) := { x : Int // x ∈ optsP l sel }
def vals {l : List Nd} {sel : Int} (xs : List (Opt l sel)) : List Int := xs.map Subtype.val
theorem vals_snoc {l : List Nd} {sel : Int} (xs : List (Opt l sel)) (x : Opt l sel) : vals (xs ++ [x]) = vals xs ++ [x.1] := by unfold vals; rw [List.map_append]; rfl
theorem below_grown {w w' : World} (h : Below w.heap.size w w') : w.grownBy w' none := ⟨h.os, h.tape, h.output, h.size, fun k hk _ => h.block k hk⟩
def IsSlice (v : Value) : Prop := ∃ a n c, v = .slice a n c
/-- what a round keeps: the document, the iterator's two boxes -/
structure Kp (n₀ Bl Bs : Nat) (W W' : World) : Prop where
  low : Below n₀ W W'
  l : ∀ u, W.cell? ⟨Bl, 0, none⟩ = some u → W'.cell? ⟨Bl, 0, none⟩ = some u
  s : ∀ u, W.cell? ⟨Bs, 0, none⟩ = some u → W'.cell? ⟨Bs, 0, none⟩ = some u
theorem Kp.refl (n₀ Bl Bs : Nat) (W : World) : Kp n₀ Bl Bs W W := ⟨Below.refl _ _, fun _ h => h, fun _ h => h⟩
theorem Kp.trans {n₀ Bl Bs : Nat} {A B C : World} (h : Kp n₀ Bl Bs A B) (k : Kp n₀ Bl Bs B C) : Kp n₀ Bl Bs A C := ⟨h.low.trans k.low, fun u g => k.l u (h.l u g), fun u g => k.s u (h.s u g)⟩
theorem Kp.of_below {n₀ Bl Bs : Nat} {A B : World} (h : Below A.heap.size A B) (hn : n₀ ≤ A.heap.size) : Kp n₀ Bl Bs A B := ⟨h.mono hn, fun _ g => cell_below h g, fun _ g => cell_below h g⟩
theorem Kp.put {n₀ Bl Bs : Nat} {w : World} (hn : n₀ ≤ w.heap.size) (W : World) (l : Nat) (o o' : Obj) (hl : w.heap.size ≤ l) (h : W.heap[l]? = some o) (h1 : o.isCells = false) (h2 : o.isWalk = false) : Kp n₀ Bl Bs W (W.putObj l o') :=
  ⟨belowK_b hn W l o o' hl h h1 h2, fun _ g => cell_kept g (grownBy_putObj' W l o') (fun r e => by cases e; exact ⟨_, h, h1⟩), fun _ g => cell_kept g (grownBy_putObj' W l o') (fun r e => by cases e; exact ⟨_, h, h1⟩)⟩

set_option maxHeartbeats 1600000 in
/-- options: both are boxed; the function value captures the boxes -/
theorem options_any (v : Value) (sel : Int) (hv : IsSlice v) (w : World) :
    Calls Tryz.prog 43 #[v, .int .i64 sel] w fun e w' => e = .returned (.func (.func 64) #[] #[.pointer (some ⟨w.heap.size, 0, none⟩), .pointer (some ⟨w.heap.size + 1, 0, none⟩)]) ∧ w' = (w.alloc (.cells #[v] 22)).alloc (.cells #[.int .i64 sel] 3) := by
  obtain ⟨oa, n, c, rfl⟩ := hv
  go_enter Tryz.func43, Tryz.ntmps43
  go_wp2_with fail
  go_ret
  exact ⟨rfl, rfl⟩
end Go.Proofs.YtoajgfhcongocaaGreatDoor.doc

namespace Go.Proofs.YtoajgfhcongocaaGreatDoor.doc
open Go.ChangeShapes Go.WideShapes Go.ChangeAt Go.RowKit Go.Lib Go.Shelf Go.Proofs.YtoajgfhcongocaaGreatDoor.atr Go.Proofs.YtoajgfhcongocaaGreatDoor.link
attribute [local go_sem] Oper.semAt_some

theorem opts_take (l : List Nd) (ks : List Int) (m : Nat) (h : m < ks.length) : (ks.take (m + 1)).flatMap (innerP l) = (ks.take m).flatMap (innerP l) ++ innerP l ks[m] := by
  rw [List.take_succ_eq_append_getElem h, List.flatMap_append]; simp
theorem inner_group (l : List Nd) (k : Int) (h : kN l k = 33) : innerP l k = (nd l k).kids.filter (optB l) := by unfold innerP; rw [if_pos h]
theorem inner_one (l : List Nd) (k : Int) (h : kN l k ≠ 33) : innerP l k = [k].filter (optB l) := by unfold innerP; rw [if_neg h]
theorem filt_take (p : Int → Bool) (is : List Int) (j : Nat) (h : j < is.length) : (is.take (j + 1)).filter p = (is.take j).filter p ++ if p is[j] then [is[j]] else [] := by
  rw [List.take_succ_eq_append_getElem h, List.filter_append]
  congr 1
  rw [List.filter_cons]
  split <;> rfl
theorem opts_prefix (l : List Nd) (sel : Int) (m : Nat) (hm : m < (nd l sel).kids.length) (is : List Int) (his : innerP l (nd l sel).kids[m] = is.filter (optB l)) (j : Nat) (_hj : j ≤ is.length) :
    (((nd l sel).kids.take m).flatMap (innerP l) ++ (is.take j).filter (optB l)) <+: optsP l sel := by
  have e : optsP l sel = ((nd l sel).kids.take m).flatMap (innerP l) ++ (is.take j).filter (optB l) ++ ((is.drop j).filter (optB l) ++ ((nd l sel).kids.drop (m + 1)).flatMap (innerP l)) := by
    have h1 : (nd l sel).kids = (nd l sel).kids.take m ++ (nd l sel).kids[m] :: (nd l sel).kids.drop (m + 1) := by
      rw [← List.drop_eq_getElem_cons hm, List.take_append_drop]
    have h2 : is.filter (optB l) = (is.take j).filter (optB l) ++ (is.drop j).filter (optB l) := by rw [← List.filter_append, List.take_append_drop]
    unfold optsP
    conv => lhs; rw [h1]
    rw [List.flatMap_append, List.flatMap_cons, his, h2]
    simp
  exact ⟨_, e.symm⟩
theorem opts_in (l : List Nd) (sel : Int) (m : Nat) (hm : m < (nd l sel).kids.length) (is : List Int) (his : innerP l (nd l sel).kids[m] = is.filter (optB l)) (o : Int) (ho : o ∈ is) (hb : optB l o = true) : o ∈ optsP l sel := by
  unfold optsP
  rw [List.mem_flatMap]
  exact ⟨_, List.getElem_mem hm, by rw [his]; exact List.mem_filter.2 ⟨ho, hb⟩⟩

theorem kids_le (l : List Nd) (hR : Rt l) (k : Int) (hk : inR l k) : (nd l k).kids.length ≤ 400 := by
  have := seen_le l _ (kids_nodup hR k hk) (fun x hx => (hR.kid k x hk hx).1)
  have := hR.few
  omega
set_option maxHeartbeats 6400000 in
set_option maxRecDepth 100000 in
theorem iter_in (l : List Nd) (hL : LFine l) (hR : rightB l = true) (sel : Nat) (hs : sel < l.length) (v : Value) (w0 : World) (hA : NodesAt w0 v l) (n : Nat) (hn1 : 1 ≤ n) (Bl Bs lp : Nat)
    (J Jx : List (Opt l (sel : Int)) → World → Prop) (W : World) (hW0 : Below w0.heap.size w0 W) (hcl : W.cell? ⟨Bl, 0, none⟩ = some v) (hcs : W.cell? ⟨Bs, 0, none⟩ = some (.int .i64 (sel : Int))) (hJ : AbidesFrom W.heap.size J)
    (hY : ∀ pre x W1, J pre W1 → pre.length < (optsP l (sel : Int)).length → YieldAt Fence.wide (n - 1) Tryz.prog lp #[.int .i64 x.1] W1 fun e W' =>
      (e = .returned (.bool true) ∧ J (pre ++ [x]) W' ∧ Kp w0.heap.size Bl Bs W1 W') ∨ (e = .returned (.bool false) ∧ Jx (pre ++ [x]) W'))
    (h0 : J [] W) :
    CallsIn Fence.wide n Tryz.prog 64 #[.func (.yield lp) #[] #[], .pointer (some ⟨Bl, 0, none⟩), .pointer (some ⟨Bs, 0, none⟩)] W fun e W' => (∃ u, e = .returned u) ∧
      ((∃ xs : List (Opt l (sel : Int)), vals xs = optsP l (sel : Int) ∧ J xs W') ∨ (∃ pre : List (Opt l (sel : Int)), vals pre <+: optsP l (sel : Int) ∧ Jx pre W')) := by
  have hRt := right_rt l hR
  have hf := hRt.few
  have HOT := Lib.hid (fun m h => opts_take l (nd l (sel : Int)).kids m h)
  have HOP := Lib.hid (fun m hm is his j hj => opts_prefix l (sel : Int) m hm is his j hj)
  have HOI := Lib.hid (fun m hm is his o ho hb => opts_in l (sel : Int) m hm is his o ho hb)
  have HOA : Hid (optsP l (sel : Int) = (nd l (sel : Int)).kids.flatMap (innerP l)) := Lib.hid rfl
  have HKid := Lib.hid (fun c hc => (hRt.kid (sel : Int) c ⟨by omega, by omega⟩ hc).1)
  have HKid2 := Lib.hid (fun k c (hk : inR l k) hc => (hRt.kid k c hk hc).1)
  have HKl := Lib.hid (fun k (hk : inR l k) => kids_le l hRt k hk)
  have hkl := kids_le l hRt (sel : Int) ⟨by omega, by omega⟩
  obtain ⟨b, off, cap, rfl, hb0⟩ := nodes_addr hA (by omega)
  have HG : Hid (∀ j : Nat, j < l.length → ∃ nm tx pr va vk, (∀ W', Below w0.heap.size w0 W' → W'.cell? ⟨b, off + j * 5, none⟩ = some (.string nm) ∧ W'.cell? ⟨b, off + j * 5 + 1, none⟩ = some (.string tx) ∧ W'.cell? ⟨b, off + j * 5 + 2, none⟩ = some va ∧ W'.cell? ⟨b, off + j * 5 + 3, none⟩ = some (.int .i64 pr) ∧ W'.cell? ⟨b, off + j * 5 + 4, none⟩ = some vk ∧ IntsAt W' vk (nd l (j : Int)).kids ∧
      (∀ n', CallsIn Fence.wide n' Tryz.prog 59 #[.agg #[.string nm, .string tx, va, .int .i64 pr, vk]] W' fun e w1 => e = .returned (.int .i64 (kN l (j : Int))) ∧ Below W'.heap.size W' w1))) := Lib.hid (fun j hj => by
    obtain ⟨va, vk, hn⟩ := nodes_get hA j hj
    refine ⟨⟨(nd l (j : Int)).name.toArray⟩, ⟨(nd l (j : Int)).text.toArray⟩, (nd l (j : Int)).parent, va, vk, fun W' hb => ?_⟩
    have h := hn.below hb
    exact ⟨h.c0, h.c1, h.c2, h.c3, h.c4, h.kids, fun n' => callsIn_wide.2 (of_any (nd l (j : Int)) va vk (hL.nd _ (by omega) (by omega)) W' h.attrs h.kids)⟩)
  have HY := Lib.hid hY
  have HJ := Lib.hid (fun s A B (h : J s A) (hb : Below A.heap.size A B) => hJ s A B none h (below_grown hb) (fun r e => by cases e))
  clear hY hJ hRt hL hR
  refine callsIn_of_wp Tryz.func64 rfl trivial ?_ rfl
  simp only [Tryz.ntmps64, List.size_toArray, List.length_cons, List.length_nil, Nat.reduceAdd, Nat.reduceSub, Array.replicate_succ, Array.replicate_zero, List.push_toArray, List.append_toArray, List.nil_append, List.cons_append]
  have h0' : (0 : Int) ≤ (sel : Int) := by omega
  have hs' : (sel : Int) < (l.length : Int) := by omega
  obtain ⟨nms, txs, prs, vas, vks, HSel⟩ := HG.out sel hs
  obtain ⟨_, _, _, _, c4, hki, _⟩ := HSel W hW0
  have HKs := Lib.hid (fun W' h => (HSel W' h).2.2.2.2.2.1)
  clear HSel
  have HIk := Lib.hid (fun W' (k : Kp w0.heap.size Bl Bs W W') => (hW0.trans k.low))
  generalize (nd l (sel : Int)).kids = ks at *
  obtain ⟨ka, kc, rfl⟩ := RowAt.lenN hki
  clear hki
  gi_wp2
  clear c4
  gi_loopw [15] (fun i wr => ∃ (m : Nat) (pre : List (Opt l (sel : Int))), m ≤ ks.length ∧ i = .int .i64 m ∧ Hid (vals pre = (ks.take m).flatMap (innerP l)) ∧ Hid (J pre wr) ∧ Kp w0.heap.size Bl Bs W wr) (fun i _ => ks.length - (RowKit.intOf i).toNat)
  case atStart => exact ⟨0, [], Nat.zero_le _, rfl, Lib.hid rfl, Lib.hid h0, Kp.refl _ _ _ _⟩
  case round =>
    clear h0
    generalize wr = wo at *
    obtain ⟨m, pre, hm, rfl, HV, HJr, hkp⟩ := hrel
    by_cases hlt : m < ks.length
    case neg =>
      obtain rfl : m = ks.length := by omega
      gi_wp2
      go_end0
      exact ⟨⟨_, rfl⟩, .inl ⟨pre, by rw [HV.out, HOA.out, List.take_length], HJr.out⟩⟩
    have hinl := HKid.out ks[m] (List.getElem_mem hlt)
    have hT := Lib.hid (HOT.out m hlt)
    have hP := Lib.hid (HOP.out m hlt)
    have hI := Lib.hid (HOI.out m hlt)
    have hkw := HKs.out wo (HIk.out _ hkp)
    obtain ⟨kb, ko, kcap, e, hkb⟩ := IntsAt.addr hkw (by omega)
    cases e
    have cx := IntsAt.cellAt hkw m hlt
    have hcl1 := hkp.l _ hcl
    clear hkw
    generalize ks[m] = kk at *
    obtain ⟨kn, rfl⟩ : ∃ kn : Nat, kk = (kn : Int) := ⟨kk.toNat, by have := hinl.1; omega⟩
    have hkn : kn < l.length := by have := hinl.2; omega
    have hkn' : (kn : Int) < (l.length : Int) := hinl.2
    have hkn0 : (0 : Int) ≤ (kn : Int) := hinl.1
    obtain ⟨nmk, txk, prk, vak, vkk, HSk⟩ := HG.out kn hkn
    have hbA : Below wo.heap.size wo (wo.alloc (.cells #[.int .i64 (kn : Int)] 3)) := (Below.refl _ wo).alloc (Nat.le_refl _) _
    have hkA := hkp.trans (Kp.of_below hbA (HIk.out _ hkp).size)
    have hJA := Lib.hid (HJ.out _ _ _ HJr.out hbA)
    have hclA := hkA.l _ hcl
    have hcb : (wo.alloc (.cells #[.int .i64 (kn : Int)] 3)).cell? ⟨wo.heap.size, 0, none⟩ = some (.int .i64 (kn : Int)) := World.cell?_alloc_new wo #[.int .i64 (kn : Int)] 3 0
    obtain ⟨e0, e1, e2, e3, e4, HIn, hof⟩ := HSk _ (HIk.out _ hkA)
    have hof := hof (n - 1)
    by_cases h33 : kN l (kn : Int) = 33
    · rw [h33] at hof
      have HIs := Lib.hid (inner_group l (kn : Int) h33)
      have HRd := Lib.hid (fun W' h => (HSk W' h).2.2.2.2.2.1)
      have hisl := HKl.out (kn : Int) hinl
      have hisr := Lib.hid (fun c hc => HKid2.out (kn : Int) c hinl hc)
      gi_wp2
      refine ⟨trivial, hof.mono ?_⟩
      rintro e w1 ⟨rfl, hb1⟩
      have hk1 := hkA.trans (Kp.of_below hb1 (HIk.out _ hkA).size)
      have hJ1 := Lib.hid (HJ.out _ _ _ hJA.out hb1)
      have hclw := hk1.l _ hcl
      obtain ⟨_, _, _, _, f4, hiw, _⟩ := HSk w1 (HIk.out _ hk1)
      clear hof HSk e0 e1 e2 e3 e4 cx hclA hcb
      generalize (nd l (kn : Int)).kids = is at *
      obtain ⟨ia, ic, rfl⟩ := RowAt.lenN hiw
      clear hiw HIn
      gi_wp2
      clear f4 hclw
      gi_loopw [34] (fun i wq => ∃ (j : Nat) (pr2 : List (Opt l (sel : Int))), j ≤ is.length ∧ i = .int .i64 j ∧ Hid (vals pr2 = (ks.take m).flatMap (innerP l) ++ (is.take j).filter (optB l)) ∧ Hid (J pr2 wq) ∧ Kp w0.heap.size Bl Bs W wq ∧ True) (fun i _ => is.length - (RowKit.intOf i).toNat)
      case atStart => exact ⟨0, pre, Nat.zero_le _, rfl, Lib.hid (by rw [HV.out]; simp), hJ1, hk1, trivial⟩
      case round =>
        obtain ⟨j, pr2, hj, rfl, HV2, HJ2, hk2, hx⟩ := hrel
        by_cases hjl : j < is.length
        case neg =>
          obtain rfl : j = is.length := by omega
          gi_wp2
          go_roundw
          case rel => exact ⟨m + 1, pr2, by omega, by go_num, Lib.hid (by rw [HV2.out, List.take_length, hT.out, HIs.out]), HJ2, hk2⟩
          case measure => simp [RowKit.intOf]; omega
        have hor := hisr.out is[j] (List.getElem_mem hjl)
        have hPj := Lib.hid (hP.out is HIs.out (j + 1) hjl)
        have hFj := Lib.hid (filt_take (optB l) is j hjl)
        have hIj := Lib.hid (hI.out is HIs.out is[j] (List.getElem_mem hjl))
        have hiq := HRd.out wr (HIk.out _ hk2)
        obtain ⟨ib, io, icap, e, hib⟩ := IntsAt.addr hiq (by omega)
        cases e
        have cy := IntsAt.cellAt hiq j hjl
        clear hiq
        generalize is[j] = o at *
        obtain ⟨on, rfl⟩ : ∃ on : Nat, o = (on : Int) := ⟨o.toNat, by have := hor.1; omega⟩
        have hon : on < l.length := by have := hor.2; omega
        have hon' : (on : Int) < (l.length : Int) := hor.2
        have hon0 : (0 : Int) ≤ (on : Int) := hor.1
        obtain ⟨nmo, txo, pro, vao, vko, HSo⟩ := HG.out on hon
        obtain ⟨g0, g1, g2, g3, g4, _, hofo⟩ := HSo wr (HIk.out _ hk2)
        have hofo := hofo (n - 1)
        have hclq := hk2.l _ hcl
        clear HSo
        by_cases h32 : kN l (on : Int) = 32
        case neg =>
          have hFs : Hid ((is.take (j + 1)).filter (optB l) = (is.take j).filter (optB l)) := Lib.hid (by rw [hFj.out, if_neg (by unfold optB; simpa using h32), List.append_nil])
          generalize kN l (on : Int) = kd at *
          gi_wp2
          refine ⟨trivial, hofo.mono ?_⟩
          rintro e w3 ⟨rfl, hb3⟩
          have hk3 := hk2.trans (Kp.of_below hb3 (HIk.out _ hk2).size)
          have HJ3 := Lib.hid (HJ.out _ _ _ HJ2.out hb3)
          clear hofo
          gi_wp2
          refine ⟨fun _ h => (by cases h), ?_⟩
          gi_wp2
          go_roundw
          case rel => exact ⟨j + 1, pr2, by omega, by go_num, Lib.hid (by rw [HV2.out, hFs.out]), HJ3, hk3, trivial⟩
          case measure => simp [RowKit.intOf]; omega
        rw [h32] at hofo
        have hob : optB l (on : Int) = true := by unfold optB; simpa using h32
        have hmem := hIj.out hob
        have hFs : Hid ((is.take (j + 1)).filter (optB l) = (is.take j).filter (optB l) ++ [(on : Int)]) := Lib.hid (by rw [hFj.out, if_pos hob])
        have hVx : Hid (vals (pr2 ++ [(⟨(on : Int), hmem⟩ : Opt l (sel : Int))]) = (ks.take m).flatMap (innerP l) ++ (is.take (j + 1)).filter (optB l)) := Lib.hid (by rw [vals_snoc, HV2.out, hFs.out, List.append_assoc])
        have hlp : pr2.length < (optsP l (sel : Int)).length := by
          have h1 := hPj.out.length_le
          rw [← hVx.out] at h1
          unfold vals at h1
          rw [List.length_map, List.length_append, List.length_singleton] at h1
          omega
        gi_wp2
        refine ⟨trivial, hofo.mono ?_⟩
        rintro e w3 ⟨rfl, hb3⟩
        have hk3 := hk2.trans (Kp.of_below hb3 (HIk.out _ hk2).size)
        have HJ3 := Lib.hid (HJ.out _ _ _ HJ2.out hb3)
        obtain ⟨fn, tmps, assign, body, hy, hRy⟩ := HY.out pr2 ⟨(on : Int), hmem⟩ w3 HJ3.out hlp
        dsimp only at hy
        clear hofo
        gi_wp2
        refine hRy.mono ?_
        rintro e W3 (⟨rfl, hJ4, hk4⟩ | ⟨rfl, hJx4⟩)
        · gi_wp2
          go_roundw
          case rel => exact ⟨j + 1, _, by omega, by go_num, hVx, Lib.hid hJ4, hk3.trans hk4, trivial⟩
          case measure => simp [RowKit.intOf]; omega
        · gi_wp2
          refine bodyPost_ret (results_none rfl _ _ _) rfl ?_
          exact ⟨⟨_, rfl⟩, .inr ⟨_, by rw [hVx.out]; exact hPj.out, hJx4⟩⟩
    · have HIs := Lib.hid (inner_one l (kn : Int) h33)
      obtain ⟨is, his0⟩ : ∃ is, is = [(kn : Int)] := ⟨_, rfl⟩
      rw [← his0] at HIs
      have hisr := Lib.hid (fun (c : Int) (hc : c ∈ is) => (by rw [his0] at hc; rw [List.mem_singleton.1 hc]; exact hinl : inR l c))
      have hisl : is.length = 1 := by rw [his0]; rfl
      generalize kN l (kn : Int) = kd at *
      gi_wp2
      refine ⟨trivial, hof.mono ?_⟩
      rintro e w1 ⟨rfl, hb1⟩
      have hk1 := hkA.trans (Kp.of_below hb1 (HIk.out _ hkA).size)
      have hJ1 := Lib.hid (HJ.out _ _ _ hJA.out hb1)
      have hcb1 := cell_below hb1 hcb
      clear hof HSk e0 e1 e2 e3 e4 cx hclA HIn
      gi_wp2
      have hta : is.take 1 = is := by rw [his0]; rfl
      have hkd : (kd == (33 : Int)) = false := by simpa using h33
      rw [hkd]
      clear hkd h33
      gi_loopw [34] (fun i wq => ∃ (j : Nat) (pr2 : List (Opt l (sel : Int))), j ≤ 1 ∧ i = .int .i64 j ∧ Hid (vals pr2 = (ks.take m).flatMap (innerP l) ++ (is.take j).filter (optB l)) ∧ Hid (J pr2 wq) ∧ Kp w0.heap.size Bl Bs W wq ∧ (j = 0 → wq.cell? ⟨wo.heap.size, 0, none⟩ = some (.int .i64 (kn : Int)))) (fun i _ => 1 - (RowKit.intOf i).toNat)
      case atStart => exact ⟨0, pre, Nat.zero_le _, rfl, Lib.hid (by rw [HV.out]; simp), hJ1, hk1, (fun _ => hcb1)⟩
      case round =>
        obtain ⟨j, pr2, hj, rfl, HV2, HJ2, hk2, hx⟩ := hrel
        by_cases hjl : j < 1
        case neg =>
          obtain rfl : j = 1 := by omega
          gi_wp2
          go_roundw
          case rel => exact ⟨m + 1, pr2, by omega, by go_num, Lib.hid (by rw [HV2.out, hta, hT.out, HIs.out]), HJ2, hk2⟩
          case measure => simp [RowKit.intOf]; omega
        have hjl' : j < is.length := by omega
        have hor := hisr.out is[j] (List.getElem_mem hjl')
        have hPj := Lib.hid (hP.out is HIs.out (j + 1) (by omega))
        have hFj := Lib.hid (filt_take (optB l) is j (by omega))
        have hIj := Lib.hid (hI.out is HIs.out is[j] (List.getElem_mem hjl'))
        obtain rfl : j = 0 := by omega
        have cy := hx rfl
        have hoe : is[0] = (kn : Int) := by simp [his0]
        rw [hoe] at hor hFj hIj
        obtain ⟨o, ho⟩ : ∃ o, o = (kn : Int) := ⟨_, rfl⟩
        rw [← ho] at cy hor hFj hIj
        clear ho hx hisl hoe his0 hta
        obtain ⟨on, rfl⟩ : ∃ on : Nat, o = (on : Int) := ⟨o.toNat, by have := hor.1; omega⟩
        have hon : on < l.length := by have := hor.2; omega
        have hon' : (on : Int) < (l.length : Int) := hor.2
        have hon0 : (0 : Int) ≤ (on : Int) := hor.1
        obtain ⟨nmo, txo, pro, vao, vko, HSo⟩ := HG.out on hon
        obtain ⟨g0, g1, g2, g3, g4, _, hofo⟩ := HSo wr (HIk.out _ hk2)
        have hofo := hofo (n - 1)
        have hclq := hk2.l _ hcl
        clear HSo
        by_cases h32 : kN l (on : Int) = 32
        case neg =>
          have hFs : Hid ((is.take (0 + 1)).filter (optB l) = (is.take 0).filter (optB l)) := Lib.hid (by rw [hFj.out, if_neg (by unfold optB; simpa using h32), List.append_nil])
          generalize kN l (on : Int) = kd at *
          gi_wp2
          refine ⟨trivial, hofo.mono ?_⟩
          rintro e w3 ⟨rfl, hb3⟩
          have hk3 := hk2.trans (Kp.of_below hb3 (HIk.out _ hk2).size)
          have HJ3 := Lib.hid (HJ.out _ _ _ HJ2.out hb3)
          clear hofo
          gi_wp2
          refine ⟨fun _ h => (by cases h), ?_⟩
          gi_wp2
          go_roundw
          case rel =>
            exact ⟨0 + 1, pr2, by omega, by go_num, Lib.hid (by rw [HV2.out, hFs.out]), HJ3, hk3, (fun h => absurd h (by omega))⟩
          case measure => simp [RowKit.intOf]
        rw [h32] at hofo
        have hob : optB l (on : Int) = true := by unfold optB; simpa using h32
        have hmem := hIj.out hob
        have hFs : Hid ((is.take (0 + 1)).filter (optB l) = (is.take 0).filter (optB l) ++ [(on : Int)]) := Lib.hid (by rw [hFj.out, if_pos hob])
        have hVx : Hid (vals (pr2 ++ [(⟨(on : Int), hmem⟩ : Opt l (sel : Int))]) = (ks.take m).flatMap (innerP l) ++ (is.take (0 + 1)).filter (optB l)) := Lib.hid (by rw [vals_snoc, HV2.out, hFs.out, List.append_assoc])
        have hlp : pr2.length < (optsP l (sel : Int)).length := by
          have h1 := hPj.out.length_le
          rw [← hVx.out] at h1
          unfold vals at h1
          rw [List.length_map, List.length_append, List.length_singleton] at h1
          omega
        gi_wp2
        refine ⟨trivial, hofo.mono ?_⟩
        rintro e w3 ⟨rfl, hb3⟩
        have hk3 := hk2.trans (Kp.of_below hb3 (HIk.out _ hk2).size)
        have HJ3 := Lib.hid (HJ.out _ _ _ HJ2.out hb3)
        obtain ⟨fn, tmps, assign, body, hy, hRy⟩ := HY.out pr2 ⟨(on : Int), hmem⟩ w3 HJ3.out hlp
        dsimp only at hy
        clear hofo
        gi_wp2
        refine hRy.mono ?_
        rintro e W3 (⟨rfl, hJ4, hk4⟩ | ⟨rfl, hJx4⟩)
        · gi_wp2
          go_roundw
          case rel =>
            exact ⟨0 + 1, _, by omega, by go_num, hVx, Lib.hid hJ4, hk3.trans hk4, (fun h => absurd h (by omega))⟩
          case measure => simp [RowKit.intOf]
        · gi_wp2
          refine bodyPost_ret (results_none rfl _ _ _) rfl ?_
          exact ⟨⟨_, rfl⟩, .inr ⟨_, by rw [hVx.out]; exact hPj.out, hJx4⟩⟩
end Go.Proofs.YtoajgfhcongocaaGreatDoor.doc

namespace Go.Proofs.YtoajgfhcongocaaGreatDoor.doc
open Go.ChangeShapes Go.WideShapes Go.ChangeAt Go.RowKit Go.Lib Go.Shelf Go.Proofs.YtoajgfhcongocaaGreatDoor.atr Go.Proofs.YtoajgfhcongocaaGreatDoor.link
attribute [local go_sem] Oper.semAt_some

theorem opts_stops (l : List Nd) (hL : LFine l) (hR : rightB l = true) (sel : Nat) (hs : sel < l.length) (v : Value) (w0 : World) (hA : NodesAt w0 v l) (n : Nat) (hn1 : 1 ≤ n) (Bl Bs : Nat) (w : World) (hb : Below w0.heap.size w0 w)
    (_hBl : Bl < w.heap.size) (_hBs : Bs < w.heap.size) (hcl : w.cell? ⟨Bl, 0, none⟩ = some v) (hcs : w.cell? ⟨Bs, 0, none⟩ = some (.int .i64 (sel : Int))) :
    SeqStopsK Fence.wide n Tryz.prog 64 #[.pointer (some ⟨Bl, 0, none⟩), .pointer (some ⟨Bs, 0, none⟩)] (fun x : Opt l (sel : Int) => #[Value.int .i64 x.1]) (Kp w0.heap.size Bl Bs) (fun xs => vals xs = optsP l (sel : Int)) (fun pre => vals pre <+: optsP l (sel : Int)) (optsP l (sel : Int)).length w :=
  fun lp J Jx W hW hJ _ hY h0 => iter_in l hL hR sel hs v w0 hA n hn1 Bl Bs lp J Jx W (hb.trans (hW.mono hb.size)) (cell_below hW hcl) (cell_below hW hcs) hJ hY h0

/-- behind 'out = append(out, ..)' where the row's base lies beyond the box -/
theorem appended2 {W w1 : World} {n₁ B : Nat} {t e : TypeId} {size : Nat} {v v' : Value} {k m : Nat} {xs ys : List Value} {tmp : Obj}
    (hv : Boxed W B t v) (hte : t ≠ e) (hrow : W.ownsRow n₁ e size v k xs) (hn₁ : n₁ ≤ W.heap.size)
    (hown' : w1.ownsRow n₁ e size v' m ys) (hgrow : (W.alloc tmp).grownBy w1 v.ownBlock) :
    Boxed w1 B t v ∧ Boxed (w1.setCell ⟨B, 0, none⟩ v') B t v' ∧ (w1.setCell ⟨B, 0, none⟩ v').ownsRow n₁ e size v' m ys ∧ KeepsOthers W (w1.setCell ⟨B, 0, none⟩ v') ∧ Below n₁ W w1 := by
  have hv1 : Boxed w1 B t v := (hv.alloc tmp).kept hgrow (hv.not_row hte hrow)
  refine ⟨hv1, hv1.set v', hown'.kept (grownBy_setCell' w1 B v') (.inr (hv1.not_row hte hown').symm), ?_, ?_⟩
  · refine ((KeepsOthers.alloc W tmp).trans (KeepsOthers.of_grownBy hgrow fun j o ej hj => ?_)).trans (KeepsOthers.setCell _ _ _)
    rcases (hrow.alloc tmp).2 with ⟨rfl, _⟩ | ⟨g, cap, cur, rfl, _, hgb, _⟩
    · simp [Value.ownBlock] at ej
    · obtain rfl : g = j := by simpa [Value.ownBlock] using ej
      rw [hgb] at hj; cases hj; rfl
  · refine ((Below.refl n₁ W).alloc hn₁ tmp).grown hgrow (by simp; omega) fun j ej => ?_
    rcases hrow.2 with ⟨rfl, _⟩ | ⟨g, cap, cur, rfl, hb, _, _⟩
    · simp [Value.ownBlock] at ej
    · obtain rfl : g = j := by simpa [Value.ownBlock] using ej
      exact hb
theorem cell_set_other {W w1 : World} {n₁ B b : Nat} (v' : Value) (hb : Below n₁ W w1) (h : b < n₁) (hne : b ≠ B) (u : Value) (hc : W.cell? ⟨b, 0, none⟩ = some u) : (w1.setCell ⟨B, 0, none⟩ v').cell? ⟨b, 0, none⟩ = some u := by
  have e1 := (hb.cell (p := ⟨b, 0, none⟩) h).trans hc
  rw [← e1]
  unfold World.cell?
  rw [Below.heap_setCell w1 ⟨B, 0, none⟩ v' b hne]
theorem kp_set {W w1 : World} {n₀ n₁ B Bl Bs : Nat} (v' : Value) (hb : Below n₁ W w1) (h0 : n₀ ≤ n₁) (hB : n₀ ≤ B) (h1 : Bl < n₁) (h2 : Bs < n₁) (n1 : Bl ≠ B) (n2 : Bs ≠ B) : Kp n₀ Bl Bs W (w1.setCell ⟨B, 0, none⟩ v') :=
  ⟨(hb.mono h0).setCell (p := ⟨B, 0, none⟩) hB v', fun u h => cell_set_other v' hb h1 n1 u h, fun u h => cell_set_other v' hb h2 n2 u h⟩
theorem opts_le (l : List Nd) (hR : rightB l = true) (sel : Int) (hs : inR l sel) : (optsP l sel).length ≤ 400 := by
  have hRt := right_rt l hR
  have := seen_le l _ (opts_nodup hRt sel hs) (fun x hx => (opts_mem hRt sel hs x hx).1)
  have := hRt.few
  omega
theorem below_set {w W w1 : World} {n₀ n₁ B : Nat} (v' : Value) (h : Below n₀ w W) (hb : Below n₁ W w1) (h0 : n₀ ≤ n₁) (hB : n₀ ≤ B) : Below n₀ w (w1.setCell ⟨B, 0, none⟩ v') :=
  h.trans ((hb.mono h0).setCell (p := ⟨B, 0, none⟩) hB v')

set_option maxHeartbeats 6400000 in
set_option maxRecDepth 100000 in
theorem list_any (v : Value) (l : List Nd) (hL : LFine l) (k : Int) (w : World) (hA : NodesAt w v l) :
    Calls Tryz.prog 29 #[v, .int .i64 k] w fun e w' => ∃ v', e = .returned v' ∧ OwnI w' w.heap.size v' (listP l k) ∧ Below w.heap.size w w' := by
  have hi := is_any v l k 23 hL w hA
  have HP : Hid (listP l k = if isP l k 23 then optsP l k else []) := Lib.hid rfl
  cases hq : isP l k 23
  · rw [hq] at hi HP
    have HX : Hid (listP l k = []) := Lib.hid HP.out
    obtain ⟨oa, cap, rfl⟩ := NodesAt.lenN hA
    generalize listP l k = r at *
    obtain rfl := HX.out
    clear hA hq HP hL HX
    go_enter Tryz.func29, Tryz.ntmps29
    go_wp2_with fail
    refine hi.mono ?_
    rintro e w1 ⟨rfl, hb1⟩
    go_wp2_with fail
    go_ret
    exact ⟨_, rfl, OwnI.nil _ _, hb1⟩
  · obtain ⟨⟨h0, h1⟩, _, hR⟩ := (isP_iff l k 23).1 hq
    rw [hq] at hi HP
    have HX : Hid (listP l k = optsP l k) := Lib.hid HP.out
    obtain ⟨sel, rfl⟩ : ∃ sel : Nat, k = (sel : Int) := ⟨k.toNat, by omega⟩
    have hs : sel < l.length := by omega
    rw [HX.out]
    have hol := opts_le l hR (sel : Int) ⟨h0, h1⟩
    have HSt := Lib.hid (fun Bl Bs W hb h1 h2 h3 h4 => opts_stops l hL hR sel hs v w hA 999 (by omega) Bl Bs W hb h1 h2 h3 h4)
    have HO := Lib.hid (fun W => options_any v (sel : Int) (by obtain ⟨oa, c, rfl⟩ := NodesAt.lenN hA; exact ⟨_, _, _, rfl⟩) W)
    obtain ⟨i0, hi0, hz0, hz1, hz2⟩ := info_parts infoI
    obtain ⟨oa, cap, rfl⟩ := NodesAt.lenN hA
    clear hA hq HP hL HX hR
    refine (callsIn_wide (n := 1000)).1 ?_
    refine callsIn_of_wp_marks Tryz.func29 rfl trivial ?_ rfl
    simp only [Tryz.ntmps29, List.size_toArray, List.length_cons, List.length_nil, Nat.reduceAdd, Nat.reduceSub, Array.replicate_succ, Array.replicate_zero, List.push_toArray, List.append_toArray, List.nil_append, List.cons_append]
    have hi' := (callsIn_wide (n := 999)).2 hi
    gi_wp2
    refine ⟨trivial, hi'.mono ?_⟩
    rintro e w1 ⟨rfl, hb1⟩
    have ho := (callsIn_wide (n := 999)).2 (HO.out (w1.alloc (.cells #[.slice none 0 0] 41)))
    clear hi hi'
    gi_wp2
    refine ⟨trivial, ho.mono ?_⟩
    rintro e w' ⟨rfl, rfl⟩
    clear ho
    gi_wp2
    obtain ⟨w3, hw3⟩ : ∃ w3, w3 = ((w1.alloc (.cells #[.slice none 0 0] 41)).alloc (.cells #[.slice oa l.length cap] 22)).alloc (.cells #[.int .i64 (sel : Int)] 3) := ⟨_, rfl⟩
    have hsz : w3.heap.size = w1.heap.size + 1 + 1 + 1 := by rw [hw3]; simp
    have hwz := hb1.size
    have bO : Boxed w3 w1.heap.size 41 (.slice none 0 0) := by rw [hw3]; exact ((Boxed.new w1 _ _).alloc _).alloc _
    have bL : Boxed w3 (w1.heap.size + 1) 22 (.slice oa l.length cap) := by
      have := Boxed.new (w1.alloc (.cells #[.slice none 0 0] 41)) 22 (.slice oa l.length cap)
      rw [World.size_alloc] at this
      rw [hw3]; exact this.alloc _
    have bS : Boxed w3 (w1.heap.size + 1 + 1) 3 (.int .i64 (sel : Int)) := by
      have := Boxed.new ((w1.alloc (.cells #[.slice none 0 0] 41)).alloc (.cells #[.slice oa l.length cap] 22)) 3 (.int .i64 (sel : Int))
      rw [World.size_alloc, World.size_alloc] at this
      rw [hw3]; exact this
    have hB0 : Below w.heap.size w w3 := by rw [hw3]; exact ((hb1.alloc (by omega) _).alloc (by simp; omega) _).alloc (by simp; omega) _
    first | rw [← hw3] | (simp only [← hw3])
    clear hw3
    refine wpIn_rangeFunc_ownG rfl (by omega) (gf := 64) (lb := #[.pointer (some ⟨w1.heap.size + 1, 0, none⟩), .pointer (some ⟨w1.heap.size + 1 + 1, 0, none⟩)]) rfl trivial (enters_of Tryz.func64 (by kernel_rfl) rfl)
      (HSt.out (w1.heap.size + 1) (w1.heap.size + 1 + 1) w3 hB0 bL.lt bS.lt bL.cell bS.cell) (fun h k => h.trans k) (Kp.put (by omega)) (Below.refl _ _) (fun _ => rfl)
      (fun pre W => (∃ u, Boxed W w1.heap.size 41 u ∧ W.ownsRow w3.heap.size 3 1 u (vals pre).length (intsV (vals pre)) ∧ True) ∧ Below w.heap.size w3 W)
      (fun _ _ _ => False)
      (OwnFrom.and (Own.from (holdsRow_own w3.heap.size w1.heap.size 41 3 1 (fun pre : List (Opt l (sel : Int)) => (vals pre).length) (fun pre => intsV (vals pre)) (fun _ _ => True)) _) (ownFrom_below (by omega) (by omega)))
      (fun _ _ _ _ _ hs _ _ => hs)
      ⟨⟨_, bO, World.ownsRow_nil _ _ _ _, trivial⟩, Below.refl _ _⟩
      (fun x => { tmps := #[.slice oa l.length cap, .int .i64 (sel : Int), undef, undef, .slice none 0 0, .pointer (some ⟨w1.heap.size, 0, none⟩), .int .i64 x.1, .slice oa l.length cap, .int .i64 (sel : Int), .bool true, .bool false, .slice oa l.length cap, .int .i64 (sel : Int), .func (.func 64) #[] #[.pointer (some ⟨w1.heap.size + 1, 0, none⟩), .pointer (some ⟨w1.heap.size + 1 + 1, 0, none⟩)], .int .i64 x.1, undef, undef, undef, undef, undef], defers := [] }) ?assign ?body ?done ?stop
    case assign =>
      intro l x W K hK
      gi_wp2
      exact hK
    case body =>
      rintro lp pre ⟨x, hx⟩ W ⟨⟨u, hv, hrow, _⟩, hB⟩ hlt
      have hc := hv.cell
      have hpl : Hid ((vals pre).length = pre.length) := Lib.hid (by unfold vals; rw [List.length_map])
      have hBz := hB.size
      have HSZ := Lib.hid hsz
      clear hsz
      gi_wp2_with (gi_at_builtin; refine wpListIn_append_own _ rfl _ _ 41 rfl w3.heap.size 3 i0 (.int .i64 0) 1 8 Tryz.underlying41 hi0 hz0 hz1 hz2 rfl (by decide) _ _ _ rfl (hrow.alloc _) ⟨W.heap.size, 0, none⟩ 1 1 [.int .i64 x] rfl rfl (cell_one_new _ _ _) (by simp [Value.oneCell']) (by have := hpl.out; unfold maxLen; omega) (by have := hpl.out; omega) (by simp; omega) ?_; intro v' w9 hown' hgrow _; obtain ⟨g', cap', rfl⟩ := ownsRow_succ hown'; obtain ⟨hv1, hv2, hr2, hk2, hb2⟩ := appended2 hv (by decide) hrow hBz hown' hgrow; have hc1 := hv1.cell; have hf1 := hv1.frozen)
      have hsz := HSZ.out
      exact ⟨hk2.from _, kp_set _ hb2 (by omega) (by omega) (by omega) (by omega) (by omega) (by omega), ⟨_, hv2, by rw [vals_snoc, intsV_app, List.length_append]; exact hr2⟩, below_set _ hB hb2 (by omega) (by omega)⟩
    case done =>
      rintro D ys W hD hys ⟨⟨u, hv, hrow, _⟩, hB⟩ hK
      have hc := hv.cell
      gi_wp2
      refine ⟨by simp, .inl ⟨_, _, rfl, run_takeDeferred hK, ?_⟩⟩
      rw [hys] at hrow
      exact ⟨_, results_tmp rfl _ _ _, u, rfl, ownsRow_lower (ownsRow_putObj hrow _ hK rfl) (by omega), hB0.trans (hB.trans (belowK_b (w := w) (Nat.le_refl _) W D _ _ (by omega) hK rfl rfl))⟩
    case stop =>
      rintro D c pre W _ _ h _
      exact h.elim
end Go.Proofs.YtoajgfhcongocaaGreatDoor.doc
