/- A part of the proofs: lemmas and contracts. -/
import Derived.Test.YtkhlfggnjcbniaaGreatDoorP16
set_option maxHeartbeats 12800000
set_option maxRecDepth 1000000
namespace Go.Proofs.YtkhlfggnjcbniaaGreatDoor.doc
open Go.ChangeShapes Go.WideShapes Go.ChangeAt Go.RowKit Go.Lib atr link num str
def szS (s : List UInt8) : Int := if s.length ≤ 4 ∧ allDig s = true then (val s : Int) else 0
theorem size_ways (s : List UInt8) : (∃ v, atoiAll s = .ok v ∧ 0 < v ∧ s.length ≤ 4 ∧ allDig s = true ∧ szS s = v) ∨ (szS s = 0 ∧ ∀ v, atoiAll s = .ok v → ¬ (0 < v ∧ s.length ≤ 4 ∧ allDig s = true)) := by
 by_cases g : s.length ≤ 4 ∧ allDig s = true
 ·have e : szS s = (val s : Int) := by unfold szS; rw [if_pos g]
  have hlt := val_lt s g.2
  have h4 : val s < 10000 := Nat.lt_of_lt_of_le hlt (by
   have : (10 : Nat) ^ s.length ≤ 10 ^ 4 := Nat.pow_le_pow_right (by decide) g.1
   exact this)
  rcases Nat.eq_zero_or_pos s.length with h0 | h0
  ·have : s = [] := List.length_eq_zero_iff.1 h0
   subst this
   right
   refine ⟨by rw [e]; rfl, fun v hv => ?_⟩
   have : atoiAll [] ≠ .ok v := by
    intro h; cases h
   exact absurd hv this
  ·rcases atoi_val s h0 g.2 with ⟨_, h2⟩ | ⟨h1, _⟩
   ·by_cases hv : 0 < val s
    ·left; exact ⟨_, h2, by omega, g.1, g.2, e⟩
    ·right
     refine ⟨by rw [e]; omega, fun v h3 => ?_⟩
     rw [h2] at h3
     cases h3
     intro h; omega
   ·omega
 ·right
  refine ⟨by unfold szS; rw [if_neg g], fun v _ h => g h.2⟩
theorem trim_dg (l : List UInt8) (hl : l.length ≤ 1000000000) (w : World) :
  Calls Tryz.prog 95 #[.string ⟨l.toArray⟩, .string ⟨#[48, 49, 50, 51, 52, 53, 54, 55, 56, 57]⟩] w fun e w' => e = .returned (.string ⟨(trimS l digs).toArray⟩) ∧ Below w.heap.size w w' :=
 Any.strings_Trim_laid Tryz.lays160 (by kernel_rfl) ⟨l.toArray⟩ ⟨#[48, 49, 50, 51, 52, 53, 54, 55, 56, 57]⟩ w (by rw [bsize]; omega) (by decide) (ascii_of_all (by decide))

theorem right_short {l : List Nd} (h : Rt l) (k : Int) (hk : inR l k) : ∀ a ∈ (nd l k).attrs, a.2.length ≤ 4000 := by
 intro a ha
 have := h.alone k hk
 unfold aloneP at this
 split at this
 ·simp only [Bool.and_eq_true, List.isEmpty_iff] at this
  rw [this.1.1] at ha; cases ha
 ·simp only [Bool.and_eq_true] at this
  obtain ⟨i, hi, rfl⟩ := List.getElem_of_mem ha
  have h2 := List.all_eq_true.1 this.2 i (List.mem_range.2 hi)
  unfold attrB1 at h2
  rw [atA_at _ i hi] at h2
  simp only [Bool.and_eq_true, decide_eq_true_eq] at h2
  exact h2.1.2
theorem val_short {l : List Nd} (h : Rt l) (k : Int) (hk : inR l k) (nm s : List UInt8) (he : fval nm (nd l k).attrs = some s) : s.length ≤ 4000 := by
 obtain ⟨a, ha, rfl⟩ := find_mem nm _ s he
 exact right_short h k hk a ha

theorem size_any (v : Value) (l : List Nd) (hL : LFine l) (hR : rightB l = true) (k : Nat) (hk : k < l.length) (w : World) (hE : GE w) (hA : NodesAt w v l) :
  Calls Tryz.prog 227 #[v, .int .i64 k] w fun e w' => e = .returned (.int .i64 (sizeP l (k : Int))) ∧ Below w.heap.size w w' := by
 have hRt := right_rt l hR
 have hf := hRt.few
 obtain ⟨b, off, cap, rfl, hb⟩ := nodes_addr hA (by omega)
 have HN := Lib.hid (fun w' (h : Below w.heap.size w w') => nodes_get (hA.below h) k hk)
 have hfn := hL.nd (k : Int) (by omega) (by omega)
 have HHas := Lib.hid (fun w' va vk h1 h2 => ohas_any (nd l (k : Int)) va vk nMultiple hfn.attrs w' h1 h2)
 have HSh := Lib.hid (fun s h => val_short hRt (k : Int) ⟨by omega, by omega⟩ nSize s h)
 have HP : Hid (sizeP l (k : Int) = if 0 < szS ((fval nSize (nd l (k : Int)).attrs).getD []) then szS ((fval nSize (nd l (k : Int)).attrs).getD []) else if hasA nMultiple (nd l (k : Int)).attrs then 4 else 1) := Lib.hid rfl
 obtain ⟨vak, vkk, hnk⟩ := HN.out w (Below.refl _ _)
 have eg : ∀ args w, (callFunc 283 args).run Tryz.prog w = .ok (.enter 283 args) w := enters_of Tryz.func283 (by kernel_rfl) rfl
 have hI := idxfN_any 283 #[] eg nSize vak _ hfn.attrs w hnk.attrs (pred_size w)
 have hw := Lib.hid (fint_ways nSize (nd l (k : Int)).attrs)
 have HAt := Lib.hid hnk.attrs
 have c2 := hnk.c2
 have h0 : (0 : Int) ≤ (k : Int) := by omega
 have hk' : (k : Int) < (l.length : Int) := by omega
 generalize sizeP l (k : Int) = res at *
 generalize hasA nMultiple (nd l (k : Int)).attrs = qm at *
 obtain ⟨aa, ac, rfl⟩ := AttrsAt.lenN HAt.out
 obtain ⟨at0, hat0⟩ : ∃ a, a = (nd l (k : Int)).attrs := ⟨_, rfl⟩
 rw [← hat0] at hw HAt c2 hI HP HSh
 obtain ⟨s, hs⟩ : ∃ s, s = (fval nSize at0).getD [] := ⟨_, rfl⟩
 rw [← hs] at HP
 have HS0 := Lib.hid hs
 clear hnk hRt hR hL hA hfn eg hat0 hs
 generalize fint nSize at0 = fi at *
 go_enter Tryz.func227, Tryz.ntmps227
 go_wp2_with fail
 refine hI.mono ?_
 rintro e w1 ⟨rfl, hb1⟩
 clear hI
 have c2 := cell_below hb1 c2
 have HE1 := Lib.hid (hE.below hb1)
 go_upto_if 16 with fail
 go_cut [] (fun wx => Hid (¬ 0 < szS s) ∧ Below w.heap.size w wx)
 case first =>
  rcases hw.out with ⟨j, hj, h1, _, _, h4⟩ | ⟨h1, _, h3⟩
  ·subst h1
   rcases HAt.out with ⟨rfl, _⟩ | ⟨b2, off2, cap2, e, h02, hb2, hR2⟩
   ·exact absurd hj (Nat.not_lt_zero _)
   cases e
   have cv := cell_below hb1 (hR2 j hj).2
   have hsl := HSh.out _ h4
   have HS : Hid (at0[j].2 = s) := Lib.hid (by rw [HS0.out, h4]; rfl)
   rw [HS.out] at cv hsl
   clear h4 hR2 HSh hw HS HS0
   have hat := atoi_any s (by omega) w1 HE1.out
   have htr := fun w => trim_dg s (by omega) w
   have hsw := Lib.hid (size_ways s)
   have htd := Lib.hid (trim_digs s)
   generalize trimS s digs = x at *
   go_wp2_with fail
   refine hat.mono ?_
   rintro e w2 ⟨hb2', ⟨n, hok, rfl⟩ | ⟨hno, n, N, _, rfl⟩⟩
   ·have hb12 := below_trans hb1 hb2'
    clear hat
    by_cases g1 : 0 < n
    case neg =>
     have HX : Hid (¬ 0 < szS s) := Lib.hid (by
      rcases hsw.out with ⟨v, h1, h2, _⟩ | ⟨h1, _⟩
      ·rw [hok] at h1; cases h1; exact absurd h2 g1
      ·rw [h1]; decide)
     clear hok
     go_wp2_with fail
     go_meet
     exact ⟨HX, hb12⟩
    by_cases g2 : (s.length : Int) ≤ 4
    case neg =>
     have HX : Hid (¬ 0 < szS s) := Lib.hid (by
      rcases hsw.out with ⟨v, h1, _, h3, _⟩ | ⟨h1, _⟩
      ·omega
      ·rw [h1]; decide)
     clear hok
     go_wp2_with fail
     go_meet
     exact ⟨HX, hb12⟩
    have HOK := Lib.hid hok
    clear hok
    cases x with
    | nil =>
     have HX : Hid (res = n) := Lib.hid (by
      have had := htd.out.1 rfl
      rcases hsw.out with ⟨v, h1, h2, _, _, h5⟩ | ⟨_, h2⟩
      ·rw [HOK.out] at h1
       cases h1
       rw [HP.out, h5, if_pos h2]
      ·exact absurd ⟨g1, by omega, had⟩ (h2 n HOK.out))
     go_wp2_with fail
     refine (htr _).mono ?_
     rintro e w3 ⟨rfl, hb3⟩
     go_wp2_with fail
     go_ret
     exact ⟨ret_int HX.out.symm, below_trans hb12 hb3⟩
    | cons x1 x2 =>
     have HX : Hid (¬ 0 < szS s) := Lib.hid (by
      rcases hsw.out with ⟨v, _, _, _, h4, _⟩ | ⟨h1, _⟩
      ·have := htd.out.2 h4
       cases this
      ·rw [h1]; decide)
     go_wp2_with fail
     refine (htr _).mono ?_
     rintro e w3 ⟨rfl, hb3⟩
     go_wp2_with fail
     go_meet
     exact ⟨HX, below_trans hb12 hb3⟩
   ·have hb12 := below_trans hb1 hb2'
    have HX : Hid (¬ 0 < szS s) := Lib.hid (by
     rcases hsw.out with ⟨v, h1, _⟩ | ⟨h1, _⟩
     ·exact absurd h1 (hno v)
     ·rw [h1]; decide)
    clear hno hat
    go_wp2_with fail
    go_meet
    exact ⟨HX, hb12⟩
  ·subst h1
   have HX : Hid (¬ 0 < szS s) := Lib.hid (by rw [HS0.out, h3]; decide)
   clear h3
   go_wp2_with fail
   go_meet
   exact ⟨HX, hb1⟩
 case rest =>
 obtain ⟨HX, hbc⟩ := hcut
 obtain ⟨va2, vk2, hn2⟩ := HN.out wc hbc
 have hhm := HHas.out wc va2 vk2 hn2.attrs hn2.kids
 unfold nodeV at hhm
 obtain ⟨c0, c1, c2', c3, c4, _, _, _⟩ := hn2
 generalize nd l (k : Int) = n at *
 have HY : Hid (res = if qm then 4 else 1) := Lib.hid (by rw [HP.out, if_neg HX.out])
 clear HP HX c2
 cases qm
 ·go_wp2_with fail
  refine hhm.mono ?_
  rintro e w3 ⟨rfl, hb3⟩
  go_wp2_with fail
  go_ret
  exact ⟨ret_int (by rw [HY.out]; rfl), below_trans hbc hb3⟩
 ·go_wp2_with fail
  refine hhm.mono ?_
  rintro e w3 ⟨rfl, hb3⟩
  go_wp2_with fail
  go_ret
  exact ⟨ret_int (by rw [HY.out]; rfl), below_trans hbc hb3⟩

theorem sizeU_any (v : Value) (l : List Nd) (hL : LFine l) (k : Int) (w : World) (hE : GE w) (hA : NodesAt w v l) :
  Calls Tryz.prog 154 #[v, .int .i64 k] w fun e w' => e = .returned (.int .i64 (SizeP l k)) ∧ Below w.heap.size w w' := by
 have hi := is_any v l k 23 hL w hA
 have HP : Hid (SizeP l k = if isP l k 23 then sizeP l k else 0) := Lib.hid rfl
 cases hq : isP l k 23
 ·rw [hq] at hi HP
  have HX : Hid (SizeP l k = 0) := Lib.hid HP.out
  obtain ⟨oa, cap, rfl⟩ := NodesAt.lenN hA
  generalize SizeP l k = r at *
  clear hA hq HP hL
  go_enter Tryz.func154, Tryz.ntmps154
  go_wp2_with fail
  refine hi.mono ?_
  rintro e w1 ⟨rfl, hb1⟩
  go_wp2_with fail
  go_ret
  exact ⟨ret_int HX.out.symm, hb1⟩
 ·obtain ⟨⟨h0, h1⟩, _, h3⟩ := (isP_iff l k 23).1 hq
  rw [hq] at hi HP
  have HX : Hid (SizeP l k = sizeP l k) := Lib.hid HP.out
  obtain ⟨kn, rfl⟩ : ∃ kn : Nat, k = (kn : Int) := ⟨k.toNat, by omega⟩
  have HO := Lib.hid (fun w' (h : Below w.heap.size w w') => size_any v l hL h3 kn (by omega) w' (hE.below h) (hA.below h))
  obtain ⟨oa, cap, rfl⟩ := NodesAt.lenN hA
  generalize SizeP l (kn : Int) = r at *
  generalize sizeP l (kn : Int) = r2 at *
  clear hA hq HP hL h3 hE
  go_enter Tryz.func154, Tryz.ntmps154
  go_wp2_with fail
  refine hi.mono ?_
  rintro e w1 ⟨rfl, hb1⟩
  have ho := HO.out w1 hb1
  clear hi
  go_wp2_with fail
  refine ho.mono ?_
  rintro e w2 ⟨rfl, hb2⟩
  go_wp2_with fail
  go_ret
  exact ⟨ret_int HX.out.symm, below_trans hb1 hb2⟩
end Go.Proofs.YtkhlfggnjcbniaaGreatDoor.doc
namespace Go.Proofs.YtkhlfggnjcbniaaGreatDoor.doc
open Go.ChangeShapes Go.WideShapes Go.ChangeAt Go.RowKit Go.Lib atr link

theorem valueP_some (l : List Nd) (o : Int) (s : List UInt8) (h : fval nValue (nd l o).attrs = some s) : valueP l o = s := by unfold valueP; rw [h]
theorem valueP_none (l : List Nd) (o : Int) (h : fval nValue (nd l o).attrs = none) : valueP l o = collapseS (textP l o) := by unfold valueP; rw [h]
theorem textP_le {l : List Nd} (h : Rt l) (o : Int) (ho : inR l o) : (textP l o).length ≤ 1604000 := by
 rw [← txT_all]
 refine txT_le h o ho _ ?_
 have := seen_le l _ (kids_nodup h o ho) (fun x hx => (h.kid o x ho hx).1)
 have := h.few
 omega

theorem value_any (v : Value) (l : List Nd) (hL : LFine l) (hR : rightB l = true) (k : Nat) (hk : k < l.length) (w : World) (hA : NodesAt w v l) :
  Calls Tryz.prog 148 #[v, .int .i64 k] w fun e w' => e = .returned (.string ⟨(valueP l (k : Int)).toArray⟩) ∧ Below w.heap.size w w' := by
 have hRt := right_rt l hR
 have hf := hRt.few
 obtain ⟨b, off, cap, rfl, hb⟩ := nodes_addr hA (by omega)
 have HN := Lib.hid (fun w' (h : Below w.heap.size w w') => nodes_get (hA.below h) k hk)
 have hfn := hL.nd (k : Int) (by omega) (by omega)
 have HTx := Lib.hid (fun w' (h : Below w.heap.size w w') => ttext_any _ l hL hR k hk w' (hA.below h))
 have HCo := Lib.hid (fun w' => collapse_any (textP l (k : Int)) (by have := textP_le hRt (k : Int) ⟨by omega, by omega⟩; omega) w')
 have HV1 := Lib.hid (valueP_some l (k : Int))
 have HV2 := Lib.hid (valueP_none l (k : Int))
 obtain ⟨vak, vkk, hnk⟩ := HN.out w (Below.refl _ _)
 have eg : ∀ args w, (callFunc 223 args).run Tryz.prog w = .ok (.enter 223 args) w := enters_of Tryz.func223 (by kernel_rfl) rfl
 have hI := idxfN_any 223 #[] eg nValue vak _ hfn.attrs w hnk.attrs (pred_value w)
 have hw := Lib.hid (fint_ways nValue (nd l (k : Int)).attrs)
 have HAt := Lib.hid hnk.attrs
 have c2 := hnk.c2
 have h0 : (0 : Int) ≤ (k : Int) := by omega
 have hk' : (k : Int) < (l.length : Int) := by omega
 obtain ⟨aa, ac, rfl⟩ := AttrsAt.lenN HAt.out
 generalize valueP l (k : Int) = res at *
 generalize collapseS (textP l (k : Int)) = cs at *
 generalize textP l (k : Int) = tx at *
 generalize (nd l (k : Int)).attrs = at0 at *
 generalize fint nValue at0 = fi at *
 clear hnk hRt hR hL hA hfn eg HN
 go_enter Tryz.func148, Tryz.ntmps148
 go_wp2_with fail
 refine hI.mono ?_
 rintro e w1 ⟨rfl, hb1⟩
 clear hI
 rcases hw.out with ⟨j, hj, h1, _, _, h4⟩ | ⟨h1, _, h3⟩
 ·subst h1
  rcases HAt.out with ⟨rfl, _⟩ | ⟨b2, off2, cap2, e, h02, hb2, hR2⟩
  ·exact absurd hj (Nat.not_lt_zero _)
  cases e
  have cv := cell_below hb1 (hR2 j hj).2
  have c2 := cell_below hb1 c2
  have HX : Hid (at0[j].2 = res) := Lib.hid (HV1.out _ h4).symm
  rw [HX.out] at cv
  clear h4 hR2 hw HX HV1 HV2 HTx HCo
  go_wp2_with fail
  go_ret
  exact ⟨rfl, hb1⟩
 ·subst h1
  have HX := Lib.hid (HV2.out h3)
  have htx := HTx.out w1 hb1
  clear h3 HV1 HV2 c2 hw
  go_wp2_with fail
  refine htx.mono ?_
  rintro e w2 ⟨rfl, hb2⟩
  have hco := HCo.out w2
  clear htx
  go_wp2_with fail
  refine hco.mono ?_
  rintro e w3 ⟨rfl, hb3⟩
  go_wp2_with fail
  go_ret
  exact ⟨ret_str HX.out.symm, below_trans hb1 (below_trans hb2 hb3)⟩

theorem textU_any (v : Value) (l : List Nd) (hL : LFine l) (k : Int) (w : World) (hA : NodesAt w v l) :
  Calls Tryz.prog 155 #[v, .int .i64 k] w fun e w' => e = .returned (.string ⟨(TextP l k).toArray⟩) ∧ Below w.heap.size w w' := by
 have hi := is_any v l k 32 hL w hA
 have HP : Hid (TextP l k = if isP l k 32 then valueP l k else []) := Lib.hid rfl
 cases hq : isP l k 32
 ·rw [hq] at hi HP
  have HX : Hid (TextP l k = []) := Lib.hid HP.out
  obtain ⟨oa, cap, rfl⟩ := NodesAt.lenN hA
  generalize TextP l k = r at *
  obtain rfl := HX.out
  clear hA hq HP hL HX
  go_enter Tryz.func155, Tryz.ntmps155
  go_wp2_with fail
  refine hi.mono ?_
  rintro e w1 ⟨rfl, hb1⟩
  go_wp2_with fail
  go_ret
  exact ⟨rfl, hb1⟩
 ·obtain ⟨⟨h0, h1⟩, _, h3⟩ := (isP_iff l k 32).1 hq
  rw [hq] at hi HP
  have HX : Hid (TextP l k = valueP l k) := Lib.hid HP.out
  obtain ⟨kn, rfl⟩ : ∃ kn : Nat, k = (kn : Int) := ⟨k.toNat, by omega⟩
  have HO := Lib.hid (fun w' (h : Below w.heap.size w w') => value_any v l hL h3 kn (by omega) w' (hA.below h))
  obtain ⟨oa, cap, rfl⟩ := NodesAt.lenN hA
  generalize TextP l (kn : Int) = r at *
  generalize valueP l (kn : Int) = r2 at *
  clear hA hq HP hL h3
  go_enter Tryz.func155, Tryz.ntmps155
  go_wp2_with fail
  refine hi.mono ?_
  rintro e w1 ⟨rfl, hb1⟩
  have ho := HO.out w1 hb1
  clear hi
  go_wp2_with fail
  refine ho.mono ?_
  rintro e w2 ⟨rfl, hb2⟩
  go_wp2_with fail
  go_ret
  exact ⟨ret_str HX.out.symm, below_trans hb1 hb2⟩

end Go.Proofs.YtkhlfggnjcbniaaGreatDoor.doc
