/- strconv.Atoi at every text; of digits it is their number. The contracts of option.size, Size. The contracts of the reference's Attr, Size. -/
import Derived.Test.YtoajgfhcongocaaGreatDoorGa
import Derived.Test.YtoajgfhcongocaaGreatDoorShelf
import Derived.Shelf.Strconv.AtoiAll
import Derived.Test.YtoajgfhcongocaaGreatDoorGf
import Derived.Shelf.Strings.SlTrimAscii
import Derived.Deep.CutBlock
namespace Go.Proofs.YtoajgfhcongocaaGreatDoor.num
open Go.ChangeShapes Go.WideShapes Go.ChangeAt Go.RowKit Go.Lib

theorem isDig_nat (c : UInt8) (h : isDig c = true) : 48 ≤ c.toNat ∧ c.toNat ≤ 57 := by
  have := (isDig_iff c).1 h
  omega

theorem parse_val (l : List UInt8) : ∀ n, allDig l = true → (valFrom n l < 18446744073709551616 → parseUint10 n l = .ok (valFrom n l)) ∧ (18446744073709551616 ≤ valFrom n l → n < 18446744073709551616 → parseUint10 n l = .range) := by
  induction l with
  | nil => intro n _; exact ⟨fun _ => rfl, fun h g => absurd h (by show ¬ _ ≤ n; omega)⟩
  | cons c r ih =>
    intro n hd
    rw [allDig_cons, Bool.and_eq_true] at hd
    obtain ⟨h1, h2⟩ := hd
    have hc := isDig_nat c h1
    have hg := valFrom_ge (n * 10 + dv c) r
    rw [parseUint10, if_pos hc, valFrom_cons]
    obtain ⟨i1, i2⟩ := ih (n * 10 + dv c) h2
    rw [dv_eq] at *
    constructor
    · intro h
      rw [if_neg (by omega), if_neg (by omega)]
      exact i1 h
    · intro h hn
      by_cases g1 : 1844674407370955162 ≤ n
      · rw [if_pos g1]
      · rw [if_neg g1]
        by_cases g2 : 18446744073709551616 ≤ n * 10 + (c.toNat - 48)
        · rw [if_pos g2]
        · rw [if_neg g2]
          exact i2 h (by omega)

/-- of digits: the number, if it fits an int; else none -/
theorem atoi_val (l : List UInt8) (hp : 0 < l.length) (h2 : allDig l = true) : (val l < 9223372036854775808 ∧ atoiAll l = .ok (val l : Int)) ∨ (9223372036854775808 ≤ val l ∧ ∀ v, atoiAll l ≠ .ok v) := by
  cases l with
  | nil => simp at hp
  | cons c r =>
    have hp := parse_val (c :: r) 0 h2
    have hc : 48 ≤ c.toNat ∧ c.toNat ≤ 57 := by
      rw [allDig_cons, Bool.and_eq_true] at h2
      exact isDig_nat c h2.1
    unfold val
    generalize valFrom 0 (c :: r) = n at *
    have e : atoiAll (c :: r) = match parseMag (c :: r) with
      | .ok u => if 9223372036854775808 ≤ u then .range else .ok (u : Int)
      | .range => .range
      | _ => atoiAll [] := by
      unfold atoiAll
      simp only []
      rw [if_neg (by omega)]
      have h45 : ¬ c.toNat = 45 := by omega
      simp only [h45, not_false_eq_true, true_and, false_and, if_false]
      cases parseMag (c :: r) <;> rfl
    have em : parseMag (c :: r) = parseUint10 0 (c :: r) := by unfold parseMag; rw [if_neg (by simp)]
    rw [em] at e
    by_cases g : n < 18446744073709551616
    · rw [hp.1 g] at e
      simp only [] at e
      by_cases g2 : n < 9223372036854775808
      · left; rw [if_neg (by omega)] at e; exact ⟨g2, e⟩
      · right; rw [if_pos (by omega)] at e; exact ⟨by omega, fun v h => by rw [e] at h; cases h⟩
    · right
      rw [hp.2 (by omega) (by omega)] at e
      exact ⟨by omega, fun v h => by rw [e] at h; cases h⟩

set_option maxRecDepth 100000 in
/-- strconv.Atoi: the number and no error, or some number and an error -/
theorem atoi_any (l : List UInt8) (hl : l.length ≤ 1000000000) (w : World) (hE : GE w) :
    Calls Tryz.prog 76 #[.string ⟨l.toArray⟩] w fun e w' => Below w.heap.size w w' ∧
      ((∃ v, atoiAll l = .ok v ∧ e = .returned (.tuple #[.int .i64 v, .nilIface])) ∨ ((∀ v, atoiAll l ≠ .ok v) ∧ ∃ (n : Int) (N : Nat), (-9223372036854775808 ≤ n ∧ n ≤ 9223372036854775807) ∧ e = .returned (.tuple #[.int .i64 n, .iface 118 (.pointer (some ⟨N, 0, none⟩))]))) := by
  obtain ⟨ev, hev, hev2⟩ := hE.er
  obtain ⟨es, hes, hes2⟩ := hE.es
  have hb : (⟨l.toArray⟩ : ByteArray).size ≤ 1000000000 := by rw [bsize]; omega
  cases h : atoiAll l
  · rename_i v
    refine (Tryz.strconv_Atoi_ok ⟨l.toArray⟩ (by omega) v h w).mono ?_
    rintro e w' ⟨rfl, hw⟩
    refine ⟨?_, .inl ⟨v, rfl, rfl⟩⟩
    rcases hw with rfl | ⟨t, rfl⟩
    · exact Below.refl _ _
    · exact Lib.bytesWorld_below _ _ _
  · refine (Any.strconv_Atoi_syntax Tryz.laysC172 ⟨l.toArray⟩ (by omega) h es w hes hes2).mono ?_
    rintro e w' ⟨N, rfl, _, _, hB⟩
    exact ⟨hB, .inr ⟨(fun v g => by cases g), _, N, ⟨by decide, by decide⟩, rfl⟩⟩
  · refine (Any.strconv_Atoi_range Tryz.laysC172 ⟨l.toArray⟩ (by omega) h ev w hev hev2).mono ?_
    rintro e w' ⟨N, rfl, _, _, hB⟩
    exact ⟨hB, .inr ⟨(fun v g => by cases g), _, N, Lib.atoiSat_bounds l, rfl⟩⟩
end Go.Proofs.YtoajgfhcongocaaGreatDoor.num

namespace Go.Proofs.YtoajgfhcongocaaGreatDoor.doc
open Go.ChangeShapes Go.WideShapes Go.ChangeAt Go.RowKit Go.Lib Go.Proofs.YtoajgfhcongocaaGreatDoor.atr Go.Proofs.YtoajgfhcongocaaGreatDoor.link Go.Proofs.YtoajgfhcongocaaGreatDoor.num Go.Proofs.YtoajgfhcongocaaGreatDoor.str

def digL : List UInt8 := [48, 49, 50, 51, 52, 53, 54, 55, 56, 57]
theorem digL_has (c : UInt8) : digL.contains c = isDig c := by
  have : ∀ n : Fin 256, digL.contains (UInt8.ofNat n.1) = isDig (UInt8.ofNat n.1) := by decide +kernel
  have h := this ⟨c.toNat, c.toNat_lt⟩
  simpa using h
theorem dropW_nil (p : UInt8 → Bool) (l : List UInt8) : l.dropWhile p = [] ↔ l.all p = true := by
  induction l with
  | nil => simp
  | cons c r ih =>
    rw [List.dropWhile_cons, List.all_cons]
    cases h : p c
    · simp
    · simpa using ih
def szS (s : List UInt8) : Int := if s.length ≤ 4 ∧ allDig s = true then (val s : Int) else 0
theorem size_ways (s : List UInt8) : (∃ v, atoiAll s = .ok v ∧ 0 < v ∧ s.length ≤ 4 ∧ allDig s = true ∧ szS s = v) ∨ (szS s = 0 ∧ ∀ v, atoiAll s = .ok v → ¬ (0 < v ∧ s.length ≤ 4 ∧ allDig s = true)) := by
  by_cases g : s.length ≤ 4 ∧ allDig s = true
  · have e : szS s = (val s : Int) := by unfold szS; rw [if_pos g]
    have hlt := val_lt s g.2
    have h4 : val s < 10000 := Nat.lt_of_lt_of_le hlt (by
      have : (10 : Nat) ^ s.length ≤ 10 ^ 4 := Nat.pow_le_pow_right (by decide) g.1
      exact this)
    rcases Nat.eq_zero_or_pos s.length with h0 | h0
    · have : s = [] := List.length_eq_zero_iff.1 h0
      subst this
      right
      refine ⟨by rw [e]; rfl, fun v hv => ?_⟩
      have : atoiAll [] ≠ .ok v := by
        intro h; cases h
      exact absurd hv this
    · rcases atoi_val s h0 g.2 with ⟨_, h2⟩ | ⟨h1, _⟩
      · by_cases hv : 0 < val s
        · left; exact ⟨_, h2, by omega, g.1, g.2, e⟩
        · right
          refine ⟨by rw [e]; omega, fun v h3 => ?_⟩
          rw [h2] at h3
          cases h3
          intro h; omega
      · omega
  · right
    refine ⟨by unfold szS; rw [if_neg g], fun v _ h => g h.2⟩
theorem size_is (a : List Attr) : sizeN a = szS ((fval nSize a).getD []) := rfl
theorem trim_dg (l : List UInt8) (hl : l.length ≤ 1000000000) (w : World) :
    Calls Tryz.prog 77 #[.string ⟨l.toArray⟩, .string ⟨#[48, 49, 50, 51, 52, 53, 54, 55, 56, 57]⟩] w fun e w' => e = .returned (.string ⟨(trimS l digs).toArray⟩) ∧ Below w.heap.size w w' :=
  Any.strings_Trim_laid Tryz.lays160 (by kernel_rfl) ⟨l.toArray⟩ ⟨#[48, 49, 50, 51, 52, 53, 54, 55, 56, 57]⟩ w (by rw [bsize]; omega) (by decide) (ascii_of_all (by decide))

/-- in a right document texts are short -/
theorem right_short {l : List Nd} (h : Rt l) (k : Int) (hk : inR l k) : ∀ a ∈ (nd l k).attrs, a.2.length ≤ 4000 := by
  intro a ha
  have := h.alone k hk
  unfold aloneP at this
  split at this
  · simp only [Bool.and_eq_true, List.isEmpty_iff] at this
    rw [this.1.1] at ha; cases ha
  · simp only [Bool.and_eq_true] at this
    obtain ⟨i, hi, rfl⟩ := List.getElem_of_mem ha
    have h2 := List.all_eq_true.1 this.2 i (List.mem_range.2 hi)
    unfold attrB1 at h2
    rw [atA_at _ i hi] at h2
    simp only [Bool.and_eq_true, decide_eq_true_eq] at h2
    exact h2.1.2
theorem val_short {l : List Nd} (h : Rt l) (k : Int) (hk : inR l k) (nm s : List UInt8) (he : fval nm (nd l k).attrs = some s) : s.length ≤ 4000 := by
  obtain ⟨a, ha, rfl⟩ := find_mem nm _ s he
  exact right_short h k hk a ha

set_option maxHeartbeats 3200000 in
set_option maxRecDepth 100000 in
theorem size_any (v : Value) (l : List Nd) (hL : LFine l) (hR : rightB l = true) (k : Nat) (hk : k < l.length) (w : World) (hE : GE w) (hA : NodesAt w v l) :
    Calls Tryz.prog 56 #[v, .int .i64 k] w fun e w' => e = .returned (.int .i64 (sizeP l (k : Int))) ∧ Below w.heap.size w w' := by
  have hRt := right_rt l hR
  have hf := hRt.few
  obtain ⟨b, off, cap, rfl, hb⟩ := nodes_addr hA (by omega)
  have HN := Lib.hid (fun w' (h : Below w.heap.size w w') => nodes_get (hA.below h) k hk)
  have hfn := hL.nd (k : Int) (by omega) (by omega)
  have HHas := Lib.hid (fun w' va vk h1 h2 => ohas_any (nd l (k : Int)) va vk nMultiple hfn.attrs w' h1 h2)
  have HSh := Lib.hid (fun s h => val_short hRt (k : Int) ⟨by omega, by omega⟩ nSize s h)
  have HP : Hid (sizeP l (k : Int) = if 0 < szS ((fval nSize (nd l (k : Int)).attrs).getD []) then szS ((fval nSize (nd l (k : Int)).attrs).getD []) else if hasA nMultiple (nd l (k : Int)).attrs then 4 else 1) := Lib.hid rfl
  obtain ⟨vak, vkk, hnk⟩ := HN.out w (Below.refl _ _)
  have eg : ∀ args w, (callFunc 75 args).run Tryz.prog w = .ok (.enter 75 args) w := enters_of Tryz.func75 (by kernel_rfl) rfl
  have hI := idxfN_any 75 #[] eg nSize vak _ hfn.attrs w hnk.attrs (pred_size w)
  have hw := Lib.hid (fint_ways nSize (nd l (k : Int)).attrs)
  have HAt := Lib.hid hnk.attrs
  have c2 := hnk.c2
  have h0 : (0 : Int) ≤ (k : Int) := by omega
  have hk' : (k : Int) < (l.length : Int) := by omega
  generalize sizeP l (k : Int) = res at *
  generalize hasA nMultiple (nd l (k : Int)).attrs = qm at *
  obtain ⟨aa, ac, rfl⟩ := AttrsAt.lenN HAt.out
  obtain ⟨at0, hat0⟩ : ∃ a, a = (nd l (k : Int)).attrs := ⟨_, rfl⟩
  rw [← hat0] at hw HAt c2 hI HP HSh
  obtain ⟨s, hs⟩ : ∃ s, s = (fval nSize at0).getD [] := ⟨_, rfl⟩
  rw [← hs] at HP
  have HS0 := Lib.hid hs
  clear hnk hRt hR hL hA hfn eg hat0 hs
  generalize fint nSize at0 = fi at *
  go_enter Tryz.func56, Tryz.ntmps56
  go_wp2_with fail
  refine hI.mono ?_
  rintro e w1 ⟨rfl, hb1⟩
  clear hI
  have c2 := cell_below hb1 c2
  have HE1 := Lib.hid (hE.below hb1)
  go_upto_if 16 with fail
  go_cut [] (fun wx => Hid (¬ 0 < szS s) ∧ Below w.heap.size w wx)
  case first =>
    rcases hw.out with ⟨j, hj, h1, _, _, h4⟩ | ⟨h1, _, h3⟩
    · subst h1
      rcases HAt.out with ⟨rfl, _⟩ | ⟨b2, off2, cap2, e, h02, hb2, hR2⟩
      · exact absurd hj (Nat.not_lt_zero _)
      cases e
      have cv := cell_below hb1 (hR2 j hj).2
      have hsl := HSh.out _ h4
      have HS : Hid (at0[j].2 = s) := Lib.hid (by rw [HS0.out, h4]; rfl)
      rw [HS.out] at cv hsl
      clear h4 hR2 HSh hw HS HS0
      have hat := atoi_any s (by omega) w1 HE1.out
      have htr := fun w => trim_dg s (by omega) w
      have hsw := Lib.hid (size_ways s)
      have htd := Lib.hid (trim_digs s)
      generalize trimS s digs = x at *
      go_wp2_with fail
      refine hat.mono ?_
      rintro e w2 ⟨hb2', ⟨n, hok, rfl⟩ | ⟨hno, n, N, _, rfl⟩⟩
      · have hb12 := below_trans hb1 hb2'
        clear hat
        by_cases g1 : 0 < n
        case neg =>
          have HX : Hid (¬ 0 < szS s) := Lib.hid (by
            rcases hsw.out with ⟨v, h1, h2, _⟩ | ⟨h1, _⟩
            · rw [hok] at h1; cases h1; exact absurd h2 g1
            · rw [h1]; decide)
          clear hok
          go_wp2_with fail
          go_meet
          exact ⟨HX, hb12⟩
        by_cases g2 : (s.length : Int) ≤ 4
        case neg =>
          have HX : Hid (¬ 0 < szS s) := Lib.hid (by
            rcases hsw.out with ⟨v, h1, _, h3, _⟩ | ⟨h1, _⟩
            · omega
            · rw [h1]; decide)
          clear hok
          go_wp2_with fail
          go_meet
          exact ⟨HX, hb12⟩
        have HOK := Lib.hid hok
        clear hok
        cases x with
        | nil =>
          have HX : Hid (res = n) := Lib.hid (by
            have had := htd.out.1 rfl
            rcases hsw.out with ⟨v, h1, h2, _, _, h5⟩ | ⟨_, h2⟩
            · rw [HOK.out] at h1
              cases h1
              rw [HP.out, h5, if_pos h2]
            · exact absurd ⟨g1, by omega, had⟩ (h2 n HOK.out))
          go_wp2_with fail
          refine (htr _).mono ?_
          rintro e w3 ⟨rfl, hb3⟩
          go_wp2_with fail
          go_ret
          exact ⟨ret_int HX.out.symm, below_trans hb12 hb3⟩
        | cons x1 x2 =>
          have HX : Hid (¬ 0 < szS s) := Lib.hid (by
            rcases hsw.out with ⟨v, _, _, _, h4, _⟩ | ⟨h1, _⟩
            · have := htd.out.2 h4
              cases this
            · rw [h1]; decide)
          go_wp2_with fail
          refine (htr _).mono ?_
          rintro e w3 ⟨rfl, hb3⟩
          go_wp2_with fail
          go_meet
          exact ⟨HX, below_trans hb12 hb3⟩
      · have hb12 := below_trans hb1 hb2'
        have HX : Hid (¬ 0 < szS s) := Lib.hid (by
          rcases hsw.out with ⟨v, h1, _⟩ | ⟨h1, _⟩
          · exact absurd h1 (hno v)
          · rw [h1]; decide)
        clear hno hat
        go_wp2_with fail
        go_meet
        exact ⟨HX, hb12⟩
    · subst h1
      have HX : Hid (¬ 0 < szS s) := Lib.hid (by rw [HS0.out, h3]; decide)
      clear h3
      go_wp2_with fail
      go_meet
      exact ⟨HX, hb1⟩
  case rest =>
  obtain ⟨HX, hbc⟩ := hcut
  obtain ⟨va2, vk2, hn2⟩ := HN.out wc hbc
  have hhm := HHas.out wc va2 vk2 hn2.attrs hn2.kids
  unfold nodeV at hhm
  obtain ⟨c0, c1, c2', c3, c4, _, _, _⟩ := hn2
  generalize nd l (k : Int) = n at *
  have HY : Hid (res = if qm then 4 else 1) := Lib.hid (by rw [HP.out, if_neg HX.out])
  clear HP HX c2
  cases qm
  · go_wp2_with fail
    refine hhm.mono ?_
    rintro e w3 ⟨rfl, hb3⟩
    go_wp2_with fail
    go_ret
    exact ⟨ret_int (by rw [HY.out]; rfl), below_trans hbc hb3⟩
  · go_wp2_with fail
    refine hhm.mono ?_
    rintro e w3 ⟨rfl, hb3⟩
    go_wp2_with fail
    go_ret
    exact ⟨ret_int (by rw [HY.out]; rfl), below_trans hbc hb3⟩

set_option maxHeartbeats 1600000 in
set_option maxRecDepth 100000 in
theorem sizeU_any (v : Value) (l : List Nd) (hL : LFine l) (k : Int) (w : World) (hE : GE w) (hA : NodesAt w v l) :
    Calls Tryz.prog 30 #[v, .int .i64 k] w fun e w' => e = .returned (.int .i64 (SizeP l k)) ∧ Below w.heap.size w w' := by
  have hi := is_any v l k 23 hL w hA
  have HP : Hid (SizeP l k = if isP l k 23 then sizeP l k else 0) := Lib.hid rfl
  cases hq : isP l k 23
  · rw [hq] at hi HP
    have HX : Hid (SizeP l k = 0) := Lib.hid HP.out
    obtain ⟨oa, cap, rfl⟩ := NodesAt.lenN hA
    generalize SizeP l k = r at *
    clear hA hq HP hL
    go_enter Tryz.func30, Tryz.ntmps30
    go_wp2_with fail
    refine hi.mono ?_
    rintro e w1 ⟨rfl, hb1⟩
    go_wp2_with fail
    go_ret
    exact ⟨ret_int HX.out.symm, hb1⟩
  · obtain ⟨⟨h0, h1⟩, _, h3⟩ := (isP_iff l k 23).1 hq
    rw [hq] at hi HP
    have HX : Hid (SizeP l k = sizeP l k) := Lib.hid HP.out
    obtain ⟨kn, rfl⟩ : ∃ kn : Nat, k = (kn : Int) := ⟨k.toNat, by omega⟩
    have HO := Lib.hid (fun w' (h : Below w.heap.size w w') => size_any v l hL h3 kn (by omega) w' (hE.below h) (hA.below h))
    obtain ⟨oa, cap, rfl⟩ := NodesAt.lenN hA
    generalize SizeP l (kn : Int) = r at *
    generalize sizeP l (kn : Int) = r2 at *
    clear hA hq HP hL h3 hE
    go_enter Tryz.func30, Tryz.ntmps30
    go_wp2_with fail
    refine hi.mono ?_
    rintro e w1 ⟨rfl, hb1⟩
    have ho := HO.out w1 hb1
    clear hi
    go_wp2_with fail
    refine ho.mono ?_
    rintro e w2 ⟨rfl, hb2⟩
    go_wp2_with fail
    go_ret
    exact ⟨ret_int HX.out.symm, below_trans hb1 hb2⟩
end Go.Proofs.YtoajgfhcongocaaGreatDoor.doc

namespace Go.Proofs.YtoajgfhcongocaaGreatDoor.doc
open Go.ChangeShapes Go.WideShapes Go.ChangeAt Go.RowKit Go.Lib Go.Proofs.YtoajgfhcongocaaGreatDoor.atr Go.Proofs.YtoajgfhcongocaaGreatDoor.link Go.Proofs.YtoajgfhcongocaaGreatDoor.num

set_option maxHeartbeats 1600000 in
set_option maxRecDepth 100000 in
theorem rattrN_any (v : Value) (l : List Attr) (nm : List UInt8) (hl : l.length ≤ 140737488355328) (w : World) (hA : AttrsAt w v l) :
    Calls Tryz.prog 53 #[v, .string ⟨nm.toArray⟩] w fun e w' => e = .returned (.tuple #[.string ⟨(attrS nm l).toArray⟩, .bool (attrB nm l)]) ∧ w = w' := by
  have hf := rfindN_any v l nm hl w hA
  have hw := fint_ways nm l
  have hS : attrS nm l = (fval nm l).getD [] := rfl
  have hB : attrB nm l = (fval nm l).isSome := rfl
  rcases hw with ⟨k, hk', h1, _, _, h4⟩ | ⟨h1, _, h3⟩
  · rw [h1] at hf
    rw [hS, hB, h4]
    dsimp only [Option.getD, Option.isSome]
    rcases hA with ⟨rfl, _⟩ | ⟨b, off, cap, rfl, h0, hb, hR⟩
    · exact absurd hk' (Nat.not_lt_zero _)
    · obtain ⟨_, c2⟩ := hR k hk'
      generalize l[k].2 = y at *
      clear h1 h4 hB hR hS
      go_enter Tryz.func53, Tryz.ntmps53
      go_wp2_with fail
      refine hf.mono ?_
      rintro e w' ⟨rfl, rfl⟩
      clear hf
      go_wp2_with fail
      go_ret2
      exact ⟨rfl, rfl⟩
  · rw [h1] at hf
    rw [hS, hB, h3]
    dsimp only [Option.getD, Option.isSome]
    clear h1 h3 hB hA hl hS
    go_enter Tryz.func53, Tryz.ntmps53
    go_wp2_with fail
    refine hf.mono ?_
    rintro e w' ⟨rfl, rfl⟩
    clear hf
    go_wp2_with fail
    go_ret2
    exact ⟨rfl, rfl⟩


theorem szS_no (s : List UInt8) (h : ¬ (s.length ≤ 4 ∧ allDig s = true)) : szS s = 0 := by unfold szS; rw [if_neg h]
theorem szS_yes (s : List UInt8) (h : s.length ≤ 4) (g : allDig s = true) : szS s = (val s : Int) := by unfold szS; rw [if_pos ⟨h, g⟩]
theorem szS_nil : szS [] = 0 := rfl
theorem dig_take (s : List UInt8) (k : Nat) (c : UInt8) (r : List UInt8) (h : s.drop k = c :: r) (g : isDig c = true) (ha : allDig (s.take k) = true) : allDig (s.take (k + 1)) = true ∧ val (s.take (k + 1)) = 10 * val (s.take k) + (c.toNat - 48) := by
  have hk : k < s.length := by
    apply Nat.lt_of_not_le; intro g
    rw [List.drop_eq_nil_of_le g] at h; cases h
  have e : s[k] = c := by
    have := List.drop_eq_getElem_cons hk
    rw [h] at this
    exact (List.cons.inj this).1.symm
  rw [List.take_succ_eq_append_getElem hk, e]
  constructor
  · unfold allDig at *
    rw [List.all_append, ha]; simp [g]
  · unfold val
    rw [valFrom_append, valFrom_cons, dv_eq]
    show valFrom 0 (s.take k) * 10 + _ = _
    omega
theorem dig_bad (s : List UInt8) (k : Nat) (c : UInt8) (r : List UInt8) (h : s.drop k = c :: r) (g : isDig c = false) : allDig s = false := by
  unfold allDig
  rw [← List.take_append_drop k s, List.all_append, h, List.all_cons, g]; simp
theorem val_take_le (s : List UInt8) (k : Nat) (h : s.length ≤ 4) (ha : allDig (s.take k) = true) : val (s.take k) < 10000 := by
  have h1 := val_lt _ ha
  have h2 : (s.take k).length ≤ 4 := by rw [List.length_take]; omega
  exact Nat.lt_of_lt_of_le h1 (Nat.pow_le_pow_right (by decide) h2)

set_option maxHeartbeats 3200000 in
set_option maxRecDepth 100000 in
theorem rsize_any (v : Value) (l : List Nd) (hL : LFine l) (k : Int) (w : World) (hA : NodesAt w v l) :
    Calls Tryz.prog 22 #[v, .int .i64 k] w fun e w' => e = .returned (.int .i64 (SizeP l k)) ∧ Below w.heap.size w w' := by
  have hi := ris_any v l k 23 hL w hA
  have HP : Hid (SizeP l k = if isP l k 23 then sizeP l k else 0) := Lib.hid rfl
  cases hq : isP l k 23
  · rw [hq] at hi HP
    have HX : Hid (SizeP l k = 0) := Lib.hid HP.out
    obtain ⟨oa, cap, rfl⟩ := NodesAt.lenN hA
    generalize SizeP l k = r at *
    clear hA hq HP hL
    go_enter Tryz.func22, Tryz.ntmps22
    go_wp2_with fail
    refine hi.mono ?_
    rintro e w1 ⟨rfl, hb1⟩
    go_wp2_with fail
    go_ret
    exact ⟨ret_int HX.out.symm, hb1⟩
  obtain ⟨⟨h0, h1⟩, _, hR⟩ := (isP_iff l k 23).1 hq
  rw [hq] at hi HP
  obtain ⟨kn, rfl⟩ : ∃ kn : Nat, k = (kn : Int) := ⟨k.toNat, by omega⟩
  have hk : kn < l.length := by omega
  have hRt := right_rt l hR
  have hf := hRt.few
  obtain ⟨b, off, cap, rfl, hb⟩ := nodes_addr hA (by omega)
  have HN := Lib.hid (fun w' (h : Below w.heap.size w w') => nodes_get (hA.below h) kn hk)
  have hfn := hL.nd (kn : Int) (by omega) (by omega)
  have HHas := Lib.hid (fun w' va vk h1 h2 => rhas15_any (nd l (kn : Int)) va vk nMultiple hfn.attrs w' h1 h2)
  have HSh := Lib.hid (fun s h => val_short hRt (kn : Int) ⟨by omega, by omega⟩ nSize s h)
  have HP2 : Hid (SizeP l (kn : Int) = if 0 < szS ((fval nSize (nd l (kn : Int)).attrs).getD []) then szS ((fval nSize (nd l (kn : Int)).attrs).getD []) else if hasA nMultiple (nd l (kn : Int)).attrs then 4 else 1) := Lib.hid HP.out
  have HAttr := Lib.hid (fun w' va h => rattrN_any va (nd l (kn : Int)).attrs nSize hfn.attrs w' h)
  generalize SizeP l (kn : Int) = res at *
  generalize hasA nMultiple (nd l (kn : Int)).attrs = qm at *
  have HS : Hid ((fval nSize (nd l (kn : Int)).attrs).getD [] = attrS nSize (nd l (kn : Int)).attrs) := Lib.hid rfl
  rw [HS.out] at HP2
  have hsl : (attrS nSize (nd l (kn : Int)).attrs).length ≤ 4000 := by
    unfold attrS
    cases h : fval nSize (nd l (kn : Int)).attrs with
    | none => simp
    | some s => exact HSh.out s h
  generalize attrS nSize (nd l (kn : Int)).attrs = s at *
  generalize attrB nSize (nd l (kn : Int)).attrs = sb at *
  clear HP HS HSh hRt hR hL hA hfn hq
  go_enter Tryz.func22, Tryz.ntmps22
  go_wp2_with fail
  refine hi.mono ?_
  rintro e w1 ⟨rfl, hb1⟩
  clear hi
  obtain ⟨va, vk, hn⟩ := HN.out w1 hb1
  have hat := HAttr.out w1 va hn.attrs
  have c2 := hn.c2
  have HNn := Lib.hid hn
  clear hn HAttr
  go_wp2_with fail
  refine hat.mono ?_
  rintro e w2 ⟨rfl, rfl⟩
  clear hat c2
  go_upto_block 0 with fail
  go_cut [7] (fun s7 wx => s7 = .int .i64 (szS s) ∧ wx = w1)
  case first =>
    go_wp2_with fail
    go_loopw [7, 8] (fun s7 s8 wr => ∃ i n : Nat, s8 = .int .i64 i ∧ s7 = .int .i64 n ∧ i ≤ s.length ∧ (s.length ≤ 4 ∨ i = 0) ∧ n < 10000 ∧ Hid (allDig (s.take i) = true ∧ n = val (s.take i)) ∧ wr = w1) (fun _ s8 _ => s.length - (RowKit.intOf s8).toNat)
    case atStart => exact ⟨0, 0, rfl, rfl, by omega, .inr rfl, by omega, Lib.hid ⟨rfl, rfl⟩, rfl⟩
    case round =>
      obtain ⟨i, n, rfl, rfl, hil, h4, hn4, hd, rfl⟩ := hrel
      by_cases hlt : i < s.length
      · obtain ⟨c, rest, hd1, hd2, hidx⟩ := Go.Proofs.YtoajgfhcongocaaGreatDoor.link.byte_at s i hlt
        have HDt := Lib.hid (dig_take s i c rest hd1)
        have HDb := Lib.hid (dig_bad s i c rest hd1)
        have hdi := isDig_iff c
        have hlt8 := c.toNat_lt
        clear hd1 hd2
        have bad : allDig s = false → Hid (szS s = 0) := fun h => Lib.hid (szS_no s (fun g => by rw [h] at g; cases g.2))
        by_cases g1 : (c.toNat : Int) < 48
        · have HX := bad (HDb.out (by rw [← Bool.not_eq_true, hdi]; omega))
          clear bad hdi
          go_wp2_with fail
          go_meet
          exact ⟨by rw [HX.out], rfl⟩
        by_cases g2 : (57 : Int) < (c.toNat : Int)
        · have HX := bad (HDb.out (by rw [← Bool.not_eq_true, hdi]; omega))
          clear bad hdi
          go_wp2_with fail
          go_meet
          exact ⟨by rw [HX.out], rfl⟩
        clear bad
        by_cases g3 : (4 : Int) < (s.length : Int)
        · have HX : Hid (szS s = 0) := Lib.hid (szS_no s (fun g => by omega))
          clear hdi
          go_wp2_with fail
          go_meet
          exact ⟨by rw [HX.out], rfl⟩
        have hcd : isDig c = true := hdi.2 (by omega)
        obtain ⟨e1, e2⟩ := HDt.out hcd hd.out.1
        rw [← hd.out.2] at e2
        have HV := Lib.hid (And.intro e1 e2)
        have hvl := val_take_le s (i + 1) (by omega) e1
        rw [e2] at hvl
        have hsub : (c.toNat : Int) - 48 = ((c.toNat - 48 : Nat) : Int) := by omega
        clear hdi e1 e2 hcd hd
        go_wp2_with fail
        go_roundw
        case rel => exact ⟨i + 1, 10 * n + (c.toNat - 48), by go_num, by first | (go_num; done) | (congr 1; omega), by omega, .inl (by omega), by omega, Lib.hid ⟨HV.out.1, HV.out.2.symm⟩, by first | rfl | trivial⟩
        case measure => simp [RowKit.intOf]; omega
      · obtain rfl : i = s.length := by omega
        have HX : Hid (szS s = (n : Int)) := Lib.hid (by
          have h1 := hd.out.1
          have h2 := hd.out.2
          rw [List.take_length] at h1 h2
          rcases h4 with h4 | h4
          · rw [szS_yes s h4 h1, h2]
          · have : s = [] := List.length_eq_zero_iff.1 h4
            subst this
            rw [h2]; rfl)
        go_wp2_with fail
        go_meet
        exact ⟨by rw [HX.out], rfl⟩
  case rest =>
  obtain ⟨rfl, rfl⟩ := hcut
  obtain ⟨c0, c1, c2, c3, c4, hat2, hks2, _⟩ := HNn.out
  have hhm := HHas.out wc va vk hat2 hks2
  unfold nodeV at hhm
  clear hat2 hks2 HHas HNn
  generalize nd l (kn : Int) = n at *
  by_cases gs : 0 < szS s
  · have HX : Hid (res = szS s) := Lib.hid (by rw [HP2.out, if_pos gs])
    generalize szS s = z at *
    clear HP2
    go_wp2_with fail
    go_ret
    exact ⟨ret_int HX.out.symm, hb1⟩
  · have HX : Hid (res = if qm then 4 else 1) := Lib.hid (by rw [HP2.out, if_neg gs])
    generalize szS s = z at *
    clear HP2
    cases qm
    · go_wp2_with fail
      refine hhm.mono ?_
      rintro e w3 ⟨rfl, hb3⟩
      go_wp2_with fail
      go_ret
      exact ⟨ret_int (by rw [HX.out]; rfl), below_trans hb1 hb3⟩
    · go_wp2_with fail
      refine hhm.mono ?_
      rintro e w3 ⟨rfl, hb3⟩
      go_wp2_with fail
      go_ret
      exact ⟨ret_int (by rw [HX.out]; rfl), below_trans hb1 hb3⟩
end Go.Proofs.YtoajgfhcongocaaGreatDoor.doc
