/- A part of the proofs: lemmas and contracts. -/
import Derived.Lib.OwnKind
import Derived.Test.YtkhlfggnjcbniaaGreatDoorP41
import Derived.Test.YtkhlfggnjcbniaaGreatDoorP43
set_option maxHeartbeats 12800000
set_option maxRecDepth 1000000
namespace Go.Proofs.YtkhlfggnjcbniaaGreatDoor.doc
open Go.ChangeShapes Go.WideShapes Go.ChangeAt Go.RowKit Go.Lib atr link ctl

def lackB (l : List Nd) (cs : List Ctl) (k : Int) : Bool :=
 if kN l k = 17 then (membQ l k).any (reqB l) && !(membQ l k).any (chkB cs)
 else if kN l k = 16 then hasA nRequired (nd l k).attrs && !(ct cs k).checked
 else if kN l k = 18 then hasA nRequired (nd l k).attrs && decide ((ct cs k).files = [])
 else if kN l k = 23 then hasA nRequired (nd l k).attrs && unpP l cs k
 else reqP (kN l k) && hasA nRequired (nd l k).attrs && (decide (valV l cs k = []) && !fixR l k)
def lenA (l : List Nd) (k : Int) (nm : List UInt8) : Int := lenS (lenP (kN l k)) ((fval nm (nd l k).attrs).getD [])
def flagsR (l : List Nd) (cs : List Ctl) (k : Int) (cu : Bool) : Nat :=
 sumF (lackB l cs k) (decide (valV l cs k ≠ []) && misB (kN l k) (nd l k).attrs (valV l cs k)) (decide (valV l cs k ≠ []) && oddB (kN l k) (nd l k).attrs (valV l cs k))
  ((ct cs k).dirty && (ct cs k).typed && decide (0 ≤ lenA l k nMaxlength) && decide (lenA l k nMaxlength < ((utf.unitsS (valV l cs k) : Nat) : Int)))
  ((ct cs k).dirty && (ct cs k).typed && decide (valV l cs k ≠ []) && decide (((utf.unitsS (valV l cs k) : Nat) : Int) < lenA l k nMinlength))
  (stp.flagsK (kN l k) (nd l k).attrs (valV l cs k)).1 (stp.flagsK (kN l k) (nd l k).attrs (valV l cs k)).2.1 (stp.flagsK (kN l k) (nd l k).attrs (valV l cs k)).2.2 cu
def flagsV (l : List Nd) (cs : List Ctl) (k : Int) : Nat := if subP (kN l k) then flagsR l cs k (decide ((ct cs k).custom ≠ [])) else 0
theorem flags_all (vn vc : Value) (l : List Nd) (cs : List Ctl) (k : Nat) (hk : k < l.length) (hq : docR l cs = true) (hC : CtlsOk cs) (hv : (ct cs (k : Int)).value.length ≤ 4000) (w : World) (hD : DocAt w vn vc l cs) (hG : G w) (hE : GE w) (hU : GU w) :
  Calls Tryz.prog 14 #[.agg #[vn, vc], .int .i64 k] w (RetI (flagsV l cs (k : Int)) w) := by
 obtain ⟨hlc, hR⟩ := (docR_iff l cs).1 hq
 unfold flagsV
 cases hs : subP (kN l (k : Int)) with
 | false =>
  rw [if_neg Bool.false_ne_true]
  exact (flags_no vn vc l cs (k : Int) (.inr hs) w hD).mono (fun e w' h => h)
 | true =>
  rw [if_pos rfl]
  have hsb : 1 ≤ kN l (k : Int) ∧ kN l (k : Int) ≤ 27 := by unfold subP at hs; exact of_decide_eq_true hs
  have hfn : ∀ x ∈ (ct cs (k : Int)).files, x.fname.length ≤ 140737488351232 := by
   rw [ct_get cs k (by omega)]
   exact hC _ (List.getElem_mem _)
  have hvl := valV_small hq k hk hv hfn
  have hNf := hD.fine.nd (k : Int) (by omega) (by omega)
  have haf := attrs_fine hR k hk
  have hat : ∀ nm, ((fval nm (nd l (k : Int)).attrs).getD []).length ≤ 1000000 := by
   intro nm
   cases hx : fval nm (nd l (k : Int)).attrs with
   | none => exact Nat.zero_le _
   | some s =>
    obtain ⟨x, hx, e⟩ := stp.fval_mem _ _ _ hx
    have := haf.2 x hx
    rw [e] at this
    show s.length ≤ _
    omega
  have hVH := vhas_all vn vc l cs hC k hk hq w hD
  exact flags_gen vn vc l cs k hk hq hs w hD hVH (lackB l cs (k : Int)) (misB (kN l (k : Int)) (nd l (k : Int)).attrs (valV l cs (k : Int))) (oddB (kN l (k : Int)) (nd l (k : Int)).attrs (valV l cs (k : Int))) (lenA l (k : Int) nMaxlength) (lenA l (k : Int) nMinlength) (utf.unitsS (valV l cs (k : Int)))
   _ _ _
   (fun w' hb => by
    have hD' := hD.below hb
    unfold lackB
    by_cases g17 : kN l (k : Int) = 17
    ·rw [if_pos g17]; exact lacks_radio vn vc l cs k hk hq g17 w' hD'
    rw [if_neg g17]
    by_cases g16 : kN l (k : Int) = 16
    ·rw [if_pos g16]; exact lacks_box vn vc l cs k hk hq g16 w' hD'
    rw [if_neg g16]
    by_cases g18 : kN l (k : Int) = 18
    ·rw [if_pos g18]; exact lacks_file vn vc l cs k hk hq g18 w' hD'
    rw [if_neg g18]
    by_cases g23 : kN l (k : Int) = 23
    ·rw [if_pos g23]; exact lacks_sel vn vc l cs k hk hq g23 w' hD' (hE.below hb)
    rw [if_neg g23]
    exact lacks_val vn vc l cs k hk hq ⟨g16, g17, g18, g23⟩ w' hD' (vhas_all vn vc l cs hC k hk hq w' hD'))
   (fun _ w' va vk hA hK hb => mistyped_any (nd l (k : Int)) va vk _ _ (fun g => by have := hvl.2 (by omega) (by omega); omega) hNf.attrs w' hA hK (hG.below hb) (hE.below hb) (hU.below hb))
   (fun _ w' va vk hA hK hb => odd_any (nd l (k : Int)) va vk _ _ hNf.attrs (hat nPattern) (fun g => by
    have g2 : 2 ≤ kN l (k : Int) ∧ kN l (k : Int) ≤ 7 := by unfold patP at g; exact of_decide_eq_true g
    exact hvl.2 (by omega) (by omega)) w' hA hK (hG.below hb) (hU.below hb))
   (fun _ w' va vk hA hK hb => vlength_any (nd l (k : Int)) va vk (kN l (k : Int)) nMaxlength _ (maxlength_any _) hNf.attrs (hat nMaxlength) w' hA hK (hE.below hb))
   (fun _ w' va vk hA hK hb => vlength_any (nd l (k : Int)) va vk (kN l (k : Int)) nMinlength _ (minlength_any _) hNf.attrs (hat nMinlength) w' hA hK (hE.below hb))
   (fun _ w' hb => utf.units_any _ hvl.1 w')
   (fun w' va hA hb => stp.flags_any_wide _ ⟨by omega, by omega⟩ va _ (fine_of hR k hk) _ (fun g => by have := hvl.2 (by omega) (by omega); omega) w' hA (hG.below hb) (hE.below hb))

def cuG (s : List UInt8) (c : Ctl) : Ctl := { c with custom := s }
def setCu (cs : List Ctl) (k : Nat) (s : List UInt8) : List Ctl := cs.modify k (cuG s)
section
variable (l : List Nd) (cs : List Ctl) (k : Nat) (s : List UInt8)
theorem cu_len : (setCu cs k s).length = cs.length := List.length_modify ..
theorem ct_cu (hk : k < cs.length) (x : Int) : ct (setCu cs k s) x = if x.toNat = k then cuG s (ct cs x) else ct cs x := by
 unfold ct setCu
 rw [List.getD_eq_getElem?_getD, List.getD_eq_getElem?_getD, List.getElem?_modify]
 by_cases g : x.toNat = k
 ·rw [if_pos g, g, List.getElem?_eq_getElem hk]
  simp
 ·rw [if_neg g]
  cases cs[x.toNat]? with
  | none => rfl
  | some c => simp [Ne.symm g]
theorem ct_cu_self (hk : k < cs.length) : ct (setCu cs k s) (k : Int) = cuG s (ct cs (k : Int)) := by
 rw [ct_cu cs k s hk, if_pos (Int.toNat_natCast k)]
theorem sel_cu (hk : k < cs.length) : selB (setCu cs k s) = selB cs := by
 funext x
 unfold selB
 rw [ct_cu cs k s hk]
 split <;> rfl
theorem chk_cu (hk : k < cs.length) : chkB (setCu cs k s) = chkB cs := by
 funext x
 unfold chkB
 rw [ct_cu cs k s hk]
 split <;> rfl
theorem doc_cu : docR l (setCu cs k s) = docR l cs := by
 unfold docR
 rw [cu_len]
theorem ValueP_cu (hk : k < cs.length) (x : Int) : ValueP l (setCu cs k s) x = ValueP l cs x := by
 unfold ValueP selValue firstSel
 rw [doc_cu, sel_cu cs k s hk]
theorem valV_cu (hk : k < cs.length) : valV l (setCu cs k s) (k : Int) = valV l cs (k : Int) := by
 unfold valV
 rw [ValueP_cu l cs k s hk, ct_cu_self cs k s hk]
 rfl
theorem lack_cu (hk : k < cs.length) : lackB l (setCu cs k s) (k : Int) = lackB l cs (k : Int) := by
 unfold lackB unpP
 rw [valV_cu l cs k s hk, chk_cu cs k s hk, sel_cu cs k s hk, ct_cu_self cs k s hk]
 rfl
theorem flagsR_cu (hk : k < cs.length) (cu : Bool) : flagsR l (setCu cs k s) (k : Int) cu = flagsR l cs (k : Int) cu := by
 unfold flagsR
 rw [lack_cu l cs k s hk, valV_cu l cs k s hk, ct_cu_self cs k s hk]
 rfl
theorem flagsV_cu (hk : k < cs.length) : flagsV l (setCu cs k s) (k : Int) = if subP (kN l (k : Int)) then flagsR l cs (k : Int) (decide (s ≠ [])) else 0 := by
 unfold flagsV
 rw [flagsR_cu l cs k s hk, ct_cu_self cs k s hk]
 rfl
theorem flagsR_add (cu : Bool) : flagsR l cs (k : Int) cu = flagsR l cs (k : Int) false + bitN cu 256 := by
 unfold flagsR sumF
 have : bitN false 256 = 0 := rfl
 omega
theorem flagsR_lt : flagsR l cs (k : Int) false < 256 := by
 unfold flagsR sumF
 have h (q : Bool) (n : Nat) := bitN_le q n
 have h0 : bitN false 256 = 0 := rfl
 rw [h0]
 generalize lackB l cs (k : Int) = b1
 have h1 := h b1 1
 refine Nat.lt_of_le_of_lt (m := 1 + 2 + 4 + 8 + 16 + 32 + 64 + 128 + 0) ?_ (by decide)
 exact Nat.add_le_add (Nat.add_le_add (Nat.add_le_add (Nat.add_le_add (Nat.add_le_add (Nat.add_le_add (Nat.add_le_add (Nat.add_le_add h1 (h _ _)) (h _ _)) (h _ _)) (h _ _)) (h _ _)) (h _ _)) (h _ _)) (Nat.le_refl _)
end
theorem and_256 : ∀ n : Fin 256, (bits BinOp.and IntKind.i64 (((n : Nat)) : Int) 256 == 0) = true := by decide +kernel

theorem own_setT {w : World} {B g o : Nat} {e T : TypeId} {size n : Nat} {v : Value} {xs : List Value} {c : Array Value} {fz : Nat × Nat} (h : w.ownsRow B e size v n xs) (hg : w.heap[g]? = some (.cells c T fz)) (he : e ≠ T) (u : Value) : (w.setCell ⟨g, o, none⟩ u).ownsRow B e size v n xs :=
 h.kept (grownBy_set w g o u) (.inr (fun e1 => by
  obtain ⟨c2, fz2, h2⟩ := Go.Lib.ownsRow_kind h g e1
  rw [hg] at h2
  cases h2
  exact he rfl))
theorem CpR.setC {w : World} {B g o : Nat} {v : Value} {l : List Nd} {ps : List (Value × Value)} {c : Array Value} {fz : Nat × Nat} (h : CpR w B v l ps) (hg : w.heap[g]? = some (.cells c 35 fz)) (u : Value) : CpR (w.setCell ⟨g, o, none⟩ u) B v l ps :=
 ⟨h.len, own_setT h.row hg (by decide) u, fun j a b => own_setT (h.attrs j a b) hg (by decide) u, fun j a b => own_setT (h.kids j a b) hg (by decide) u⟩
theorem own_cu {w : World} {B g cap n : Nat} {cs : List Ctl} {fs : List Value} (h : OwnC w B (.slice (some ⟨g, 0, none⟩) n cap) cs fs) (hn : n = cs.length) (k : Nat) (hk : k < cs.length) (s : List UInt8) :
  OwnC (w.setCell ⟨g, k * 10 + 8, none⟩ (.string ⟨s.toArray⟩)) B (.slice (some ⟨g, 0, none⟩) n cap) (setCu cs k s) fs := by
 unfold setCu
 rw [modify_set hk]
 exact h.set hn k hk 8 (by decide) _ (cuG s cs[k]) rfl (fun f => rfl)
theorem cu_mem {cs : List Ctl} {k : Nat} {s : List UInt8} {c : Ctl} (h : c ∈ setCu cs k s) : ∃ c0 ∈ cs, c.files = c0.files := by
 obtain ⟨i, hi, rfl⟩ := List.mem_iff_getElem.1 h
 have hi' : i < cs.length := by rwa [cu_len] at hi
 have e : (setCu cs k s)[i] = if k = i then cuG s cs[i] else cs[i] := List.getElem_modify ..
 refine ⟨cs[i], List.getElem_mem hi', ?_⟩
 rw [e]
 split <;> rfl
theorem cu_doc {w : World} {B B2 g cap : Nat} {vn : Value} {l : List Nd} {cs : List Ctl} {ps : List (Value × Value)} {fs : List Value} {k : Nat} {s : List UInt8} (hF : LFine l) (hcb : cs.length * 64 ≤ 140737488355328) (hfb : ∀ c ∈ cs, c.files.length * 72 ≤ 140737488355328)
  (hC : CpR w B vn l ps) (hO : OwnC w B2 (.slice (some ⟨g, 0, none⟩) cs.length cap) (setCu cs k s) fs) : DocAt w vn (.slice (some ⟨g, 0, none⟩) cs.length cap) l (setCu cs k s) :=
 ⟨hF, hC.nodes, hO.at, by rw [cu_len]; exact hcb, fun c hc => by
  obtain ⟨c0, h0, e⟩ := cu_mem hc
  rw [e]; exact hfb c0 h0⟩
theorem cu_ok {cs : List Ctl} {k : Nat} {s : List UInt8} (h : CtlsOk cs) : CtlsOk (setCu cs k s) := fun c hc x hx => by
 obtain ⟨c0, h0, e⟩ := cu_mem hc
 rw [e] at hx
 exact h c0 h0 x hx
theorem custom_cell {w : World} {B g cap n : Nat} {cs : List Ctl} {fs : List Value} (h : OwnC w B (.slice (some ⟨g, 0, none⟩) n cap) cs fs) (k : Nat) (hk : k < cs.length) : w.cell? ⟨g, k * 10 + 8, none⟩ = some (.string ⟨cs[k].custom.toArray⟩) :=
 h.cell k hk 8 _ (fun _ => rfl)
theorem flags_rel (l : List Nd) (cs : List Ctl) (k : Nat) (s : List UInt8) (hk : k < cs.length) :
  let a := flagsV l (setCu cs k []) (k : Int)
  let b := flagsV l (setCu (setCu cs k []) k s) (k : Int)
  a < 256 ∧ (s = [] ∨ subP (kN l (k : Int)) = false → b = a) ∧ (s ≠ [] → subP (kN l (k : Int)) = true → b = a + 256) := by
 intro a b
 have ha : a = if subP (kN l (k : Int)) then flagsR l cs (k : Int) false else 0 := by
  show flagsV l (setCu cs k []) (k : Int) = _
  rw [flagsV_cu l cs k [] hk]; rfl
 have hb : b = if subP (kN l (k : Int)) then flagsR l cs (k : Int) (decide (s ≠ [])) else 0 := by
  show flagsV l (setCu (setCu cs k []) k s) (k : Int) = _
  rw [flagsV_cu l (setCu cs k []) k s (by rw [cu_len]; exact hk), flagsR_cu l cs k [] hk]
 have hlt := flagsR_lt l cs k
 rw [ha, hb]
 cases hs : subP (kN l (k : Int)) with
 | false => exact ⟨by rw [if_neg Bool.false_ne_true]; decide, fun _ => rfl, fun _ e => by cases e⟩
 | true =>
  rw [if_pos rfl, if_pos rfl]
  refine ⟨hlt, fun h => ?_, fun h _ => ?_⟩
  ·rcases h with h | h
   ·rw [h]; rfl
   ·cases h
  ·rw [flagsR_add, decide_eq_true h]; rfl
theorem custom_walk (vn vc : Value) (l : List Nd) (cs : List Ctl) (k : Int) (_hk : (Lit.int .i64 k).wf = true) (s : List UInt8) (_hs : (⟨s.toArray⟩ : ByteArray).size ≤ maxLen) (_zs : s.length ≤ 140737488351232) (w : World) (hD : DocAt w vn vc l cs) (hLb : LBytes l) (hC : CtlsOk cs) (hG : G w) (hE : GE w) (hU : GU w) :
  Calls Tryz.prog 5 #[.agg #[vn, vc], .int .i64 k, .string ⟨s.toArray⟩] w fun e w' => e = .returned (.bool true) ∧ Below w.heap.size w w' := by
 have HCp := Lib.hid (fun w' (h : Below w.heap.size w w') => copiedX_any vn vc l cs hLb w' (hD.below h))
 have HLo := Lib.hid (fun w' (h : Below w.heap.size w w') => long_any vn vc l cs w' (hD.below h))
 have hlen := hD.fine.len
 obtain ⟨oc, cc, rfl⟩ := CtlsAt.lenN hD.ctls
 have HRi := Lib.hid (fun w' (h : Below w.heap.size w w') => by
  have := rdocright_any vn l hD.fine oc cs.length cc w' (hD.nodes.below h)
  rwa [show (decide (l.length = cs.length) && rightB l) = docR l cs from rfl] at this)
 have HHa := Lib.hid (fun w' (h : Below w.heap.size w w') => rhas_any vn l k hD.fine w' (hD.nodes.below h))
 have HD := Lib.hid hD
 have HC := Lib.hid hC
 have HGG := Lib.hid (And.intro hG (And.intro hE hU))
 obtain ⟨oa, ca, rfl⟩ := NodesAt.lenN hD.nodes
 obtain ⟨wA, hwA⟩ : ∃ wA, wA = w.alloc (.cells #[.slice oa l.length ca, .slice oc cs.length cc] 28) := ⟨_, rfl⟩
 have hBA : Below w.heap.size w wA := by rw [hwA]; exact (Below.refl _ w).alloc (Nat.le_refl _) _
 have f0 : wA.cell? ⟨w.heap.size, 0, none⟩ = some (.slice oa l.length ca) := by rw [hwA]; exact (doc_cells w _ _ _ _ _ _ _).1
 have f1 : wA.cell? ⟨w.heap.size, 1, none⟩ = some (.slice oc cs.length cc) := by rw [hwA]; exact (doc_cells w _ _ _ _ _ _ _).2
 have hW := wakes18_any wA
 obtain ⟨lo, hlo⟩ : ∃ q, q = longD l cs := ⟨_, rfl⟩
 rw [← hlo] at HLo
 have HLg := Lib.hid hlo
 obtain ⟨dr, hdr⟩ : ∃ q, q = docR l cs := ⟨_, rfl⟩
 rw [← hdr] at HRi
 have HDr := Lib.hid hdr
 obtain ⟨hs, hhs⟩ : ∃ q, q = (decide (0 ≤ k) && decide (k < (l.length : Int)) && rightB l) := ⟨_, rfl⟩
 rw [← hhs] at HHa
 have HHs := Lib.hid hhs
 clear hhs hD hC hLb hlo hdr hG hE hU
 subst hwA
 go_enter Tryz.func5, Tryz.ntmps5
 go_wp2_with fail
 refine hW.mono ?_
 rintro e w1 ⟨rfl, hb1⟩
 have hB1 := below_trans hBA hb1
 have f0 := cell_below hb1 f0
 have f1 := cell_below hb1 f1
 have h1 := HLo.out w1 hB1
 clear hW HLo hb1 hBA
 go_wp2_with fail
 refine h1.mono ?_
 rintro e w2 ⟨rfl, hb2⟩
 have hB2 := below_trans hB1 hb2
 have f0 := cell_below hb2 f0
 have f1 := cell_below hb2 f1
 clear h1 hb2 hB1
 cases lo
 case true =>
  go_wp2_with fail
  go_ret
  exact ⟨rfl, hB2⟩
 have h2 := HRi.out w2 hB2
 clear HRi
 go_wp2_with fail
 refine h2.mono ?_
 rintro e w3 ⟨rfl, hb3⟩
 have hB3 := below_trans hB2 hb3
 have f0 := cell_below hb3 f0
 have f1 := cell_below hb3 f1
 clear h2 hb3 hB2
 cases dr
 case false =>
  go_wp2_with fail
  go_ret
  exact ⟨rfl, hB3⟩
 have h3 := HHa.out w3 hB3
 clear HHa
 go_wp2_with fail
 refine h3.mono ?_
 rintro e w4 ⟨rfl, hb4⟩
 have hB4 := below_trans hB3 hb4
 have f0 := cell_below hb4 f0
 have f1 := cell_below hb4 f1
 clear h3 hb4 hB3
 cases hs
 case false =>
  go_wp2_with fail
  go_ret
  exact ⟨rfl, hB4⟩
 have hh := HHs.out
 rw [eq_comm, Bool.and_eq_true, Bool.and_eq_true, decide_eq_true_eq, decide_eq_true_eq] at hh
 obtain ⟨⟨hk0, hkl⟩, _⟩ := hh
 obtain ⟨kn, rfl⟩ : ∃ kn : Nat, k = (kn : Int) := ⟨k.toNat, by omega⟩
 have hkn : kn < l.length := by omega
 have hdq : docR l cs = true := HDr.out.symm
 have hlc := ((docR_iff l cs).1 hdq).1
 have hkc : kn < cs.length := by omega
 have hkcI : (kn : Int) < (cs.length : Int) := by omega
 have hv400 : (ct cs (kn : Int)).value.length ≤ 4000 := by
  have hl := HLg.out
  unfold longD at hl
  rw [eq_comm, Bool.or_eq_false_iff] at hl
  have := List.any_eq_false.1 hl.1 cs[kn] (List.getElem_mem hkc)
  unfold longC at this
  rw [ct_get cs kn hkc]
  have h4 : cs[kn].value.length ≤ 400 := by simpa using this
  omega
 have hrel := flags_rel l cs kn s hkc
 dsimp only at hrel
 obtain ⟨Av, hAv⟩ : ∃ a, a = flagsV l (setCu cs kn []) (kn : Int) := ⟨_, rfl⟩
 obtain ⟨Bv, hBv⟩ : ∃ b, b = flagsV l (setCu (setCu cs kn []) kn s) (kn : Int) := ⟨_, rfl⟩
 rw [← hAv, ← hBv] at hrel
 have HRel := Lib.hid hrel
 obtain ⟨nb, noff, ncap, enod, hnb⟩ := nodes_addr HD.out.nodes (by omega)
 cases enod
 have HNd := Lib.hid (fun w' (h : Below w.heap.size w w') (o : Nat) (ho : o < l.length) => nodes_get (HD.out.nodes.below h) o ho)
 have HOf := Lib.hid (fun w' va vk h1 h2 => rof_any (nd l (kn : Int)) va vk (HD.out.fine.nd _ (by omega) (by omega)) w' h1 h2)
 have HK : Hid (kindP (nd l (kn : Int)).name (nd l (kn : Int)).attrs = kN l (kn : Int)) := Lib.hid rfl
 rw [HK.out] at HOf
 have HF1 := Lib.hid (fun vn2 vc2 w' (hDx : DocAt w' vn2 vc2 l (setCu cs kn [])) (hb : Below w.heap.size w w') => (show Calls Tryz.prog 14 #[.agg #[vn2, vc2], .int .i64 (kn : Int)] w' (RetI (Av : Nat) w') by
  rw [hAv]
  exact flags_all vn2 vc2 l _ kn hkn (by rw [doc_cu]; exact hdq) (cu_ok HC.out) (by rw [ct_cu_self cs kn [] hkc]; exact hv400) w' hDx (HGG.out.1.below hb) (HGG.out.2.1.below hb) (HGG.out.2.2.below hb)))
 have HF2 := Lib.hid (fun vn2 vc2 w' (hDx : DocAt w' vn2 vc2 l (setCu (setCu cs kn []) kn s)) (hb : Below w.heap.size w w') => (show Calls Tryz.prog 14 #[.agg #[vn2, vc2], .int .i64 (kn : Int)] w' (RetI (Bv : Nat) w') by
  rw [hBv]
  exact flags_all vn2 vc2 l _ kn hkn (by rw [doc_cu, doc_cu]; exact hdq) (cu_ok (cu_ok HC.out)) (by rw [ct_cu_self _ kn s (by rw [cu_len]; exact hkc), ct_cu_self cs kn [] hkc]; exact hv400) w' hDx (HGG.out.1.below hb) (HGG.out.2.1.below hb) (HGG.out.2.2.below hb)))
 have HKc := Lib.hid hkc
 have HKn := Lib.hid hkn
 have h5 := HCp.out w4 hB4
 clear HCp hrel hAv hBv hdq hlc hv400 HHs HDr HLg
 go_wp2_with fail
 refine h5.mono ?_
 rintro e w6 ⟨vn2, vc2, rfl, ⟨BN, ps, hcp⟩, ⟨BC, fs, hoc, hBC⟩, hb6⟩
 obtain ⟨g, cap, rfl, hgB, hgl⟩ := hoc.addr (by omega)
 obtain ⟨oa2, ca2, rfl⟩ := NodesAt.lenN hcp.nodes
 have HF0 := Lib.hid (And.intro f0 f1)
 have hgW : w4.heap.size ≤ g := Nat.le_trans hBC hgB
 obtain ⟨wX, hwX⟩ : ∃ x, x = w6.alloc (.cells #[.slice oa2 l.length ca2, .slice (some ⟨g, 0, none⟩) cs.length cap] 28) := ⟨_, rfl⟩
 have hbX : Below w6.heap.size w6 wX := by rw [hwX]; exact (Below.refl _ _).alloc (Nat.le_refl _) _
 have x0 : wX.cell? ⟨w6.heap.size, 0, none⟩ = some (.slice oa2 l.length ca2) := by rw [hwX]; exact (doc_cells w6 _ _ _ _ _ _ _).1
 have x1 : wX.cell? ⟨w6.heap.size, 1, none⟩ = some (.slice (some ⟨g, 0, none⟩) cs.length cap) := by rw [hwX]; exact (doc_cells w6 _ _ _ _ _ _ _).2
 have hocX := hoc.below hbX
 have hcpX := hcp.below hbX
 have hb4X := below_trans hb6 hbX
 have c8 := custom_cell hocX kn HKc.out
 have z8 := hocX.frozen rfl (kn * 10 + 8)
 have HO := Lib.hid hocX
 have HP := Lib.hid hcpX
 have hXg : w6.heap.size ≠ g := by omega
 have hxl := lt_of_cell x0
 clear h5 hoc hcp hocX hcpX hb6 hbX hBC hgB hgl
 go_upto_region 6 with fail
 rw [← hwX]
 clear hwX
 go_cut [] (fun wx => wx = wX.setCell ⟨g, kn * 10 + 8, none⟩ (.string ⟨#[]⟩))
 case first =>
  go_wp2_with fail
  go_meet
  rfl
 case rest =>
 have hgs := grownBy_setB (World.grownBy.refl wX (some g)) (kn * 10 + 8) (.string ⟨#[]⟩)
 rw [← hcut] at hgs
 obtain ⟨cc0, fz0, hk0⟩ := Go.Lib.ownsRow_kind HO.out.row g rfl
 have HO1 : Hid (OwnC wc BC (.slice (some ⟨g, 0, none⟩) cs.length cap) (setCu cs kn []) fs) := Lib.hid (by rw [hcut]; exact own_cu HO.out rfl kn HKc.out [])
 have HP1 : Hid (CpR wc BN (.slice oa2 l.length ca2) l ps) := Lib.hid (by rw [hcut]; exact HP.out.setC hk0 _)
 have x0 := (grownBy_cell (j := 0) hgs hxl hXg).trans x0
 have x1 := (grownBy_cell (j := 1) hgs hxl hXg).trans x1
 have hb4c : Below w4.heap.size w4 wc := by rw [hcut]; exact hb4X.setCell (p := ⟨g, kn * 10 + 8, none⟩) hgW _
 have hxl := lt_of_cell x0
 clear hcut hgs hk0 HO HP hb4X c8 z8
 have hf1 := HF1.out _ _ wc (cu_doc HD.out.fine HD.out.cb HD.out.fb HP1.out HO1.out) (below_trans hB4 hb4c)
 go_wp2_with fail
 refine hf1.mono ?_
 rintro e w8 ⟨rfl, hb8⟩
 have x0 := cell_below hb8 x0
 have x1 := cell_below hb8 x1
 have HO2 := Lib.hid (HO1.out.below hb8)
 have HP2 := Lib.hid (HP1.out.below hb8)
 have hb48 := below_trans hb4c hb8
 have hxl := lt_of_cell x0
 have c8 := custom_cell HO2.out kn (by rw [cu_len]; exact HKc.out)
 have z8 := HO2.out.frozen (by rw [cu_len]) (kn * 10 + 8)
 clear hf1 HF1 HO1 HP1 hb8 hb4c
 go_upto_region 8 with fail
 go_cut [] (fun wx => wx = w8.setCell ⟨g, kn * 10 + 8, none⟩ (.string ⟨s.toArray⟩))
 case first =>
  go_wp2_with fail
  go_meet
  rfl
 case rest =>
 have hgs := grownBy_setB (World.grownBy.refl w8 (some g)) (kn * 10 + 8) (.string ⟨s.toArray⟩)
 rw [← hcut] at hgs
 obtain ⟨cc0, fz0, hk0⟩ := Go.Lib.ownsRow_kind HO2.out.row g rfl
 have HO1 : Hid (OwnC wc BC (.slice (some ⟨g, 0, none⟩) cs.length cap) (setCu (setCu cs kn []) kn s) fs) := Lib.hid (by rw [hcut]; exact own_cu HO2.out (by rw [cu_len]) kn (by rw [cu_len]; exact HKc.out) s)
 have HP1 : Hid (CpR wc BN (.slice oa2 l.length ca2) l ps) := Lib.hid (by rw [hcut]; exact HP2.out.setC hk0 _)
 have x0 := (grownBy_cell (j := 0) hgs hxl hXg).trans x0
 have x1 := (grownBy_cell (j := 1) hgs hxl hXg).trans x1
 have hb4d : Below w4.heap.size w4 wc := by rw [hcut]; exact hb48.setCell (p := ⟨g, kn * 10 + 8, none⟩) hgW _
 clear hcut hgs hk0 HO2 HP2 hb48 c8 z8
 have hD2 := cu_doc (k := kn) (s := s) (cs := setCu cs kn []) (cap := cap) HD.out.fine (by rw [cu_len]; exact HD.out.cb) (fun c hc => by
  obtain ⟨c0, h0, e⟩ := cu_mem hc
  rw [e]; exact HD.out.fb c0 h0) HP1.out (by rw [cu_len]; exact HO1.out)
 rw [cu_len] at hD2
 have hf2 := HF2.out _ _ wc hD2 (below_trans hB4 hb4d)
 clear hD2
 go_wp2_with fail
 refine hf2.mono ?_
 rintro e w10 ⟨rfl, hb10⟩
 have hb410 := below_trans hb4d hb10
 have hB10 := below_trans hB4 hb410
 have f0 := cell_below hb410 HF0.out.1
 clear hf2 HF2 HO1 HP1 hb10 hb4d x0 x1 f1
 by_cases hs0 : s = []
 ·have hemp : s.isEmpty = true := by simp [hs0]
  have hab := HRel.out.2.1 (.inl hs0)
  subst hab
  clear hs0
  go_wp2_with fail
  go_ret
  exact ⟨ret_bool (by simp), hB10⟩
 have hemp : s.isEmpty = false := by simp [hs0]
 have HS0 := Lib.hid hs0
 obtain ⟨va, vk, hn⟩ := HNd.out w10 hB10 kn HKn.out
 have hof := HOf.out w10 va vk hn.attrs hn.kids
 unfold nodeV at hof
 obtain ⟨c0, c1, c2, c3, c4, _, _, _⟩ := hn
 have hris := fun w' => ris2_any (kN l (kn : Int)) w'
 obtain ⟨sb, hsb⟩ : ∃ sb, sb = subP (kN l (kn : Int)) := ⟨_, rfl⟩
 rw [← hsb] at hris
 rw [← hsb] at HRel
 clear hs0 hsb HK
 generalize kN l (kn : Int) = kd at *
 generalize nd l (kn : Int) = n at *
 cases sb with
 | false =>
  have hab := HRel.out.2.1 (.inr rfl)
  subst hab
  go_wp2_with fail
  refine hof.mono ?_
  rintro e w11 ⟨rfl, hb11⟩
  go_wp2_with fail
  refine (hris _).mono ?_
  rintro e w12 ⟨rfl, rfl⟩
  go_wp2_with fail
  go_ret
  exact ⟨ret_bool (by simp), below_trans hB10 hb11⟩
 | true =>
  have hab := HRel.out.2.2 HS0.out rfl
  have h256 := HRel.out.1
  have hand := and_256 ⟨Av, h256⟩
  have hAI : (Av : Int) < 256 := by omega
  have hA0 : (0 : Int) ≤ (Av : Int) := by omega
  have gb : ((Bv : Int) == (Av : Int) + 256) = true := by rw [beq_iff_eq, hab]; omega
  dsimp only at hand
  clear hab HRel h256
  go_wp2_with fail
  refine hof.mono ?_
  rintro e w11 ⟨rfl, hb11⟩
  go_wp2_with fail
  refine (hris _).mono ?_
  rintro e w12 ⟨rfl, rfl⟩
  go_wp2_with fail
  go_ret
  exact ⟨rfl, below_trans hB10 hb11⟩
end Go.Proofs.YtkhlfggnjcbniaaGreatDoor.doc
