/- The contract of option.List. The contract of the reference's List. The contracts of Right, the reference's Right. -/
import Derived.BigQuiet
import Derived.ChangeAlike
import Derived.Deep.AppendLies
import Derived.Deep.CutBlock
import Derived.Deep.DeepCutAuto
import Derived.Deep.MidRow
import Derived.Deep.RegionHeld
import Derived.Deep.RegionHeld3
import Derived.Deep.RegionLaw
import Derived.Deep.RegionLawGrows
import Derived.Deep.SlicePairs
import Derived.Deep.Slices
import Derived.Ground.MpProg
import Derived.Laws.BytesArg
import Derived.Laws.IdiomStrings
import Derived.Laws.OwnMore
import Derived.Lib.AppendStr
import Derived.Lib.Hide
import Derived.Lib.IndexBytes
import Derived.Lib.IndexMore
import Derived.Lib.ItoaMem
import Derived.Lib.ItoaNum
import Derived.Lib.Replace
import Derived.Lib.SlTrimSet
import Derived.Lib.Strings
import Derived.LoopIn
import Derived.LoopNIn
import Derived.Maps.AppendAt
import Derived.OpenShut
import Derived.OwnWalkIn
import Derived.ProofKit
import Derived.RangeFuncBound
import Derived.RangeFuncBox
import Derived.RangeFuncCalls
import Derived.RangeFuncLeaves
import Derived.RangeFuncNested
import Derived.RegionTactic
import Derived.Shelf.Abstract
import Derived.Shelf.RegionOpen
import Derived.Shelf.SlicesQ.IndexFunc
import Derived.Shelf.Strconv.AtoiAll
import Derived.Shelf.Strings.BuilderK
import Derived.Shelf.Strings.SlTrimAscii
import Derived.TacticsInMore
import Derived.WalkKit
import Derived.WalkSmall
import Derived.WalkSpells
import Derived.WideKeyArgs
import Derived.Test.YtkhlfggnjcbniaaGreatDoorRows
import Derived.Test.YtkhlfggnjcbniaaGreatDoorShelf
import Derived.Test.YtkhlfggnjcbniaaGreatDoorP0
import Derived.Test.YtkhlfggnjcbniaaGreatDoorP1
import Derived.Test.YtkhlfggnjcbniaaGreatDoorP2
import Derived.Test.YtkhlfggnjcbniaaGreatDoorP3
import Derived.Test.YtkhlfggnjcbniaaGreatDoorP5
import Derived.Test.YtkhlfggnjcbniaaGreatDoorP6
import Derived.Test.YtkhlfggnjcbniaaGreatDoorP7
import Derived.Test.YtkhlfggnjcbniaaGreatDoorP8
import Derived.Test.YtkhlfggnjcbniaaGreatDoorP9
import Derived.Test.YtkhlfggnjcbniaaGreatDoorP10
import Derived.Test.YtkhlfggnjcbniaaGreatDoorP11
import Derived.Test.YtkhlfggnjcbniaaGreatDoorP12
import Derived.Test.YtkhlfggnjcbniaaGreatDoorP13
import Derived.Test.YtkhlfggnjcbniaaGreatDoorP14
import Derived.Test.YtkhlfggnjcbniaaGreatDoorP19
import Derived.Test.YtkhlfggnjcbniaaGreatDoorP20
import Derived.Test.YtkhlfggnjcbniaaGreatDoorP21
import Derived.Test.YtkhlfggnjcbniaaGreatDoorP22
import Derived.Test.YtkhlfggnjcbniaaGreatDoorP23
import Derived.Test.YtkhlfggnjcbniaaGreatDoorP24
import Derived.Test.YtkhlfggnjcbniaaGreatDoorP25
namespace Go.Proofs.YtkhlfggnjcbniaaGreatDoor.doc
open Go.ChangeShapes Go.WideShapes Go.ChangeAt Go.RowKit Go.Lib Go.Shelf Go.Proofs.YtkhlfggnjcbniaaGreatDoor.atr Go.Proofs.YtkhlfggnjcbniaaGreatDoor.link
attribute [local go_sem] Oper.semAt_some

theorem opts_stops (l : List Nd) (hL : LFine l) (hR : rightB l = true) (sel : Nat) (hs : sel < l.length) (v : Value) (w0 : World) (hA : NodesAt w0 v l) (n : Nat) (hn1 : 1 ≤ n) (Bl Bs : Nat) (w : World) (hb : Below w0.heap.size w0 w)
    (_hBl : Bl < w.heap.size) (_hBs : Bs < w.heap.size) (hcl : w.cell? ⟨Bl, 0, none⟩ = some v) (hcs : w.cell? ⟨Bs, 0, none⟩ = some (.int .i64 (sel : Int))) :
    SeqStopsK Fence.wide n Tryz.prog 222 #[.pointer (some ⟨Bl, 0, none⟩), .pointer (some ⟨Bs, 0, none⟩)] (fun x : Opt l (sel : Int) => #[Value.int .i64 x.1]) (Kp w0.heap.size Bl Bs) (fun xs => vals xs = optsP l (sel : Int)) (fun pre => vals pre <+: optsP l (sel : Int)) (optsP l (sel : Int)).length w :=
  fun lp J Jx W hW hJ _ hY h0 => iter_in l hL hR sel hs v w0 hA n hn1 Bl Bs lp J Jx W (hb.trans (hW.mono hb.size)) (cell_below hW hcl) (cell_below hW hcs) hJ hY h0

theorem opts_le (l : List Nd) (hR : rightB l = true) (sel : Int) (hs : inR l sel) : (optsP l sel).length ≤ 400 := by
  have hRt := right_rt l hR
  have := seen_le l _ (opts_nodup hRt sel hs) (fun x hx => (opts_mem hRt sel hs x hx).1)
  have := hRt.few
  omega
end Go.Proofs.YtkhlfggnjcbniaaGreatDoor.doc
namespace Go.Proofs.YtkhlfggnjcbniaaGreatDoor.doc
open Go.ChangeShapes Go.WideShapes Go.ChangeAt Go.RowKit Go.Lib Go.Proofs.YtkhlfggnjcbniaaGreatDoor.atr Go.Proofs.YtkhlfggnjcbniaaGreatDoor.link

theorem filt_yes (p : Int → Bool) (is : List Int) (j : Nat) (h : j < is.length) (hp : p is[j] = true) : (is.take (j + 1)).filter p = (is.take j).filter p ++ [is[j]] := by rw [filt_take p is j h, if_pos hp]
theorem filt_no (p : Int → Bool) (is : List Int) (j : Nat) (h : j < is.length) (hp : ¬ p is[j] = true) : (is.take (j + 1)).filter p = (is.take j).filter p := by rw [filt_take p is j h, if_neg hp, List.append_nil]
theorem ofP_iff (l : List Nd) (sel x : Int) : ofP l sel x = true ↔ (nd l x).name = nOption ∧ ownerP l x = sel := by
  unfold ofP
  rw [Bool.and_eq_true, decide_eq_true_iff, decide_eq_true_iff]
theorem filt_len (p : Int → Bool) (is : List Int) (j : Nat) : ((is.take j).filter p).length ≤ is.length := Nat.le_trans (List.length_filter_le _ _) (by rw [List.length_take]; omega)

set_option maxHeartbeats 6400000 in
set_option maxRecDepth 100000 in
theorem rlist_any (v : Value) (l : List Nd) (hL : LFine l) (k : Int) (w : World) (hA : NodesAt w v l) :
    Calls Tryz.prog 104 #[v, .int .i64 k] w fun e w' => ∃ v', e = .returned v' ∧ OwnI w' w.heap.size v' (listP l k) ∧ Below w.heap.size w w' := by
  have hi := ris_any v l k 23 hL w hA
  have HP : Hid (listP l k = if isP l k 23 then optsP l k else []) := Lib.hid rfl
  cases hq : isP l k 23
  · rw [hq] at hi HP
    have HX : Hid (listP l k = []) := Lib.hid HP.out
    obtain ⟨oa, cap, rfl⟩ := NodesAt.lenN hA
    generalize listP l k = r at *
    obtain rfl := HX.out
    clear hA hq HP hL HX
    go_enter Tryz.func104, Tryz.ntmps104
    go_wp2_with fail
    refine hi.mono ?_
    rintro e w1 ⟨rfl, hb1⟩
    go_wp2_with fail
    go_ret
    exact ⟨_, rfl, OwnI.nil _ _, hb1⟩
  · obtain ⟨⟨h0, h1⟩, h23, hR⟩ := (isP_iff l k 23).1 hq
    rw [hq] at hi HP
    obtain ⟨sel, rfl⟩ : ∃ sel : Nat, k = (sel : Int) := ⟨k.toNat, by omega⟩
    have hs : sel < l.length := by omega
    have hRt := right_rt l hR
    have hin : inR l (sel : Int) := ⟨h0, h1⟩
    have HX : Hid (listP l (sel : Int) = (ordP l (sel : Int)).filter (ofP l (sel : Int))) := Lib.hid (by rw [ord_opts hRt (sel : Int) hin ((kN_select l (sel : Int)).1 h23)]; exact HP.out)
    have hord := fun w' h => rorder_any v l hR sel hs w' (hA.below (w' := w') h)
    have HOw := Lib.hid (fun w' (h : Below w.heap.size w w') j hj => rowner_any v l hR j hj w' (hA.below h))
    obtain ⟨b, off, cap, rfl, hb⟩ := nodes_addr hA (by omega)
    have HN := Lib.hid (fun w' (h : Below w.heap.size w w') j hj => nodes_get (hA.below h) j hj)
    have HIn := Lib.hid (fun x hx => (ord_in hRt (sel : Int) hin x hx).1)
    have hosl := ord_le hRt (sel : Int) hin
    have hf := hRt.few
    have HF1 := Lib.hid (fun j h hp => filt_yes (ofP l (sel : Int)) (ordP l (sel : Int)) j h hp)
    have HF2 := Lib.hid (fun j h hp => filt_no (ofP l (sel : Int)) (ordP l (sel : Int)) j h hp)
    have HFl := Lib.hid (fun j => filt_len (ofP l (sel : Int)) (ordP l (sel : Int)) j)
    have HFi := Lib.hid (fun x => ofP_iff l (sel : Int) x)
    obtain ⟨i0, hi0, hz0, hz1, hz2⟩ := info_parts infoI
    rw [HX.out]
    generalize ordP l (sel : Int) = os at *
    clear hA hq HP hL HX hR hRt
    go_enter Tryz.func104, Tryz.ntmps104
    go_wp2_with fail
    refine hi.mono ?_
    rintro e w1 ⟨rfl, hb1⟩
    have ho := hord w1 hb1
    clear hi hord
    go_wp2_with fail
    refine ho.mono ?_
    rintro e w2 ⟨v6, rfl, hown, hb2⟩
    clear ho
    have hos := hown.ints
    obtain ⟨sa, sc, rfl⟩ := RowAt.lenN hos
    clear hown
    have hb12 := below_trans hb1 hb2
    go_wp2_with fail
    go_loopw [5, 7] (fun s5 s7 wr => ∃ m : Nat, s7 = .int .i64 m ∧ m ≤ os.length ∧ OwnI wr w2.heap.size s5 ((os.take m).filter (ofP l (sel : Int))) ∧ Below w2.heap.size w2 wr) (fun _ s7 _ => os.length - (RowKit.intOf s7).toNat)
    case atStart => exact ⟨0, rfl, Nat.zero_le _, OwnI.nil _ _, Below.refl _ _⟩
    case round =>
      obtain ⟨m, rfl, hm, ho, hbw⟩ := hrel
      have hwz := hbw.size
      have hww := below_trans hb12 hbw
      by_cases hlt : m < os.length
      case neg =>
        obtain rfl : m = os.length := by omega
        rw [List.take_length] at ho
        obtain ⟨ra, rc, rfl⟩ := RowAt.lenN ho.ints
        go_wp2_with fail
        go_ret
        exact ⟨_, rfl, ownsRow_lower ho hb12.size, hww⟩
      obtain ⟨kb, ko, kcap, e, hkb⟩ := IntsAt.addr hos (by omega)
      cases e
      have e0 := cell_below hbw (IntsAt.cellAt hos m hlt)
      have hr := HIn.out os[m] (List.getElem_mem hlt)
      have HY := Lib.hid (HF1.out m hlt)
      have HNo := Lib.hid (HF2.out m hlt)
      have hol := HFl.out m
      have HI := Lib.hid (HFi.out os[m])
      generalize os[m] = c at *
      obtain ⟨hr1, hr2⟩ := hr
      obtain ⟨cn, rfl⟩ : ∃ cn : Nat, c = (cn : Int) := ⟨c.toNat, by omega⟩
      obtain ⟨va, vk, hn⟩ := HN.out wr hww cn (by omega)
      have c0 := hn.c0
      have hq0 := lst_eq (nd l (cn : Int)).name [111, 112, 116, 105, 111, 110]
      clear hn
      generalize (os.take m).filter (ofP l (sel : Int)) = out at *
      by_cases g3 : (nd l (cn : Int)).name = nOption
      case neg =>
        replace hq0 : ((nd l (cn : Int)).name == [111, 112, 116, 105, 111, 110]) = false := by rw [hq0]; exact decide_eq_false g3
        have HE := Lib.hid (HNo.out (fun h => g3 (HI.out.1 h).1))
        generalize (nd l (cn : Int)).name = kd at *
        clear g3
        go_wp2_with fail
        go_roundw
        case rel => exact ⟨m + 1, by go_num, by omega, by rw [HE.out]; exact ho, hbw⟩
        case measure => simp [RowKit.intOf]; omega
      replace hq0 : ((nd l (cn : Int)).name == [111, 112, 116, 105, 111, 110]) = true := by rw [hq0]; exact decide_eq_true g3
      have hown := HOw.out wr hww cn (by omega)
      have HI2 : Hid (ofP l (sel : Int) (cn : Int) = true ↔ ownerP l (cn : Int) = (sel : Int)) := Lib.hid (HI.out.trans ⟨fun h => h.2, fun h => ⟨g3, h⟩⟩)
      generalize (nd l (cn : Int)).name = kd at *
      generalize ownerP l (cn : Int) = ow at *
      clear g3 HI
      by_cases g4 : ow = (sel : Int)
      case neg =>
        have HE := Lib.hid (HNo.out (fun h => g4 (HI2.out.1 h)))
        go_wp2_with fail
        refine hown.mono ?_
        rintro e w3 ⟨rfl, hb3⟩
        clear hown
        go_wp2_with fail
        go_roundw
        case rel => exact ⟨m + 1, by go_num, by omega, by rw [HE.out]; exact ownsRow_below ho hb3, below_trans hbw hb3⟩
        case measure => simp [RowKit.intOf]; omega
      subst g4
      have HE := Lib.hid (HY.out (HI2.out.2 rfl))
      go_wp2_with fail
      refine hown.mono ?_
      rintro e w3 ⟨rfl, hb3⟩
      have ho3 := ownsRow_below ho hb3
      have hbw3 := below_trans hbw hb3
      have hwz3 := hbw3.size
      have e3 := cell_below hb3 e0
      clear hown e0 c0
      go_wp2_with (at_builtin; refine wpList_append_lies _ rfl _ _ 39 rfl w2.heap.size 3 i0 _ 1 8 Tryz.underlying39 hi0 hz0 hz1 hz2 rfl (by decide) _ _ _ rfl (World.ownsRow.alloc ho3 _) ⟨w3.heap.size, 0, none⟩ 1 1 [.int .i64 (cn : Int)] rfl rfl ?_ ?_ (by decide) ?_ ?_ ?_ _ rfl ?_)
      all_goals first | exact cell_one_new _ _ _ | (show Value.oneCell' _ = true; rfl) | (intro u hu; simp at hu; subst hu; rfl) | (unfold maxLen; omega) | omega | (simp; omega) | skip
      intro g4 cap4 w4 hown4 hgrow4 hat4 hlt4
      have ho4 : OwnI w4 w2.heap.size (.slice (some ⟨g4, 0, none⟩) (out.length + 1) cap4) ((os.take (m + 1)).filter (ofP l (sel : Int))) := by
        unfold OwnI
        rw [HE.out, intsV_app, List.length_append (bs := [(cn : Int)])]
        exact hown4
      obtain ⟨hbw4, hbs4⟩ := grown_I ho3 hbw3 hwz3 _ hgrow4
      clear hown4 hgrow4 hat4 ho ho3 e3
      go_wp2_with fail
      go_roundw
      case rel => exact ⟨m + 1, by go_num, by omega, ho4, hbw4⟩
      case measure => simp [RowKit.intOf]; omega
end Go.Proofs.YtkhlfggnjcbniaaGreatDoor.doc
namespace Go.Proofs.YtkhlfggnjcbniaaGreatDoor.doc
open Go.ChangeShapes Go.WideShapes Go.ChangeAt Go.RowKit Go.Lib Go.Proofs.YtkhlfggnjcbniaaGreatDoor.atr Go.Proofs.YtkhlfggnjcbniaaGreatDoor.link

set_option maxHeartbeats 1600000 in
set_option maxRecDepth 100000 in
theorem docright_any (v : Value) (l : List Nd) (hL : LFine l) (oc : Option Addr) (n cc : Nat) (w : World) (hA : NodesAt w v l) :
    Calls Tryz.prog 78 #[.agg #[v, .slice oc n cc]] w fun e w' => e = .returned (.bool (decide (l.length = n) && rightB l)) ∧ Below w.heap.size w w' := by
  have hr := right_any v l hL _ (hA.below ((Below.refl _ w).alloc (Nat.le_refl _) (.cells #[v, .slice oc n cc] 28)))
  have hB1 : Below w.heap.size w (w.alloc (.cells #[v, .slice oc n cc] 28)) := (Below.refl _ w).alloc (Nat.le_refl _) _
  obtain ⟨oa, cap, rfl⟩ := NodesAt.lenN hA
  generalize rightB l = rb at *
  by_cases g : l.length = n
  · have HX : Hid ((decide (l.length = n) && rb) = rb) := Lib.hid (by rw [decide_eq_true g]; rfl)
    generalize (decide (l.length = n) && rb) = r at *
    obtain rfl := HX.out
    clear hA hL HX
    subst g
    go_enter Tryz.func78, Tryz.ntmps78
    go_wp2_with fail
    refine hr.mono ?_
    rintro e w1 ⟨rfl, hb1⟩
    go_wp2_with fail
    go_ret
    exact ⟨rfl, below_trans hB1 hb1⟩
  · have HX : Hid ((decide (l.length = n) && rb) = false) := Lib.hid (by rw [decide_eq_false g]; rfl)
    generalize (decide (l.length = n) && rb) = r at *
    obtain rfl := HX.out
    have g' : ((l.length : Int) == (n : Int)) = false := beq_false_of_ne (by omega)
    clear hA hL HX hr
    go_enter Tryz.func78, Tryz.ntmps78
    go_wp2_with fail
    go_ret
    exact ⟨rfl, hB1⟩

set_option maxHeartbeats 1600000 in
set_option maxRecDepth 100000 in
theorem rdocright_any (v : Value) (l : List Nd) (hL : LFine l) (oc : Option Addr) (n cc : Nat) (w : World) (hA : NodesAt w v l) :
    Calls Tryz.prog 17 #[.agg #[v, .slice oc n cc]] w fun e w' => e = .returned (.bool (decide (l.length = n) && rightB l)) ∧ Below w.heap.size w w' := by
  have hr := rright_any v l hL _ (hA.below ((Below.refl _ w).alloc (Nat.le_refl _) (.cells #[v, .slice oc n cc] 28)))
  have hB1 : Below w.heap.size w (w.alloc (.cells #[v, .slice oc n cc] 28)) := (Below.refl _ w).alloc (Nat.le_refl _) _
  obtain ⟨oa, cap, rfl⟩ := NodesAt.lenN hA
  cases hq : rightB l
  · rw [hq] at hr
    have HX : Hid ((decide (l.length = n) && false) = false) := Lib.hid (Bool.and_false _)
    generalize (decide (l.length = n) && false) = r at *
    obtain rfl := HX.out
    clear hA hL HX hq
    go_enter Tryz.func17, Tryz.ntmps17
    go_wp2_with fail
    refine hr.mono ?_
    rintro e w1 ⟨rfl, hb1⟩
    go_wp2_with fail
    go_ret
    exact ⟨rfl, below_trans hB1 hb1⟩
  · rw [hq] at hr
    have HX : Hid ((decide (l.length = n) && true) = ((l.length : Int) == (n : Int))) := Lib.hid (by
      by_cases g : l.length = n
      · rw [decide_eq_true g, g]; simp
      · rw [decide_eq_false g]; exact (beq_false_of_ne (by omega)).symm)
    have f0 : (w.alloc (.cells #[.slice oa l.length cap, .slice oc n cc] 28)).cell? ⟨w.heap.size, 0, none⟩ = some (.slice oa l.length cap) := World.cell?_alloc_new w _ _ 0
    have f1 : (w.alloc (.cells #[.slice oa l.length cap, .slice oc n cc] 28)).cell? ⟨w.heap.size, 1, none⟩ = some (.slice oc n cc) := World.cell?_alloc_new w _ _ 1
    generalize (decide (l.length = n) && true) = r at *
    clear hA hL hq
    go_enter Tryz.func17, Tryz.ntmps17
    go_wp2_with fail
    refine hr.mono ?_
    rintro e w1 ⟨rfl, hb1⟩
    have f0 := cell_below hb1 f0
    have f1 := cell_below hb1 f1
    go_wp2_with fail
    go_ret
    exact ⟨ret_bool HX.out.symm, below_trans hB1 hb1⟩
end Go.Proofs.YtkhlfggnjcbniaaGreatDoor.doc
