/- A part of the proofs: lemmas and contracts. -/
import Derived.Test.YtkhlfggnjcbniaaGreatDoorP24
import Derived.Test.YtkhlfggnjcbniaaGreatDoorP39
set_option maxHeartbeats 12800000
set_option maxRecDepth 1000000
namespace Go.Proofs.YtkhlfggnjcbniaaGreatDoor.doc
open Go.ChangeShapes Go.WideShapes Go.ChangeAt Go.RowKit Go.Lib atr link

def membQ (l : List Nd) (k : Int) : List Int := if isP l k 17 then withP l (keyP l k) (topP l k) else []
def wtB (l : List Nd) (κ : Key) (k : Int) : Bool := radB l k && decide (keyP l k = κ)
theorem withP_eq (l : List Nd) (κ : Key) (i : Int) : withP l κ i = (ordP l i).filter (wtB l κ) := rfl

theorem rmembers_any (v : Value) (l : List Nd) (hL : LFine l) (k : Int) (w : World) (hA : NodesAt w v l) :
  Calls Tryz.prog 103 #[v, .int .i64 k] w fun e w' => ∃ v', e = .returned v' ∧ OwnI w' w.heap.size v' (membQ l k) ∧ Below w.heap.size w w' := by
 have hi := ris_any v l k 17 hL w hA
 have HP : Hid (membQ l k = if isP l k 17 then withP l (keyP l k) (topP l k) else []) := Lib.hid rfl
 cases hq : isP l k 17
 ·rw [hq] at hi HP
  have HX : Hid (membQ l k = []) := Lib.hid HP.out
  obtain ⟨oa, cap, rfl⟩ := NodesAt.lenN hA
  generalize membQ l k = r at *
  obtain rfl := HX.out
  clear hA hq HP hL HX
  go_enter Tryz.func103, Tryz.ntmps103
  go_wp2_with fail
  refine hi.mono ?_
  rintro e w1 ⟨rfl, hb1⟩
  go_wp2_with fail
  go_ret
  exact ⟨_, rfl, OwnI.nil _ _, hb1⟩
 ·obtain ⟨⟨h0, h1⟩, h17, hR⟩ := (isP_iff l k 17).1 hq
  rw [hq] at hi HP
  obtain ⟨sel, rfl⟩ : ∃ sel : Nat, k = (sel : Int) := ⟨k.toNat, by omega⟩
  have hs : sel < l.length := by omega
  have hRt := right_rt l hR
  have hin : inR l (sel : Int) := ⟨h0, h1⟩
  have htin := (top_in hRt (sel : Int) hin).1
  obtain ⟨tp, htp⟩ : ∃ tp : Nat, topP l (sel : Int) = (tp : Int) := ⟨(topP l (sel : Int)).toNat, by have := htin.1; omega⟩
  have htl : tp < l.length := by have := htin.2; omega
  have HX : Hid (membQ l (sel : Int) = (ordP l (tp : Int)).filter (wtB l (keyP l (sel : Int)))) := Lib.hid (by rw [HP.out, htp]; rfl)
  have HTp := Lib.hid (fun w' (h : Below w.heap.size w w') => rtop_any v l hR sel hs w' (hA.below h))
  rw [htp] at HTp htin
  have HOr := Lib.hid (fun w' (h : Below w.heap.size w w') => rorder_any v l hR tp htl w' (hA.below h))
  have HTg := Lib.hid (fun w' (h : Below w.heap.size w w') j hj => together_any v l hL hR sel j hs hj w' (hA.below h))
  obtain ⟨b, off, cap, rfl, hb⟩ := nodes_addr hA (by omega)
  have HN := Lib.hid (fun w' (h : Below w.heap.size w w') j hj => nodes_get (hA.below h) j hj)
  have HKd := Lib.hid (fun j (hj : j < l.length) w' va vk (h1 : AttrsAt w' va (nd l ((j : Nat) : Int)).attrs) (h2 : IntsAt w' vk (nd l (j : Int)).kids) => by
   have := rof_any (nd l (j : Int)) va vk (hL.nd _ (by omega) (by omega)) w' h1 h2
   rwa [show kindP (nd l (j : Int)).name (nd l (j : Int)).attrs = kN l (j : Int) from rfl] at this)
  have HIn := Lib.hid (fun x hx => (ord_in hRt (tp : Int) htin x hx).1)
  have hosl := ord_le hRt (tp : Int) htin
  have hf := hRt.few
  have HF1 := Lib.hid (fun j h hp => filt_yes (wtB l (keyP l (sel : Int))) (ordP l (tp : Int)) j h hp)
  have HF2 := Lib.hid (fun j h hp => filt_no (wtB l (keyP l (sel : Int))) (ordP l (tp : Int)) j h hp)
  have HFl := Lib.hid (fun j => filt_len (wtB l (keyP l (sel : Int))) (ordP l (tp : Int)) j)
  have HWt : Hid (∀ x, wtB l (keyP l (sel : Int)) x = ((kN l x == 17) && togB l (sel : Int) x)) := Lib.hid (fun x => by unfold wtB radB; rw [tog_key])
  obtain ⟨i0, hi0, hz0, hz1, hz2⟩ := info_parts infoI
  rw [HX.out]
  generalize ordP l (tp : Int) = os at *
  generalize wtB l (keyP l (sel : Int)) = pr at *
  clear hA hq HP hL HX hR hRt h17 htp htin
  go_enter Tryz.func103, Tryz.ntmps103
  go_wp2_with fail
  refine hi.mono ?_
  rintro e w1 ⟨rfl, hb1⟩
  have htp := HTp.out w1 hb1
  clear hi HTp
  go_wp2_with fail
  refine htp.mono ?_
  rintro e w1 ⟨rfl, rfl⟩
  have ho := HOr.out _ hb1
  clear htp HOr
  go_wp2_with fail
  refine ho.mono ?_
  rintro e w2 ⟨v6, rfl, hown, hb2⟩
  clear ho
  have hos := hown.ints
  obtain ⟨sa, sc, rfl⟩ := RowAt.lenN hos
  clear hown
  have hb12 := below_trans hb1 hb2
  go_wp2_with fail
  go_loopw [5, 7] (fun s5 s7 wr => ∃ m : Nat, s7 = .int .i64 m ∧ m ≤ os.length ∧ OwnI wr w2.heap.size s5 ((os.take m).filter pr) ∧ Below w2.heap.size w2 wr) (fun _ s7 _ => os.length - (RowKit.intOf s7).toNat)
  case atStart => exact ⟨0, rfl, Nat.zero_le _, OwnI.nil _ _, Below.refl _ _⟩
  case round =>
   obtain ⟨m, rfl, hm, ho, hbw⟩ := hrel
   have hwz := hbw.size
   have hww := below_trans hb12 hbw
   by_cases hlt : m < os.length
   case neg =>
    obtain rfl : m = os.length := by omega
    rw [List.take_length] at ho
    obtain ⟨ra, rc, rfl⟩ := RowAt.lenN ho.ints
    go_wp2_with fail
    go_ret
    exact ⟨_, rfl, ownsRow_lower ho hb12.size, hww⟩
   obtain ⟨kb, ko, kcap, e, hkb⟩ := IntsAt.addr hos (by omega)
   cases e
   have e0 := cell_below hbw (IntsAt.cellAt hos m hlt)
   have hr := HIn.out os[m] (List.getElem_mem hlt)
   have HY := Lib.hid (HF1.out m hlt)
   have HNo := Lib.hid (HF2.out m hlt)
   have hol := HFl.out m
   have HI := Lib.hid (HWt.out os[m])
   generalize os[m] = c at *
   obtain ⟨hr1, hr2⟩ := hr
   obtain ⟨cn, rfl⟩ : ∃ cn : Nat, c = (cn : Int) := ⟨c.toNat, by omega⟩
   have hcn : cn < l.length := by omega
   obtain ⟨va, vk, hn⟩ := HN.out wr hww cn hcn
   have hkd := HKd.out cn hcn wr va vk hn.attrs hn.kids
   unfold nodeV at hkd
   have HTc := Lib.hid (fun w' h => HTg.out w' h cn hcn)
   obtain ⟨c0, c1, c2, c3, c4, _, _, _⟩ := hn
   generalize (os.take m).filter pr = out at *
   generalize pr (cn : Int) = pc at *
   generalize togB l (sel : Int) (cn : Int) = tg at *
   generalize kN l (cn : Int) = kd at *
   generalize nd l (cn : Int) = n at *
   by_cases g3 : kd = 17
   case neg =>
    have gb : (kd == 17) = false := by simpa using g3
    have HE := Lib.hid (HNo.out (by rw [HI.out, gb]; exact Bool.noConfusion))
    clear g3 HI HY HNo HTc
    go_wp2_with fail
    refine hkd.mono ?_
    rintro e w3 ⟨rfl, hb3⟩
    go_wp2_with fail
    go_roundw
    case rel => exact ⟨m + 1, by go_num, by omega, by rw [HE.out]; exact ownsRow_below ho hb3, below_trans hbw hb3⟩
    case measure => simp [RowKit.intOf]; omega
   have gb : (kd == 17) = true := by simpa using g3
   rw [gb, Bool.true_and] at HI
   clear g3
   go_wp2_with fail
   refine hkd.mono ?_
   rintro e w3 ⟨rfl, hb3⟩
   have e1 := cell_below hb3 e0
   have ho1 := ownsRow_below ho hb3
   have hbw1 := below_trans hbw hb3
   have htg := HTc.out w3 (below_trans hb12 hbw1)
   clear hkd e0 ho c0 c1 c2 c3 c4 HTc
   cases tg
   case false =>
    have HE := Lib.hid (HNo.out (by rw [HI.out]; exact Bool.noConfusion))
    clear HI HY HNo
    go_wp2_with fail
    refine htg.mono ?_
    rintro e w4 ⟨rfl, hb4⟩
    go_wp2_with fail
    go_roundw
    case rel => exact ⟨m + 1, by go_num, by omega, by rw [HE.out]; exact ownsRow_below ho1 hb4, below_trans hbw1 hb4⟩
    case measure => simp [RowKit.intOf]; omega
   have HE := Lib.hid (HY.out HI.out)
   clear HI HY HNo
   go_wp2_with fail
   refine htg.mono ?_
   rintro e w4 ⟨rfl, hb4⟩
   have ho3 := ownsRow_below ho1 hb4
   have hbw3 := below_trans hbw1 hb4
   have hwz3 := hbw3.size
   have e3 := cell_below hb4 e1
   clear htg e1 ho1 hbw1
   go_wp2_with (at_builtin; refine wpList_append_lies _ rfl _ _ 39 rfl w2.heap.size 3 i0 _ 1 8 Tryz.underlying39 hi0 hz0 hz1 hz2 rfl (by decide) _ _ _ rfl (World.ownsRow.alloc ho3 _) ⟨w4.heap.size, 0, none⟩ 1 1 [.int .i64 (cn : Int)] rfl rfl ?_ ?_ (by decide) ?_ ?_ ?_ _ rfl ?_)
   all_goals first | exact cell_one_new _ _ _ | (show Value.oneCell' _ = true; rfl) | (intro u hu; simp at hu; subst hu; rfl) | (unfold maxLen; omega) | omega | (simp; omega) | skip
   intro g4 cap4 w5 hown4 hgrow4 hat4 hlt4
   have ho4 : OwnI w5 w2.heap.size (.slice (some ⟨g4, 0, none⟩) (out.length + 1) cap4) ((os.take (m + 1)).filter pr) := by
    unfold OwnI
    rw [HE.out, intsV_app, List.length_append (bs := [(cn : Int)])]
    exact hown4
   obtain ⟨hbw4, hbs4⟩ := grown_I ho3 hbw3 hwz3 _ hgrow4
   clear hown4 hgrow4 hat4 ho3 e3
   go_wp2_with fail
   go_roundw
   case rel => exact ⟨m + 1, by go_num, by omega, ho4, hbw4⟩
   case measure => simp [RowKit.intOf]; omega
end Go.Proofs.YtkhlfggnjcbniaaGreatDoor.doc
