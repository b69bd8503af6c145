/- group.all of a document without radio buttons: an empty map. -/
import Derived.BigQuiet
import Derived.Carry
import Derived.ChangeAlike
import Derived.Deep.AppendLies
import Derived.Deep.CutBlock
import Derived.Deep.DeepCutAuto
import Derived.Deep.MidRow
import Derived.Deep.RegionHeld3
import Derived.Deep.SlicePairs
import Derived.Deep.Slices
import Derived.Laws.BytesArg
import Derived.Laws.IdiomStrings
import Derived.Laws.OwnMore
import Derived.Lib.Hide
import Derived.Lib.IndexBytes
import Derived.Lib.IndexMore
import Derived.Lib.ItoaMem
import Derived.Lib.ItoaNum
import Derived.Lib.Replace
import Derived.Lib.SlTrimSet
import Derived.Lib.Strings
import Derived.MapKept
import Derived.OpenShut
import Derived.ProofKit
import Derived.RegionTactic
import Derived.Shelf.SlicesQ.IndexFunc
import Derived.WalkKit
import Derived.WalkSmall
import Derived.WalkSpells
import Derived.WideKeyArgs
import Derived.Test.YtkhgfngppcemlaaGreatDoorRows
import Derived.Test.YtkhgfngppcemlaaGreatDoorShelf
import Derived.Test.YtkhgfngppcemlaaGreatDoorP0
import Derived.Test.YtkhgfngppcemlaaGreatDoorP1
import Derived.Test.YtkhgfngppcemlaaGreatDoorP3
import Derived.Test.YtkhgfngppcemlaaGreatDoorP6
import Derived.Test.YtkhgfngppcemlaaGreatDoorP7
import Derived.Test.YtkhgfngppcemlaaGreatDoorP8
import Derived.Test.YtkhgfngppcemlaaGreatDoorP9
import Derived.Test.YtkhgfngppcemlaaGreatDoorP10
import Derived.Test.YtkhgfngppcemlaaGreatDoorP11
import Derived.Test.YtkhgfngppcemlaaGreatDoorP12
import Derived.Test.YtkhgfngppcemlaaGreatDoorP13
import Derived.Test.YtkhgfngppcemlaaGreatDoorP14
import Derived.Test.YtkhgfngppcemlaaGreatDoorP15
import Derived.Test.YtkhgfngppcemlaaGreatDoorP16
import Derived.Test.YtkhgfngppcemlaaGreatDoorP17
import Derived.Test.YtkhgfngppcemlaaGreatDoorP18
namespace Go.Proofs.YtkhgfngppcemlaaGreatDoor.doc
open Go Go.RowKit Go.ChangeShapes Go.WideShapes Go.ChangeAt Go.Lib Go.Proofs.YtkhgfngppcemlaaGreatDoor.atr Go.Proofs.YtkhgfngppcemlaaGreatDoor.link

/-- these numbers lie in block g -/
def OsR (w : World) (g : Nat) (os : List Int) : Prop := ∀ j (h : j < os.length), w.cell? ⟨g, j, none⟩ = some (.int .i64 os[j])
theorem OsR.same {w w' : World} {g : Nat} {os : List Int} (h : OsR w g os) (e : w'.heap[g]? = w.heap[g]?) : OsR w' g os := fun j hj => by
  rw [World.cell?_of_block (w := w) e]; exact h j hj
theorem own_osR {w : World} {B : Nat} {v : Value} {os : List Int} (h : OwnI w B v os) (hp : 0 < os.length) : ∃ g cap, v = .slice (some ⟨g, 0, none⟩) os.length cap ∧ OsR w g os ∧ B ≤ g ∧ g < w.heap.size := by
  obtain ⟨h1, h | ⟨g, cap, cur, rfl, hg, hh, hc, hm, hs, ht⟩⟩ := h
  · omega
  · have hos : OsR w g os := by
      intro j hj
      have e : cur[j]? = some (.int .i64 os[j]) := by
        rw [← Array.getElem?_toList]
        have e2 : (cur.toList.take (os.length * 1))[j]? = (intsV os)[j]? := by rw [ht]
        rw [List.getElem?_take, if_pos (by omega)] at e2
        rw [e2]
        simp [intsV, hj]
      simp [World.cell?, hh, e]
    exact ⟨g, cap, rfl, hos, hg, lt_of_cell (hos 0 hp)⟩
set_option maxHeartbeats 1600000 in
set_option maxRecDepth 100000 in
theorem radio_no (v : Value) (l : List Nd) (hL : LFine l) (hf : l.length ≤ 1000000) (kn : Nat) (hkn : kn < l.length) (hN : kN l (kn : Int) ≠ 17) (w : World) (hA : NodesAt w v l) :
    Calls Tryz.prog 296 #[v, .int .i64 (kn : Int)] w fun e w' => e = .returned (.bool false) ∧ Below w.heap.size w w' := by
  have h0 : (0 : Int) ≤ (kn : Int) := by omega
  have h1 : (kn : Int) < (l.length : Int) := by omega
  obtain ⟨b, off, cap, rfl, hb⟩ := nodes_addr hA (by omega)
  obtain ⟨va, vk, hn⟩ := nodes_get hA kn hkn
  have hof := of_any (nd l (kn : Int)) va vk (hL.nd _ h0 h1) w hn.attrs hn.kids
  have HK : Hid (kindP (nd l (kn : Int)).name (nd l (kn : Int)).attrs = kN l (kn : Int)) := Lib.hid rfl
  rw [HK.out] at hof
  unfold nodeV at hof
  obtain ⟨c0, c1, c2, c3, c4, _, _, _⟩ := hn
  have hr17 : (kN l (kn : Int) == 17) = false := by simpa using hN
  have HR := Lib.hid hr17
  clear hr17 hN
  generalize kN l (kn : Int) = r at *
  generalize nd l (kn : Int) = n at *
  clear hA hL HK
  go_enter Tryz.func296, Tryz.ntmps296
  go_wp2_with fail
  refine hof.mono ?_
  rintro e w1 ⟨rfl, hb1⟩
  go_wp2_with fail
  go_ret
  exact ⟨by rw [← HR.out]; rfl, hb1⟩
def EmpM (w : World) (b : Nat) : Prop := w.heap[b]? = some (.map #[] 0)
theorem EmpM.below {w w' : World} {b : Nat} (h : EmpM w b) (hb : Below w.heap.size w w') : EmpM w' b := by
  have hl : b < w.heap.size := (Array.getElem?_eq_some_iff.1 h).1
  exact (hb.block b hl).trans h
set_option maxHeartbeats 6400000 in
set_option maxRecDepth 100000 in
theorem all_none (v : Value) (l : List Nd) (hL : LFine l) (hR : rightB l = true) (hN : ∀ k : Nat, k < l.length → kN l (k : Int) ≠ 17) (w : World) (hA : NodesAt w v l) :
    Calls Tryz.prog 252 #[v] w fun e w' => e = .returned (.map (some w.heap.size)) ∧ EmpM w' w.heap.size ∧ Below w.heap.size w w' := by
  have hRt := right_rt l hR
  have hf := hRt.few
  have h1 := hRt.some1
  obtain ⟨b, off, cap, rfl, hb⟩ := nodes_addr hA (by omega)
  have HN := Lib.hid (fun w' (h : Below w.heap.size w w') j hj => nodes_get (hA.below h) j hj)
  have HOr := Lib.hid (fun i (hi : i < l.length) w' (h : Below w.heap.size w w') => gorder_any _ l hR i hi w' (hA.below h))
  have HRa := Lib.hid (fun (k : Nat) (hk : k < l.length) w' (h : Below w.heap.size w w') => radio_no _ l hL (by omega) k hk (hN k hk) w' (hA.below h))
  have HIn := Lib.hid (fun (i : Nat) (hi : i < l.length) x hx => (ord_in hRt (i : Int) ⟨by omega, by omega⟩ x hx).1)
  have HLe := Lib.hid (fun (i : Nat) (hi : i < l.length) => (⟨ord_le hRt (i : Int) ⟨by omega, by omega⟩, ord_pos hRt (i : Int) ⟨by omega, by omega⟩⟩ : (ordP l (i : Int)).length ≤ l.length ∧ 1 ≤ (ordP l (i : Int)).length))
  have hmk := fun w => run_makeMap (P := Tryz.prog) 229 w
  clear hA hL hR hN
  go_enter Tryz.func252, Tryz.ntmps252
  go_wp2_with fail
  have hG0 : EmpM (w.alloc (.map #[] 0)) w.heap.size := (MapKept.heap_alloc w (.map #[] 0)).1
  have hb0 : Below w.heap.size w (w.alloc (.map #[] 0)) := (Below.refl _ _).alloc (Nat.le_refl _) _
  have hs0 : w.heap.size < (w.alloc (.map #[] 0)).heap.size := by simp
  have HG0 := Lib.hid hG0
  clear hG0 hmk
  generalize w.alloc (.map #[] 0) = wa at *
  go_wp2_with fail
  go_loopw [11] (fun s11 wr => ∃ i : Nat, s11 = .int .i64 i ∧ i ≤ l.length ∧ Hid (EmpM wr w.heap.size) ∧ Below w.heap.size w wr ∧ w.heap.size < wr.heap.size) (fun s11 _ => l.length - (RowKit.intOf s11).toNat)
  case atStart => exact ⟨0, rfl, by omega, HG0, hb0, hs0⟩
  case round =>
    obtain ⟨i, rfl, hi, hgr, hbw, hsw⟩ := hrel
    by_cases hlt : i < l.length
    case neg =>
      obtain rfl : i = l.length := by omega
      go_wp2_with fail
      go_ret
      exact ⟨rfl, hgr.out, hbw⟩
    obtain ⟨va, vk, hnd⟩ := HN.out wr hbw i hlt
    have c3 := hnd.c3
    clear hnd
    by_cases g : (nd l (i : Int)).parent < 0
    case neg =>
      have g2 : 0 ≤ (nd l (i : Int)).parent := by omega
      clear g
      generalize (nd l (i : Int)).parent = pr at *
      go_wp2_with fail
      go_roundw
      case rel => exact ⟨i + 1, by go_num, by omega, hgr, hbw, hsw⟩
      case measure => simp [RowKit.intOf]; omega
    have g2 : ¬ 0 ≤ (nd l (i : Int)).parent := by omega
    have hor := HOr.out i hlt wr hbw
    have HInI := Lib.hid (HIn.out i hlt)
    obtain ⟨hle1, hle2⟩ := HLe.out i hlt
    clear g
    generalize ordP l (i : Int) = os at *
    generalize (nd l (i : Int)).parent = pr at *
    go_wp2_with fail
    refine hor.mono ?_
    rintro e w2 ⟨v2, rfl, hown, hb2⟩
    obtain ⟨gO, cO, rfl, hos, hgO1, hgO2⟩ := own_osR hown (by omega)
    have HO := Lib.hid hos
    have HG3 := Lib.hid (hgr.out.below hb2)
    have hbw2 := below_trans hbw hb2
    have hsw2 : w.heap.size < w2.heap.size := Nat.lt_of_lt_of_le hsw hb2.size
    have hgO3 : w.heap.size < gO := by omega
    clear hor hown hos hgr c3
    go_wp2_with fail
    go_loopw [24] (fun s24 wx => ∃ j : Nat, s24 = .int .i64 j ∧ j ≤ os.length ∧ Hid (EmpM wx w.heap.size) ∧ Hid (OsR wx gO os) ∧ Below w.heap.size w wx ∧ gO < wx.heap.size) (fun s24 _ => os.length - (RowKit.intOf s24).toNat)
    case atStart => exact ⟨0, rfl, by omega, HG3, HO, hbw2, hgO2⟩
    case round =>
      obtain ⟨j, rfl, hj, hgx, hox, hbx, hgx2⟩ := hrel
      by_cases hjl : j < os.length
      case neg =>
        obtain rfl : j = os.length := by omega
        clear hox HO HG3
        go_wp2_with fail
        go_roundw
        case rel => exact ⟨i + 1, by go_num, by omega, hgx, hbx, by omega⟩
        case measure => simp [RowKit.intOf]; omega
      have hr := HInI.out os[j] (List.getElem_mem hjl)
      have e0 := hox.out j hjl
      generalize os[j] = c at *
      obtain ⟨hr1, hr2⟩ := hr
      obtain ⟨cn, rfl⟩ : ∃ cn : Nat, c = (cn : Int) := ⟨c.toNat, by omega⟩
      have hcn : cn < l.length := by omega
      have hra := HRa.out cn hcn _ hbx
      clear HO HG3
      go_wp2_with fail
      refine hra.mono ?_
      rintro e w3 ⟨rfl, hb3⟩
      have HGn := Lib.hid (hgx.out.below hb3)
      have HOn := Lib.hid (hox.out.same (hb3.block _ hgx2))
      have hbn := below_trans hbx hb3
      have hsz := hb3.size
      clear hox hgx hra
      go_wp2_with fail
      go_roundw
      case rel => exact ⟨j + 1, by go_num, by omega, HGn, HOn, hbn, by omega⟩
      case measure => simp [RowKit.intOf]; omega
end Go.Proofs.YtkhgfngppcemlaaGreatDoor.doc
