/- The contract of the reference's Order. The contracts of tree.order, group.order, tree.Order. -/
import Derived.BigQuiet
import Derived.ChangeAlike
import Derived.Deep.AppendLies
import Derived.Deep.CutBlock
import Derived.Deep.DeepCutAuto
import Derived.Deep.MidRow
import Derived.Deep.RegionHeld3
import Derived.Deep.SlicePairs
import Derived.Deep.Slices
import Derived.Laws.BytesArg
import Derived.Laws.IdiomStrings
import Derived.Laws.OwnMore
import Derived.Lib.Hide
import Derived.Lib.IndexBytes
import Derived.Lib.IndexMore
import Derived.Lib.ItoaMem
import Derived.Lib.ItoaNum
import Derived.Lib.Replace
import Derived.Lib.SlTrimSet
import Derived.Lib.Strings
import Derived.OpenShut
import Derived.ProofKit
import Derived.RegionTactic
import Derived.Shelf.SlicesQ.IndexFunc
import Derived.WalkKit
import Derived.WalkSmall
import Derived.WalkSpells
import Derived.WideKeyArgs
import Derived.Test.YtkhgfngppcemlaaGreatDoorRows
import Derived.Test.YtkhgfngppcemlaaGreatDoorShelf
import Derived.Test.YtkhgfngppcemlaaGreatDoorP0
import Derived.Test.YtkhgfngppcemlaaGreatDoorP1
import Derived.Test.YtkhgfngppcemlaaGreatDoorP3
import Derived.Test.YtkhgfngppcemlaaGreatDoorP6
import Derived.Test.YtkhgfngppcemlaaGreatDoorP7
import Derived.Test.YtkhgfngppcemlaaGreatDoorP8
import Derived.Test.YtkhgfngppcemlaaGreatDoorP9
import Derived.Test.YtkhgfngppcemlaaGreatDoorP10
import Derived.Test.YtkhgfngppcemlaaGreatDoorP11
import Derived.Test.YtkhgfngppcemlaaGreatDoorP12
import Derived.Test.YtkhgfngppcemlaaGreatDoorP13
import Derived.Test.YtkhgfngppcemlaaGreatDoorP14
import Derived.Test.YtkhgfngppcemlaaGreatDoorP15
import Derived.Test.YtkhgfngppcemlaaGreatDoorP16
import Derived.Test.YtkhgfngppcemlaaGreatDoorP17
namespace Go.Proofs.YtkhgfngppcemlaaGreatDoor.doc
open Go.ChangeShapes Go.WideShapes Go.ChangeAt Go.RowKit Go.Lib Go.Proofs.YtkhgfngppcemlaaGreatDoor.atr Go.Proofs.YtkhgfngppcemlaaGreatDoor.link

theorem infoI : (Tryz.prog.info? 3).map (fun i => (i.zero, i.size, i.bytes)) = some (some (.int .i64 0), 1, 8) := by kernel_rfl
def intsV (ks : List Int) : List Value := ks.map (Value.int .i64)
theorem intsV_flat (ks : List Int) : ks.flatMap encI = intsV ks := by
  induction ks with
  | nil => rfl
  | cons x r ih => rw [List.flatMap_cons, ih]; rfl
theorem intsV_app (a b : List Int) : intsV (a ++ b) = intsV a ++ intsV b := by unfold intsV; rw [List.map_append]
theorem intsV_len (a : List Int) : (intsV a).length = a.length := by unfold intsV; rw [List.length_map]
theorem intsV_at (a : List Int) (j : Nat) (h : j < a.length) : (intsV a)[j]? = some (.int .i64 a[j]) := by unfold intsV; rw [List.getElem?_map, List.getElem?_eq_getElem h]; rfl
/-- a row of numbers that the call owns -/
def OwnI (w : World) (B : Nat) (v : Value) (ks : List Int) : Prop := w.ownsRow B 3 1 v ks.length (intsV ks)
theorem OwnI.ints {w : World} {B : Nat} {v : Value} {ks : List Int} (h : OwnI w B v ks) : IntsAt w v ks := by
  unfold IntsAt
  rw [intsV_flat]
  exact RowAt.of_owns h

/-- two rows lie in different blocks -/
def Apart (a b : Value) : Prop := ∀ j, a.ownBlock = some j → b.ownBlock ≠ some j
theorem OwnI.kept {w w' : World} {B : Nat} {v : Value} {ks : List Int} (h : OwnI w B v ks) {a : Value} (hg : w.grownBy w' a.ownBlock) (ha : Apart a v) : OwnI w' B v ks := by
  refine World.ownsRow.kept h hg ?_
  cases hv : v.ownBlock with
  | none => exact .inl rfl
  | some j => exact .inr (fun e => ha j e.symm hv)
theorem OwnI.alloc {w : World} {B : Nat} {v : Value} {ks : List Int} (h : OwnI w B v ks) (o : Obj) : OwnI (w.alloc o) B v ks := World.ownsRow.alloc h o
theorem OwnI.form {w : World} {B : Nat} {v : Value} {ks : List Int} (h : OwnI w B v ks) (h0 : 0 < ks.length) : ∃ g cap, v = .slice (some ⟨g, 0, none⟩) ks.length cap ∧ ks.length ≤ cap ∧ g < w.heap.size := by
  rcases h.2 with ⟨_, h1⟩ | ⟨g, cap, cur, hv, hb, hg, hn, _⟩
  · omega
  · refine ⟨g, cap, hv, hn, ?_⟩
    rcases Nat.lt_or_ge g w.heap.size with hlt | hge
    · exact hlt
    · rw [Array.getElem?_eq_none hge] at hg; cases hg
theorem OwnI.nil (w : World) (B : Nat) : OwnI w B (.slice none 0 0) [] := World.ownsRow_nil _ _ _ _
theorem OwnI.lt {w : World} {B : Nat} {v : Value} {ks : List Int} (h : OwnI w B v ks) (j : Nat) (hj : v.ownBlock = some j) : B ≤ j ∧ j < w.heap.size := World.ownsRow.lt h j hj
theorem OwnI.top {w : World} {B g cap n : Nat} {ks : List Int} {c : Int} (hn : n = ks.length) (h : OwnI w B (.slice (some ⟨g, 0, none⟩) (n + 1) cap) (ks ++ [c])) : w.cell? ⟨g, n, none⟩ = some (.int .i64 c) := by
  subst hn
  unfold OwnI at h
  rw [show (ks ++ [c]).length = ks.length + 1 from by simp] at h
  rw [World.ownsRow.cellAt h ks.length (by omega), intsV_at _ _ (by simp)]
  simp
end Go.Proofs.YtkhgfngppcemlaaGreatDoor.doc
namespace Go.Proofs.YtkhgfngppcemlaaGreatDoor.doc
open Go.ChangeShapes Go.WideShapes Go.ChangeAt Go.RowKit Go.Lib Go.Proofs.YtkhgfngppcemlaaGreatDoor.atr Go.Proofs.YtkhgfngppcemlaaGreatDoor.link

/-- so far -/
def ordT (l : List Nd) (k : Int) (i : Nat) : List Int := k :: ((nd l k).kids.take i).flatMap (ordP l)
theorem ordT_succ (l : List Nd) (k : Int) (i : Nat) (h : i < (nd l k).kids.length) : ordT l k (i + 1) = ordT l k i ++ ordP l ((nd l k).kids[i]) := by
  unfold ordT
  rw [List.take_succ_eq_append_getElem h, List.flatMap_append, List.cons_append]
  simp
theorem ordT_all {l : List Nd} (h : Rt l) (k : Int) (hk : inR l k) : ordT l k (nd l k).kids.length = ordP l k := by
  unfold ordT; rw [List.take_length, ord_eq h k hk]
theorem ordT_le {l : List Nd} (h : Rt l) (k : Int) (hk : inR l k) (i : Nat) (_hi : i ≤ (nd l k).kids.length) : (ordT l k i).length ≤ l.length := by
  refine Nat.le_trans ?_ (ord_le h k hk)
  rw [← ordT_all h k hk]
  unfold ordT
  rw [List.length_cons, List.length_cons, List.take_length]
  have : ((nd l k).kids.take i).flatMap (ordP l) <+: (nd l k).kids.flatMap (ordP l) := by
    conv => rhs; rw [← List.take_append_drop i (nd l k).kids, List.flatMap_append]
    exact List.prefix_append _ _
  have := this.length_le
  omega
/-- a row of the call's own, handed back -/
def RetOwn (ks : List Int) (w : World) (e : Ending) (w' : World) : Prop := ∃ v', e = .returned v' ∧ OwnI w' w.heap.size v' ks ∧ Below w.heap.size w w'
theorem intsV_oneO (ks : List Int) : ∀ u ∈ intsV ks, u.oneCell' = true := by
  intro u hu
  unfold intsV at hu
  obtain ⟨x, _, rfl⟩ := List.mem_map.1 hu
  rfl
set_option maxHeartbeats 6400000 in
set_option maxRecDepth 100000 in
theorem gorder_from (l : List Nd) (hR : rightB l = true) : ∀ (m : Nat) (v : Value) (k : Nat), k < l.length → l.length + 2 - dep l (k : Int) ≤ m → ∀ w, NodesAt w v l →
    Calls Tryz.prog 344 #[v, .int .i64 k] w (RetOwn (ordP l (k : Int)) w) := by
  intro m
  induction m with
  | zero =>
    intro v k hk hm
    have := dep_le l (k : Int)
    omega
  | succ m ih =>
  intro v k hk hm w hA
  obtain ⟨i0, hi, hz0, hz1, hz2⟩ := info_parts infoI
  have hRt := right_rt l hR
  have hf := hRt.few
  have hin : inR l (k : Int) := ⟨by omega, by omega⟩
  have HIh := Lib.hid (fun w' (j : Nat) (hj : j < (nd l (k : Int)).kids.length) (h : NodesAt w' v l) => by
    have hc := hRt.kid (k : Int) _ hin (List.getElem_mem hj)
    have hd := dep_kid hRt _ hc.1
    rw [hc.2] at hd
    have := ih v ((nd l (k : Int)).kids[j]).toNat (by have := hc.1.1; have := hc.1.2; omega) (by
      rw [show ((((nd l (k : Int)).kids[j]).toNat : Nat) : Int) = (nd l (k : Int)).kids[j] from by have := hc.1.1; omega]; omega) w' h
    rwa [show ((((nd l (k : Int)).kids[j]).toNat : Nat) : Int) = (nd l (k : Int)).kids[j] from by have := hc.1.1; omega] at this)
  have HPos := Lib.hid (fun (j : Nat) (hj : j < (nd l (k : Int)).kids.length) => ord_pos hRt _ (hRt.kid (k : Int) _ hin (List.getElem_mem hj)).1)
  have HLe := Lib.hid (fun (i : Nat) (h : i ≤ (nd l (k : Int)).kids.length) => ordT_le hRt (k : Int) hin i h)
  have HS := Lib.hid (fun (i : Nat) (h : i < (nd l (k : Int)).kids.length) => ordT_succ l (k : Int) i h)
  have HAll : Hid (ordT l (k : Int) (nd l (k : Int)).kids.length = ordP l (k : Int)) := Lib.hid (ordT_all hRt (k : Int) hin)
  have H0 : Hid (ordT l (k : Int) 0 = [(k : Int)]) := Lib.hid rfl
  have hkl : (nd l (k : Int)).kids.length ≤ 400 := Nat.le_trans (seen_le l _ (kids_nodup hRt _ hin) (fun x hx => (hRt.kid _ x hin hx).1)) hf
  obtain ⟨b, off, cap, rfl, hb⟩ := nodes_addr hA (by omega)
  have HA := Lib.hid (fun w' (h : Below w.heap.size w w') => hA.below h)
  obtain ⟨va, vk, hn⟩ := nodes_get hA k hk
  have c4 := hn.c4
  have HK := Lib.hid hn.kids
  obtain ⟨ka, kc, rfl⟩ := RowAt.lenN hn.kids
  obtain ⟨res, hres⟩ : ∃ r, r = ordP l (k : Int) := ⟨_, rfl⟩
  rw [← hres] at HAll ⊢
  obtain ⟨ks, hks⟩ : ∃ ks, ks = (nd l (k : Int)).kids := ⟨_, rfl⟩
  rw [← hks] at HK c4 hkl
  have HKs := Lib.hid hks
  obtain ⟨B, hB⟩ : ∃ B, B = w.heap.size := ⟨_, rfl⟩
  have HB := Lib.hid hB
  rw [← hB] at HA
  have hkin : (k : Int) < (l.length : Int) := hin.2
  clear hres hks hB hn hA ih hRt hR hin hm
  go_enter Tryz.func344, Tryz.ntmps344
  go_wp2_with fail
  go_loopw [5, 7, 16] (fun s5 _ s16 wr => ∃ i : Nat, s16 = .int .i64 i ∧ i ≤ ks.length ∧ OwnI wr B s5 (ordT l (k : Int) i) ∧ Below B w wr ∧ B ≤ wr.heap.size) (fun _ _ s16 _ => ks.length - (RowKit.intOf s16).toNat)
  case atStart =>
    refine ⟨0, rfl, by omega, ?_, by rw [HB.out]; exact (Below.refl _ _).alloc (Nat.le_refl _) _, by rw [HB.out]; simp⟩
    have := World.ownsRow_lit (base := B) (e := 3) (size := 1) w #[.int .i64 (k : Int)] 1 (by rw [HB.out]; omega) (by decide) rfl
    rw [H0.out]
    exact this
  case round =>
    obtain ⟨i, rfl, hile, ho, hbw, hbs⟩ := hrel
    by_cases hlt : i < ks.length
    · obtain ⟨kb, ko, kcap, e, hkb⟩ := IntsAt.addr HK.out (by omega)
      cases e
      have e0 := cell_below (by rw [HB.out] at hbw; exact hbw) (IntsAt.cellAt HK.out i hlt)
      have hih := HIh.out wr i (by rw [← HKs.out]; exact hlt) (HA.out wr (by rw [HB.out] at hbw ⊢; exact hbw))
      have hpos := HPos.out i (by rw [← HKs.out]; exact hlt)
      have hle := HLe.out (i + 1) (by rw [← HKs.out]; omega)
      have hs := HS.out i (by rw [← HKs.out]; exact hlt)
      have hkk : (nd l (k : Int)).kids[i]'(by rw [← HKs.out]; exact hlt) = ks[i] := by simp only [HKs.out]
      rw [hkk] at hih hpos hs
      have HSt := Lib.hid hs
      rw [hs, List.length_append] at hle
      clear hs hkk
      generalize ks[i] = y at *
      generalize ordT l (k : Int) i = acc at *
      generalize ordP l y = oy at *
      go_wp2_with fail
      refine hih.mono ?_
      rintro e w2 ⟨v2, rfl, ho2, hb2⟩
      obtain ⟨g, scap, rfl, hgc, hgl⟩ := ho2.form (by omega)
      have hacc : OwnI w2 B _ acc := ownsRow_below ho hb2
      have hbw2 : Below B w w2 := hbw.trans (hb2.mono hbs)
      have hbs2 : B ≤ w2.heap.size := Nat.le_trans hbs hb2.size
      clear hih e0 ho hb2
      have HO2 := Lib.hid ho2
      clear ho2
      go_wp2_with (at_builtin; refine wpList_append_lies _ rfl _ _ 82 rfl B 3 i0 _ 1 8 Tryz.underlying82 hi hz0 hz1 hz2 rfl (by decide) _ _ _ rfl hacc ⟨g, 0, none⟩ oy.length scap (intsV oy) rfl ?q0 ?q1 ?q2 ?q3 ?q4 ?q5 ?q6 _ rfl ?q7)
      case q0 => rw [intsV_len, Nat.mul_one]
      case q1 =>
        intro j u hj
        have hj2 : j < oy.length := by
          rcases Nat.lt_or_ge j oy.length with h | h
          · exact h
          · rw [List.getElem?_eq_none (by rw [intsV_len]; exact h)] at hj; cases hj
        rw [Lib.add_plain, Nat.zero_add]
        exact (World.ownsRow.cellAt HO2.out j (by rw [Nat.mul_one] ; exact hj2)).trans hj
      case q2 => exact intsV_oneO oy
      case q3 => omega
      case q4 => unfold maxLen; omega
      case q5 => omega
      case q6 => exact hbs2
      intro g3 cap3 w3 hown3 hgrow3 _ _
      have ho3 : OwnI w3 B (.slice (some ⟨g3, 0, none⟩) (acc.length + oy.length) cap3) (ordT l (k : Int) (i + 1)) := by
        unfold OwnI
        rw [HSt.out, intsV_app, List.length_append]
        exact hown3
      have hbw3 : Below B w w3 := hbw2.grown hgrow3 hbs2 (fun j hj => (hacc.lt j hj).1)
      have hbs3 : B ≤ w3.heap.size := Nat.le_trans hbs2 hgrow3.size
      clear hown3 hgrow3 hacc HO2 HSt
      go_wp2_with fail
      go_roundw
      case rel => exact ⟨i + 1, by go_num, by omega, ho3, hbw3, hbs3⟩
      case measure => simp [RowKit.intOf]; omega
    · obtain rfl : i = ks.length := by omega
      have HX : Hid (ordT l (k : Int) ks.length = res) := Lib.hid (by rw [HKs.out]; exact HAll.out)
      rw [HX.out] at ho
      go_wp2_with fail
      go_ret
      exact ⟨_, rfl, by rw [← HB.out]; exact ho, by rw [← HB.out]; exact hbw⟩
theorem gorder_any (v : Value) (l : List Nd) (hR : rightB l = true) (k : Nat) (hk : k < l.length) (w : World) (hA : NodesAt w v l) :
    Calls Tryz.prog 344 #[v, .int .i64 k] w (RetOwn (ordP l (k : Int)) w) := gorder_from l hR _ v k hk (Nat.le_refl _) w hA
end Go.Proofs.YtkhgfngppcemlaaGreatDoor.doc
