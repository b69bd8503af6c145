/- The contract of the reference's Order. -/
import Derived.BigQuiet
import Derived.ChangeAlike
import Derived.Deep.AppendLies
import Derived.Deep.CutBlock
import Derived.Deep.DeepCutAuto
import Derived.Deep.MidRow
import Derived.Deep.RegionHeld3
import Derived.Deep.SlicePairs
import Derived.Deep.Slices
import Derived.Laws.BytesArg
import Derived.Laws.IdiomStrings
import Derived.Laws.OwnMore
import Derived.Lib.Hide
import Derived.Lib.IndexBytes
import Derived.Lib.IndexMore
import Derived.Lib.ItoaMem
import Derived.Lib.ItoaNum
import Derived.Lib.Replace
import Derived.Lib.SlTrimSet
import Derived.Lib.Strings
import Derived.OpenShut
import Derived.ProofKit
import Derived.RegionTactic
import Derived.Shelf.SlicesQ.IndexFunc
import Derived.WalkKit
import Derived.WalkSmall
import Derived.WalkSpells
import Derived.WideKeyArgs
import Derived.Test.YtkhlfggnjcbniaaGreatDoorRows
import Derived.Test.YtkhlfggnjcbniaaGreatDoorShelf
import Derived.Test.YtkhlfggnjcbniaaGreatDoorP0
import Derived.Test.YtkhlfggnjcbniaaGreatDoorP1
import Derived.Test.YtkhlfggnjcbniaaGreatDoorP2
import Derived.Test.YtkhlfggnjcbniaaGreatDoorP3
import Derived.Test.YtkhlfggnjcbniaaGreatDoorP5
import Derived.Test.YtkhlfggnjcbniaaGreatDoorP6
import Derived.Test.YtkhlfggnjcbniaaGreatDoorP7
import Derived.Test.YtkhlfggnjcbniaaGreatDoorP8
import Derived.Test.YtkhlfggnjcbniaaGreatDoorP9
import Derived.Test.YtkhlfggnjcbniaaGreatDoorP10
import Derived.Test.YtkhlfggnjcbniaaGreatDoorP11
import Derived.Test.YtkhlfggnjcbniaaGreatDoorP12
namespace Go.Proofs.YtkhlfggnjcbniaaGreatDoor.doc
open Go.ChangeShapes Go.WideShapes Go.ChangeAt Go.RowKit Go.Lib Go.Proofs.YtkhlfggnjcbniaaGreatDoor.atr Go.Proofs.YtkhlfggnjcbniaaGreatDoor.link

theorem infoI : (Tryz.prog.info? 3).map (fun i => (i.zero, i.size, i.bytes)) = some (some (.int .i64 0), 1, 8) := by kernel_rfl
def intsV (ks : List Int) : List Value := ks.map (Value.int .i64)
theorem intsV_flat (ks : List Int) : ks.flatMap encI = intsV ks := by
  induction ks with
  | nil => rfl
  | cons x r ih => rw [List.flatMap_cons, ih]; rfl
theorem intsV_app (a b : List Int) : intsV (a ++ b) = intsV a ++ intsV b := by unfold intsV; rw [List.map_append]
theorem intsV_len (a : List Int) : (intsV a).length = a.length := by unfold intsV; rw [List.length_map]
theorem intsV_at (a : List Int) (j : Nat) (h : j < a.length) : (intsV a)[j]? = some (.int .i64 a[j]) := by unfold intsV; rw [List.getElem?_map, List.getElem?_eq_getElem h]; rfl
def slN : Value → Nat
  | .slice _ n _ => n
  | _ => 0
/-- a row of numbers that the call owns -/
def OwnI (w : World) (B : Nat) (v : Value) (ks : List Int) : Prop := w.ownsRow B 3 1 v ks.length (intsV ks)
theorem OwnI.ints {w : World} {B : Nat} {v : Value} {ks : List Int} (h : OwnI w B v ks) : IntsAt w v ks := by
  unfold IntsAt
  rw [intsV_flat]
  exact RowAt.of_owns h

/-- two rows lie in different blocks -/
def Apart (a b : Value) : Prop := ∀ j, a.ownBlock = some j → b.ownBlock ≠ some j
theorem OwnI.kept {w w' : World} {B : Nat} {v : Value} {ks : List Int} (h : OwnI w B v ks) {a : Value} (hg : w.grownBy w' a.ownBlock) (ha : Apart a v) : OwnI w' B v ks := by
  refine World.ownsRow.kept h hg ?_
  cases hv : v.ownBlock with
  | none => exact .inl rfl
  | some j => exact .inr (fun e => ha j e.symm hv)
theorem OwnI.alloc {w : World} {B : Nat} {v : Value} {ks : List Int} (h : OwnI w B v ks) (o : Obj) : OwnI (w.alloc o) B v ks := World.ownsRow.alloc h o
theorem OwnI.form {w : World} {B : Nat} {v : Value} {ks : List Int} (h : OwnI w B v ks) (h0 : 0 < ks.length) : ∃ g cap, v = .slice (some ⟨g, 0, none⟩) ks.length cap ∧ ks.length ≤ cap ∧ g < w.heap.size := by
  rcases h.2 with ⟨_, h1⟩ | ⟨g, cap, cur, hv, hb, hg, hn, _⟩
  · omega
  · refine ⟨g, cap, hv, hn, ?_⟩
    rcases Nat.lt_or_ge g w.heap.size with hlt | hge
    · exact hlt
    · rw [Array.getElem?_eq_none hge] at hg; cases hg
theorem OwnI.nil (w : World) (B : Nat) : OwnI w B (.slice none 0 0) [] := World.ownsRow_nil _ _ _ _
theorem OwnI.lt {w : World} {B : Nat} {v : Value} {ks : List Int} (h : OwnI w B v ks) (j : Nat) (hj : v.ownBlock = some j) : B ≤ j ∧ j < w.heap.size := World.ownsRow.lt h j hj
theorem OwnI.pop {w : World} {B g cap n : Nat} {ks : List Int} {c : Int} (hn : n = ks.length) (h : OwnI w B (.slice (some ⟨g, 0, none⟩) (n + 1) cap) (ks ++ [c])) : OwnI w B (.slice (some ⟨g, 0, none⟩) n cap) ks := by
  subst hn
  unfold OwnI at h ⊢
  rw [intsV_app, show (ks ++ [c]).length = ks.length + 1 from by simp] at h
  exact ownsRow_pop (by rw [intsV_len]; omega) h
theorem OwnI.top {w : World} {B g cap n : Nat} {ks : List Int} {c : Int} (hn : n = ks.length) (h : OwnI w B (.slice (some ⟨g, 0, none⟩) (n + 1) cap) (ks ++ [c])) : w.cell? ⟨g, n, none⟩ = some (.int .i64 c) := by
  subst hn
  unfold OwnI at h
  rw [show (ks ++ [c]).length = ks.length + 1 from by simp] at h
  rw [World.ownsRow.cellAt h ks.length (by omega), intsV_at _ _ (by simp)]
  simp
/-- behind an append -/
theorem grown_I {w wr w1 : World} {B : Nat} {v : Value} {ks : List Int} (hown : OwnI wr B v ks) (hb : Below B w wr) (hbs : B ≤ wr.heap.size) (o : Obj) (hg : (wr.alloc o).grownBy w1 v.ownBlock) : Below B w w1 ∧ B ≤ w1.heap.size :=
  low_rel w wr w1 B _ _ _ _ o hown hb hbs hg
set_option maxHeartbeats 6400000 in
set_option maxRecDepth 100000 in
theorem rorder_any (v : Value) (l : List Nd) (hR : rightB l = true) (k : Nat) (hk : k < l.length) (w : World) (hA : NodesAt w v l) :
    Calls Tryz.prog 62 #[v, .int .i64 k] w fun e w' => ∃ v', e = .returned v' ∧ OwnI w' w.heap.size v' (ordP l (k : Int)) ∧ Below w.heap.size w w' := by
  obtain ⟨i0, hi, hz0, hz1, hz2⟩ := info_parts infoI
  have hRt := right_rt l hR
  have hf := hRt.few
  obtain ⟨b, off, cap, rfl, hb⟩ := nodes_addr hA (by omega)
  have HA := Lib.hid (fun w' (h : Below w.heap.size w w') => hA.below h)
  have hin : inR l (k : Int) := ⟨by omega, by omega⟩
  have HLe := Lib.hid (fun out st (h : St l (k : Int) out st) => h.le hRt hin)
  have HPop := Lib.hid (fun out st c (h : St l (k : Int) out (st ++ [c])) => h.pop hRt)
  have HSt := Lib.hid (St.start (l := l) (k : Int) hin)
  have HKids := Lib.hid (fun c (hc : inR l c) => (seen_le l _ (kids_nodup hRt c hc) (fun x hx => (hRt.kid c x hc hx).1)))
  clear hA hRt hR hin
  obtain ⟨B, hB⟩ : ∃ B, B = w.heap.size := ⟨_, rfl⟩
  have HB := Lib.hid hB
  rw [← hB] at hb HA ⊢
  clear hB
  go_enter Tryz.func62, Tryz.ntmps62
  go_wp2_with fail
  go_loopw [5, 6] (fun s5 s6 wr => ∃ (out st : List Int), Hid (slN s5 = out.length) ∧ OwnI wr B s5 out ∧ OwnI wr B s6 st ∧ Hid (Apart s5 s6) ∧ Hid (St l (k : Int) out st) ∧ Below B w wr ∧ B ≤ wr.heap.size) (fun s5 _ _ => 401 - slN s5)
  case atStart =>
    refine ⟨[], [(k : Int)], Lib.hid rfl, OwnI.nil _ _, ?_, Lib.hid (fun j h => by cases h), HSt, by rw [HB.out]; exact (Below.refl _ _).alloc (Nat.le_refl _) _, by rw [HB.out]; simp⟩
    have := World.ownsRow_lit (base := B) (e := 3) (size := 1) w #[.int .i64 (k : Int)] 1 (by rw [HB.out]; omega) (by decide) rfl
    exact this
  case round =>
    obtain ⟨out, st, hM, ho, hs, hap, hst, hbw, hbs⟩ := hrel
    rcases List.eq_nil_or_concat st with rfl | ⟨st, c, rfl⟩
    · obtain ⟨sa, sc, rfl⟩ := RowAt.lenN hs.ints
      have HX : Hid (out = ordP l (k : Int)) := Lib.hid hst.out.done
      go_wp2_with fail
      go_ret
      exact ⟨_, rfl, by rw [← HX.out]; exact ho, hbw⟩
    · rw [List.concat_eq_append] at *
      have hsl : (st ++ [c]).length = st.length + 1 := by simp
      obtain ⟨g, scap, rfl, hgc, hgl⟩ := hs.form (by rw [hsl]; omega)
      rw [hsl] at hs hap hgc ⊢
      have hcell := OwnI.top rfl hs
      have hpop := OwnI.pop rfl hs
      have hcin := hst.out.inr c (List.mem_append_right _ List.mem_cons_self)
      have hle := HLe.out _ _ hst.out
      rw [hsl] at hle
      have HP := Lib.hid (HPop.out _ _ _ hst.out)
      have hkl := HKids.out c hcin
      have hcin1 := hcin.1
      have hcin2 := hcin.2
      obtain ⟨cn, rfl⟩ : ∃ cn : Nat, c = (cn : Int) := ⟨c.toNat, by omega⟩
      have HN := Lib.hid (fun w' h => nodes_get (HA.out w' h) cn (by omega))
      obtain ⟨ks, hks⟩ : ∃ ks, ks = (nd l (cn : Int)).kids := ⟨_, rfl⟩
      rw [← hks] at HP hkl
      have HKs := Lib.hid hks
      have HPop2 := Lib.hid hpop
      have hap' : Hid (Apart _ (.slice (some ⟨g, 0, none⟩) st.length scap)) := Lib.hid (fun j h => hap.out j h)
      clear hks hcin hst hs hpop hap
      go_upto_region 6 with fail
      have hgc2 : st.length ≤ scap := by omega
      go_wp2_with (at_builtin; refine wpList_append_lies _ rfl _ _ 39 rfl B 3 i0 _ 1 8 Tryz.underlying39 hi hz0 hz1 hz2 rfl (by decide) _ _ _ rfl (ho.alloc _) ⟨wr.heap.size, 0, none⟩ 1 1 [.int .i64 (cn : Int)] rfl rfl ?q1 ?q2 (by decide) ?q3 ?q4 ?q5 _ rfl ?q6)
      case q1 => exact cell_one_new _ _ _
      case q2 => intro u hu; simp at hu; subst hu; rfl
      case q3 => unfold maxLen; omega
      case q4 => omega
      case q5 => simp; omega
      intro g2 cap2 w2 hown2 hgrow2 hat2 hlt2
      have ho2 : OwnI w2 B (.slice (some ⟨g2, 0, none⟩) (out.length + 1) cap2) (out ++ [(cn : Int)]) := by
        unfold OwnI
        rw [intsV_app, show (out ++ [(cn : Int)]).length = out.length + 1 from by simp]
        exact hown2
      have hs2 := (HPop2.out.alloc (.cells #[.int .i64 (cn : Int)] 3)).kept hgrow2 hap'.out
      have hap2 : Hid (g2 ≠ g) := Lib.hid (by
        rcases hat2 with h | h
        · intro e
          rw [e] at h
          exact hap'.out g h rfl
        · rw [h]; simp; omega)
      obtain ⟨hbw2, hbs2⟩ := grown_I ho hbw hbs _ hgrow2
      clear hown2 hgrow2 hat2 hap' HPop2 ho hbw hbs hcell hgl
      obtain ⟨va, vk, hn⟩ := HN.out w2 hbw2
      have c4 := hn.c4
      have HI := Lib.hid hn.kids
      rw [← HKs.out] at HI
      clear hn
      obtain ⟨ka, kc, rfl⟩ := RowAt.lenN HI.out
      go_wp2_with fail
      clear c4
      go_loopw [6, 8] (fun s6 s8 wr => ∃ (x : Int) (r : Nat), s8 = .int .i64 x ∧ x + 1 = (r : Int) ∧ r ≤ ks.length ∧ OwnI wr B s6 (st ++ (ks.drop r).reverse) ∧ Hid (∀ j, s6.ownBlock = some j → j ≠ g2) ∧ OwnI wr B (.slice (some ⟨g2, 0, none⟩) (out.length + 1) cap2) (out ++ [(cn : Int)]) ∧ Below B w wr ∧ B ≤ wr.heap.size ∧ g2 < wr.heap.size) (fun _ s8 _ => (RowKit.intOf s8 + 1).toNat)
      case atStart => exact ⟨(ks.length : Int) - 1, ks.length, by first | rfl | go_num, by omega, by omega, by simpa using hs2, Lib.hid (fun j h => by
        have : g = j := by simpa [Value.ownBlock] using h
        rw [← this]; exact fun e => hap2.out e.symm), ho2, hbw2, hbs2, hlt2⟩
      case round =>
        obtain ⟨x, r, rfl, hx, hrl, hs3, hap3, ho3, hbw3, hbs3, hlt3⟩ := hrel
        clear hs2 hap2 ho2 hbw2 hbs2 hlt2
        by_cases g1 : x < 0
        · obtain rfl : r = 0 := by omega
          rw [List.drop_zero] at hs3
          have HAp : Hid (Apart (.slice (some ⟨g2, 0, none⟩) (out.length + 1) cap2) _) := Lib.hid (fun j h e => by
            have : g2 = j := by simpa [Value.ownBlock] using h
            exact hap3.out j e this.symm)
          go_wp2_with fail
          go_roundw
          case rel => exact ⟨out ++ [(cn : Int)], st ++ ks.reverse, Lib.hid (by simp [slN]), ho3, hs3, HAp, HP, hbw3, hbs3⟩
          case measure => rw [hM.out]; simp [slN]; omega
        · obtain ⟨rn, rfl⟩ : ∃ rn : Nat, x = (rn : Int) := ⟨x.toNat, by omega⟩
          obtain rfl : r = rn + 1 := by omega
          have hrk : rn < ks.length := by omega
          obtain ⟨va3, vk3, hn3⟩ := HN.out _ hbw3
          have c4 := hn3.c4
          have HI3 := Lib.hid hn3.kids
          rw [← HKs.out] at HI3
          clear hn3
          obtain ⟨kb, ko, kcap, e, hkb⟩ := IntsAt.addr HI3.out (by omega)
          cases e
          have e0 := IntsAt.cellAt HI3.out rn hrk
          have HPu := Lib.hid (push_at ks rn hrk)
          have hlen3 : (st ++ (ks.drop (rn + 1)).reverse).length ≤ 400 := by
            have := HLe.out _ _ HP.out
            simp at this ⊢; omega
          generalize ks[rn] = y at *
          have HPv : Hid (st ++ (ks.drop rn).reverse = (st ++ (ks.drop (rn + 1)).reverse) ++ [y]) := Lib.hid (by rw [HPu.out, List.append_assoc])
          generalize st ++ (ks.drop (rn + 1)).reverse = st3 at *
          clear HPu
          go_wp2_with (at_builtin; refine wpList_append_lies _ rfl _ _ 39 rfl B 3 i0 _ 1 8 Tryz.underlying39 hi hz0 hz1 hz2 rfl (by decide) _ _ _ rfl (hs3.alloc _) ⟨wr.heap.size, 0, none⟩ 1 1 [.int .i64 y] rfl rfl ?_ ?_ (by decide) ?_ ?_ ?_ _ rfl ?_)
          all_goals first | exact cell_one_new _ _ _ | (show Value.oneCell' _ = true; rfl) | (intro u hu; simp at hu; subst hu; rfl) | (unfold maxLen; omega) | omega | (simp; omega) | skip
          intro g4 cap4 w4 hown4 hgrow4 hat4 hlt4
          have hs4 : OwnI w4 B (.slice (some ⟨g4, 0, none⟩) (st3.length + 1) cap4) (st ++ (ks.drop rn).reverse) := by
            unfold OwnI
            rw [HPv.out, intsV_app, List.length_append (bs := [y])]
            exact hown4
          have ho4 := (ho3.alloc (.cells #[.int .i64 y] 3)).kept hgrow4 (fun j h e => by
            have : g2 = j := by simpa [Value.ownBlock] using e
            exact hap3.out j h this.symm)
          have hap4 : Hid (∀ j, (Value.slice (some ⟨g4, 0, none⟩) (st3.length + 1) cap4).ownBlock = some j → j ≠ g2) := Lib.hid (fun j h => by
            have hj : g4 = j := by simpa [Value.ownBlock] using h
            rw [← hj]
            rcases hat4 with h | h
            · exact hap3.out g4 h
            · rw [h]; simp; omega)
          obtain ⟨hbw4, hbs4⟩ := grown_I hs3 hbw3 hbs3 _ hgrow4
          have hlt5 := hgrow4.size
          rw [World.size_alloc] at hlt5
          clear hown4 hgrow4 hat4 hs3 ho3 hap3 e0
          go_wp2_with fail
          go_roundw
          case rel => exact ⟨(rn : Int) - 1, rn, by first | rfl | go_num, by omega, by omega, hs4, hap4, ho4, hbw4, hbs4, by omega⟩
          case measure => first | (simp [RowKit.intOf]; done) | (simp [RowKit.intOf]; omega)
end Go.Proofs.YtkhlfggnjcbniaaGreatDoor.doc
