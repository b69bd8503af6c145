/- A part of the proofs: lemmas and contracts. -/
import Derived.Deep.AppendLies
import Derived.Test.YtkhlfggnjcbniaaGreatDoorP16
set_option maxHeartbeats 12800000
set_option maxRecDepth 1000000
namespace Go.Proofs.YtkhlfggnjcbniaaGreatDoor.doc
open Go.ChangeShapes Go.WideShapes Go.ChangeAt Go.RowKit Go.Lib atr link

theorem infoI : (Tryz.prog.info? 3).map (fun i => (i.zero, i.size, i.bytes)) = some (some (.int .i64 0), 1, 8) := by kernel_rfl
def intsV (ks : List Int) : List Value := ks.map (Value.int .i64)
theorem intsV_flat (ks : List Int) : ks.flatMap encI = intsV ks := by
 induction ks with
 | nil => rfl
 | cons x r ih => rw [List.flatMap_cons, ih]; rfl
theorem intsV_app (a b : List Int) : intsV (a ++ b) = intsV a ++ intsV b := by unfold intsV; rw [List.map_append]
theorem intsV_len (a : List Int) : (intsV a).length = a.length := by unfold intsV; rw [List.length_map]
theorem intsV_at (a : List Int) (j : Nat) (h : j < a.length) : (intsV a)[j]? = some (.int .i64 a[j]) := by unfold intsV; rw [List.getElem?_map, List.getElem?_eq_getElem h]; rfl
def slN : Value → Nat
 | .slice _ n _ => n
 | _ => 0
def OwnI (w : World) (B : Nat) (v : Value) (ks : List Int) : Prop := w.ownsRow B 3 1 v ks.length (intsV ks)
theorem OwnI.ints {w : World} {B : Nat} {v : Value} {ks : List Int} (h : OwnI w B v ks) : IntsAt w v ks := by
 unfold IntsAt
 rw [intsV_flat]
 exact RowAt.of_owns h

def Apart (a b : Value) : Prop := ∀ j, a.ownBlock = some j → b.ownBlock ≠ some j
theorem OwnI.kept {w w' : World} {B : Nat} {v : Value} {ks : List Int} (h : OwnI w B v ks) {a : Value} (hg : w.grownBy w' a.ownBlock) (ha : Apart a v) : OwnI w' B v ks := by
 refine World.ownsRow.kept h hg ?_
 cases hv : v.ownBlock with
 | none => exact .inl rfl
 | some j => exact .inr (fun e => ha j e.symm hv)
theorem OwnI.alloc {w : World} {B : Nat} {v : Value} {ks : List Int} (h : OwnI w B v ks) (o : Obj) : OwnI (w.alloc o) B v ks := World.ownsRow.alloc h o
theorem OwnI.form {w : World} {B : Nat} {v : Value} {ks : List Int} (h : OwnI w B v ks) (h0 : 0 < ks.length) : ∃ g cap, v = .slice (some ⟨g, 0, none⟩) ks.length cap ∧ ks.length ≤ cap ∧ g < w.heap.size := by
 rcases h.2 with ⟨_, h1⟩ | ⟨g, cap, cur, hv, hb, hg, hn, _⟩
 ·omega
 ·refine ⟨g, cap, hv, hn, ?_⟩
  rcases Nat.lt_or_ge g w.heap.size with hlt | hge
  ·exact hlt
  ·rw [Array.getElem?_eq_none hge] at hg; cases hg
theorem OwnI.nil (w : World) (B : Nat) : OwnI w B (.slice none 0 0) [] := World.ownsRow_nil _ _ _ _
theorem OwnI.lt {w : World} {B : Nat} {v : Value} {ks : List Int} (h : OwnI w B v ks) (j : Nat) (hj : v.ownBlock = some j) : B ≤ j ∧ j < w.heap.size := World.ownsRow.lt h j hj
theorem OwnI.pop {w : World} {B g cap n : Nat} {ks : List Int} {c : Int} (hn : n = ks.length) (h : OwnI w B (.slice (some ⟨g, 0, none⟩) (n + 1) cap) (ks ++ [c])) : OwnI w B (.slice (some ⟨g, 0, none⟩) n cap) ks := by
 subst hn
 unfold OwnI at h ⊢
 rw [intsV_app, show (ks ++ [c]).length = ks.length + 1 from by simp] at h
 exact ownsRow_pop (by rw [intsV_len]; omega) h
theorem OwnI.top {w : World} {B g cap n : Nat} {ks : List Int} {c : Int} (hn : n = ks.length) (h : OwnI w B (.slice (some ⟨g, 0, none⟩) (n + 1) cap) (ks ++ [c])) : w.cell? ⟨g, n, none⟩ = some (.int .i64 c) := by
 subst hn
 unfold OwnI at h
 rw [show (ks ++ [c]).length = ks.length + 1 from by simp] at h
 rw [World.ownsRow.cellAt h ks.length (by omega), intsV_at _ _ (by simp)]
 simp
theorem grown_I {w wr w1 : World} {B : Nat} {v : Value} {ks : List Int} (hown : OwnI wr B v ks) (hb : Below B w wr) (hbs : B ≤ wr.heap.size) (o : Obj) (hg : (wr.alloc o).grownBy w1 v.ownBlock) : Below B w w1 ∧ B ≤ w1.heap.size :=
 low_rel w wr w1 B _ _ _ _ o hown hb hbs hg
theorem rorder_any (v : Value) (l : List Nd) (hR : rightB l = true) (k : Nat) (hk : k < l.length) (w : World) (hA : NodesAt w v l) :
  Calls Tryz.prog 62 #[v, .int .i64 k] w fun e w' => ∃ v', e = .returned v' ∧ OwnI w' w.heap.size v' (ordP l (k : Int)) ∧ Below w.heap.size w w' := by
 obtain ⟨i0, hi, hz0, hz1, hz2⟩ := info_parts infoI
 have hRt := right_rt l hR
 have hf := hRt.few
 obtain ⟨b, off, cap, rfl, hb⟩ := nodes_addr hA (by omega)
 have HA := Lib.hid (fun w' (h : Below w.heap.size w w') => hA.below h)
 have hin : inR l (k : Int) := ⟨by omega, by omega⟩
 have HLe := Lib.hid (fun out st (h : St l (k : Int) out st) => h.le hRt hin)
 have HPop := Lib.hid (fun out st c (h : St l (k : Int) out (st ++ [c])) => h.pop hRt)
 have HSt := Lib.hid (St.start (l := l) (k : Int) hin)
 have HKids := Lib.hid (fun c (hc : inR l c) => (seen_le l _ (kids_nodup hRt c hc) (fun x hx => (hRt.kid c x hc hx).1)))
 clear hA hRt hR hin
 obtain ⟨B, hB⟩ : ∃ B, B = w.heap.size := ⟨_, rfl⟩
 have HB := Lib.hid hB
 rw [← hB] at hb HA ⊢
 clear hB
 go_enter Tryz.func62, Tryz.ntmps62
 go_wp2_with fail
 go_loopw [5, 6] (fun s5 s6 wr => ∃ (out st : List Int), Hid (slN s5 = out.length) ∧ OwnI wr B s5 out ∧ OwnI wr B s6 st ∧ Hid (Apart s5 s6) ∧ Hid (St l (k : Int) out st) ∧ Below B w wr ∧ B ≤ wr.heap.size) (fun s5 _ _ => 401 - slN s5)
 case atStart =>
  refine ⟨[], [(k : Int)], Lib.hid rfl, OwnI.nil _ _, ?_, Lib.hid (fun j h => by cases h), HSt, by rw [HB.out]; exact (Below.refl _ _).alloc (Nat.le_refl _) _, by rw [HB.out]; simp⟩
  have := World.ownsRow_lit (base := B) (e := 3) (size := 1) w #[.int .i64 (k : Int)] 1 (by rw [HB.out]; omega) (by decide) rfl
  exact this
 case round =>
  obtain ⟨out, st, hM, ho, hs, hap, hst, hbw, hbs⟩ := hrel
  rcases List.eq_nil_or_concat st with rfl | ⟨st, c, rfl⟩
  ·obtain ⟨sa, sc, rfl⟩ := RowAt.lenN hs.ints
   have HX : Hid (out = ordP l (k : Int)) := Lib.hid hst.out.done
   go_wp2_with fail
   go_ret
   exact ⟨_, rfl, by rw [← HX.out]; exact ho, hbw⟩
  ·rw [List.concat_eq_append] at *
   have hsl : (st ++ [c]).length = st.length + 1 := by simp
   obtain ⟨g, scap, rfl, hgc, hgl⟩ := hs.form (by rw [hsl]; omega)
   rw [hsl] at hs hap hgc ⊢
   have hcell := OwnI.top rfl hs
   have hpop := OwnI.pop rfl hs
   have hcin := hst.out.inr c (List.mem_append_right _ List.mem_cons_self)
   have hle := HLe.out _ _ hst.out
   rw [hsl] at hle
   have HP := Lib.hid (HPop.out _ _ _ hst.out)
   have hkl := HKids.out c hcin
   have hcin1 := hcin.1
   have hcin2 := hcin.2
   obtain ⟨cn, rfl⟩ : ∃ cn : Nat, c = (cn : Int) := ⟨c.toNat, by omega⟩
   have HN := Lib.hid (fun w' h => nodes_get (HA.out w' h) cn (by omega))
   obtain ⟨ks, hks⟩ : ∃ ks, ks = (nd l (cn : Int)).kids := ⟨_, rfl⟩
   rw [← hks] at HP hkl
   have HKs := Lib.hid hks
   have HPop2 := Lib.hid hpop
   have hap' : Hid (Apart _ (.slice (some ⟨g, 0, none⟩) st.length scap)) := Lib.hid (fun j h => hap.out j h)
   clear hks hcin hst hs hpop hap
   go_upto_region 6 with fail
   have hgc2 : st.length ≤ scap := by omega
   go_wp2_with (at_builtin; refine wpList_append_lies _ rfl _ _ 39 rfl B 3 i0 _ 1 8 Tryz.underlying39 hi hz0 hz1 hz2 rfl (by decide) _ _ _ rfl (ho.alloc _) ⟨wr.heap.size, 0, none⟩ 1 1 [.int .i64 (cn : Int)] rfl rfl ?q1 ?q2 (by decide) ?q3 ?q4 ?q5 _ rfl ?q6)
   case q1 => exact cell_one_new _ _ _
   case q2 => intro u hu; simp at hu; subst hu; rfl
   case q3 => unfold maxLen; omega
   case q4 => omega
   case q5 => simp; omega
   intro g2 cap2 w2 hown2 hgrow2 hat2 hlt2
   have ho2 : OwnI w2 B (.slice (some ⟨g2, 0, none⟩) (out.length + 1) cap2) (out ++ [(cn : Int)]) := by
    unfold OwnI
    rw [intsV_app, show (out ++ [(cn : Int)]).length = out.length + 1 from by simp]
    exact hown2
   have hs2 := (HPop2.out.alloc (.cells #[.int .i64 (cn : Int)] 3)).kept hgrow2 hap'.out
   have hap2 : Hid (g2 ≠ g) := Lib.hid (by
    rcases hat2 with h | h
    ·intro e
     rw [e] at h
     exact hap'.out g h rfl
    ·rw [h]; simp; omega)
   obtain ⟨hbw2, hbs2⟩ := grown_I ho hbw hbs _ hgrow2
   clear hown2 hgrow2 hat2 hap' HPop2 ho hbw hbs hcell hgl
   obtain ⟨va, vk, hn⟩ := HN.out w2 hbw2
   have c4 := hn.c4
   have HI := Lib.hid hn.kids
   rw [← HKs.out] at HI
   clear hn
   obtain ⟨ka, kc, rfl⟩ := RowAt.lenN HI.out
   go_wp2_with fail
   clear c4
   go_loopw [6, 8] (fun s6 s8 wr => ∃ (x : Int) (r : Nat), s8 = .int .i64 x ∧ x + 1 = (r : Int) ∧ r ≤ ks.length ∧ OwnI wr B s6 (st ++ (ks.drop r).reverse) ∧ Hid (∀ j, s6.ownBlock = some j → j ≠ g2) ∧ OwnI wr B (.slice (some ⟨g2, 0, none⟩) (out.length + 1) cap2) (out ++ [(cn : Int)]) ∧ Below B w wr ∧ B ≤ wr.heap.size ∧ g2 < wr.heap.size) (fun _ s8 _ => (RowKit.intOf s8 + 1).toNat)
   case atStart => exact ⟨(ks.length : Int) - 1, ks.length, by first | rfl | go_num, by omega, by omega, by simpa using hs2, Lib.hid (fun j h => by
    have : g = j := by simpa [Value.ownBlock] using h
    rw [← this]; exact fun e => hap2.out e.symm), ho2, hbw2, hbs2, hlt2⟩
   case round =>
    obtain ⟨x, r, rfl, hx, hrl, hs3, hap3, ho3, hbw3, hbs3, hlt3⟩ := hrel
    clear hs2 hap2 ho2 hbw2 hbs2 hlt2
    by_cases g1 : x < 0
    ·obtain rfl : r = 0 := by omega
     rw [List.drop_zero] at hs3
     have HAp : Hid (Apart (.slice (some ⟨g2, 0, none⟩) (out.length + 1) cap2) _) := Lib.hid (fun j h e => by
      have : g2 = j := by simpa [Value.ownBlock] using h
      exact hap3.out j e this.symm)
     go_wp2_with fail
     go_roundw
     case rel => exact ⟨out ++ [(cn : Int)], st ++ ks.reverse, Lib.hid (by simp [slN]), ho3, hs3, HAp, HP, hbw3, hbs3⟩
     case measure => rw [hM.out]; simp [slN]; omega
    ·obtain ⟨rn, rfl⟩ : ∃ rn : Nat, x = (rn : Int) := ⟨x.toNat, by omega⟩
     obtain rfl : r = rn + 1 := by omega
     have hrk : rn < ks.length := by omega
     obtain ⟨va3, vk3, hn3⟩ := HN.out _ hbw3
     have c4 := hn3.c4
     have HI3 := Lib.hid hn3.kids
     rw [← HKs.out] at HI3
     clear hn3
     obtain ⟨kb, ko, kcap, e, hkb⟩ := IntsAt.addr HI3.out (by omega)
     cases e
     have e0 := IntsAt.cellAt HI3.out rn hrk
     have HPu := Lib.hid (push_at ks rn hrk)
     have hlen3 : (st ++ (ks.drop (rn + 1)).reverse).length ≤ 400 := by
      have := HLe.out _ _ HP.out
      simp at this ⊢; omega
     generalize ks[rn] = y at *
     have HPv : Hid (st ++ (ks.drop rn).reverse = (st ++ (ks.drop (rn + 1)).reverse) ++ [y]) := Lib.hid (by rw [HPu.out, List.append_assoc])
     generalize st ++ (ks.drop (rn + 1)).reverse = st3 at *
     clear HPu
     go_wp2_with (at_builtin; refine wpList_append_lies _ rfl _ _ 39 rfl B 3 i0 _ 1 8 Tryz.underlying39 hi hz0 hz1 hz2 rfl (by decide) _ _ _ rfl (hs3.alloc _) ⟨wr.heap.size, 0, none⟩ 1 1 [.int .i64 y] rfl rfl ?_ ?_ (by decide) ?_ ?_ ?_ _ rfl ?_)
     all_goals first | exact cell_one_new _ _ _ | (show Value.oneCell' _ = true; rfl) | (intro u hu; simp at hu; subst hu; rfl) | (unfold maxLen; omega) | omega | (simp; omega) | skip
     intro g4 cap4 w4 hown4 hgrow4 hat4 hlt4
     have hs4 : OwnI w4 B (.slice (some ⟨g4, 0, none⟩) (st3.length + 1) cap4) (st ++ (ks.drop rn).reverse) := by
      unfold OwnI
      rw [HPv.out, intsV_app, List.length_append (bs := [y])]
      exact hown4
     have ho4 := (ho3.alloc (.cells #[.int .i64 y] 3)).kept hgrow4 (fun j h e => by
      have : g2 = j := by simpa [Value.ownBlock] using e
      exact hap3.out j h this.symm)
     have hap4 : Hid (∀ j, (Value.slice (some ⟨g4, 0, none⟩) (st3.length + 1) cap4).ownBlock = some j → j ≠ g2) := Lib.hid (fun j h => by
      have hj : g4 = j := by simpa [Value.ownBlock] using h
      rw [← hj]
      rcases hat4 with h | h
      ·exact hap3.out g4 h
      ·rw [h]; simp; omega)
     obtain ⟨hbw4, hbs4⟩ := grown_I hs3 hbw3 hbs3 _ hgrow4
     have hlt5 := hgrow4.size
     rw [World.size_alloc] at hlt5
     clear hown4 hgrow4 hat4 hs3 ho3 hap3 e0
     go_wp2_with fail
     go_roundw
     case rel => exact ⟨(rn : Int) - 1, rn, by first | rfl | go_num, by omega, by omega, hs4, hap4, ho4, hbw4, hbs4, by omega⟩
     case measure => first | (simp [RowKit.intOf]; done) | (simp [RowKit.intOf]; omega)

def ordT (l : List Nd) (k : Int) (i : Nat) : List Int := k :: ((nd l k).kids.take i).flatMap (ordP l)
theorem ordT_succ (l : List Nd) (k : Int) (i : Nat) (h : i < (nd l k).kids.length) : ordT l k (i + 1) = ordT l k i ++ ordP l ((nd l k).kids[i]) := by
 unfold ordT
 rw [List.take_succ_eq_append_getElem h, List.flatMap_append, List.cons_append]
 simp
theorem ordT_all {l : List Nd} (h : Rt l) (k : Int) (hk : inR l k) : ordT l k (nd l k).kids.length = ordP l k := by
 unfold ordT; rw [List.take_length, ord_eq h k hk]
theorem ordT_le {l : List Nd} (h : Rt l) (k : Int) (hk : inR l k) (i : Nat) (_hi : i ≤ (nd l k).kids.length) : (ordT l k i).length ≤ l.length := by
 refine Nat.le_trans ?_ (ord_le h k hk)
 rw [← ordT_all h k hk]
 unfold ordT
 rw [List.length_cons, List.length_cons, List.take_length]
 have : ((nd l k).kids.take i).flatMap (ordP l) <+: (nd l k).kids.flatMap (ordP l) := by
  conv => rhs; rw [← List.take_append_drop i (nd l k).kids, List.flatMap_append]
  exact List.prefix_append _ _
 have := this.length_le
 omega
def RetOwn (ks : List Int) (w : World) (e : Ending) (w' : World) : Prop := ∃ v', e = .returned v' ∧ OwnI w' w.heap.size v' ks ∧ Below w.heap.size w w'
theorem intsV_oneO (ks : List Int) : ∀ u ∈ intsV ks, u.oneCell' = true := by
 intro u hu
 unfold intsV at hu
 obtain ⟨x, _, rfl⟩ := List.mem_map.1 hu
 rfl
theorem torder_from (l : List Nd) (hR : rightB l = true) : ∀ (m : Nat) (v : Value) (k : Nat), k < l.length → l.length + 2 - dep l (k : Int) ≤ m → ∀ w, NodesAt w v l →
  Calls Tryz.prog 127 #[v, .int .i64 k] w (RetOwn (ordP l (k : Int)) w) := by
 intro m
 induction m with
 | zero =>
  intro v k hk hm
  have := dep_le l (k : Int)
  omega
 | succ m ih =>
 intro v k hk hm w hA
 obtain ⟨i0, hi, hz0, hz1, hz2⟩ := info_parts infoI
 have hRt := right_rt l hR
 have hf := hRt.few
 have hin : inR l (k : Int) := ⟨by omega, by omega⟩
 have HIh := Lib.hid (fun w' (j : Nat) (hj : j < (nd l (k : Int)).kids.length) (h : NodesAt w' v l) => by
  have hc := hRt.kid (k : Int) _ hin (List.getElem_mem hj)
  have hd := dep_kid hRt _ hc.1
  rw [hc.2] at hd
  have := ih v ((nd l (k : Int)).kids[j]).toNat (by have := hc.1.1; have := hc.1.2; omega) (by
   rw [show ((((nd l (k : Int)).kids[j]).toNat : Nat) : Int) = (nd l (k : Int)).kids[j] from by have := hc.1.1; omega]; omega) w' h
  rwa [show ((((nd l (k : Int)).kids[j]).toNat : Nat) : Int) = (nd l (k : Int)).kids[j] from by have := hc.1.1; omega] at this)
 have HPos := Lib.hid (fun (j : Nat) (hj : j < (nd l (k : Int)).kids.length) => ord_pos hRt _ (hRt.kid (k : Int) _ hin (List.getElem_mem hj)).1)
 have HLe := Lib.hid (fun (i : Nat) (h : i ≤ (nd l (k : Int)).kids.length) => ordT_le hRt (k : Int) hin i h)
 have HS := Lib.hid (fun (i : Nat) (h : i < (nd l (k : Int)).kids.length) => ordT_succ l (k : Int) i h)
 have HAll : Hid (ordT l (k : Int) (nd l (k : Int)).kids.length = ordP l (k : Int)) := Lib.hid (ordT_all hRt (k : Int) hin)
 have H0 : Hid (ordT l (k : Int) 0 = [(k : Int)]) := Lib.hid rfl
 have hkl : (nd l (k : Int)).kids.length ≤ 400 := Nat.le_trans (seen_le l _ (kids_nodup hRt _ hin) (fun x hx => (hRt.kid _ x hin hx).1)) hf
 obtain ⟨b, off, cap, rfl, hb⟩ := nodes_addr hA (by omega)
 have HA := Lib.hid (fun w' (h : Below w.heap.size w w') => hA.below h)
 obtain ⟨va, vk, hn⟩ := nodes_get hA k hk
 have c4 := hn.c4
 have HK := Lib.hid hn.kids
 obtain ⟨ka, kc, rfl⟩ := RowAt.lenN hn.kids
 obtain ⟨res, hres⟩ : ∃ r, r = ordP l (k : Int) := ⟨_, rfl⟩
 rw [← hres] at HAll ⊢
 obtain ⟨ks, hks⟩ : ∃ ks, ks = (nd l (k : Int)).kids := ⟨_, rfl⟩
 rw [← hks] at HK c4 hkl
 have HKs := Lib.hid hks
 obtain ⟨B, hB⟩ : ∃ B, B = w.heap.size := ⟨_, rfl⟩
 have HB := Lib.hid hB
 rw [← hB] at HA
 have hkin : (k : Int) < (l.length : Int) := hin.2
 clear hres hks hB hn hA ih hRt hR hin hm
 go_enter Tryz.func127, Tryz.ntmps127
 go_wp2_with fail
 go_loopw [5, 7, 16] (fun s5 _ s16 wr => ∃ i : Nat, s16 = .int .i64 i ∧ i ≤ ks.length ∧ OwnI wr B s5 (ordT l (k : Int) i) ∧ Below B w wr ∧ B ≤ wr.heap.size) (fun _ _ s16 _ => ks.length - (RowKit.intOf s16).toNat)
 case atStart =>
  refine ⟨0, rfl, by omega, ?_, by rw [HB.out]; exact (Below.refl _ _).alloc (Nat.le_refl _) _, by rw [HB.out]; simp⟩
  have := World.ownsRow_lit (base := B) (e := 3) (size := 1) w #[.int .i64 (k : Int)] 1 (by rw [HB.out]; omega) (by decide) rfl
  rw [H0.out]
  exact this
 case round =>
  obtain ⟨i, rfl, hile, ho, hbw, hbs⟩ := hrel
  by_cases hlt : i < ks.length
  ·obtain ⟨kb, ko, kcap, e, hkb⟩ := IntsAt.addr HK.out (by omega)
   cases e
   have e0 := cell_below (by rw [HB.out] at hbw; exact hbw) (IntsAt.cellAt HK.out i hlt)
   have hih := HIh.out wr i (by rw [← HKs.out]; exact hlt) (HA.out wr (by rw [HB.out] at hbw ⊢; exact hbw))
   have hpos := HPos.out i (by rw [← HKs.out]; exact hlt)
   have hle := HLe.out (i + 1) (by rw [← HKs.out]; omega)
   have hs := HS.out i (by rw [← HKs.out]; exact hlt)
   have hkk : (nd l (k : Int)).kids[i]'(by rw [← HKs.out]; exact hlt) = ks[i] := by simp only [HKs.out]
   rw [hkk] at hih hpos hs
   have HSt := Lib.hid hs
   rw [hs, List.length_append] at hle
   clear hs hkk
   generalize ks[i] = y at *
   generalize ordT l (k : Int) i = acc at *
   generalize ordP l y = oy at *
   go_wp2_with fail
   refine hih.mono ?_
   rintro e w2 ⟨v2, rfl, ho2, hb2⟩
   obtain ⟨g, scap, rfl, hgc, hgl⟩ := ho2.form (by omega)
   have hacc : OwnI w2 B _ acc := ownsRow_below ho hb2
   have hbw2 : Below B w w2 := hbw.trans (hb2.mono hbs)
   have hbs2 : B ≤ w2.heap.size := Nat.le_trans hbs hb2.size
   clear hih e0 ho hb2
   have HO2 := Lib.hid ho2
   clear ho2
   go_wp2_with (at_builtin; refine wpList_append_lies _ rfl _ _ 39 rfl B 3 i0 _ 1 8 Tryz.underlying39 hi hz0 hz1 hz2 rfl (by decide) _ _ _ rfl hacc ⟨g, 0, none⟩ oy.length scap (intsV oy) rfl ?q0 ?q1 ?q2 ?q3 ?q4 ?q5 ?q6 _ rfl ?q7)
   case q0 => rw [intsV_len, Nat.mul_one]
   case q1 =>
    intro j u hj
    have hj2 : j < oy.length := by
     rcases Nat.lt_or_ge j oy.length with h | h
     ·exact h
     ·rw [List.getElem?_eq_none (by rw [intsV_len]; exact h)] at hj; cases hj
    rw [Lib.add_plain, Nat.zero_add]
    exact (World.ownsRow.cellAt HO2.out j (by rw [Nat.mul_one] ; exact hj2)).trans hj
   case q2 => exact intsV_oneO oy
   case q3 => omega
   case q4 => unfold maxLen; omega
   case q5 => omega
   case q6 => exact hbs2
   intro g3 cap3 w3 hown3 hgrow3 _ _
   have ho3 : OwnI w3 B (.slice (some ⟨g3, 0, none⟩) (acc.length + oy.length) cap3) (ordT l (k : Int) (i + 1)) := by
    unfold OwnI
    rw [HSt.out, intsV_app, List.length_append]
    exact hown3
   have hbw3 : Below B w w3 := hbw2.grown hgrow3 hbs2 (fun j hj => (hacc.lt j hj).1)
   have hbs3 : B ≤ w3.heap.size := Nat.le_trans hbs2 hgrow3.size
   clear hown3 hgrow3 hacc HO2 HSt
   go_wp2_with fail
   go_roundw
   case rel => exact ⟨i + 1, by go_num, by omega, ho3, hbw3, hbs3⟩
   case measure => simp [RowKit.intOf]; omega
  ·obtain rfl : i = ks.length := by omega
   have HX : Hid (ordT l (k : Int) ks.length = res) := Lib.hid (by rw [HKs.out]; exact HAll.out)
   rw [HX.out] at ho
   go_wp2_with fail
   go_ret
   exact ⟨_, rfl, by rw [← HB.out]; exact ho, by rw [← HB.out]; exact hbw⟩
theorem torder_any (v : Value) (l : List Nd) (hR : rightB l = true) (k : Nat) (hk : k < l.length) (w : World) (hA : NodesAt w v l) :
  Calls Tryz.prog 127 #[v, .int .i64 k] w (RetOwn (ordP l (k : Int)) w) := torder_from l hR _ v k hk (Nat.le_refl _) w hA
theorem gorder_from (l : List Nd) (hR : rightB l = true) : ∀ (m : Nat) (v : Value) (k : Nat), k < l.length → l.length + 2 - dep l (k : Int) ≤ m → ∀ w, NodesAt w v l →
  Calls Tryz.prog 226 #[v, .int .i64 k] w (RetOwn (ordP l (k : Int)) w) := by
 intro m
 induction m with
 | zero =>
  intro v k hk hm
  have := dep_le l (k : Int)
  omega
 | succ m ih =>
 intro v k hk hm w hA
 obtain ⟨i0, hi, hz0, hz1, hz2⟩ := info_parts infoI
 have hRt := right_rt l hR
 have hf := hRt.few
 have hin : inR l (k : Int) := ⟨by omega, by omega⟩
 have HIh := Lib.hid (fun w' (j : Nat) (hj : j < (nd l (k : Int)).kids.length) (h : NodesAt w' v l) => by
  have hc := hRt.kid (k : Int) _ hin (List.getElem_mem hj)
  have hd := dep_kid hRt _ hc.1
  rw [hc.2] at hd
  have := ih v ((nd l (k : Int)).kids[j]).toNat (by have := hc.1.1; have := hc.1.2; omega) (by
   rw [show ((((nd l (k : Int)).kids[j]).toNat : Nat) : Int) = (nd l (k : Int)).kids[j] from by have := hc.1.1; omega]; omega) w' h
  rwa [show ((((nd l (k : Int)).kids[j]).toNat : Nat) : Int) = (nd l (k : Int)).kids[j] from by have := hc.1.1; omega] at this)
 have HPos := Lib.hid (fun (j : Nat) (hj : j < (nd l (k : Int)).kids.length) => ord_pos hRt _ (hRt.kid (k : Int) _ hin (List.getElem_mem hj)).1)
 have HLe := Lib.hid (fun (i : Nat) (h : i ≤ (nd l (k : Int)).kids.length) => ordT_le hRt (k : Int) hin i h)
 have HS := Lib.hid (fun (i : Nat) (h : i < (nd l (k : Int)).kids.length) => ordT_succ l (k : Int) i h)
 have HAll : Hid (ordT l (k : Int) (nd l (k : Int)).kids.length = ordP l (k : Int)) := Lib.hid (ordT_all hRt (k : Int) hin)
 have H0 : Hid (ordT l (k : Int) 0 = [(k : Int)]) := Lib.hid rfl
 have hkl : (nd l (k : Int)).kids.length ≤ 400 := Nat.le_trans (seen_le l _ (kids_nodup hRt _ hin) (fun x hx => (hRt.kid _ x hin hx).1)) hf
 obtain ⟨b, off, cap, rfl, hb⟩ := nodes_addr hA (by omega)
 have HA := Lib.hid (fun w' (h : Below w.heap.size w w') => hA.below h)
 obtain ⟨va, vk, hn⟩ := nodes_get hA k hk
 have c4 := hn.c4
 have HK := Lib.hid hn.kids
 obtain ⟨ka, kc, rfl⟩ := RowAt.lenN hn.kids
 obtain ⟨res, hres⟩ : ∃ r, r = ordP l (k : Int) := ⟨_, rfl⟩
 rw [← hres] at HAll ⊢
 obtain ⟨ks, hks⟩ : ∃ ks, ks = (nd l (k : Int)).kids := ⟨_, rfl⟩
 rw [← hks] at HK c4 hkl
 have HKs := Lib.hid hks
 obtain ⟨B, hB⟩ : ∃ B, B = w.heap.size := ⟨_, rfl⟩
 have HB := Lib.hid hB
 rw [← hB] at HA
 have hkin : (k : Int) < (l.length : Int) := hin.2
 clear hres hks hB hn hA ih hRt hR hin hm
 go_enter Tryz.func226, Tryz.ntmps226
 go_wp2_with fail
 go_loopw [5, 7, 16] (fun s5 _ s16 wr => ∃ i : Nat, s16 = .int .i64 i ∧ i ≤ ks.length ∧ OwnI wr B s5 (ordT l (k : Int) i) ∧ Below B w wr ∧ B ≤ wr.heap.size) (fun _ _ s16 _ => ks.length - (RowKit.intOf s16).toNat)
 case atStart =>
  refine ⟨0, rfl, by omega, ?_, by rw [HB.out]; exact (Below.refl _ _).alloc (Nat.le_refl _) _, by rw [HB.out]; simp⟩
  have := World.ownsRow_lit (base := B) (e := 3) (size := 1) w #[.int .i64 (k : Int)] 1 (by rw [HB.out]; omega) (by decide) rfl
  rw [H0.out]
  exact this
 case round =>
  obtain ⟨i, rfl, hile, ho, hbw, hbs⟩ := hrel
  by_cases hlt : i < ks.length
  ·obtain ⟨kb, ko, kcap, e, hkb⟩ := IntsAt.addr HK.out (by omega)
   cases e
   have e0 := cell_below (by rw [HB.out] at hbw; exact hbw) (IntsAt.cellAt HK.out i hlt)
   have hih := HIh.out wr i (by rw [← HKs.out]; exact hlt) (HA.out wr (by rw [HB.out] at hbw ⊢; exact hbw))
   have hpos := HPos.out i (by rw [← HKs.out]; exact hlt)
   have hle := HLe.out (i + 1) (by rw [← HKs.out]; omega)
   have hs := HS.out i (by rw [← HKs.out]; exact hlt)
   have hkk : (nd l (k : Int)).kids[i]'(by rw [← HKs.out]; exact hlt) = ks[i] := by simp only [HKs.out]
   rw [hkk] at hih hpos hs
   have HSt := Lib.hid hs
   rw [hs, List.length_append] at hle
   clear hs hkk
   generalize ks[i] = y at *
   generalize ordT l (k : Int) i = acc at *
   generalize ordP l y = oy at *
   go_wp2_with fail
   refine hih.mono ?_
   rintro e w2 ⟨v2, rfl, ho2, hb2⟩
   obtain ⟨g, scap, rfl, hgc, hgl⟩ := ho2.form (by omega)
   have hacc : OwnI w2 B _ acc := ownsRow_below ho hb2
   have hbw2 : Below B w w2 := hbw.trans (hb2.mono hbs)
   have hbs2 : B ≤ w2.heap.size := Nat.le_trans hbs hb2.size
   clear hih e0 ho hb2
   have HO2 := Lib.hid ho2
   clear ho2
   go_wp2_with (at_builtin; refine wpList_append_lies _ rfl _ _ 39 rfl B 3 i0 _ 1 8 Tryz.underlying39 hi hz0 hz1 hz2 rfl (by decide) _ _ _ rfl hacc ⟨g, 0, none⟩ oy.length scap (intsV oy) rfl ?q0 ?q1 ?q2 ?q3 ?q4 ?q5 ?q6 _ rfl ?q7)
   case q0 => rw [intsV_len, Nat.mul_one]
   case q1 =>
    intro j u hj
    have hj2 : j < oy.length := by
     rcases Nat.lt_or_ge j oy.length with h | h
     ·exact h
     ·rw [List.getElem?_eq_none (by rw [intsV_len]; exact h)] at hj; cases hj
    rw [Lib.add_plain, Nat.zero_add]
    exact (World.ownsRow.cellAt HO2.out j (by rw [Nat.mul_one] ; exact hj2)).trans hj
   case q2 => exact intsV_oneO oy
   case q3 => omega
   case q4 => unfold maxLen; omega
   case q5 => omega
   case q6 => exact hbs2
   intro g3 cap3 w3 hown3 hgrow3 _ _
   have ho3 : OwnI w3 B (.slice (some ⟨g3, 0, none⟩) (acc.length + oy.length) cap3) (ordT l (k : Int) (i + 1)) := by
    unfold OwnI
    rw [HSt.out, intsV_app, List.length_append]
    exact hown3
   have hbw3 : Below B w w3 := hbw2.grown hgrow3 hbs2 (fun j hj => (hacc.lt j hj).1)
   have hbs3 : B ≤ w3.heap.size := Nat.le_trans hbs2 hgrow3.size
   clear hown3 hgrow3 hacc HO2 HSt
   go_wp2_with fail
   go_roundw
   case rel => exact ⟨i + 1, by go_num, by omega, ho3, hbw3, hbs3⟩
   case measure => simp [RowKit.intOf]; omega
  ·obtain rfl : i = ks.length := by omega
   have HX : Hid (ordT l (k : Int) ks.length = res) := Lib.hid (by rw [HKs.out]; exact HAll.out)
   rw [HX.out] at ho
   go_wp2_with fail
   go_ret
   exact ⟨_, rfl, by rw [← HB.out]; exact ho, by rw [← HB.out]; exact hbw⟩
theorem gorder_any (v : Value) (l : List Nd) (hR : rightB l = true) (k : Nat) (hk : k < l.length) (w : World) (hA : NodesAt w v l) :
  Calls Tryz.prog 226 #[v, .int .i64 k] w (RetOwn (ordP l (k : Int)) w) := gorder_from l hR _ v k hk (Nat.le_refl _) w hA
end Go.Proofs.YtkhlfggnjcbniaaGreatDoor.doc
