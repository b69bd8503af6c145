/- A part of the proofs: lemmas and contracts. -/
import Derived.Test.YtkhlfggnjcbniaaGreatDoorP11
set_option maxHeartbeats 12800000
set_option maxRecDepth 1000000
namespace Go.Proofs.YtkhlfggnjcbniaaGreatDoor.doc
open Go.ChangeShapes Go.WideShapes Go.ChangeAt Go.RowKit Go.Lib atr link

theorem rlowerN_any (l : List UInt8) (hl : l.length ≤ 140737488355328) (w : World) :
  Calls Tryz.prog 54 #[.string ⟨l.toArray⟩] w fun e w' => e = .returned (.string ⟨(lowS l).toArray⟩) ∧ Below w.heap.size w w' := by
 obtain ⟨i0, hi, hz0, hz1, hz2⟩ := info_parts infoU8
 obtain ⟨B, hB⟩ : ∃ B, B = w.heap.size := ⟨_, rfl⟩
 rw [← hB]
 have HB := Lib.hid hB
 clear hB
 go_enter Tryz.func54, Tryz.ntmps54
 go_wp2_with fail
 go_loopw [3, 4] (fun v i wr => ∃ k : Nat, k ≤ l.length ∧ i = .int .i64 k ∧ wr.ownsRow B 5 1 v k (cellsOf (lowS (l.take k))) ∧ Below B w wr ∧ B ≤ wr.heap.size) (fun _ i _ => l.length - (RowKit.intOf i).toNat)
 case atStart => exact ⟨0, by omega, rfl, World.ownsRow_nil _ _ _ _, by rw [HB.out]; exact Below.refl _ _, by rw [HB.out]; omega⟩
 case round =>
  obtain ⟨k, hk, rfl, hown, hb, hbs⟩ := hrel
  by_cases hlt : k < l.length
  ·obtain ⟨c, rest, hd1, hd2, hidx⟩ := Go.Proofs.YtkhlfggnjcbniaaGreatDoor.link.byte_at l k hlt
   have HS := Lib.hid (low_step l k c rest hd1)
   have hlt8 := c.toNat_lt
   clear hd1 hd2
   by_cases g : 65 ≤ c.toNat ∧ c.toNat ≤ 90
   ·have HL := Lib.hid (lowC_in c g)
    obtain ⟨g1, g2⟩ := g
    go_wp2_with (first
     | (at_builtin; refine wpList_append_own _ rfl _ _ 106 rfl B 5 i0 (.int .u8 0) 1 1 Tryz.underlying106 hi hz0 hz1 hz2 rfl (by decide) _ _ _ rfl (hown.alloc _) ⟨wr.heap.size, 0, none⟩ 1 1 [.int .u8 ((c.toNat : Int) + 32)] rfl rfl ?c1 ?c2 ?c3 ?c4 ?c5 ?_)
     | go_in)
    case c1 => exact cell_one_new _ _ _
    case c2 => intro u hu; simp at hu; subst hu; rfl
    case c3 => unfold maxLen; omega
    case c4 => omega
    case c5 => simp; omega
    ·intro v' w1 hown' hgrow _
     have hr := low_rel w wr w1 B _ _ k _ _ hown hb hbs hgrow
     have ho2 : w1.ownsRow B 5 1 v' (k + 1) (cellsOf (lowS (l.take (k + 1)))) := by rw [HS.out, HL.out]; exact hown'
     clear hown' hgrow hown
     go_wp2_with fail
     go_roundw
     case rel => exact ⟨k + 1, by omega, by go_num, ho2, hr.1, hr.2⟩
     case measure => simp [RowKit.intOf]; omega
   ·have HL := Lib.hid (lowC_out c g)
    rcases (show c.toNat < 65 ∨ (65 ≤ c.toNat ∧ 90 < c.toNat) by omega) with g1 | ⟨g1, g2⟩
    all_goals
     clear g
     go_wp2_with (first
      | (at_builtin; refine wpList_append_own _ rfl _ _ 106 rfl B 5 i0 (.int .u8 0) 1 1 Tryz.underlying106 hi hz0 hz1 hz2 rfl (by decide) _ _ _ rfl (hown.alloc _) ⟨wr.heap.size, 0, none⟩ 1 1 [.int .u8 (c.toNat : Int)] rfl rfl ?_ ?_ ?_ ?_ ?_ ?_)
      | go_in)
     all_goals first | exact cell_one_new _ _ _ | (show Value.oneCell' _ = true; rfl) | (intro u hu; simp at hu; subst hu; rfl) | (unfold maxLen; omega) | omega | (simp; omega) | skip
     intro v' w1 hown' hgrow _
     have hr := low_rel w wr w1 B _ _ k _ _ hown hb hbs hgrow
     have ho2 : w1.ownsRow B 5 1 v' (k + 1) (cellsOf (lowS (l.take (k + 1)))) := by rw [HS.out, HL.out]; exact hown'
     clear hown' hgrow hown
     go_wp2_with fail
     go_roundw
     case rel => exact ⟨k + 1, by omega, by go_num, ho2, hr.1, hr.2⟩
     case measure => simp [RowKit.intOf]; omega
  ·obtain rfl : k = l.length := by omega
   rw [List.take_length] at hown
   have hcv := own_string wr B _ (lowS l) l.length (by simp [lowS]) hown
   clear hown
   go_wp2_with fail
   go_ret
   exact ⟨rfl, hb⟩

theorem tlowerN_any (l : List UInt8) (hl : l.length ≤ 140737488355328) (w : World) :
  Calls Tryz.prog 66 #[.string ⟨l.toArray⟩] w fun e w' => e = .returned (.string ⟨(lowS l).toArray⟩) ∧ Below w.heap.size w w' := by
 have hcv := run_bytes_of_string (P := Tryz.prog) w 9 106 5 ⟨l.toArray⟩ Tryz.underlying9 Tryz.underlying106 Tryz.underlying5
 generalize grownCap w (⟨l.toArray⟩ : ByteArray).size 0 5 = cap at hcv
 have hnew := buf_new w l cap
 have hbel : Below w.heap.size w (w.drew.alloc (.cells (bytesRow ⟨l.toArray⟩ cap) 5 ((bytesRow ⟨l.toArray⟩ cap).size, (bytesRow ⟨l.toArray⟩ cap).size + 1))) := (Below.refl _ w).drew.alloc (Nat.le_refl _) _
 generalize (w.drew.alloc (.cells (bytesRow ⟨l.toArray⟩ cap) 5 ((bytesRow ⟨l.toArray⟩ cap).size, (bytesRow ⟨l.toArray⟩ cap).size + 1))) = w1 at *
 obtain ⟨B, hB⟩ : ∃ B, B = w.heap.size := ⟨_, rfl⟩
 rw [← hB] at hcv hnew hbel ⊢
 clear hB
 rw [bsize] at hcv
 go_enter Tryz.func66, Tryz.ntmps66
 go_wp2_with fail
 clear hcv
 go_loopw [10] (fun s wr => ∃ k : Nat, s = .int .i64 k ∧ k ≤ l.length ∧ Buf wr B (mixS l k) ∧ Below B w wr) (fun s _ => l.length - (RowKit.intOf s).toNat)
 case atStart => exact ⟨0, rfl, by omega, by simpa [mixS, lowS] using hnew, hbel⟩
 case round =>
  obtain ⟨k, rfl, hk, hbuf, hb⟩ := hrel
  clear hnew hbel
  by_cases hlt : k < l.length
  ·obtain ⟨c, rest, hd1, hd2, hidx⟩ := Go.Proofs.YtkhlfggnjcbniaaGreatDoor.link.byte_at l k hlt
   have hml := mix_len l k hk
   have hcell := buf_cell hbuf k _ (mix_at l k c rest hlt hd1)
   have hfr := buf_frozen hbuf k (by omega)
   have hlt8 := c.toNat_lt
   by_cases g : 65 ≤ c.toNat ∧ c.toNat ≤ 90
   ·have hset := buf_set hbuf k (by omega) (.int .u8 (lowC c).toNat)
    rw [← mix_step l k c rest hlt hd1, lowC_in c g, show (c.toNat : Int) + 32 = (c.toNat : Int) + 97 - 65 from by omega] at hset
    have hbs := hb.setCell (p := ⟨B, k, none⟩) (Nat.le_refl _) (.int .u8 ((c.toNat : Int) + 97 - 65))
    obtain ⟨g1, g2⟩ := g
    clear hd1 hd2 hidx hbuf hb
    go_wp2_with fail
    go_roundw
    case rel => exact ⟨k + 1, by go_num, by omega, hset, hbs⟩
    case measure => simp [RowKit.intOf]; omega
   ·have hsame := hbuf
    rw [← mix_same l k c rest hlt hd1 (lowC_out c g)] at hsame
    have g' := (show c.toNat < 65 ∨ (65 ≤ c.toNat ∧ 90 < c.toNat) by omega)
    clear hd1 hd2 hidx hbuf g
    rcases g' with g1 | ⟨g1, g2⟩
    ·go_wp2_with fail
     go_roundw
     case rel => exact ⟨k + 1, by go_num, by omega, hsame, hb⟩
     case measure => simp [RowKit.intOf]; omega
    ·go_wp2_with fail
     go_roundw
     case rel => exact ⟨k + 1, by go_num, by omega, hsame, hb⟩
     case measure => simp [RowKit.intOf]; omega
  ·obtain rfl : k = l.length := by omega
   have hm : mixS l l.length = cellsOf (lowS l) := by simp [mixS]
   rw [hm] at hbuf
   have hcs := buf_string hbuf cap l.length (by simp [lowS])
   clear hbuf
   go_wp2_with fail
   go_ret
   exact ⟨rfl, hb⟩

theorem rfindN_any (v : Value) (l : List Attr) (nm : List UInt8) (hl : l.length ≤ 140737488355328) (w : World) (hA : AttrsAt w v l) :
  Calls Tryz.prog 53 #[v, .string ⟨nm.toArray⟩] w fun e w' => e = .returned (.int .i64 (fint nm l)) ∧ w = w' := by
 have hw := fint_ways nm l
 generalize fint nm l = r at *
 have HW := Lib.hid hw
 clear hw
 rcases hA with ⟨rfl, oa, cap, rfl⟩ | ⟨b, off, cap, rfl, h0, hb, hR⟩
 ·have HX : Hid (r = -1) := Lib.hid (by
   rcases HW.out with ⟨k, h, _⟩ | ⟨h, _⟩
   ·exact absurd h (Nat.not_lt_zero _)
   ·exact h)
  clear HW
  go_enter Tryz.func53, Tryz.ntmps53
  go_wp2_with fail
  go_loopw [5] (fun s5 wr => s5 = .int .i64 0 ∧ w = wr) (fun _ _ => 0)
  case atStart => exact ⟨rfl, rfl⟩
  case round =>
   obtain ⟨rfl, rfl⟩ := hrel
   go_wp2_with fail
   go_ret
   exact ⟨aret_int HX.out.symm, rfl⟩
 ·go_enter Tryz.func53, Tryz.ntmps53
  go_wp2_with fail
  go_loopw [5] (fun s5 wr => ∃ k : Nat, s5 = .int .i64 k ∧ k ≤ l.length ∧ Hid (∀ j (hj : j < k) (hl : j < l.length), l[j].1 ≠ nm) ∧ w = wr) (fun s5 _ => (140737488355329 - RowKit.intOf s5).toNat)
  case atStart => exact ⟨0, rfl, by omega, Lib.hid (fun j hj => absurd hj (Nat.not_lt_zero _)), rfl⟩
  case round =>
   obtain ⟨k, rfl, hk, hn, rfl⟩ := hrel
   by_cases hlt : k < l.length
   ·obtain ⟨c1, c2⟩ := hR k hlt
    have he := lst_eq l[k].1 nm
    by_cases hq : l[k].1 = nm
    ·have HX : Hid (r = k) := Lib.hid (by
      rcases HW.out with ⟨j, h, h1, h2, h3, _⟩ | ⟨_, h, _⟩
      ·have : j = k := by
        rcases Nat.lt_trichotomy j k with g | g | g
        ·exact absurd h2 (hn.out j g h)
        ·exact g
        ·exact absurd hq (h3 k g)
       rw [h1, this]
      ·exact absurd hq (h k hlt))
     rw [decide_eq_true hq] at he
     generalize l[k].1 = x at *
     generalize l[k].2 = y at *
     clear hn hq
     go_wp2_with fail
     go_ret
     exact ⟨aret_int HX.out.symm, rfl⟩
    ·have HX : Hid (∀ j (hj : j < k + 1) (hl : j < l.length), l[j].1 ≠ nm) := Lib.hid (by
      intro j hj hl
      rcases Nat.lt_or_ge j k with g | g
      ·exact hn.out j g hl
      ·have : j = k := by omega
       subst this; exact hq)
     rw [decide_eq_false hq] at he
     generalize l[k].1 = x at *
     generalize l[k].2 = y at *
     clear hn hq
     go_wp2_with fail
     go_roundw
     case rel => exact ⟨k + 1, rfl, by omega, HX, by first | rfl | trivial⟩
     case measure => simp [RowKit.intOf]; omega
   ·have HX : Hid (r = -1) := Lib.hid (by
     rcases HW.out with ⟨j, h, h1, h2, _⟩ | ⟨h, _⟩
     ·exact absurd h2 (hn.out j (by omega) h)
     ·exact h)
    clear hn
    go_wp2_with fail
    go_ret
    exact ⟨aret_int HX.out.symm, rfl⟩

theorem idxfN_any (g : Nat) (lb : Array Value) (eg : ∀ args w, (callFunc g args).run Tryz.prog w = .ok (.enter g args) w) (nm : List UInt8) (v : Value) (l : List Attr) (hl : l.length ≤ 140737488355328) (w : World) (hA : AttrsAt w v l)
  (hp : PredBelow Tryz.prog g lb (fun x => .agg (encA x).toArray) (fun x => decide (x.1 = nm)) w) :
  Calls Tryz.prog 133 #[v, .func (.func g) #[] lb] w fun e w' => e = .returned (.int .i64 (fint nm l)) ∧ Below w.heap.size w w' := by
 rcases hA with ⟨rfl, oa, cap, rfl⟩ | ⟨b, off, cap, rfl, h0, hb, hR⟩
 ·exact (idxf_empty oa cap g lb w).mono fun e w' h => ⟨h.1, by rw [← h.2]; exact Below.refl _ _⟩
 ·have h := AnyQ.slices_IndexFunc Tryz.laysg133 2 isAggA sizeA encA (fun _ => rfl) (fun x => decide (x.1 = nm)) g lb eg b off l.length cap l w hp (Nat.le_refl _) (by omega) hb (row_cells hR)
  rw [fint_idx] at h
  exact h

theorem any_isSome (nm : List UInt8) (l : List Attr) : l.any (fun x => decide (x.1 = nm)) = (fval nm l).isSome := by
 induction l with
 | nil => rfl
 | cons a r ih =>
  rw [List.any_cons, fval, ih]
  by_cases h : a.1 = nm
  ·rw [if_pos h, decide_eq_true h]; rfl
  ·rw [if_neg h, decide_eq_false h]; rfl
theorem contf_empty (oa : Option Addr) (cap : Nat) (g : Nat) (lb : Array Value) (w : World) :
  Calls Tryz.prog 139 #[.slice oa 0 cap, .func (.func g) #[] lb] w fun e w' => e = .returned (.bool false) ∧ w = w' := by
 have h := fun w => idxf_empty oa cap g lb w
 go_enter Tryz.func139, Tryz.ntmps139
 go_wp2_with fail
 refine (h _).mono ?_
 rintro e w' ⟨rfl, rfl⟩
 go_wp2_with fail
 go_ret
 exact ⟨rfl, rfl⟩
theorem contf_any (g : Nat) (lb : Array Value) (eg : ∀ args w, (callFunc g args).run Tryz.prog w = .ok (.enter g args) w) (nm : List UInt8) (v : Value) (l : List Attr) (hl : l.length ≤ 140737488355328) (w : World) (hA : AttrsAt w v l)
  (hp : PredBelow Tryz.prog g lb (fun x => .agg (encA x).toArray) (fun x => decide (x.1 = nm)) w) :
  Calls Tryz.prog 139 #[v, .func (.func g) #[] lb] w fun e w' => e = .returned (.bool (fval nm l).isSome) ∧ Below w.heap.size w w' := by
 rcases hA with ⟨rfl, oa, cap, rfl⟩ | ⟨b, off, cap, rfl, h0, hb, hR⟩
 ·exact (contf_empty oa cap g lb w).mono fun e w' h => ⟨h.1, by rw [← h.2]; exact Below.refl _ _⟩
 ·have h := AnyQ.slices_ContainsFunc Tryz.laysg139 2 isAggA sizeA encA (fun _ => rfl) (fun x => decide (x.1 = nm)) g lb eg b off l.length cap l w hp (Nat.le_refl _) (by omega) hb (row_cells hR)
  rw [List.take_length, any_isSome] at h
  exact h

theorem pred_has (nm : List UInt8) (B : Nat) (w : World) (hB : B < w.heap.size) (hcell : w.cell? ⟨B, 0, none⟩ = some (.string ⟨nm.toArray⟩)) :
  PredBelow Tryz.prog 323 #[.pointer (some ⟨B, 0, none⟩)] (fun x => .agg (encA x).toArray) (fun x => decide (x.1 = nm)) w := fun W x hb => by
 have hc : W.cell? ⟨B, 0, none⟩ = some (.string ⟨nm.toArray⟩) := (hb.cell (p := ⟨B, 0, none⟩) hB).trans hcell
 have hBW : B < W.heap.size := Nat.lt_of_lt_of_le hB hb.size
 have hne : B ≠ W.heap.size := by omega
 obtain ⟨a, b⟩ := x
 show Calls Tryz.prog 323 #[.agg #[.string ⟨a.toArray⟩, .string ⟨b.toArray⟩], .pointer (some ⟨B, 0, none⟩)] W _
 have he := lst_eq a nm
 have HE := Lib.hid he
 clear he
 go_enter Tryz.func323, Tryz.ntmps323
 go_wp2_with fail
 go_ret
 exact ⟨by first | rfl | (rw [← HE.out]; rfl), hb.alloc hb.size _⟩

theorem pred_kattr (nm : List UInt8) (B : Nat) (w : World) (hB : B < w.heap.size) (hcell : w.cell? ⟨B, 0, none⟩ = some (.string ⟨nm.toArray⟩)) :
  PredBelow Tryz.prog 134 #[.pointer (some ⟨B, 0, none⟩)] (fun x => .agg (encA x).toArray) (fun x => decide (x.1 = nm)) w := fun W x hb => by
 have hc : W.cell? ⟨B, 0, none⟩ = some (.string ⟨nm.toArray⟩) := (hb.cell (p := ⟨B, 0, none⟩) hB).trans hcell
 have hBW : B < W.heap.size := Nat.lt_of_lt_of_le hB hb.size
 have hne : B ≠ W.heap.size := by omega
 obtain ⟨a, b⟩ := x
 show Calls Tryz.prog 134 #[.agg #[.string ⟨a.toArray⟩, .string ⟨b.toArray⟩], .pointer (some ⟨B, 0, none⟩)] W _
 have he := lst_eq a nm
 have HE := Lib.hid he
 clear he
 go_enter Tryz.func134, Tryz.ntmps134
 go_wp2_with fail
 go_ret
 exact ⟨by first | rfl | (rw [← HE.out]; rfl), hb.alloc hb.size _⟩

theorem pred_tfind (nm : List UInt8) (B : Nat) (w : World) (hB : B < w.heap.size) (hcell : w.cell? ⟨B, 0, none⟩ = some (.string ⟨nm.toArray⟩)) :
  PredBelow Tryz.prog 218 #[.pointer (some ⟨B, 0, none⟩)] (fun x => .agg (encA x).toArray) (fun x => decide (x.1 = nm)) w := fun W x hb => by
 have hc : W.cell? ⟨B, 0, none⟩ = some (.string ⟨nm.toArray⟩) := (hb.cell (p := ⟨B, 0, none⟩) hB).trans hcell
 have hBW : B < W.heap.size := Nat.lt_of_lt_of_le hB hb.size
 have hne : B ≠ W.heap.size := by omega
 obtain ⟨a, b⟩ := x
 show Calls Tryz.prog 218 #[.agg #[.string ⟨a.toArray⟩, .string ⟨b.toArray⟩], .pointer (some ⟨B, 0, none⟩)] W _
 have he := lst_eq a nm
 have HE := Lib.hid he
 clear he
 go_enter Tryz.func218, Tryz.ntmps218
 go_wp2_with fail
 go_ret
 exact ⟨by first | rfl | (rw [← HE.out]; rfl), hb.alloc hb.size _⟩

theorem pred_value (w : World) :
  PredBelow Tryz.prog 223 #[] (fun x => .agg (encA x).toArray) (fun x => decide (x.1 = nValue)) w := fun W x hb => by
 obtain ⟨a, b⟩ := x
 show Calls Tryz.prog 223 #[.agg #[.string ⟨a.toArray⟩, .string ⟨b.toArray⟩]] W _
 have he := lst_eq a nValue
 have HE := Lib.hid he
 clear he
 go_enter Tryz.func223, Tryz.ntmps223
 go_wp2_with fail
 go_ret
 exact ⟨by first | rfl | (rw [← HE.out]; rfl), hb.alloc hb.size _⟩

theorem pred_size (w : World) :
  PredBelow Tryz.prog 283 #[] (fun x => .agg (encA x).toArray) (fun x => decide (x.1 = nSize)) w := fun W x hb => by
 obtain ⟨a, b⟩ := x
 show Calls Tryz.prog 283 #[.agg #[.string ⟨a.toArray⟩, .string ⟨b.toArray⟩]] W _
 have he := lst_eq a nSize
 have HE := Lib.hid he
 clear he
 go_enter Tryz.func283, Tryz.ntmps283
 go_wp2_with fail
 go_ret
 exact ⟨by first | rfl | (rw [← HE.out]; rfl), hb.alloc hb.size _⟩

end Go.Proofs.YtkhlfggnjcbniaaGreatDoor.doc
