/- Attributes found, letters made small: as ever, at greater bounds; the closures of this layer's searches. -/
import Derived.ChangeAlike
import Derived.Deep.MidRow
import Derived.Deep.SlicePairs
import Derived.Deep.Slices
import Derived.Laws.BytesArg
import Derived.Laws.IdiomStrings
import Derived.Lib.Hide
import Derived.Lib.ItoaMem
import Derived.OpenShut
import Derived.ProofKit
import Derived.RegionTactic
import Derived.Shelf.SlicesQ.IndexFunc
import Derived.WalkKit
import Derived.WalkSmall
import Derived.WalkSpells
import Derived.WideKeyArgs
import Derived.Test.YtkhgfngppcemlaaGreatDoorRows
import Derived.Test.YtkhgfngppcemlaaGreatDoorShelf
import Derived.Test.YtkhgfngppcemlaaGreatDoorP1
import Derived.Test.YtkhgfngppcemlaaGreatDoorP6
import Derived.Test.YtkhgfngppcemlaaGreatDoorP7
import Derived.Test.YtkhgfngppcemlaaGreatDoorP10
import Derived.Test.YtkhgfngppcemlaaGreatDoorP11
namespace Go.Proofs.YtkhgfngppcemlaaGreatDoor.doc
open Go.ChangeShapes Go.WideShapes Go.ChangeAt Go.RowKit Go.Lib Go.Proofs.YtkhgfngppcemlaaGreatDoor.atr Go.Proofs.YtkhgfngppcemlaaGreatDoor.link
set_option maxHeartbeats 1600000 in
set_option maxRecDepth 100000 in
theorem tlowerN_any (l : List UInt8) (hl : l.length ≤ 140737488355328) (w : World) :
    Calls Tryz.prog 203 #[.string ⟨l.toArray⟩] w fun e w' => e = .returned (.string ⟨(lowS l).toArray⟩) ∧ Below w.heap.size w w' := by
  have hcv := run_bytes_of_string (P := Tryz.prog) w 9 142 5 ⟨l.toArray⟩ Tryz.underlying9 Tryz.underlying142 Tryz.underlying5
  generalize grownCap w (⟨l.toArray⟩ : ByteArray).size 0 5 = cap at hcv
  have hnew := buf_new w l cap
  have hbel : Below w.heap.size w (w.drew.alloc (.cells (bytesRow ⟨l.toArray⟩ cap) 5 ((bytesRow ⟨l.toArray⟩ cap).size, (bytesRow ⟨l.toArray⟩ cap).size + 1))) := (Below.refl _ w).drew.alloc (Nat.le_refl _) _
  generalize (w.drew.alloc (.cells (bytesRow ⟨l.toArray⟩ cap) 5 ((bytesRow ⟨l.toArray⟩ cap).size, (bytesRow ⟨l.toArray⟩ cap).size + 1))) = w1 at *
  obtain ⟨B, hB⟩ : ∃ B, B = w.heap.size := ⟨_, rfl⟩
  rw [← hB] at hcv hnew hbel ⊢
  clear hB
  rw [bsize] at hcv
  go_enter Tryz.func203, Tryz.ntmps203
  go_wp2_with fail
  clear hcv
  go_loopw [10] (fun s wr => ∃ k : Nat, s = .int .i64 k ∧ k ≤ l.length ∧ Buf wr B (mixS l k) ∧ Below B w wr) (fun s _ => l.length - (RowKit.intOf s).toNat)
  case atStart => exact ⟨0, rfl, by omega, by simpa [mixS, lowS] using hnew, hbel⟩
  case round =>
    obtain ⟨k, rfl, hk, hbuf, hb⟩ := hrel
    clear hnew hbel
    by_cases hlt : k < l.length
    · obtain ⟨c, rest, hd1, hd2, hidx⟩ := Go.Proofs.YtkhgfngppcemlaaGreatDoor.link.byte_at l k hlt
      have hml := mix_len l k hk
      have hcell := buf_cell hbuf k _ (mix_at l k c rest hlt hd1)
      have hfr := buf_frozen hbuf k (by omega)
      have hlt8 := c.toNat_lt
      by_cases g : 65 ≤ c.toNat ∧ c.toNat ≤ 90
      · have hset := buf_set hbuf k (by omega) (.int .u8 (lowC c).toNat)
        rw [← mix_step l k c rest hlt hd1, lowC_in c g, show (c.toNat : Int) + 32 = (c.toNat : Int) + 97 - 65 from by omega] at hset
        have hbs := hb.setCell (p := ⟨B, k, none⟩) (Nat.le_refl _) (.int .u8 ((c.toNat : Int) + 97 - 65))
        obtain ⟨g1, g2⟩ := g
        clear hd1 hd2 hidx hbuf hb
        go_wp2_with fail
        go_roundw
        case rel => exact ⟨k + 1, by go_num, by omega, hset, hbs⟩
        case measure => simp [RowKit.intOf]; omega
      · have hsame := hbuf
        rw [← mix_same l k c rest hlt hd1 (lowC_out c g)] at hsame
        have g' := (show c.toNat < 65 ∨ (65 ≤ c.toNat ∧ 90 < c.toNat) by omega)
        clear hd1 hd2 hidx hbuf g
        rcases g' with g1 | ⟨g1, g2⟩
        · go_wp2_with fail
          go_roundw
          case rel => exact ⟨k + 1, by go_num, by omega, hsame, hb⟩
          case measure => simp [RowKit.intOf]; omega
        · go_wp2_with fail
          go_roundw
          case rel => exact ⟨k + 1, by go_num, by omega, hsame, hb⟩
          case measure => simp [RowKit.intOf]; omega
    · obtain rfl : k = l.length := by omega
      have hm : mixS l l.length = cellsOf (lowS l) := by simp [mixS]
      rw [hm] at hbuf
      have hcs := buf_string hbuf cap l.length (by simp [lowS])
      clear hbuf
      go_wp2_with fail
      go_ret
      exact ⟨rfl, hb⟩

theorem idxfN_any (g : Nat) (lb : Array Value) (eg : ∀ args w, (callFunc g args).run Tryz.prog w = .ok (.enter g args) w) (nm : List UInt8) (v : Value) (l : List Attr) (hl : l.length ≤ 140737488355328) (w : World) (hA : AttrsAt w v l)
    (hp : PredBelow Tryz.prog g lb (fun x => .agg (encA x).toArray) (fun x => decide (x.1 = nm)) w) :
    Calls Tryz.prog 294 #[v, .func (.func g) #[] lb] w fun e w' => e = .returned (.int .i64 (fint nm l)) ∧ Below w.heap.size w w' := by
  rcases hA with ⟨rfl, oa, cap, rfl⟩ | ⟨b, off, cap, rfl, h0, hb, hR⟩
  · exact (idxf_empty oa cap g lb w).mono fun e w' h => ⟨h.1, by rw [← h.2]; exact Below.refl _ _⟩
  · have h := AnyQ.slices_IndexFunc Tryz.laysg294 2 isAggA sizeA encA (fun _ => rfl) (fun x => decide (x.1 = nm)) g lb eg b off l.length cap l w hp (Nat.le_refl _) (by omega) hb (row_cells hR)
    rw [fint_idx] at h
    exact h

theorem pred_kattr (nm : List UInt8) (B : Nat) (w : World) (hB : B < w.heap.size) (hcell : w.cell? ⟨B, 0, none⟩ = some (.string ⟨nm.toArray⟩)) :
    PredBelow Tryz.prog 295 #[.pointer (some ⟨B, 0, none⟩)] (fun x => .agg (encA x).toArray) (fun x => decide (x.1 = nm)) w := fun W x hb => by
  have hc : W.cell? ⟨B, 0, none⟩ = some (.string ⟨nm.toArray⟩) := (hb.cell (p := ⟨B, 0, none⟩) hB).trans hcell
  have hBW : B < W.heap.size := Nat.lt_of_lt_of_le hB hb.size
  have hne : B ≠ W.heap.size := by omega
  obtain ⟨a, b⟩ := x
  show Calls Tryz.prog 295 #[.agg #[.string ⟨a.toArray⟩, .string ⟨b.toArray⟩], .pointer (some ⟨B, 0, none⟩)] W _
  have he := lst_eq a nm
  have HE := Lib.hid he
  clear he
  go_enter Tryz.func295, Tryz.ntmps295
  go_wp2_with fail
  go_ret
  exact ⟨by first | rfl | (rw [← HE.out]; rfl), hb.alloc hb.size _⟩

theorem pred_tfind (nm : List UInt8) (B : Nat) (w : World) (hB : B < w.heap.size) (hcell : w.cell? ⟨B, 0, none⟩ = some (.string ⟨nm.toArray⟩)) :
    PredBelow Tryz.prog 346 #[.pointer (some ⟨B, 0, none⟩)] (fun x => .agg (encA x).toArray) (fun x => decide (x.1 = nm)) w := fun W x hb => by
  have hc : W.cell? ⟨B, 0, none⟩ = some (.string ⟨nm.toArray⟩) := (hb.cell (p := ⟨B, 0, none⟩) hB).trans hcell
  have hBW : B < W.heap.size := Nat.lt_of_lt_of_le hB hb.size
  have hne : B ≠ W.heap.size := by omega
  obtain ⟨a, b⟩ := x
  show Calls Tryz.prog 346 #[.agg #[.string ⟨a.toArray⟩, .string ⟨b.toArray⟩], .pointer (some ⟨B, 0, none⟩)] W _
  have he := lst_eq a nm
  have HE := Lib.hid he
  clear he
  go_enter Tryz.func346, Tryz.ntmps346
  go_wp2_with fail
  go_ret
  exact ⟨by first | rfl | (rw [← HE.out]; rfl), hb.alloc hb.size _⟩

end Go.Proofs.YtkhgfngppcemlaaGreatDoor.doc
