/- The contract of text.Lower. -/
import Derived.Test.YtfmelhpegcpbiaaGreatDoorMa
namespace Go.Proofs.YtfmelhpegcpbiaaGreatDoor.link
open Go.ChangeShapes Go.WideShapes Go.ChangeAt Go.RowKit Go.Lib

/-- a block that holds the bytes of a text (a new []byte of a text; its mark lies behind its cells) -/
def Buf (w : World) (G : Nat) (cs : List Value) : Prop :=
  ∃ cur T, w.heap[G]? = some (.cells cur 5 (T, T + 1)) ∧ cur.size = T ∧ cur.toList.take cs.length = cs ∧ cs.length ≤ T

theorem buf_at {cur : Array Value} {cs : List Value} (h : cur.toList.take cs.length = cs) (k : Nat) (hk : k < cs.length) : cur[k]? = cs[k]? := by
  have e : (cur.toList.take cs.length)[k]? = cs[k]? := by rw [h]
  rw [List.getElem?_take, if_pos hk, Array.getElem?_toList] at e
  exact e

theorem buf_cell {w : World} {G : Nat} {cs : List Value} (h : Buf w G cs) (k : Nat) (v : Value) (hv : cs[k]? = some v) : w.cell? ⟨G, k, none⟩ = some v := by
  obtain ⟨cur, T, hh, hs, ht, hl⟩ := h
  have hk : k < cs.length := (List.getElem?_eq_some_iff.1 hv).1
  have := buf_at ht k hk
  simp [World.cell?, hh, this, hv]

theorem buf_frozen {w : World} {G : Nat} {cs : List Value} (h : Buf w G cs) (k : Nat) (hk : k < cs.length) : w.frozen? ⟨G, k, none⟩ = false := by
  obtain ⟨cur, T, hh, hs, ht, hl⟩ := h
  simp [World.frozen?, hh]
  omega

theorem buf_set {w : World} {G : Nat} {cs : List Value} (h : Buf w G cs) (k : Nat) (hk : k < cs.length) (v : Value) : Buf (w.setCell ⟨G, k, none⟩ v) G (cs.set k v) := by
  obtain ⟨cur, T, hh, hs, ht, hl⟩ := h
  have hG : G < w.heap.size := by
    rcases Array.getElem?_eq_some_iff.1 hh with ⟨h, _⟩
    exact h
  refine ⟨cur.setIfInBounds k v, T, ?_, by simp [hs], ?_, by simpa using hl⟩
  · simp [World.setCell, Array.getElem?_modify, hh]
  · rw [List.length_set]
    apply List.ext_getElem?
    intro j
    rw [List.getElem?_take, Array.getElem?_toList, Array.getElem?_setIfInBounds, List.getElem?_set]
    by_cases hj : j < cs.length
    · rw [if_pos hj]
      by_cases e : k = j
      · subst e; rw [if_pos rfl, if_pos rfl, if_pos (by omega), if_pos hk]
      · rw [if_neg e, if_neg e]; exact buf_at ht j hj
    · rw [if_neg hj, if_neg (by omega), List.getElem?_eq_none (by omega)]

theorem buf_new (w : World) (l : List UInt8) (cap : Nat) :
    Buf (w.drew.alloc (.cells (bytesRow ⟨l.toArray⟩ cap) 5 ((bytesRow ⟨l.toArray⟩ cap).size, (bytesRow ⟨l.toArray⟩ cap).size + 1))) w.heap.size (cellsOf l) := by
  refine ⟨bytesRow ⟨l.toArray⟩ cap, (bytesRow ⟨l.toArray⟩ cap).size, ?_, rfl, ?_, by simp [bytesRow, cellsOf]⟩
  · show (w.drew.heap.push _)[w.drew.heap.size]? = _
    simp only [Array.getElem?_push_size]
  · simp [bytesRow, cellsOf]

theorem buf_string {w : World} {G : Nat} {l : List UInt8} (h : Buf w G (cellsOf l)) (cap n : Nat) (hn : n = l.length) :
    (convert 88 9 (.slice (some ⟨G, 0, none⟩) n cap)).run Tryz.prog w = .ok (.string ⟨l.toArray⟩) w := by
  subst hn
  refine run_convert_bytes_back w _ _ 5 ⟨G, 0, none⟩ cap l Tryz.underlying88 Tryz.underlying5 Tryz.underlying9 ?_
  intro j hj
  rw [Addr.add_mid, Nat.zero_add]
  exact buf_cell h j _ (by simp [cellsOf, hj])

def mixS (l : List UInt8) (k : Nat) : List Value := cellsOf (lowS (l.take k) ++ l.drop k)
theorem mix_len (l : List UInt8) (k : Nat) (hk : k ≤ l.length) : (mixS l k).length = l.length := by simp [mixS, cellsOf, lowS]; omega
theorem mix_at (l : List UInt8) (k : Nat) (c : UInt8) (r : List UInt8) (hk : k < l.length) (h : l.drop k = c :: r) : (mixS l k)[k]? = some (.int .u8 c.toNat) := by
  unfold mixS cellsOf lowS
  rw [h, List.getElem?_map, List.getElem?_append_right (by simp; omega)]
  simp [Nat.min_eq_left (Nat.le_of_lt hk)]
theorem mix_step (l : List UInt8) (k : Nat) (c : UInt8) (r : List UInt8) (hk : k < l.length) (h : l.drop k = c :: r) : mixS l (k + 1) = (mixS l k).set k (.int .u8 (lowC c).toNat) := by
  have h1 : l.drop (k + 1) = r := by
    have := congrArg List.tail h
    rwa [List.tail_drop] at this
  have e : l[k] = c := by
    have := List.drop_eq_getElem_cons hk
    rw [h] at this
    exact (List.cons.inj this).1.symm
  unfold mixS
  rw [h, h1, List.take_succ_eq_append_getElem hk, e]
  simp only [cellsOf, lowS, List.map_append, List.map_cons, List.map_nil, List.append_assoc, List.cons_append, List.nil_append]
  rw [List.set_append_right _ _ (by simp; omega)]
  simp [Nat.min_eq_left (Nat.le_of_lt hk)]
theorem mix_same (l : List UInt8) (k : Nat) (c : UInt8) (r : List UInt8) (hk : k < l.length) (h : l.drop k = c :: r) (g : lowC c = c) : mixS l (k + 1) = mixS l k := by
  rw [mix_step l k c r hk h, g]
  exact List.ext_getElem? fun j => by
    rw [List.getElem?_set]
    by_cases e : k = j
    · subst e; rw [if_pos rfl, if_pos (by rw [mix_len l k (by omega)]; omega), mix_at l k c r hk h]
    · rw [if_neg e]

set_option maxHeartbeats 1600000 in
set_option maxRecDepth 100000 in
theorem tlower_any (l : List UInt8) (hl : l.length ≤ 1000000000) (w : World) :
    Calls Tryz.prog 70 #[.string ⟨l.toArray⟩] w fun e w' => e = .returned (.string ⟨(lowS l).toArray⟩) ∧ Below w.heap.size w w' := by
  have hcv := run_bytes_of_string (P := Tryz.prog) w 9 88 5 ⟨l.toArray⟩ Tryz.underlying9 Tryz.underlying88 Tryz.underlying5
  generalize grownCap w (⟨l.toArray⟩ : ByteArray).size 0 5 = cap at hcv
  have hnew := buf_new w l cap
  have hbel : Below w.heap.size w (w.drew.alloc (.cells (bytesRow ⟨l.toArray⟩ cap) 5 ((bytesRow ⟨l.toArray⟩ cap).size, (bytesRow ⟨l.toArray⟩ cap).size + 1))) := (Below.refl _ w).drew.alloc (Nat.le_refl _) _
  generalize (w.drew.alloc (.cells (bytesRow ⟨l.toArray⟩ cap) 5 ((bytesRow ⟨l.toArray⟩ cap).size, (bytesRow ⟨l.toArray⟩ cap).size + 1))) = w1 at *
  obtain ⟨B, hB⟩ : ∃ B, B = w.heap.size := ⟨_, rfl⟩
  rw [← hB] at hcv hnew hbel ⊢
  clear hB
  rw [bsize] at hcv
  go_enter Tryz.func70, Tryz.ntmps70
  go_wp2_with fail
  clear hcv
  go_loopw [10] (fun s wr => ∃ k : Nat, s = .int .i64 k ∧ k ≤ l.length ∧ Buf wr B (mixS l k) ∧ Below B w wr) (fun s _ => l.length - (RowKit.intOf s).toNat)
  case atStart => exact ⟨0, rfl, by omega, by simpa [mixS, lowS] using hnew, hbel⟩
  case round =>
    obtain ⟨k, rfl, hk, hbuf, hb⟩ := hrel
    clear hnew hbel
    by_cases hlt : k < l.length
    · obtain ⟨c, rest, hd1, hd2, hidx⟩ := byte_at l k hlt
      have hml := mix_len l k hk
      have hcell := buf_cell hbuf k _ (mix_at l k c rest hlt hd1)
      have hfr := buf_frozen hbuf k (by omega)
      have hlt8 := c.toNat_lt
      by_cases g : 65 ≤ c.toNat ∧ c.toNat ≤ 90
      · have hset := buf_set hbuf k (by omega) (.int .u8 (lowC c).toNat)
        rw [← mix_step l k c rest hlt hd1, lowC_in c g, show (c.toNat : Int) + 32 = (c.toNat : Int) + 97 - 65 from by omega] at hset
        have hbs := hb.setCell (p := ⟨B, k, none⟩) (Nat.le_refl _) (.int .u8 ((c.toNat : Int) + 97 - 65))
        obtain ⟨g1, g2⟩ := g
        clear hd1 hd2 hidx hbuf hb
        go_wp2_with fail
        go_roundw
        case rel => exact ⟨k + 1, by go_num, by omega, hset, hbs⟩
        case measure => simp [RowKit.intOf]; omega
      · have hsame := hbuf
        rw [← mix_same l k c rest hlt hd1 (lowC_out c g)] at hsame
        have g' := (show c.toNat < 65 ∨ (65 ≤ c.toNat ∧ 90 < c.toNat) by omega)
        clear hd1 hd2 hidx hbuf g
        rcases g' with g1 | ⟨g1, g2⟩
        · go_wp2_with fail
          go_roundw
          case rel => exact ⟨k + 1, by go_num, by omega, hsame, hb⟩
          case measure => simp [RowKit.intOf]; omega
        · go_wp2_with fail
          go_roundw
          case rel => exact ⟨k + 1, by go_num, by omega, hsame, hb⟩
          case measure => simp [RowKit.intOf]; omega
    · obtain rfl : k = l.length := by omega
      have hm : mixS l l.length = cellsOf (lowS l) := by simp [mixS]
      rw [hm] at hbuf
      have hcs := buf_string hbuf cap l.length (by simp [lowS])
      clear hbuf
      go_wp2_with fail
      go_ret
      exact ⟨rfl, hb⟩
end Go.Proofs.YtfmelhpegcpbiaaGreatDoor.link
