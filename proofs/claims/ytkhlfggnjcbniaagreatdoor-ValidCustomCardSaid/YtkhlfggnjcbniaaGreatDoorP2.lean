/- A part of the proofs: lemmas and contracts. -/
import Derived.Deep.MidRow
import Derived.WalkSpells
import Derived.Test.YtkhlfggnjcbniaaGreatDoorP1
set_option maxHeartbeats 12800000
set_option maxRecDepth 1000000
namespace Go.Proofs.YtkhlfggnjcbniaaGreatDoor.link
open Go.ChangeShapes Go.WideShapes Go.ChangeAt Go.RowKit Go.Lib

def lowC (c : UInt8) : UInt8 := if 65 ≤ c.toNat ∧ c.toNat ≤ 90 then c + 32 else c
def lowS (l : List UInt8) : List UInt8 := l.map lowC
def cellsOf (l : List UInt8) : List Value := l.map fun c => Value.int .u8 c.toNat
theorem lowC_in (c : UInt8) (h : 65 ≤ c.toNat ∧ c.toNat ≤ 90) : ((lowC c).toNat : Int) = (c.toNat : Int) + 32 := by
 unfold lowC
 rw [if_pos h, UInt8.toNat_add]
 have : (32 : UInt8).toNat = 32 := rfl
 rw [this]
 have := c.toNat_lt
 omega
theorem lowC_out (c : UInt8) (h : ¬ (65 ≤ c.toNat ∧ c.toNat ≤ 90)) : lowC c = c := if_neg h
theorem low_step (l : List UInt8) (k : Nat) (c : UInt8) (r : List UInt8) (h : l.drop k = c :: r) : cellsOf (lowS (l.take (k + 1))) = cellsOf (lowS (l.take k)) ++ [.int .u8 (lowC c).toNat] := by
 have hk : k < l.length := by
  have := congrArg List.length h
  simp at this; omega
 have e : l[k] = c := by
  have := List.drop_eq_getElem_cons hk
  rw [h] at this
  exact (List.cons.inj this).1.symm
 rw [List.take_succ_eq_append_getElem hk, e]
 simp [cellsOf, lowS]

theorem own_string (w : World) (base : Nat) (v : Value) (l : List UInt8) (n : Nat) (hn : n = l.length) (h : w.ownsRow base 5 1 v n (cellsOf l)) :
  (convert 106 9 v).run Tryz.prog w = .ok (.string ⟨l.toArray⟩) w := by
 subst hn
 obtain ⟨h1, h | ⟨g, cap, cur, rfl, hg, hh, hc, hm, hs, ht⟩⟩ := h
 ·obtain ⟨rfl, h0⟩ := h
  obtain rfl : l = [] := List.length_eq_zero_iff.1 h0
  exact run_convert_bytes_nil w 106 5 Tryz.underlying106 Tryz.underlying5 0 0 9 Tryz.underlying9
 ·refine run_convert_bytes_back w _ _ 5 ⟨g, 0, none⟩ cap l Tryz.underlying106 Tryz.underlying5 Tryz.underlying9 ?_
  intro j hj
  have e : cur[j]? = some (.int .u8 (l[j].toNat : Int)) := by
   rw [← Array.getElem?_toList]
   have e2 : (cur.toList.take (l.length * 1))[j]? = (cellsOf l)[j]? := by rw [ht]
   rw [List.getElem?_take, if_pos (by omega)] at e2
   rw [e2]
   simp [cellsOf, hj]
  rw [Addr.add_mid, Nat.zero_add]
  simp [World.cell?, hh, e]

theorem low_rel (w wr w1 : World) (B : Nat) (e : TypeId) (v : Value) (k : Nat) (xs : List Value) (o : Obj) (hown : wr.ownsRow B e 1 v k xs) (hb : Below B w wr) (hbs : B ≤ wr.heap.size) (hg : (wr.alloc o).grownBy w1 v.ownBlock) :
  Below B w w1 ∧ B ≤ w1.heap.size := by
 have hs : (wr.alloc o).heap.size = wr.heap.size + 1 := by simp
 constructor
 ·refine Below.grown (hb.alloc hbs o) hg (by omega) ?_
  intro j hj
  obtain ⟨_, ⟨rfl, _⟩ | ⟨g, cap, cur, rfl, hge, _⟩⟩ := hown
  ·cases hj
  ·cases hj; exact hge
 ·have := hg.size; omega

theorem infoU8 : (Tryz.prog.info? 5).map (fun i => (i.zero, i.size, i.bytes)) = some (some (.int .u8 0), 1, 1) := by kernel_rfl


def Buf (w : World) (G : Nat) (cs : List Value) : Prop :=
 ∃ cur T, w.heap[G]? = some (.cells cur 5 (T, T + 1)) ∧ cur.size = T ∧ cur.toList.take cs.length = cs ∧ cs.length ≤ T

theorem buf_at {cur : Array Value} {cs : List Value} (h : cur.toList.take cs.length = cs) (k : Nat) (hk : k < cs.length) : cur[k]? = cs[k]? := by
 have e : (cur.toList.take cs.length)[k]? = cs[k]? := by rw [h]
 rw [List.getElem?_take, if_pos hk, Array.getElem?_toList] at e
 exact e

theorem buf_cell {w : World} {G : Nat} {cs : List Value} (h : Buf w G cs) (k : Nat) (v : Value) (hv : cs[k]? = some v) : w.cell? ⟨G, k, none⟩ = some v := by
 obtain ⟨cur, T, hh, hs, ht, hl⟩ := h
 have hk : k < cs.length := (List.getElem?_eq_some_iff.1 hv).1
 have := buf_at ht k hk
 simp [World.cell?, hh, this, hv]

theorem buf_frozen {w : World} {G : Nat} {cs : List Value} (h : Buf w G cs) (k : Nat) (hk : k < cs.length) : w.frozen? ⟨G, k, none⟩ = false := by
 obtain ⟨cur, T, hh, hs, ht, hl⟩ := h
 simp [World.frozen?, hh]
 omega

theorem buf_set {w : World} {G : Nat} {cs : List Value} (h : Buf w G cs) (k : Nat) (hk : k < cs.length) (v : Value) : Buf (w.setCell ⟨G, k, none⟩ v) G (cs.set k v) := by
 obtain ⟨cur, T, hh, hs, ht, hl⟩ := h
 have hG : G < w.heap.size := by
  rcases Array.getElem?_eq_some_iff.1 hh with ⟨h, _⟩
  exact h
 refine ⟨cur.setIfInBounds k v, T, ?_, by simp [hs], ?_, by simpa using hl⟩
 ·simp [World.setCell, Array.getElem?_modify, hh]
 ·rw [List.length_set]
  apply List.ext_getElem?
  intro j
  rw [List.getElem?_take, Array.getElem?_toList, Array.getElem?_setIfInBounds, List.getElem?_set]
  by_cases hj : j < cs.length
  ·rw [if_pos hj]
   by_cases e : k = j
   ·subst e; rw [if_pos rfl, if_pos rfl, if_pos (by omega), if_pos hk]
   ·rw [if_neg e, if_neg e]; exact buf_at ht j hj
  ·rw [if_neg hj, if_neg (by omega), List.getElem?_eq_none (by omega)]

theorem buf_new (w : World) (l : List UInt8) (cap : Nat) :
  Buf (w.drew.alloc (.cells (bytesRow ⟨l.toArray⟩ cap) 5 ((bytesRow ⟨l.toArray⟩ cap).size, (bytesRow ⟨l.toArray⟩ cap).size + 1))) w.heap.size (cellsOf l) := by
 refine ⟨bytesRow ⟨l.toArray⟩ cap, (bytesRow ⟨l.toArray⟩ cap).size, ?_, rfl, ?_, by simp [bytesRow, cellsOf]⟩
 ·show (w.drew.heap.push _)[w.drew.heap.size]? = _
  simp only [Array.getElem?_push_size]
 ·simp [bytesRow, cellsOf]

theorem buf_string {w : World} {G : Nat} {l : List UInt8} (h : Buf w G (cellsOf l)) (cap n : Nat) (hn : n = l.length) :
  (convert 106 9 (.slice (some ⟨G, 0, none⟩) n cap)).run Tryz.prog w = .ok (.string ⟨l.toArray⟩) w := by
 subst hn
 refine run_convert_bytes_back w _ _ 5 ⟨G, 0, none⟩ cap l Tryz.underlying106 Tryz.underlying5 Tryz.underlying9 ?_
 intro j hj
 rw [Addr.add_mid, Nat.zero_add]
 exact buf_cell h j _ (by simp [cellsOf, hj])

def mixS (l : List UInt8) (k : Nat) : List Value := cellsOf (lowS (l.take k) ++ l.drop k)
theorem mix_len (l : List UInt8) (k : Nat) (hk : k ≤ l.length) : (mixS l k).length = l.length := by simp [mixS, cellsOf, lowS]; omega
theorem mix_at (l : List UInt8) (k : Nat) (c : UInt8) (r : List UInt8) (hk : k < l.length) (h : l.drop k = c :: r) : (mixS l k)[k]? = some (.int .u8 c.toNat) := by
 unfold mixS cellsOf lowS
 rw [h, List.getElem?_map, List.getElem?_append_right (by simp; omega)]
 simp [Nat.min_eq_left (Nat.le_of_lt hk)]
theorem mix_step (l : List UInt8) (k : Nat) (c : UInt8) (r : List UInt8) (hk : k < l.length) (h : l.drop k = c :: r) : mixS l (k + 1) = (mixS l k).set k (.int .u8 (lowC c).toNat) := by
 have h1 : l.drop (k + 1) = r := by
  have := congrArg List.tail h
  rwa [List.tail_drop] at this
 have e : l[k] = c := by
  have := List.drop_eq_getElem_cons hk
  rw [h] at this
  exact (List.cons.inj this).1.symm
 unfold mixS
 rw [h, h1, List.take_succ_eq_append_getElem hk, e]
 simp only [cellsOf, lowS, List.map_append, List.map_cons, List.map_nil, List.append_assoc, List.cons_append, List.nil_append]
 rw [List.set_append_right _ _ (by simp; omega)]
 simp [Nat.min_eq_left (Nat.le_of_lt hk)]
theorem mix_same (l : List UInt8) (k : Nat) (c : UInt8) (r : List UInt8) (hk : k < l.length) (h : l.drop k = c :: r) (g : lowC c = c) : mixS l (k + 1) = mixS l k := by
 rw [mix_step l k c r hk h, g]
 exact List.ext_getElem? fun j => by
  rw [List.getElem?_set]
  by_cases e : k = j
  ·subst e; rw [if_pos rfl, if_pos (by rw [mix_len l k (by omega)]; omega), mix_at l k c r hk h]
  ·rw [if_neg e]

theorem tlower_any (l : List UInt8) (hl : l.length ≤ 1000000000) (w : World) :
  Calls Tryz.prog 66 #[.string ⟨l.toArray⟩] w fun e w' => e = .returned (.string ⟨(lowS l).toArray⟩) ∧ Below w.heap.size w w' := by
 have hcv := run_bytes_of_string (P := Tryz.prog) w 9 106 5 ⟨l.toArray⟩ Tryz.underlying9 Tryz.underlying106 Tryz.underlying5
 generalize grownCap w (⟨l.toArray⟩ : ByteArray).size 0 5 = cap at hcv
 have hnew := buf_new w l cap
 have hbel : Below w.heap.size w (w.drew.alloc (.cells (bytesRow ⟨l.toArray⟩ cap) 5 ((bytesRow ⟨l.toArray⟩ cap).size, (bytesRow ⟨l.toArray⟩ cap).size + 1))) := (Below.refl _ w).drew.alloc (Nat.le_refl _) _
 generalize (w.drew.alloc (.cells (bytesRow ⟨l.toArray⟩ cap) 5 ((bytesRow ⟨l.toArray⟩ cap).size, (bytesRow ⟨l.toArray⟩ cap).size + 1))) = w1 at *
 obtain ⟨B, hB⟩ : ∃ B, B = w.heap.size := ⟨_, rfl⟩
 rw [← hB] at hcv hnew hbel ⊢
 clear hB
 rw [bsize] at hcv
 go_enter Tryz.func66, Tryz.ntmps66
 go_wp2_with fail
 clear hcv
 go_loopw [10] (fun s wr => ∃ k : Nat, s = .int .i64 k ∧ k ≤ l.length ∧ Buf wr B (mixS l k) ∧ Below B w wr) (fun s _ => l.length - (RowKit.intOf s).toNat)
 case atStart => exact ⟨0, rfl, by omega, by simpa [mixS, lowS] using hnew, hbel⟩
 case round =>
  obtain ⟨k, rfl, hk, hbuf, hb⟩ := hrel
  clear hnew hbel
  by_cases hlt : k < l.length
  ·obtain ⟨c, rest, hd1, hd2, hidx⟩ := byte_at l k hlt
   have hml := mix_len l k hk
   have hcell := buf_cell hbuf k _ (mix_at l k c rest hlt hd1)
   have hfr := buf_frozen hbuf k (by omega)
   have hlt8 := c.toNat_lt
   by_cases g : 65 ≤ c.toNat ∧ c.toNat ≤ 90
   ·have hset := buf_set hbuf k (by omega) (.int .u8 (lowC c).toNat)
    rw [← mix_step l k c rest hlt hd1, lowC_in c g, show (c.toNat : Int) + 32 = (c.toNat : Int) + 97 - 65 from by omega] at hset
    have hbs := hb.setCell (p := ⟨B, k, none⟩) (Nat.le_refl _) (.int .u8 ((c.toNat : Int) + 97 - 65))
    obtain ⟨g1, g2⟩ := g
    clear hd1 hd2 hidx hbuf hb
    go_wp2_with fail
    go_roundw
    case rel => exact ⟨k + 1, by go_num, by omega, hset, hbs⟩
    case measure => simp [RowKit.intOf]; omega
   ·have hsame := hbuf
    rw [← mix_same l k c rest hlt hd1 (lowC_out c g)] at hsame
    have g' := (show c.toNat < 65 ∨ (65 ≤ c.toNat ∧ 90 < c.toNat) by omega)
    clear hd1 hd2 hidx hbuf g
    rcases g' with g1 | ⟨g1, g2⟩
    ·go_wp2_with fail
     go_roundw
     case rel => exact ⟨k + 1, by go_num, by omega, hsame, hb⟩
     case measure => simp [RowKit.intOf]; omega
    ·go_wp2_with fail
     go_roundw
     case rel => exact ⟨k + 1, by go_num, by omega, hsame, hb⟩
     case measure => simp [RowKit.intOf]; omega
  ·obtain rfl : k = l.length := by omega
   have hm : mixS l l.length = cellsOf (lowS l) := by simp [mixS]
   rw [hm] at hbuf
   have hcs := buf_string hbuf cap l.length (by simp [lowS])
   clear hbuf
   go_wp2_with fail
   go_ret
   exact ⟨rfl, hb⟩
end Go.Proofs.YtkhlfggnjcbniaaGreatDoor.link
namespace Go.Proofs.YtkhlfggnjcbniaaGreatDoor.doc
open atr link

def typeNames : List (List UInt8) := [[104, 105, 100, 100, 101, 110], [116, 101, 120, 116], [115, 101, 97, 114, 99, 104], [116, 101, 108], [117, 114, 108], [101, 109, 97, 105, 108], [112, 97, 115, 115, 119, 111, 114, 100], [100, 97, 116, 101], [109, 111, 110, 116, 104], [119, 101, 101, 107], [116, 105, 109, 101], [100, 97, 116, 101, 116, 105, 109, 101, 45, 108, 111, 99, 97, 108], [110, 117, 109, 98, 101, 114], [114, 97, 110, 103, 101], [99, 111, 108, 111, 114], [99, 104, 101, 99, 107, 98, 111, 120], [114, 97, 100, 105, 111], [102, 105, 108, 101], [115, 117, 98, 109, 105, 116], [105, 109, 97, 103, 101], [114, 101, 115, 101, 116], [98, 117, 116, 116, 111, 110]]
def elemNames : List (List UInt8) := [[111, 117, 116, 112, 117, 116], [102, 105, 101, 108, 100, 115, 101, 116], [102, 111, 114, 109], [108, 97, 98, 101, 108], [111, 112, 116, 105, 111, 110], [111, 112, 116, 103, 114, 111, 117, 112], [108, 101, 103, 101, 110, 100], [100, 97, 116, 97, 108, 105, 115, 116]]
def nInput : List UInt8 := [105, 110, 112, 117, 116]
def nButton : List UInt8 := [98, 117, 116, 116, 111, 110]
def nSelect : List UInt8 := [115, 101, 108, 101, 99, 116]
def nTextarea : List UInt8 := [116, 101, 120, 116, 97, 114, 101, 97]
def nReset : List UInt8 := [114, 101, 115, 101, 116]
def placeL (s : List UInt8) : List (List UInt8) → Nat
 | [] => 0
 | x :: r => if x = s then 0 else placeL s r + 1
theorem placeL_at (s : List UInt8) : ∀ (l : List (List UInt8)) (k : Nat) (h : k < l.length), placeL s l = k → l[k] = s := by
 intro l
 induction l with
 | nil => intro k h; exact absurd h (Nat.not_lt_zero _)
 | cons x r ih =>
  intro k h e
  unfold placeL at e
  by_cases g : x = s
  ·rw [if_pos g] at e; subst e; exact g
  ·rw [if_neg g] at e
   cases k with
   | zero => omega
   | succ k => exact ih k (by simpa using h) (by omega)
def typeT (a : List Attr) : List UInt8 := lowS ((fval nType a).getD [])
def kindP (nm : List UInt8) (a : List Attr) : Int :=
 if nm = nInput then (if placeL (typeT a) typeNames < 22 then (placeL (typeT a) typeNames : Int) + 1 else 2)
 else if nm = nButton then (if typeT a = nReset then 26 else if typeT a = nButton then 27 else 25)
 else if nm = nSelect then 23
 else if nm = nTextarea then 24
 else if placeL nm elemNames < 8 then (placeL nm elemNames : Int) + 28 else 0
def kN (l : List Nd) (k : Int) : Int := kindP (nd l k).name (nd l k).attrs
theorem kind_rest (nm : List UInt8) (a : List Attr) (h1 : nm ≠ nInput) (h2 : nm ≠ nButton) (h3 : nm ≠ nSelect) (h4 : nm ≠ nTextarea) :
  kindP nm a = if placeL nm elemNames < 8 then (placeL nm elemNames : Int) + 28 else 0 := by
 unfold kindP; rw [if_neg h1, if_neg h2, if_neg h3, if_neg h4]
theorem kind_input (a : List Attr) : 1 ≤ kindP nInput a ∧ kindP nInput a ≤ 22 := by
 unfold kindP; rw [if_pos rfl]; split <;> omega
theorem kind_button (a : List Attr) : 25 ≤ kindP nButton a ∧ kindP nButton a ≤ 27 := by
 unfold kindP; rw [if_neg (by decide), if_pos rfl]
 split
 ·omega
 ·split <;> omega
theorem kind_select (a : List Attr) : kindP nSelect a = 23 := by unfold kindP; rw [if_neg (by decide), if_neg (by decide), if_pos rfl]
theorem kind_area (a : List Attr) : kindP nTextarea a = 24 := by unfold kindP; rw [if_neg (by decide), if_neg (by decide), if_neg (by decide), if_pos rfl]
theorem kind_elem (nm : List UInt8) (a : List Attr) (k : Nat) (hk : k < elemNames.length) : kindP nm a = (k : Int) + 28 ↔ nm = elemNames[k] := by
 have e8 : elemNames.length = 8 := rfl
 constructor
 ·intro h
  by_cases h1 : nm = nInput
  ·rw [h1] at h; have := kind_input a; omega
  by_cases h2 : nm = nButton
  ·rw [h2] at h; have := kind_button a; omega
  by_cases h3 : nm = nSelect
  ·rw [h3, kind_select] at h; omega
  by_cases h4 : nm = nTextarea
  ·rw [h4, kind_area] at h; omega
  rw [kind_rest nm a h1 h2 h3 h4] at h
  have hp : placeL nm elemNames = k := by split at h <;> omega
  exact (placeL_at nm elemNames k hk hp).symm
 ·intro h
  have key : ∀ (k : Nat) (hk : k < 8), elemNames[k] ≠ nInput ∧ elemNames[k] ≠ nButton ∧ elemNames[k] ≠ nSelect ∧ elemNames[k] ≠ nTextarea ∧ placeL elemNames[k] elemNames = k := by decide
  obtain ⟨g1, g2, g3, g4, g5⟩ := key k (by omega)
  rw [h]
  refine (kind_rest _ a g1 g2 g3 g4).trans ?_
  rw [g5, if_pos (by omega)]

def inR (l : List Nd) (k : Int) : Prop := 0 ≤ k ∧ k < (l.length : Int)
structure Rt (l : List Nd) : Prop where
 few : l.length ≤ 400
 some1 : 1 ≤ l.length
 root : (nd l 0).parent = -1
 alone : ∀ k, inR l k → aloneP (nd l k) = true
 par : ∀ k, inR l k → -1 ≤ (nd l k).parent ∧ (nd l k).parent < (l.length : Int)
 once : ∀ k, inR l k → 0 ≤ (nd l k).parent → (nd l (nd l k).parent).kids.count k = 1
 kid : ∀ k c, inR l k → c ∈ (nd l k).kids → inR l c ∧ (nd l c).parent = k
 ends : ∀ k, inR l k → climb l (l.length + 1) k < 0
theorem right_rt (l : List Nd) (h : rightB l = true) : Rt l := by
 unfold rightB headB nodesB climbsB at h
 simp only [Bool.and_eq_true, decide_eq_true_eq, List.all_eq_true, List.mem_range] at h
 obtain ⟨⟨⟨⟨⟨h1, h2⟩, h3⟩, h4⟩, hn⟩, hc⟩ := h
 have hN : ∀ k, inR l k → aloneP (nd l k) = true ∧ rangeB l k = true ∧ onceB l k = true ∧ kidsB l k = true := by
  intro k ⟨k1, k2⟩
  have := hn k.toNat (by omega)
  rw [show ((k.toNat : Nat) : Int) = k from by omega] at this
  unfold nodeB at this
  simp only [Bool.and_eq_true] at this
  exact ⟨this.1.1.1, this.1.1.2, this.1.2, this.2⟩
 refine ⟨h2, h1, h4, fun k hk => (hN k hk).1, ?_, ?_, ?_, ?_⟩
 ·intro k hk
  have := (hN k hk).2.1
  unfold rangeB at this
  rw [Bool.and_eq_true, decide_eq_true_eq, decide_eq_true_eq] at this
  exact this
 ·intro k hk hp
  have := (hN k hk).2.2.1
  unfold onceB at this
  rw [decide_eq_false (by omega)] at this
  simpa using this
 ·intro k c hk hc
  obtain ⟨a, b, c⟩ := kidsB_mem l k c (hN k hk).2.2.2 hc
  exact ⟨⟨a, b⟩, c⟩
 ·intro k ⟨k1, k2⟩
  have := hc k.toNat (by omega)
  rw [show ((k.toNat : Nat) : Int) = k from by omega] at this
  exact this

def dpt (l : List Nd) : Nat → Int → Nat
 | 0, _ => 0
 | f + 1, k => if k < 0 then 0 else dpt l f (nd l k).parent + 1
theorem dpt_le (l : List Nd) : ∀ f k, dpt l f k ≤ f := by
  intro f
  induction f with
  | zero => intro k; exact Nat.le_refl _
  | succ f ih => intro k; unfold dpt; split
                 · omega
                 · have := ih (nd l k).parent; omega
theorem dpt_more (l : List Nd) : ∀ f k g, climb l f k < 0 → f ≤ g → dpt l g k = dpt l f k := by
 intro f
 induction f with
 | zero =>
  intro k g h _
  have h : k < 0 := h
  cases g with
  | zero => rfl
  | succ g => unfold dpt; rw [if_pos h]
 | succ f ih =>
  intro k g h hg
  obtain ⟨g, rfl⟩ : ∃ g', g = g' + 1 := ⟨g - 1, by omega⟩
  unfold dpt
  by_cases hk : k < 0
  ·rw [if_pos hk, if_pos hk]
  ·rw [if_neg hk, if_neg hk]
   unfold climb at h
   rw [if_neg hk] at h
   rw [ih _ g h (by omega)]
def dep (l : List Nd) (k : Int) : Nat := dpt l (l.length + 1) k
theorem dep_le (l : List Nd) (k : Int) : dep l k ≤ l.length + 1 := dpt_le l _ k
theorem dep_kid {l : List Nd} (h : Rt l) (c : Int) (hc : inR l c) : dep l c = dep l (nd l c).parent + 1 := by
 have he := h.ends c hc
 have e : climb l (l.length + 1) c = climb l l.length (nd l c).parent := by
  show (if c < 0 then c else climb l l.length (nd l c).parent) = _
  rw [if_neg (by have := hc.1; omega)]
 rw [e] at he
 have e2 : dep l c = dpt l l.length (nd l c).parent + 1 := by
  show (if c < 0 then 0 else dpt l l.length (nd l c).parent + 1) = _
  rw [if_neg (by have := hc.1; omega)]
 rw [e2]
 unfold dep
 rw [dpt_more l l.length _ (l.length + 1) he (by omega)]

def pre (l : List Nd) : Nat → Int → List Int
 | 0, k => [k]
 | f + 1, k => k :: (nd l k).kids.flatMap (pre l f)
def ordP (l : List Nd) (k : Int) : List Int := pre l (l.length + 1 - dep l k) k
theorem flat_congr {α β : Type} (a : List α) (f g : α → List β) (h : ∀ x ∈ a, f x = g x) : a.flatMap f = a.flatMap g := by
 induction a with
 | nil => rfl
 | cons x r ih => rw [List.flatMap_cons, List.flatMap_cons, h x List.mem_cons_self, ih (fun y hy => h y (List.mem_cons_of_mem _ hy))]
theorem ord_eq {l : List Nd} (h : Rt l) (k : Int) (hk : inR l k) : ordP l k = k :: (nd l k).kids.flatMap (ordP l) := by
 unfold ordP
 cases hf : l.length + 1 - dep l k with
 | zero =>
  have hno : (nd l k).kids = [] := by
   cases hc : (nd l k).kids with
   | nil => rfl
   | cons c r =>
    obtain ⟨c1, c2⟩ := h.kid k c hk (by rw [hc]; exact List.mem_cons_self)
    have := dep_kid h c c1
    have h1 := dep_le l c
    rw [c2] at this
    omega
  rw [hno]; rfl
 | succ f =>
  show k :: (nd l k).kids.flatMap (pre l f) = _
  rw [flat_congr _ (pre l f) (fun c => pre l (l.length + 1 - dep l c) c)]
  intro c hc
  obtain ⟨c1, c2⟩ := h.kid k c hk hc
  have := dep_kid h c c1
  rw [c2] at this
  rw [show l.length + 1 - dep l c = f from by omega]
theorem by_depth {l : List Nd} (h : Rt l) (P : Int → Prop) (hp : ∀ k, inR l k → (∀ c ∈ (nd l k).kids, P c) → P k) : ∀ k, inR l k → P k := by
 have key : ∀ m k, inR l k → l.length + 1 - dep l k ≤ m → P k := by
  intro m
  induction m with
  | zero =>
   intro k hk hm
   refine hp k hk (fun c hc => ?_)
   obtain ⟨c1, c2⟩ := h.kid k c hk hc
   have := dep_kid h c c1
   have h1 := dep_le l c
   rw [c2] at this
   omega
  | succ m ih =>
   intro k hk hm
   refine hp k hk (fun c hc => ?_)
   obtain ⟨c1, c2⟩ := h.kid k c hk hc
   have := dep_kid h c c1
   have h1 := dep_le l c
   rw [c2] at this
   exact ih c c1 (by omega)
 intro k hk
 exact key _ k hk (Nat.le_refl _)
theorem ord_in {l : List Nd} (h : Rt l) : ∀ k, inR l k → ∀ x ∈ ordP l k, inR l x ∧ dep l k ≤ dep l x := by
 refine by_depth h (fun k => ∀ x ∈ ordP l k, inR l x ∧ dep l k ≤ dep l x) ?_
 intro k hk ih x hx
 rw [ord_eq h k hk] at hx
 rcases List.mem_cons.1 hx with rfl | hx
 ·exact ⟨hk, Nat.le_refl _⟩
 ·obtain ⟨c, hc, hx⟩ := List.mem_flatMap.1 hx
  obtain ⟨c1, c2⟩ := h.kid k c hk hc
  have := dep_kid h c c1
  rw [c2] at this
  obtain ⟨a, b⟩ := ih c hc x hx
  exact ⟨a, by omega⟩

def optB (l : List Nd) (k : Int) : Bool := kN l k == 32
def innerP (l : List Nd) (k : Int) : List Int := (if kN l k = 33 then (nd l k).kids else [k]).filter (optB l)
def optsP (l : List Nd) (sel : Int) : List Int := (nd l sel).kids.flatMap (innerP l)
end Go.Proofs.YtkhlfggnjcbniaaGreatDoor.doc
namespace Go.Proofs.YtkhlfggnjcbniaaGreatDoor.doc
open Go.ChangeShapes Go.WideShapes Go.ChangeAt Go.RowKit Go.Lib atr link

theorem rtype_1 (w : World) : Calls Tryz.prog 55 #[.int .i64 1] w fun e w' => e = .returned (.string ⟨(typeNames[0]'(by decide)).toArray⟩) ∧ w = w' := by
 go_enter Tryz.func55, Tryz.ntmps55
 go_wp2_with fail
 go_ret
 exact ⟨rfl, rfl⟩
theorem rtype_2 (w : World) : Calls Tryz.prog 55 #[.int .i64 2] w fun e w' => e = .returned (.string ⟨(typeNames[1]'(by decide)).toArray⟩) ∧ w = w' := by
 go_enter Tryz.func55, Tryz.ntmps55
 go_wp2_with fail
 go_ret
 exact ⟨rfl, rfl⟩
theorem rtype_3 (w : World) : Calls Tryz.prog 55 #[.int .i64 3] w fun e w' => e = .returned (.string ⟨(typeNames[2]'(by decide)).toArray⟩) ∧ w = w' := by
 go_enter Tryz.func55, Tryz.ntmps55
 go_wp2_with fail
 go_ret
 exact ⟨rfl, rfl⟩
theorem rtype_4 (w : World) : Calls Tryz.prog 55 #[.int .i64 4] w fun e w' => e = .returned (.string ⟨(typeNames[3]'(by decide)).toArray⟩) ∧ w = w' := by
 go_enter Tryz.func55, Tryz.ntmps55
 go_wp2_with fail
 go_ret
 exact ⟨rfl, rfl⟩
theorem rtype_5 (w : World) : Calls Tryz.prog 55 #[.int .i64 5] w fun e w' => e = .returned (.string ⟨(typeNames[4]'(by decide)).toArray⟩) ∧ w = w' := by
 go_enter Tryz.func55, Tryz.ntmps55
 go_wp2_with fail
 go_ret
 exact ⟨rfl, rfl⟩
theorem rtype_6 (w : World) : Calls Tryz.prog 55 #[.int .i64 6] w fun e w' => e = .returned (.string ⟨(typeNames[5]'(by decide)).toArray⟩) ∧ w = w' := by
 go_enter Tryz.func55, Tryz.ntmps55
 go_wp2_with fail
 go_ret
 exact ⟨rfl, rfl⟩
theorem rtype_7 (w : World) : Calls Tryz.prog 55 #[.int .i64 7] w fun e w' => e = .returned (.string ⟨(typeNames[6]'(by decide)).toArray⟩) ∧ w = w' := by
 go_enter Tryz.func55, Tryz.ntmps55
 go_wp2_with fail
 go_ret
 exact ⟨rfl, rfl⟩
theorem rtype_8 (w : World) : Calls Tryz.prog 55 #[.int .i64 8] w fun e w' => e = .returned (.string ⟨(typeNames[7]'(by decide)).toArray⟩) ∧ w = w' := by
 go_enter Tryz.func55, Tryz.ntmps55
 go_wp2_with fail
 go_ret
 exact ⟨rfl, rfl⟩
theorem rtype_9 (w : World) : Calls Tryz.prog 55 #[.int .i64 9] w fun e w' => e = .returned (.string ⟨(typeNames[8]'(by decide)).toArray⟩) ∧ w = w' := by
 go_enter Tryz.func55, Tryz.ntmps55
 go_wp2_with fail
 go_ret
 exact ⟨rfl, rfl⟩
theorem rtype_10 (w : World) : Calls Tryz.prog 55 #[.int .i64 10] w fun e w' => e = .returned (.string ⟨(typeNames[9]'(by decide)).toArray⟩) ∧ w = w' := by
 go_enter Tryz.func55, Tryz.ntmps55
 go_wp2_with fail
 go_ret
 exact ⟨rfl, rfl⟩
theorem rtype_11 (w : World) : Calls Tryz.prog 55 #[.int .i64 11] w fun e w' => e = .returned (.string ⟨(typeNames[10]'(by decide)).toArray⟩) ∧ w = w' := by
 go_enter Tryz.func55, Tryz.ntmps55
 go_wp2_with fail
 go_ret
 exact ⟨rfl, rfl⟩
theorem rtype_12 (w : World) : Calls Tryz.prog 55 #[.int .i64 12] w fun e w' => e = .returned (.string ⟨(typeNames[11]'(by decide)).toArray⟩) ∧ w = w' := by
 go_enter Tryz.func55, Tryz.ntmps55
 go_wp2_with fail
 go_ret
 exact ⟨rfl, rfl⟩
theorem rtype_13 (w : World) : Calls Tryz.prog 55 #[.int .i64 13] w fun e w' => e = .returned (.string ⟨(typeNames[12]'(by decide)).toArray⟩) ∧ w = w' := by
 go_enter Tryz.func55, Tryz.ntmps55
 go_wp2_with fail
 go_ret
 exact ⟨rfl, rfl⟩
theorem rtype_14 (w : World) : Calls Tryz.prog 55 #[.int .i64 14] w fun e w' => e = .returned (.string ⟨(typeNames[13]'(by decide)).toArray⟩) ∧ w = w' := by
 go_enter Tryz.func55, Tryz.ntmps55
 go_wp2_with fail
 go_ret
 exact ⟨rfl, rfl⟩
theorem rtype_15 (w : World) : Calls Tryz.prog 55 #[.int .i64 15] w fun e w' => e = .returned (.string ⟨(typeNames[14]'(by decide)).toArray⟩) ∧ w = w' := by
 go_enter Tryz.func55, Tryz.ntmps55
 go_wp2_with fail
 go_ret
 exact ⟨rfl, rfl⟩
theorem rtype_16 (w : World) : Calls Tryz.prog 55 #[.int .i64 16] w fun e w' => e = .returned (.string ⟨(typeNames[15]'(by decide)).toArray⟩) ∧ w = w' := by
 go_enter Tryz.func55, Tryz.ntmps55
 go_wp2_with fail
 go_ret
 exact ⟨rfl, rfl⟩
theorem rtype_17 (w : World) : Calls Tryz.prog 55 #[.int .i64 17] w fun e w' => e = .returned (.string ⟨(typeNames[16]'(by decide)).toArray⟩) ∧ w = w' := by
 go_enter Tryz.func55, Tryz.ntmps55
 go_wp2_with fail
 go_ret
 exact ⟨rfl, rfl⟩
theorem rtype_18 (w : World) : Calls Tryz.prog 55 #[.int .i64 18] w fun e w' => e = .returned (.string ⟨(typeNames[17]'(by decide)).toArray⟩) ∧ w = w' := by
 go_enter Tryz.func55, Tryz.ntmps55
 go_wp2_with fail
 go_ret
 exact ⟨rfl, rfl⟩
theorem rtype_19 (w : World) : Calls Tryz.prog 55 #[.int .i64 19] w fun e w' => e = .returned (.string ⟨(typeNames[18]'(by decide)).toArray⟩) ∧ w = w' := by
 go_enter Tryz.func55, Tryz.ntmps55
 go_wp2_with fail
 go_ret
 exact ⟨rfl, rfl⟩
theorem rtype_20 (w : World) : Calls Tryz.prog 55 #[.int .i64 20] w fun e w' => e = .returned (.string ⟨(typeNames[19]'(by decide)).toArray⟩) ∧ w = w' := by
 go_enter Tryz.func55, Tryz.ntmps55
 go_wp2_with fail
 go_ret
 exact ⟨rfl, rfl⟩
theorem rtype_21 (w : World) : Calls Tryz.prog 55 #[.int .i64 21] w fun e w' => e = .returned (.string ⟨(typeNames[20]'(by decide)).toArray⟩) ∧ w = w' := by
 go_enter Tryz.func55, Tryz.ntmps55
 go_wp2_with fail
 go_ret
 exact ⟨rfl, rfl⟩
theorem rtype_22 (w : World) : Calls Tryz.prog 55 #[.int .i64 22] w fun e w' => e = .returned (.string ⟨(typeNames[21]'(by decide)).toArray⟩) ∧ w = w' := by
 go_enter Tryz.func55, Tryz.ntmps55
 go_wp2_with fail
 go_ret
 exact ⟨rfl, rfl⟩
theorem rtype_any (k : Nat) (h : k < 22) (w : World) : Calls Tryz.prog 55 #[.int .i64 ((k : Int) + 1)] w fun e w' => e = .returned (.string ⟨(typeNames[k]'(by have : typeNames.length = 22 := rfl; omega)).toArray⟩) ∧ w = w' := by
 match k, h with
 | 0, _ => exact rtype_1 w
 | 1, _ => exact rtype_2 w
 | 2, _ => exact rtype_3 w
 | 3, _ => exact rtype_4 w
 | 4, _ => exact rtype_5 w
 | 5, _ => exact rtype_6 w
 | 6, _ => exact rtype_7 w
 | 7, _ => exact rtype_8 w
 | 8, _ => exact rtype_9 w
 | 9, _ => exact rtype_10 w
 | 10, _ => exact rtype_11 w
 | 11, _ => exact rtype_12 w
 | 12, _ => exact rtype_13 w
 | 13, _ => exact rtype_14 w
 | 14, _ => exact rtype_15 w
 | 15, _ => exact rtype_16 w
 | 16, _ => exact rtype_17 w
 | 17, _ => exact rtype_18 w
 | 18, _ => exact rtype_19 w
 | 19, _ => exact rtype_20 w
 | 20, _ => exact rtype_21 w
 | 21, _ => exact rtype_22 w
 | k + 22, h => exact absurd h (by omega)
end Go.Proofs.YtkhlfggnjcbniaaGreatDoor.doc
namespace Go.Proofs.YtkhlfggnjcbniaaGreatDoor.link
open Go.ChangeShapes Go.WideShapes Go.ChangeAt Go.RowKit Go.Lib

def spl (c : UInt8) : List UInt8 → List UInt8 → List (List UInt8)
 | acc, [] => [acc]
 | acc, b :: r => if b = c then acc :: spl c [] r else spl c (acc ++ [b]) r
end Go.Proofs.YtkhlfggnjcbniaaGreatDoor.link
namespace Go.Proofs.YtkhlfggnjcbniaaGreatDoor.doc
open Go.ChangeShapes Go.WideShapes Go.ChangeAt Go.RowKit Go.Lib

def subP (k : Int) : Bool := decide (1 ≤ k ∧ k ≤ 27)
def listedP (k : Int) : Bool := decide (1 ≤ k ∧ k ≤ 29 ∧ k ≠ 20)
def roP (k : Int) : Bool := decide ((2 ≤ k ∧ k ≤ 13) ∨ k = 24)
def reqP (k : Int) : Bool := decide ((2 ≤ k ∧ k ≤ 13) ∨ (16 ≤ k ∧ k ≤ 18) ∨ k = 23 ∨ k = 24)
def lenP (k : Int) : Bool := decide ((2 ≤ k ∧ k ≤ 7) ∨ k = 24)
def patP (k : Int) : Bool := decide (2 ≤ k ∧ k ≤ 7)

def nReadonly : List UInt8 := [114, 101, 97, 100, 111, 110, 108, 121]
def nRequired : List UInt8 := [114, 101, 113, 117, 105, 114, 101, 100]
def nMinlength : List UInt8 := [109, 105, 110, 108, 101, 110, 103, 116, 104]
def nMaxlength : List UInt8 := [109, 97, 120, 108, 101, 110, 103, 116, 104]
def nPattern : List UInt8 := [112, 97, 116, 116, 101, 114, 110]
def nDatalist : List UInt8 := [100, 97, 116, 97, 108, 105, 115, 116]
def nMultiple : List UInt8 := [109, 117, 108, 116, 105, 112, 108, 101]
def nForm : List UInt8 := [102, 111, 114, 109]
def nId : List UInt8 := [105, 100]
def nNameA : List UInt8 := [110, 97, 109, 101]
theorem submits_any (k : Int) (w : World) :
  Calls Tryz.prog 31 #[.int .i64 k] w fun e w' => e = .returned (.bool (subP k)) ∧ w = w' := by
 rcases (show (k ≤ 0) ∨ (1 ≤ k ∧ k ≤ 22) ∨ (k = 23) ∨ (k = 24) ∨ (25 ≤ k ∧ k ≤ 27) ∨ (28 ≤ k) by omega) with h1 | ⟨h1, h2⟩ | rfl | rfl | ⟨h1, h2⟩ | h1
 ·rw [show subP k = false from decide_eq_false (by omega)]
  have t23 : (k == 23) = false := by simp; omega
  have t24 : (k == 24) = false := by simp; omega
  have g1 : ¬ 1 ≤ k := by omega
  have g25 : ¬ 25 ≤ k := by omega
  have l22 : k ≤ 22 := by omega
  have l27 : k ≤ 27 := by omega
  clear h1
  go_enter Tryz.func31, Tryz.ntmps31
  go_wp2_with (first | go_in)
  go_ret
  exact ⟨rfl, rfl⟩
 ·rw [show subP k = true from decide_eq_true (by omega)]
  have t23 : (k == 23) = false := by simp; omega
  have t24 : (k == 24) = false := by simp; omega
  have g1 : 1 ≤ k := by omega
  have g25 : ¬ 25 ≤ k := by omega
  have l22 : k ≤ 22 := by omega
  have l27 : k ≤ 27 := by omega
  clear h1 h2
  go_enter Tryz.func31, Tryz.ntmps31
  go_wp2_with (first | go_in)
  go_ret
  exact ⟨rfl, rfl⟩
 ·rw [show subP 23 = true from decide_eq_true (by decide)]
  go_enter Tryz.func31, Tryz.ntmps31
  go_wp2_with (first | go_in)
  go_ret
  exact ⟨rfl, rfl⟩
 ·rw [show subP 24 = true from decide_eq_true (by decide)]
  go_enter Tryz.func31, Tryz.ntmps31
  go_wp2_with (first | go_in)
  go_ret
  exact ⟨rfl, rfl⟩
 ·rw [show subP k = true from decide_eq_true (by omega)]
  have t23 : (k == 23) = false := by simp; omega
  have t24 : (k == 24) = false := by simp; omega
  have g1 : 1 ≤ k := by omega
  have g25 : 25 ≤ k := by omega
  have l22 : ¬ k ≤ 22 := by omega
  have l27 : k ≤ 27 := by omega
  clear h1 h2
  go_enter Tryz.func31, Tryz.ntmps31
  go_wp2_with (first | go_in)
  go_ret
  exact ⟨rfl, rfl⟩
 ·rw [show subP k = false from decide_eq_false (by omega)]
  have t23 : (k == 23) = false := by simp; omega
  have t24 : (k == 24) = false := by simp; omega
  have g1 : 1 ≤ k := by omega
  have g25 : 25 ≤ k := by omega
  have l22 : ¬ k ≤ 22 := by omega
  have l27 : ¬ k ≤ 27 := by omega
  clear h1
  go_enter Tryz.func31, Tryz.ntmps31
  go_wp2_with (first | go_in)
  go_ret
  exact ⟨rfl, rfl⟩
theorem listed_any (k : Int) (w : World) :
  Calls Tryz.prog 214 #[.int .i64 k] w fun e w' => e = .returned (.bool (listedP k)) ∧ w = w' := by
 rcases (show (k ≤ 0) ∨ (1 ≤ k ∧ k ≤ 19) ∨ (k = 20) ∨ (21 ≤ k ∧ k ≤ 22) ∨ (k = 23) ∨ (k = 24) ∨ (25 ≤ k ∧ k ≤ 27) ∨ (k = 28) ∨ (k = 29) ∨ (30 ≤ k) by omega) with h1 | ⟨h1, h2⟩ | rfl | ⟨h1, h2⟩ | rfl | rfl | ⟨h1, h2⟩ | rfl | rfl | h1
 ·rw [show listedP k = false from decide_eq_false (by omega)]
  have t23 : (k == 23) = false := by simp; omega
  have t24 : (k == 24) = false := by simp; omega
  have t28 : (k == 28) = false := by simp; omega
  have t29 : (k == 29) = false := by simp; omega
  have u20 : (k != 20) = true := by simp; omega
  have g1 : ¬ 1 ≤ k := by omega
  have g25 : ¬ 25 ≤ k := by omega
  have l22 : k ≤ 22 := by omega
  have l27 : k ≤ 27 := by omega
  clear h1
  go_enter Tryz.func214, Tryz.ntmps214
  go_wp2_with (first | go_in)
  go_ret
  exact ⟨rfl, rfl⟩
 ·rw [show listedP k = true from decide_eq_true (by omega)]
  have t23 : (k == 23) = false := by simp; omega
  have t24 : (k == 24) = false := by simp; omega
  have t28 : (k == 28) = false := by simp; omega
  have t29 : (k == 29) = false := by simp; omega
  have u20 : (k != 20) = true := by simp; omega
  have g1 : 1 ≤ k := by omega
  have g25 : ¬ 25 ≤ k := by omega
  have l22 : k ≤ 22 := by omega
  have l27 : k ≤ 27 := by omega
  clear h1 h2
  go_enter Tryz.func214, Tryz.ntmps214
  go_wp2_with (first | go_in)
  go_ret
  exact ⟨rfl, rfl⟩
 ·rw [show listedP 20 = false from decide_eq_false (by decide)]
  go_enter Tryz.func214, Tryz.ntmps214
  go_wp2_with (first | go_in)
  go_ret
  exact ⟨rfl, rfl⟩
 ·rw [show listedP k = true from decide_eq_true (by omega)]
  have t23 : (k == 23) = false := by simp; omega
  have t24 : (k == 24) = false := by simp; omega
  have t28 : (k == 28) = false := by simp; omega
  have t29 : (k == 29) = false := by simp; omega
  have u20 : (k != 20) = true := by simp; omega
  have g1 : 1 ≤ k := by omega
  have g25 : ¬ 25 ≤ k := by omega
  have l22 : k ≤ 22 := by omega
  have l27 : k ≤ 27 := by omega
  clear h1 h2
  go_enter Tryz.func214, Tryz.ntmps214
  go_wp2_with (first | go_in)
  go_ret
  exact ⟨rfl, rfl⟩
 ·rw [show listedP 23 = true from decide_eq_true (by decide)]
  go_enter Tryz.func214, Tryz.ntmps214
  go_wp2_with (first | go_in)
  go_ret
  exact ⟨rfl, rfl⟩
 ·rw [show listedP 24 = true from decide_eq_true (by decide)]
  go_enter Tryz.func214, Tryz.ntmps214
  go_wp2_with (first | go_in)
  go_ret
  exact ⟨rfl, rfl⟩
 ·rw [show listedP k = true from decide_eq_true (by omega)]
  have t23 : (k == 23) = false := by simp; omega
  have t24 : (k == 24) = false := by simp; omega
  have t28 : (k == 28) = false := by simp; omega
  have t29 : (k == 29) = false := by simp; omega
  have u20 : (k != 20) = true := by simp; omega
  have g1 : 1 ≤ k := by omega
  have g25 : 25 ≤ k := by omega
  have l22 : ¬ k ≤ 22 := by omega
  have l27 : k ≤ 27 := by omega
  clear h1 h2
  go_enter Tryz.func214, Tryz.ntmps214
  go_wp2_with (first | go_in)
  go_ret
  exact ⟨rfl, rfl⟩
 ·rw [show listedP 28 = true from decide_eq_true (by decide)]
  go_enter Tryz.func214, Tryz.ntmps214
  go_wp2_with (first | go_in)
  go_ret
  exact ⟨rfl, rfl⟩
 ·rw [show listedP 29 = true from decide_eq_true (by decide)]
  go_enter Tryz.func214, Tryz.ntmps214
  go_wp2_with (first | go_in)
  go_ret
  exact ⟨rfl, rfl⟩
 ·rw [show listedP k = false from decide_eq_false (by omega)]
  have t23 : (k == 23) = false := by simp; omega
  have t24 : (k == 24) = false := by simp; omega
  have t28 : (k == 28) = false := by simp; omega
  have t29 : (k == 29) = false := by simp; omega
  have u20 : (k != 20) = true := by simp; omega
  have g1 : 1 ≤ k := by omega
  have g25 : 25 ≤ k := by omega
  have l22 : ¬ k ≤ 22 := by omega
  have l27 : ¬ k ≤ 27 := by omega
  clear h1
  go_enter Tryz.func214, Tryz.ntmps214
  go_wp2_with (first | go_in)
  go_ret
  exact ⟨rfl, rfl⟩
theorem readonly_any (k : Int) (w : World) :
  Calls Tryz.prog 72 #[.int .i64 k, .string ⟨nReadonly.toArray⟩] w fun e w' => e = .returned (.bool (roP k)) ∧ w = w' := by
 rcases (show (k ≤ 1) ∨ (2 ≤ k ∧ k ≤ 7) ∨ (8 ≤ k ∧ k ≤ 13) ∨ (14 ≤ k ∧ k ≤ 23) ∨ (k = 24) ∨ (25 ≤ k) by omega) with h1 | ⟨h1, h2⟩ | ⟨h1, h2⟩ | ⟨h1, h2⟩ | rfl | h1
 ·rw [show roP k = false from decide_eq_false (by omega)]
  have t24 : (k == 24) = false := by simp; omega
  have g2 : ¬ 2 ≤ k := by omega
  have l7 : k ≤ 7 := by omega
  have l13 : k ≤ 13 := by omega
  clear h1
  go_enter Tryz.func72, Tryz.ntmps72
  go_wp2_with (first | go_in)
  go_ret
  exact ⟨rfl, rfl⟩
 ·rw [show roP k = true from decide_eq_true (by omega)]
  have t24 : (k == 24) = false := by simp; omega
  have g2 : 2 ≤ k := by omega
  have l7 : k ≤ 7 := by omega
  have l13 : k ≤ 13 := by omega
  clear h1 h2
  go_enter Tryz.func72, Tryz.ntmps72
  go_wp2_with (first | go_in)
  go_ret
  exact ⟨rfl, rfl⟩
 ·rw [show roP k = true from decide_eq_true (by omega)]
  have t24 : (k == 24) = false := by simp; omega
  have g2 : 2 ≤ k := by omega
  have l7 : ¬ k ≤ 7 := by omega
  have l13 : k ≤ 13 := by omega
  clear h1 h2
  go_enter Tryz.func72, Tryz.ntmps72
  go_wp2_with (first | go_in)
  go_ret
  exact ⟨rfl, rfl⟩
 ·rw [show roP k = false from decide_eq_false (by omega)]
  have t24 : (k == 24) = false := by simp; omega
  have g2 : 2 ≤ k := by omega
  have l7 : ¬ k ≤ 7 := by omega
  have l13 : ¬ k ≤ 13 := by omega
  clear h1 h2
  go_enter Tryz.func72, Tryz.ntmps72
  go_wp2_with (first | go_in)
  go_ret
  exact ⟨rfl, rfl⟩
 ·rw [show roP 24 = true from decide_eq_true (by decide)]
  go_enter Tryz.func72, Tryz.ntmps72
  go_wp2_with (first | go_in)
  go_ret
  exact ⟨rfl, rfl⟩
 ·rw [show roP k = false from decide_eq_false (by omega)]
  have t24 : (k == 24) = false := by simp; omega
  have g2 : 2 ≤ k := by omega
  have l7 : ¬ k ≤ 7 := by omega
  have l13 : ¬ k ≤ 13 := by omega
  clear h1
  go_enter Tryz.func72, Tryz.ntmps72
  go_wp2_with (first | go_in)
  go_ret
  exact ⟨rfl, rfl⟩
theorem required_any (k : Int) (w : World) :
  Calls Tryz.prog 72 #[.int .i64 k, .string ⟨nRequired.toArray⟩] w fun e w' => e = .returned (.bool (reqP k)) ∧ w = w' := by
 rcases (show (k ≤ 1) ∨ (2 ≤ k ∧ k ≤ 7) ∨ (8 ≤ k ∧ k ≤ 13) ∨ (14 ≤ k ∧ k ≤ 15) ∨ (16 ≤ k ∧ k ≤ 18) ∨ (19 ≤ k ∧ k ≤ 22) ∨ (k = 23) ∨ (k = 24) ∨ (25 ≤ k) by omega) with h1 | ⟨h1, h2⟩ | ⟨h1, h2⟩ | ⟨h1, h2⟩ | ⟨h1, h2⟩ | ⟨h1, h2⟩ | rfl | rfl | h1
 ·rw [show reqP k = false from decide_eq_false (by omega)]
  have t23 : (k == 23) = false := by simp; omega
  have t24 : (k == 24) = false := by simp; omega
  have g2 : ¬ 2 ≤ k := by omega
  have g16 : ¬ 16 ≤ k := by omega
  have l7 : k ≤ 7 := by omega
  have l13 : k ≤ 13 := by omega
  have l18 : k ≤ 18 := by omega
  clear h1
  go_enter Tryz.func72, Tryz.ntmps72
  go_wp2_with (first | go_in)
  go_ret
  exact ⟨rfl, rfl⟩
 ·rw [show reqP k = true from decide_eq_true (by omega)]
  have t23 : (k == 23) = false := by simp; omega
  have t24 : (k == 24) = false := by simp; omega
  have g2 : 2 ≤ k := by omega
  have g16 : ¬ 16 ≤ k := by omega
  have l7 : k ≤ 7 := by omega
  have l13 : k ≤ 13 := by omega
  have l18 : k ≤ 18 := by omega
  clear h1 h2
  go_enter Tryz.func72, Tryz.ntmps72
  go_wp2_with (first | go_in)
  go_ret
  exact ⟨rfl, rfl⟩
 ·rw [show reqP k = true from decide_eq_true (by omega)]
  have t23 : (k == 23) = false := by simp; omega
  have t24 : (k == 24) = false := by simp; omega
  have g2 : 2 ≤ k := by omega
  have g16 : ¬ 16 ≤ k := by omega
  have l7 : ¬ k ≤ 7 := by omega
  have l13 : k ≤ 13 := by omega
  have l18 : k ≤ 18 := by omega
  clear h1 h2
  go_enter Tryz.func72, Tryz.ntmps72
  go_wp2_with (first | go_in)
  go_ret
  exact ⟨rfl, rfl⟩
 ·rw [show reqP k = false from decide_eq_false (by omega)]
  have t23 : (k == 23) = false := by simp; omega
  have t24 : (k == 24) = false := by simp; omega
  have g2 : 2 ≤ k := by omega
  have g16 : ¬ 16 ≤ k := by omega
  have l7 : ¬ k ≤ 7 := by omega
  have l13 : ¬ k ≤ 13 := by omega
  have l18 : k ≤ 18 := by omega
  clear h1 h2
  go_enter Tryz.func72, Tryz.ntmps72
  go_wp2_with (first | go_in)
  go_ret
  exact ⟨rfl, rfl⟩
 ·rw [show reqP k = true from decide_eq_true (by omega)]
  have t23 : (k == 23) = false := by simp; omega
  have t24 : (k == 24) = false := by simp; omega
  have g2 : 2 ≤ k := by omega
  have g16 : 16 ≤ k := by omega
  have l7 : ¬ k ≤ 7 := by omega
  have l13 : ¬ k ≤ 13 := by omega
  have l18 : k ≤ 18 := by omega
  clear h1 h2
  go_enter Tryz.func72, Tryz.ntmps72
  go_wp2_with (first | go_in)
  go_ret
  exact ⟨rfl, rfl⟩
 ·rw [show reqP k = false from decide_eq_false (by omega)]
  have t23 : (k == 23) = false := by simp; omega
  have t24 : (k == 24) = false := by simp; omega
  have g2 : 2 ≤ k := by omega
  have g16 : 16 ≤ k := by omega
  have l7 : ¬ k ≤ 7 := by omega
  have l13 : ¬ k ≤ 13 := by omega
  have l18 : ¬ k ≤ 18 := by omega
  clear h1 h2
  go_enter Tryz.func72, Tryz.ntmps72
  go_wp2_with (first | go_in)
  go_ret
  exact ⟨rfl, rfl⟩
 ·rw [show reqP 23 = true from decide_eq_true (by decide)]
  go_enter Tryz.func72, Tryz.ntmps72
  go_wp2_with (first | go_in)
  go_ret
  exact ⟨rfl, rfl⟩
 ·rw [show reqP 24 = true from decide_eq_true (by decide)]
  go_enter Tryz.func72, Tryz.ntmps72
  go_wp2_with (first | go_in)
  go_ret
  exact ⟨rfl, rfl⟩
 ·rw [show reqP k = false from decide_eq_false (by omega)]
  have t23 : (k == 23) = false := by simp; omega
  have t24 : (k == 24) = false := by simp; omega
  have g2 : 2 ≤ k := by omega
  have g16 : 16 ≤ k := by omega
  have l7 : ¬ k ≤ 7 := by omega
  have l13 : ¬ k ≤ 13 := by omega
  have l18 : ¬ k ≤ 18 := by omega
  clear h1
  go_enter Tryz.func72, Tryz.ntmps72
  go_wp2_with (first | go_in)
  go_ret
  exact ⟨rfl, rfl⟩
theorem minlength_any (k : Int) (w : World) :
  Calls Tryz.prog 72 #[.int .i64 k, .string ⟨nMinlength.toArray⟩] w fun e w' => e = .returned (.bool (lenP k)) ∧ w = w' := by
 rcases (show (k ≤ 1) ∨ (2 ≤ k ∧ k ≤ 7) ∨ (8 ≤ k ∧ k ≤ 23) ∨ (k = 24) ∨ (25 ≤ k) by omega) with h1 | ⟨h1, h2⟩ | ⟨h1, h2⟩ | rfl | h1
 ·rw [show lenP k = false from decide_eq_false (by omega)]
  have t24 : (k == 24) = false := by simp; omega
  have g2 : ¬ 2 ≤ k := by omega
  have l7 : k ≤ 7 := by omega
  clear h1
  go_enter Tryz.func72, Tryz.ntmps72
  go_wp2_with (first | go_in)
  go_ret
  exact ⟨rfl, rfl⟩
 ·rw [show lenP k = true from decide_eq_true (by omega)]
  have t24 : (k == 24) = false := by simp; omega
  have g2 : 2 ≤ k := by omega
  have l7 : k ≤ 7 := by omega
  clear h1 h2
  go_enter Tryz.func72, Tryz.ntmps72
  go_wp2_with (first | go_in)
  go_ret
  exact ⟨rfl, rfl⟩
 ·rw [show lenP k = false from decide_eq_false (by omega)]
  have t24 : (k == 24) = false := by simp; omega
  have g2 : 2 ≤ k := by omega
  have l7 : ¬ k ≤ 7 := by omega
  clear h1 h2
  go_enter Tryz.func72, Tryz.ntmps72
  go_wp2_with (first | go_in)
  go_ret
  exact ⟨rfl, rfl⟩
 ·rw [show lenP 24 = true from decide_eq_true (by decide)]
  go_enter Tryz.func72, Tryz.ntmps72
  go_wp2_with (first | go_in)
  go_ret
  exact ⟨rfl, rfl⟩
 ·rw [show lenP k = false from decide_eq_false (by omega)]
  have t24 : (k == 24) = false := by simp; omega
  have g2 : 2 ≤ k := by omega
  have l7 : ¬ k ≤ 7 := by omega
  clear h1
  go_enter Tryz.func72, Tryz.ntmps72
  go_wp2_with (first | go_in)
  go_ret
  exact ⟨rfl, rfl⟩
theorem maxlength_any (k : Int) (w : World) :
  Calls Tryz.prog 72 #[.int .i64 k, .string ⟨nMaxlength.toArray⟩] w fun e w' => e = .returned (.bool (lenP k)) ∧ w = w' := by
 rcases (show (k ≤ 1) ∨ (2 ≤ k ∧ k ≤ 7) ∨ (8 ≤ k ∧ k ≤ 23) ∨ (k = 24) ∨ (25 ≤ k) by omega) with h1 | ⟨h1, h2⟩ | ⟨h1, h2⟩ | rfl | h1
 ·rw [show lenP k = false from decide_eq_false (by omega)]
  have t24 : (k == 24) = false := by simp; omega
  have g2 : ¬ 2 ≤ k := by omega
  have l7 : k ≤ 7 := by omega
  clear h1
  go_enter Tryz.func72, Tryz.ntmps72
  go_wp2_with (first | go_in)
  go_ret
  exact ⟨rfl, rfl⟩
 ·rw [show lenP k = true from decide_eq_true (by omega)]
  have t24 : (k == 24) = false := by simp; omega
  have g2 : 2 ≤ k := by omega
  have l7 : k ≤ 7 := by omega
  clear h1 h2
  go_enter Tryz.func72, Tryz.ntmps72
  go_wp2_with (first | go_in)
  go_ret
  exact ⟨rfl, rfl⟩
 ·rw [show lenP k = false from decide_eq_false (by omega)]
  have t24 : (k == 24) = false := by simp; omega
  have g2 : 2 ≤ k := by omega
  have l7 : ¬ k ≤ 7 := by omega
  clear h1 h2
  go_enter Tryz.func72, Tryz.ntmps72
  go_wp2_with (first | go_in)
  go_ret
  exact ⟨rfl, rfl⟩
 ·rw [show lenP 24 = true from decide_eq_true (by decide)]
  go_enter Tryz.func72, Tryz.ntmps72
  go_wp2_with (first | go_in)
  go_ret
  exact ⟨rfl, rfl⟩
 ·rw [show lenP k = false from decide_eq_false (by omega)]
  have t24 : (k == 24) = false := by simp; omega
  have g2 : 2 ≤ k := by omega
  have l7 : ¬ k ≤ 7 := by omega
  clear h1
  go_enter Tryz.func72, Tryz.ntmps72
  go_wp2_with (first | go_in)
  go_ret
  exact ⟨rfl, rfl⟩
theorem pattern_any (k : Int) (w : World) :
  Calls Tryz.prog 72 #[.int .i64 k, .string ⟨nPattern.toArray⟩] w fun e w' => e = .returned (.bool (patP k)) ∧ w = w' := by
 rcases (show (k ≤ 1) ∨ (2 ≤ k ∧ k ≤ 7) ∨ (8 ≤ k) by omega) with h1 | ⟨h1, h2⟩ | h1
 ·rw [show patP k = false from decide_eq_false (by omega)]
  have g2 : ¬ 2 ≤ k := by omega
  have l7 : k ≤ 7 := by omega
  clear h1
  go_enter Tryz.func72, Tryz.ntmps72
  go_wp2_with (first | go_in)
  go_ret
  exact ⟨rfl, rfl⟩
 ·rw [show patP k = true from decide_eq_true (by omega)]
  have g2 : 2 ≤ k := by omega
  have l7 : k ≤ 7 := by omega
  clear h1 h2
  go_enter Tryz.func72, Tryz.ntmps72
  go_wp2_with (first | go_in)
  go_ret
  exact ⟨rfl, rfl⟩
 ·rw [show patP k = false from decide_eq_false (by omega)]
  have g2 : 2 ≤ k := by omega
  have l7 : ¬ k ≤ 7 := by omega
  clear h1
  go_enter Tryz.func72, Tryz.ntmps72
  go_wp2_with (first | go_in)
  go_ret
  exact ⟨rfl, rfl⟩
theorem ris1_any (k : Int) (w : World) :
  Calls Tryz.prog 19 #[.int .i64 1, .int .i64 k] w fun e w' => e = .returned (.bool (listedP k)) ∧ w = w' := by
 rcases (show (k ≤ 0) ∨ (1 ≤ k ∧ k ≤ 19) ∨ (k = 20) ∨ (21 ≤ k ∧ k ≤ 22) ∨ (k = 23) ∨ (k = 24) ∨ (k = 25) ∨ (k = 26) ∨ (k = 27) ∨ (k = 28) ∨ (k = 29) ∨ (30 ≤ k) by omega) with h1 | ⟨h1, h2⟩ | rfl | ⟨h1, h2⟩ | rfl | rfl | rfl | rfl | rfl | rfl | rfl | h1
 ·rw [show listedP k = false from decide_eq_false (by omega)]
  have t23 : (k == 23) = false := by simp; omega
  have t24 : (k == 24) = false := by simp; omega
  have t25 : (k == 25) = false := by simp; omega
  have t26 : (k == 26) = false := by simp; omega
  have t27 : (k == 27) = false := by simp; omega
  have t28 : (k == 28) = false := by simp; omega
  have t29 : (k == 29) = false := by simp; omega
  have u20 : (k != 20) = true := by simp; omega
  have g1 : ¬ 1 ≤ k := by omega
  have l22 : k ≤ 22 := by omega
  clear h1
  go_enter Tryz.func19, Tryz.ntmps19
  go_wp2_with (first | go_in)
  go_ret
  exact ⟨rfl, rfl⟩
 ·rw [show listedP k = true from decide_eq_true (by omega)]
  have t23 : (k == 23) = false := by simp; omega
  have t24 : (k == 24) = false := by simp; omega
  have t25 : (k == 25) = false := by simp; omega
  have t26 : (k == 26) = false := by simp; omega
  have t27 : (k == 27) = false := by simp; omega
  have t28 : (k == 28) = false := by simp; omega
  have t29 : (k == 29) = false := by simp; omega
  have u20 : (k != 20) = true := by simp; omega
  have g1 : 1 ≤ k := by omega
  have l22 : k ≤ 22 := by omega
  clear h1 h2
  go_enter Tryz.func19, Tryz.ntmps19
  go_wp2_with (first | go_in)
  go_ret
  exact ⟨rfl, rfl⟩
 ·rw [show listedP 20 = false from decide_eq_false (by decide)]
  go_enter Tryz.func19, Tryz.ntmps19
  go_wp2_with (first | go_in)
  go_ret
  exact ⟨rfl, rfl⟩
 ·rw [show listedP k = true from decide_eq_true (by omega)]
  have t23 : (k == 23) = false := by simp; omega
  have t24 : (k == 24) = false := by simp; omega
  have t25 : (k == 25) = false := by simp; omega
  have t26 : (k == 26) = false := by simp; omega
  have t27 : (k == 27) = false := by simp; omega
  have t28 : (k == 28) = false := by simp; omega
  have t29 : (k == 29) = false := by simp; omega
  have u20 : (k != 20) = true := by simp; omega
  have g1 : 1 ≤ k := by omega
  have l22 : k ≤ 22 := by omega
  clear h1 h2
  go_enter Tryz.func19, Tryz.ntmps19
  go_wp2_with (first | go_in)
  go_ret
  exact ⟨rfl, rfl⟩
 ·rw [show listedP 23 = true from decide_eq_true (by decide)]
  go_enter Tryz.func19, Tryz.ntmps19
  go_wp2_with (first | go_in)
  go_ret
  exact ⟨rfl, rfl⟩
 ·rw [show listedP 24 = true from decide_eq_true (by decide)]
  go_enter Tryz.func19, Tryz.ntmps19
  go_wp2_with (first | go_in)
  go_ret
  exact ⟨rfl, rfl⟩
 ·rw [show listedP 25 = true from decide_eq_true (by decide)]
  go_enter Tryz.func19, Tryz.ntmps19
  go_wp2_with (first | go_in)
  go_ret
  exact ⟨rfl, rfl⟩
 ·rw [show listedP 26 = true from decide_eq_true (by decide)]
  go_enter Tryz.func19, Tryz.ntmps19
  go_wp2_with (first | go_in)
  go_ret
  exact ⟨rfl, rfl⟩
 ·rw [show listedP 27 = true from decide_eq_true (by decide)]
  go_enter Tryz.func19, Tryz.ntmps19
  go_wp2_with (first | go_in)
  go_ret
  exact ⟨rfl, rfl⟩
 ·rw [show listedP 28 = true from decide_eq_true (by decide)]
  go_enter Tryz.func19, Tryz.ntmps19
  go_wp2_with (first | go_in)
  go_ret
  exact ⟨rfl, rfl⟩
 ·rw [show listedP 29 = true from decide_eq_true (by decide)]
  go_enter Tryz.func19, Tryz.ntmps19
  go_wp2_with (first | go_in)
  go_ret
  exact ⟨rfl, rfl⟩
 ·rw [show listedP k = false from decide_eq_false (by omega)]
  have t23 : (k == 23) = false := by simp; omega
  have t24 : (k == 24) = false := by simp; omega
  have t25 : (k == 25) = false := by simp; omega
  have t26 : (k == 26) = false := by simp; omega
  have t27 : (k == 27) = false := by simp; omega
  have t28 : (k == 28) = false := by simp; omega
  have t29 : (k == 29) = false := by simp; omega
  have u20 : (k != 20) = true := by simp; omega
  have g1 : 1 ≤ k := by omega
  have l22 : ¬ k ≤ 22 := by omega
  clear h1
  go_enter Tryz.func19, Tryz.ntmps19
  go_wp2_with (first | go_in)
  go_ret
  exact ⟨rfl, rfl⟩
theorem ris2_any (k : Int) (w : World) :
  Calls Tryz.prog 19 #[.int .i64 2, .int .i64 k] w fun e w' => e = .returned (.bool (subP k)) ∧ w = w' := by
 rcases (show (k ≤ 0) ∨ (1 ≤ k ∧ k ≤ 22) ∨ (k = 23) ∨ (k = 24) ∨ (k = 25) ∨ (k = 26) ∨ (k = 27) ∨ (28 ≤ k) by omega) with h1 | ⟨h1, h2⟩ | rfl | rfl | rfl | rfl | rfl | h1
 ·rw [show subP k = false from decide_eq_false (by omega)]
  have t23 : (k == 23) = false := by simp; omega
  have t24 : (k == 24) = false := by simp; omega
  have t25 : (k == 25) = false := by simp; omega
  have t26 : (k == 26) = false := by simp; omega
  have t27 : (k == 27) = false := by simp; omega
  have g1 : ¬ 1 ≤ k := by omega
  have l22 : k ≤ 22 := by omega
  clear h1
  go_enter Tryz.func19, Tryz.ntmps19
  go_wp2_with (first | go_in)
  go_ret
  exact ⟨rfl, rfl⟩
 ·rw [show subP k = true from decide_eq_true (by omega)]
  have t23 : (k == 23) = false := by simp; omega
  have t24 : (k == 24) = false := by simp; omega
  have t25 : (k == 25) = false := by simp; omega
  have t26 : (k == 26) = false := by simp; omega
  have t27 : (k == 27) = false := by simp; omega
  have g1 : 1 ≤ k := by omega
  have l22 : k ≤ 22 := by omega
  clear h1 h2
  go_enter Tryz.func19, Tryz.ntmps19
  go_wp2_with (first | go_in)
  go_ret
  exact ⟨rfl, rfl⟩
 ·rw [show subP 23 = true from decide_eq_true (by decide)]
  go_enter Tryz.func19, Tryz.ntmps19
  go_wp2_with (first | go_in)
  go_ret
  exact ⟨rfl, rfl⟩
 ·rw [show subP 24 = true from decide_eq_true (by decide)]
  go_enter Tryz.func19, Tryz.ntmps19
  go_wp2_with (first | go_in)
  go_ret
  exact ⟨rfl, rfl⟩
 ·rw [show subP 25 = true from decide_eq_true (by decide)]
  go_enter Tryz.func19, Tryz.ntmps19
  go_wp2_with (first | go_in)
  go_ret
  exact ⟨rfl, rfl⟩
 ·rw [show subP 26 = true from decide_eq_true (by decide)]
  go_enter Tryz.func19, Tryz.ntmps19
  go_wp2_with (first | go_in)
  go_ret
  exact ⟨rfl, rfl⟩
 ·rw [show subP 27 = true from decide_eq_true (by decide)]
  go_enter Tryz.func19, Tryz.ntmps19
  go_wp2_with (first | go_in)
  go_ret
  exact ⟨rfl, rfl⟩
 ·rw [show subP k = false from decide_eq_false (by omega)]
  have t23 : (k == 23) = false := by simp; omega
  have t24 : (k == 24) = false := by simp; omega
  have t25 : (k == 25) = false := by simp; omega
  have t26 : (k == 26) = false := by simp; omega
  have t27 : (k == 27) = false := by simp; omega
  have g1 : 1 ≤ k := by omega
  have l22 : ¬ k ≤ 22 := by omega
  clear h1
  go_enter Tryz.func19, Tryz.ntmps19
  go_wp2_with (first | go_in)
  go_ret
  exact ⟨rfl, rfl⟩
end Go.Proofs.YtkhlfggnjcbniaaGreatDoor.doc
namespace Go.Proofs.YtkhlfggnjcbniaaGreatDoor.doc
open atr link

def ancF (l : List Nd) : Nat → Int → List Int
 | 0, _ => []
 | n + 1, k => if (nd l k).parent < 0 then [] else (nd l k).parent :: ancF l n (nd l k).parent
def anc (l : List Nd) (k : Int) : List Int := ancF l (dep l k) k
theorem anc_eq {l : List Nd} (h : Rt l) (k : Int) (hk : inR l k) : anc l k = if (nd l k).parent < 0 then [] else (nd l k).parent :: anc l (nd l k).parent := by
 unfold anc
 rw [dep_kid h k hk]; rfl
theorem par_in {l : List Nd} (h : Rt l) (k : Int) (hk : inR l k) (h0 : ¬ (nd l k).parent < 0) : inR l (nd l k).parent := ⟨by omega, (h.par k hk).2⟩
theorem by_up {l : List Nd} (h : Rt l) (P : Int → Prop) (hp : ∀ k, inR l k → ((nd l k).parent < 0 ∨ P (nd l k).parent) → P k) : ∀ k, inR l k → P k := by
 have : ∀ n : Nat, ∀ k, inR l k → dep l k ≤ n → P k := by
  intro n
  induction n with
  | zero => intro k hk hd; have := dep_kid h k hk; omega
  | succ n ih =>
   intro k hk hd
   refine hp k hk ?_
   by_cases g : (nd l k).parent < 0
   ·exact .inl g
   ·refine .inr (ih _ (par_in h k hk g) ?_)
    have := dep_kid h k hk
    omega
 exact fun k hk => this _ k hk (Nat.le_refl _)
def nearP (l : List Nd) (k : Int) (nm : List UInt8) : Int := ((anc l k).find? (fun x => decide ((nd l x).name = nm))).getD (-1)
theorem near_eq {l : List Nd} (h : Rt l) (k : Int) (hk : inR l k) (nm : List UInt8) : nearP l k nm = if (nd l k).parent < 0 then -1 else if (nd l (nd l k).parent).name = nm then (nd l k).parent else nearP l (nd l k).parent nm := by
 unfold nearP
 rw [anc_eq h k hk]
 by_cases g : (nd l k).parent < 0
 ·rw [if_pos g, if_pos g]; rfl
 ·rw [if_neg g, if_neg g, List.find?_cons]
  by_cases e : (nd l (nd l k).parent).name = nm
  ·rw [if_pos e, decide_eq_true e]; rfl
  ·rw [if_neg e, decide_eq_false e]

def legP (l : List Nd) (lg : Int → Bool) (f : Int) : Int := ((nd l f).kids.find? lg).getD (-1)
def disF (l : List Nd) (fs lg : Int → Bool) : Nat → Int → Bool
 | 0, _ => false
 | n + 1, k => if (nd l k).parent < 0 then false else (fs (nd l k).parent && decide (legP l lg (nd l k).parent ≠ k)) || disF l fs lg n (nd l k).parent
def disU (l : List Nd) (fs lg : Int → Bool) (k : Int) : Bool := disF l fs lg (dep l k) k
theorem disU_eq {l : List Nd} (h : Rt l) (fs lg : Int → Bool) (k : Int) (hk : inR l k) : disU l fs lg k = if (nd l k).parent < 0 then false else (fs (nd l k).parent && decide (legP l lg (nd l k).parent ≠ k)) || disU l fs lg (nd l k).parent := by
 unfold disU
 rw [dep_kid h k hk]; rfl
end Go.Proofs.YtkhlfggnjcbniaaGreatDoor.doc
