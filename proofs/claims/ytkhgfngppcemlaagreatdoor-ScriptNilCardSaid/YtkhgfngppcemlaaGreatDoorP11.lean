/- The contract of the reference's Lower. The contract of text.Lower. Kinds of elements: plain. Right documents: going up ends; a node and what is within it, in order; a select's options: plain. -/
import Derived.Deep.MidRow
import Derived.Laws.BytesArg
import Derived.Laws.IdiomStrings
import Derived.Lib.Hide
import Derived.Lib.ItoaMem
import Derived.ProofKit
import Derived.WalkKit
import Derived.WalkSmall
import Derived.WalkSpells
import Derived.Test.YtkhgfngppcemlaaGreatDoorRows
import Derived.Test.YtkhgfngppcemlaaGreatDoorP1
import Derived.Test.YtkhgfngppcemlaaGreatDoorP6
namespace Go.Proofs.YtkhgfngppcemlaaGreatDoor.link
open Go.ChangeShapes Go.WideShapes Go.ChangeAt Go.RowKit Go.Lib

def lowC (c : UInt8) : UInt8 := if 65 ≤ c.toNat ∧ c.toNat ≤ 90 then c + 32 else c
def lowS (l : List UInt8) : List UInt8 := l.map lowC
def cellsOf (l : List UInt8) : List Value := l.map fun c => Value.int .u8 c.toNat
theorem lowC_in (c : UInt8) (h : 65 ≤ c.toNat ∧ c.toNat ≤ 90) : ((lowC c).toNat : Int) = (c.toNat : Int) + 32 := by
  unfold lowC
  rw [if_pos h, UInt8.toNat_add]
  have : (32 : UInt8).toNat = 32 := rfl
  rw [this]
  have := c.toNat_lt
  omega
theorem lowC_out (c : UInt8) (h : ¬ (65 ≤ c.toNat ∧ c.toNat ≤ 90)) : lowC c = c := if_neg h
end Go.Proofs.YtkhgfngppcemlaaGreatDoor.link
namespace Go.Proofs.YtkhgfngppcemlaaGreatDoor.link
open Go.ChangeShapes Go.WideShapes Go.ChangeAt Go.RowKit Go.Lib

/-- a block that holds the bytes of a text (a new []byte of a text; its mark lies behind its cells) -/
def Buf (w : World) (G : Nat) (cs : List Value) : Prop :=
  ∃ cur T, w.heap[G]? = some (.cells cur 5 (T, T + 1)) ∧ cur.size = T ∧ cur.toList.take cs.length = cs ∧ cs.length ≤ T

theorem buf_at {cur : Array Value} {cs : List Value} (h : cur.toList.take cs.length = cs) (k : Nat) (hk : k < cs.length) : cur[k]? = cs[k]? := by
  have e : (cur.toList.take cs.length)[k]? = cs[k]? := by rw [h]
  rw [List.getElem?_take, if_pos hk, Array.getElem?_toList] at e
  exact e

theorem buf_cell {w : World} {G : Nat} {cs : List Value} (h : Buf w G cs) (k : Nat) (v : Value) (hv : cs[k]? = some v) : w.cell? ⟨G, k, none⟩ = some v := by
  obtain ⟨cur, T, hh, hs, ht, hl⟩ := h
  have hk : k < cs.length := (List.getElem?_eq_some_iff.1 hv).1
  have := buf_at ht k hk
  simp [World.cell?, hh, this, hv]

theorem buf_frozen {w : World} {G : Nat} {cs : List Value} (h : Buf w G cs) (k : Nat) (hk : k < cs.length) : w.frozen? ⟨G, k, none⟩ = false := by
  obtain ⟨cur, T, hh, hs, ht, hl⟩ := h
  simp [World.frozen?, hh]
  omega

theorem buf_set {w : World} {G : Nat} {cs : List Value} (h : Buf w G cs) (k : Nat) (hk : k < cs.length) (v : Value) : Buf (w.setCell ⟨G, k, none⟩ v) G (cs.set k v) := by
  obtain ⟨cur, T, hh, hs, ht, hl⟩ := h
  have hG : G < w.heap.size := by
    rcases Array.getElem?_eq_some_iff.1 hh with ⟨h, _⟩
    exact h
  refine ⟨cur.setIfInBounds k v, T, ?_, by simp [hs], ?_, by simpa using hl⟩
  · simp [World.setCell, Array.getElem?_modify, hh]
  · rw [List.length_set]
    apply List.ext_getElem?
    intro j
    rw [List.getElem?_take, Array.getElem?_toList, Array.getElem?_setIfInBounds, List.getElem?_set]
    by_cases hj : j < cs.length
    · rw [if_pos hj]
      by_cases e : k = j
      · subst e; rw [if_pos rfl, if_pos rfl, if_pos (by omega), if_pos hk]
      · rw [if_neg e, if_neg e]; exact buf_at ht j hj
    · rw [if_neg hj, if_neg (by omega), List.getElem?_eq_none (by omega)]

theorem buf_new (w : World) (l : List UInt8) (cap : Nat) :
    Buf (w.drew.alloc (.cells (bytesRow ⟨l.toArray⟩ cap) 5 ((bytesRow ⟨l.toArray⟩ cap).size, (bytesRow ⟨l.toArray⟩ cap).size + 1))) w.heap.size (cellsOf l) := by
  refine ⟨bytesRow ⟨l.toArray⟩ cap, (bytesRow ⟨l.toArray⟩ cap).size, ?_, rfl, ?_, by simp [bytesRow, cellsOf]⟩
  · show (w.drew.heap.push _)[w.drew.heap.size]? = _
    simp only [Array.getElem?_push_size]
  · simp [bytesRow, cellsOf]

theorem buf_string {w : World} {G : Nat} {l : List UInt8} (h : Buf w G (cellsOf l)) (cap n : Nat) (hn : n = l.length) :
    (convert 142 9 (.slice (some ⟨G, 0, none⟩) n cap)).run Tryz.prog w = .ok (.string ⟨l.toArray⟩) w := by
  subst hn
  refine run_convert_bytes_back w _ _ 5 ⟨G, 0, none⟩ cap l Tryz.underlying142 Tryz.underlying5 Tryz.underlying9 ?_
  intro j hj
  rw [Addr.add_mid, Nat.zero_add]
  exact buf_cell h j _ (by simp [cellsOf, hj])

def mixS (l : List UInt8) (k : Nat) : List Value := cellsOf (lowS (l.take k) ++ l.drop k)
theorem mix_len (l : List UInt8) (k : Nat) (hk : k ≤ l.length) : (mixS l k).length = l.length := by simp [mixS, cellsOf, lowS]; omega
theorem mix_at (l : List UInt8) (k : Nat) (c : UInt8) (r : List UInt8) (hk : k < l.length) (h : l.drop k = c :: r) : (mixS l k)[k]? = some (.int .u8 c.toNat) := by
  unfold mixS cellsOf lowS
  rw [h, List.getElem?_map, List.getElem?_append_right (by simp; omega)]
  simp [Nat.min_eq_left (Nat.le_of_lt hk)]
theorem mix_step (l : List UInt8) (k : Nat) (c : UInt8) (r : List UInt8) (hk : k < l.length) (h : l.drop k = c :: r) : mixS l (k + 1) = (mixS l k).set k (.int .u8 (lowC c).toNat) := by
  have h1 : l.drop (k + 1) = r := by
    have := congrArg List.tail h
    rwa [List.tail_drop] at this
  have e : l[k] = c := by
    have := List.drop_eq_getElem_cons hk
    rw [h] at this
    exact (List.cons.inj this).1.symm
  unfold mixS
  rw [h, h1, List.take_succ_eq_append_getElem hk, e]
  simp only [cellsOf, lowS, List.map_append, List.map_cons, List.map_nil, List.append_assoc, List.cons_append, List.nil_append]
  rw [List.set_append_right _ _ (by simp; omega)]
  simp [Nat.min_eq_left (Nat.le_of_lt hk)]
theorem mix_same (l : List UInt8) (k : Nat) (c : UInt8) (r : List UInt8) (hk : k < l.length) (h : l.drop k = c :: r) (g : lowC c = c) : mixS l (k + 1) = mixS l k := by
  rw [mix_step l k c r hk h, g]
  exact List.ext_getElem? fun j => by
    rw [List.getElem?_set]
    by_cases e : k = j
    · subst e; rw [if_pos rfl, if_pos (by rw [mix_len l k (by omega)]; omega), mix_at l k c r hk h]
    · rw [if_neg e]

end Go.Proofs.YtkhgfngppcemlaaGreatDoor.link
namespace Go.Proofs.YtkhgfngppcemlaaGreatDoor.doc
open Go.Proofs.YtkhgfngppcemlaaGreatDoor.atr Go.Proofs.YtkhgfngppcemlaaGreatDoor.link

def typeNames : List (List UInt8) := [[104, 105, 100, 100, 101, 110], [116, 101, 120, 116], [115, 101, 97, 114, 99, 104], [116, 101, 108], [117, 114, 108], [101, 109, 97, 105, 108], [112, 97, 115, 115, 119, 111, 114, 100], [100, 97, 116, 101], [109, 111, 110, 116, 104], [119, 101, 101, 107], [116, 105, 109, 101], [100, 97, 116, 101, 116, 105, 109, 101, 45, 108, 111, 99, 97, 108], [110, 117, 109, 98, 101, 114], [114, 97, 110, 103, 101], [99, 111, 108, 111, 114], [99, 104, 101, 99, 107, 98, 111, 120], [114, 97, 100, 105, 111], [102, 105, 108, 101], [115, 117, 98, 109, 105, 116], [105, 109, 97, 103, 101], [114, 101, 115, 101, 116], [98, 117, 116, 116, 111, 110]]
def elemNames : List (List UInt8) := [[111, 117, 116, 112, 117, 116], [102, 105, 101, 108, 100, 115, 101, 116], [102, 111, 114, 109], [108, 97, 98, 101, 108], [111, 112, 116, 105, 111, 110], [111, 112, 116, 103, 114, 111, 117, 112], [108, 101, 103, 101, 110, 100], [100, 97, 116, 97, 108, 105, 115, 116]]
def nInput : List UInt8 := [105, 110, 112, 117, 116]
def nButton : List UInt8 := [98, 117, 116, 116, 111, 110]
def nSelect : List UInt8 := [115, 101, 108, 101, 99, 116]
def nTextarea : List UInt8 := [116, 101, 120, 116, 97, 114, 101, 97]
def nOption : List UInt8 := [111, 112, 116, 105, 111, 110]
def nOptgroup : List UInt8 := [111, 112, 116, 103, 114, 111, 117, 112]
def nReset : List UInt8 := [114, 101, 115, 101, 116]
/-- the place of a text in a list; how many there are, if it isn't in it -/
def placeL (s : List UInt8) : List (List UInt8) → Nat
  | [] => 0
  | x :: r => if x = s then 0 else placeL s r + 1
theorem placeL_at (s : List UInt8) : ∀ (l : List (List UInt8)) (k : Nat) (h : k < l.length), placeL s l = k → l[k] = s := by
  intro l
  induction l with
  | nil => intro k h; exact absurd h (Nat.not_lt_zero _)
  | cons x r ih =>
    intro k h e
    unfold placeL at e
    by_cases g : x = s
    · rw [if_pos g] at e; subst e; exact g
    · rw [if_neg g] at e
      cases k with
      | zero => omega
      | succ k => exact ih k (by simpa using h) (by omega)
def typeT (a : List Attr) : List UInt8 := lowS ((fval nType a).getD [])
def kindP (nm : List UInt8) (a : List Attr) : Int :=
  if nm = nInput then (if placeL (typeT a) typeNames < 22 then (placeL (typeT a) typeNames : Int) + 1 else 2)
  else if nm = nButton then (if typeT a = nReset then 26 else if typeT a = nButton then 27 else 25)
  else if nm = nSelect then 23
  else if nm = nTextarea then 24
  else if placeL nm elemNames < 8 then (placeL nm elemNames : Int) + 28 else 0
def kN (l : List Nd) (k : Int) : Int := kindP (nd l k).name (nd l k).attrs
theorem kind_rest (nm : List UInt8) (a : List Attr) (h1 : nm ≠ nInput) (h2 : nm ≠ nButton) (h3 : nm ≠ nSelect) (h4 : nm ≠ nTextarea) :
    kindP nm a = if placeL nm elemNames < 8 then (placeL nm elemNames : Int) + 28 else 0 := by
  unfold kindP; rw [if_neg h1, if_neg h2, if_neg h3, if_neg h4]
theorem kind_input (a : List Attr) : 1 ≤ kindP nInput a ∧ kindP nInput a ≤ 22 := by
  unfold kindP; rw [if_pos rfl]; split <;> omega
theorem kind_button (a : List Attr) : 25 ≤ kindP nButton a ∧ kindP nButton a ≤ 27 := by
  unfold kindP; rw [if_neg (by decide), if_pos rfl]
  split
  · omega
  · split <;> omega
theorem kind_select (a : List Attr) : kindP nSelect a = 23 := by unfold kindP; rw [if_neg (by decide), if_neg (by decide), if_pos rfl]
theorem kind_area (a : List Attr) : kindP nTextarea a = 24 := by unfold kindP; rw [if_neg (by decide), if_neg (by decide), if_neg (by decide), if_pos rfl]
theorem kind_elem (nm : List UInt8) (a : List Attr) (k : Nat) (hk : k < elemNames.length) : kindP nm a = (k : Int) + 28 ↔ nm = elemNames[k] := by
  have e8 : elemNames.length = 8 := rfl
  constructor
  · intro h
    by_cases h1 : nm = nInput
    · rw [h1] at h; have := kind_input a; omega
    by_cases h2 : nm = nButton
    · rw [h2] at h; have := kind_button a; omega
    by_cases h3 : nm = nSelect
    · rw [h3, kind_select] at h; omega
    by_cases h4 : nm = nTextarea
    · rw [h4, kind_area] at h; omega
    rw [kind_rest nm a h1 h2 h3 h4] at h
    have hp : placeL nm elemNames = k := by split at h <;> omega
    exact (placeL_at nm elemNames k hk hp).symm
  · intro h
    have key : ∀ (k : Nat) (hk : k < 8), elemNames[k] ≠ nInput ∧ elemNames[k] ≠ nButton ∧ elemNames[k] ≠ nSelect ∧ elemNames[k] ≠ nTextarea ∧ placeL elemNames[k] elemNames = k := by decide
    obtain ⟨g1, g2, g3, g4, g5⟩ := key k (by omega)
    rw [h]
    refine (kind_rest _ a g1 g2 g3 g4).trans ?_
    rw [g5, if_pos (by omega)]
end Go.Proofs.YtkhgfngppcemlaaGreatDoor.doc
namespace Go.Proofs.YtkhgfngppcemlaaGreatDoor.doc
open Go.Proofs.YtkhgfngppcemlaaGreatDoor.atr Go.Proofs.YtkhgfngppcemlaaGreatDoor.link

def inR (l : List Nd) (k : Int) : Prop := 0 ≤ k ∧ k < (l.length : Int)
structure Rt (l : List Nd) : Prop where
  few : l.length ≤ 400
  some1 : 1 ≤ l.length
  root : (nd l 0).parent = -1
  alone : ∀ k, inR l k → aloneP (nd l k) = true
  par : ∀ k, inR l k → -1 ≤ (nd l k).parent ∧ (nd l k).parent < (l.length : Int)
  once : ∀ k, inR l k → 0 ≤ (nd l k).parent → (nd l (nd l k).parent).kids.count k = 1
  kid : ∀ k c, inR l k → c ∈ (nd l k).kids → inR l c ∧ (nd l c).parent = k
  ends : ∀ k, inR l k → climb l (l.length + 1) k < 0
theorem right_rt (l : List Nd) (h : rightB l = true) : Rt l := by
  unfold rightB headB nodesB climbsB at h
  simp only [Bool.and_eq_true, decide_eq_true_eq, List.all_eq_true, List.mem_range] at h
  obtain ⟨⟨⟨⟨⟨h1, h2⟩, h3⟩, h4⟩, hn⟩, hc⟩ := h
  have hN : ∀ k, inR l k → aloneP (nd l k) = true ∧ rangeB l k = true ∧ onceB l k = true ∧ kidsB l k = true := by
    intro k ⟨k1, k2⟩
    have := hn k.toNat (by omega)
    rw [show ((k.toNat : Nat) : Int) = k from by omega] at this
    unfold nodeB at this
    simp only [Bool.and_eq_true] at this
    exact ⟨this.1.1.1, this.1.1.2, this.1.2, this.2⟩
  refine ⟨h2, h1, h4, fun k hk => (hN k hk).1, ?_, ?_, ?_, ?_⟩
  · intro k hk
    have := (hN k hk).2.1
    unfold rangeB at this
    rw [Bool.and_eq_true, decide_eq_true_eq, decide_eq_true_eq] at this
    exact this
  · intro k hk hp
    have := (hN k hk).2.2.1
    unfold onceB at this
    rw [decide_eq_false (by omega)] at this
    simpa using this
  · intro k c hk hc
    obtain ⟨a, b, c⟩ := kidsB_mem l k c (hN k hk).2.2.2 hc
    exact ⟨⟨a, b⟩, c⟩
  · intro k ⟨k1, k2⟩
    have := hc k.toNat (by omega)
    rw [show ((k.toNat : Nat) : Int) = k from by omega] at this
    exact this

/-- how far from the top -/
def dpt (l : List Nd) : Nat → Int → Nat
  | 0, _ => 0
  | f + 1, k => if k < 0 then 0 else dpt l f (nd l k).parent + 1
theorem dpt_le (l : List Nd) : ∀ f k, dpt l f k ≤ f := by
  intro f
  induction f with
  | zero => intro k; exact Nat.le_refl _
  | succ f ih => intro k; unfold dpt; split
                 · omega
                 · have := ih (nd l k).parent; omega
theorem dpt_more (l : List Nd) : ∀ f k g, climb l f k < 0 → f ≤ g → dpt l g k = dpt l f k := by
  intro f
  induction f with
  | zero =>
    intro k g h _
    have h : k < 0 := h
    cases g with
    | zero => rfl
    | succ g => unfold dpt; rw [if_pos h]
  | succ f ih =>
    intro k g h hg
    obtain ⟨g, rfl⟩ : ∃ g', g = g' + 1 := ⟨g - 1, by omega⟩
    unfold dpt
    by_cases hk : k < 0
    · rw [if_pos hk, if_pos hk]
    · rw [if_neg hk, if_neg hk]
      unfold climb at h
      rw [if_neg hk] at h
      rw [ih _ g h (by omega)]
def dep (l : List Nd) (k : Int) : Nat := dpt l (l.length + 1) k
theorem dep_le (l : List Nd) (k : Int) : dep l k ≤ l.length + 1 := dpt_le l _ k
theorem dep_kid {l : List Nd} (h : Rt l) (c : Int) (hc : inR l c) : dep l c = dep l (nd l c).parent + 1 := by
  have he := h.ends c hc
  have e : climb l (l.length + 1) c = climb l l.length (nd l c).parent := by
    show (if c < 0 then c else climb l l.length (nd l c).parent) = _
    rw [if_neg (by have := hc.1; omega)]
  rw [e] at he
  have e2 : dep l c = dpt l l.length (nd l c).parent + 1 := by
    show (if c < 0 then 0 else dpt l l.length (nd l c).parent + 1) = _
    rw [if_neg (by have := hc.1; omega)]
  rw [e2]
  unfold dep
  rw [dpt_more l l.length _ (l.length + 1) he (by omega)]

/-- a node, and what is within it, in order -/
def pre (l : List Nd) : Nat → Int → List Int
  | 0, k => [k]
  | f + 1, k => k :: (nd l k).kids.flatMap (pre l f)
def ordP (l : List Nd) (k : Int) : List Int := pre l (l.length + 1 - dep l k) k
theorem flat_congr {α β : Type} (a : List α) (f g : α → List β) (h : ∀ x ∈ a, f x = g x) : a.flatMap f = a.flatMap g := by
  induction a with
  | nil => rfl
  | cons x r ih => rw [List.flatMap_cons, List.flatMap_cons, h x List.mem_cons_self, ih (fun y hy => h y (List.mem_cons_of_mem _ hy))]
theorem ord_eq {l : List Nd} (h : Rt l) (k : Int) (hk : inR l k) : ordP l k = k :: (nd l k).kids.flatMap (ordP l) := by
  unfold ordP
  cases hf : l.length + 1 - dep l k with
  | zero =>
    have hno : (nd l k).kids = [] := by
      cases hc : (nd l k).kids with
      | nil => rfl
      | cons c r =>
        obtain ⟨c1, c2⟩ := h.kid k c hk (by rw [hc]; exact List.mem_cons_self)
        have := dep_kid h c c1
        have h1 := dep_le l c
        rw [c2] at this
        omega
    rw [hno]; rfl
  | succ f =>
    show k :: (nd l k).kids.flatMap (pre l f) = _
    rw [flat_congr _ (pre l f) (fun c => pre l (l.length + 1 - dep l c) c)]
    intro c hc
    obtain ⟨c1, c2⟩ := h.kid k c hk hc
    have := dep_kid h c c1
    rw [c2] at this
    rw [show l.length + 1 - dep l c = f from by omega]
/-- by depth -/
theorem by_depth {l : List Nd} (h : Rt l) (P : Int → Prop) (hp : ∀ k, inR l k → (∀ c ∈ (nd l k).kids, P c) → P k) : ∀ k, inR l k → P k := by
  have key : ∀ m k, inR l k → l.length + 1 - dep l k ≤ m → P k := by
    intro m
    induction m with
    | zero =>
      intro k hk hm
      refine hp k hk (fun c hc => ?_)
      obtain ⟨c1, c2⟩ := h.kid k c hk hc
      have := dep_kid h c c1
      have h1 := dep_le l c
      rw [c2] at this
      omega
    | succ m ih =>
      intro k hk hm
      refine hp k hk (fun c hc => ?_)
      obtain ⟨c1, c2⟩ := h.kid k c hk hc
      have := dep_kid h c c1
      have h1 := dep_le l c
      rw [c2] at this
      exact ih c c1 (by omega)
  intro k hk
  exact key _ k hk (Nat.le_refl _)
theorem ord_in {l : List Nd} (h : Rt l) : ∀ k, inR l k → ∀ x ∈ ordP l k, inR l x ∧ dep l k ≤ dep l x := by
  refine by_depth h (fun k => ∀ x ∈ ordP l k, inR l x ∧ dep l k ≤ dep l x) ?_
  intro k hk ih x hx
  rw [ord_eq h k hk] at hx
  rcases List.mem_cons.1 hx with rfl | hx
  · exact ⟨hk, Nat.le_refl _⟩
  · obtain ⟨c, hc, hx⟩ := List.mem_flatMap.1 hx
    obtain ⟨c1, c2⟩ := h.kid k c hk hc
    have := dep_kid h c c1
    rw [c2] at this
    obtain ⟨a, b⟩ := ih c hc x hx
    exact ⟨a, by omega⟩

/-- the select of an option; -1: it has none -/
def upP (l : List Nd) (o : Int) : Int := if 0 ≤ (nd l o).parent ∧ (nd l (nd l o).parent).name = nOptgroup then (nd l (nd l o).parent).parent else (nd l o).parent
def ownerP (l : List Nd) (o : Int) : Int := if upP l o < 0 ∨ (nd l (upP l o)).name ≠ nSelect then -1 else upP l o
def ofP (l : List Nd) (sel x : Int) : Bool := decide ((nd l x).name = nOption) && decide (ownerP l x = sel)
theorem far {l : List Nd} (h : Rt l) (sel : Int) (hs : inR l sel) (x : Int) (hx : inR l x) (hd : dep l sel + 3 ≤ dep l x) : ofP l sel x = false := by
  unfold ofP
  rw [Bool.and_eq_false_iff, decide_eq_false_iff_not, decide_eq_false_iff_not]
  right
  intro ho
  unfold ownerP at ho
  by_cases g : upP l x < 0 ∨ (nd l (upP l x)).name ≠ nSelect
  · rw [if_pos g] at ho; have := hs.1; omega
  · rw [if_neg g] at ho
    have e1 := dep_kid h x hx
    unfold upP at ho
    by_cases g2 : 0 ≤ (nd l x).parent ∧ (nd l (nd l x).parent).name = nOptgroup
    · rw [if_pos g2] at ho
      have e2 := dep_kid h (nd l x).parent ⟨g2.1, (h.par x hx).2⟩
      rw [ho] at e2
      omega
    · rw [if_neg g2] at ho
      rw [ho] at e1
      omega
end Go.Proofs.YtkhgfngppcemlaaGreatDoor.doc
