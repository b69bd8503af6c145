/- The reference's Clean of a list of addresses. slices.ContainsFunc at the attributes: is one named 'multiple'? law13: what clean.Value makes of a value, again. -/
import Derived.Test.YtbhdoocajfkfiaaGreatDoorMg
import Derived.Test.YtbhdoocajfkfiaaGreatDoorMf
import Derived.Test.YtbhdoocajfkfiaaGreatDoorNn
import Derived.Test.YtbhdoocajfkfiaaGreatDoorMh
import Derived.Test.YtbhdoocajfkfiaaGreatDoorMe
namespace Go.Proofs.YtbhdoocajfkfiaaGreatDoor.cln
open Go.ChangeShapes Go.WideShapes Go.ChangeAt Go.RowKit Go.Lib Go.Proofs.YtbhdoocajfkfiaaGreatDoor.link

theorem join_snoc (a : List UInt8) (r : List (List UInt8)) (x sep : List UInt8) : Lib.join ((a :: r) ++ [x]) sep = (Lib.join (a :: r) sep ++ sep) ++ x := by
  rw [List.cons_append, Lib.join_cons, Lib.join_cons]
  unfold Lib.joinTail
  simp
theorem str_join (a b : List UInt8) (h : a.length + b.length ≤ 9223372036854775807) (w : World) : (Op.stringOp .add ⟨a.toArray⟩ ⟨b.toArray⟩).run Tryz.prog w = .ok (.string ⟨(a ++ b).toArray⟩) w := by
  have := run_string_add_sum (P := Tryz.prog) (w := w) ⟨a.toArray⟩ ⟨b.toArray⟩ (by rw [bsize, bsize]; exact h)
  rw [bapp] at this
  exact this
def accJ (ls : List (List UInt8)) (k : Nat) : List UInt8 := Lib.join ((ls.take k).map stripB) [44]
theorem accJ_zero (ls : List (List UInt8)) : accJ ls 0 = [] := rfl
theorem accJ_one (ls : List (List UInt8)) (h : 0 < ls.length) : accJ ls 1 = stripB ls[0] := by
  unfold accJ
  rw [List.take_succ_eq_append_getElem h]
  exact Lib.join_one _ _
theorem accJ_more (ls : List (List UInt8)) (k : Nat) (h : k < ls.length) (h0 : 0 < k) : accJ ls (k + 1) = (accJ ls k ++ [44]) ++ stripB ls[k] := by
  unfold accJ
  rw [List.take_succ_eq_append_getElem h, List.map_append]
  cases hx : (ls.take k).map stripB with
  | nil =>
    have := congrArg List.length hx
    rw [List.length_map, List.length_take, List.length_nil] at this
    omega
  | cons a r => exact join_snoc a r _ _
theorem accJ_len (ls : List (List UInt8)) (k : Nat) (hk : k ≤ 1000001) (h : ∀ x ∈ ls, x.length ≤ 1000000) : (accJ ls k).length ≤ 2000000000000 := by
  have h1 := join_len [44] ((ls.take k).map stripB) 1000000 (by
    intro x hx
    obtain ⟨y, hy, rfl⟩ := List.mem_map.1 hx
    exact Nat.le_trans (stripB_le y) (h y (List.mem_of_mem_take hy)))
  have h2 : ((ls.take k).map stripB).length ≤ k := by rw [List.length_map, List.length_take]; omega
  have h3 : ((ls.take k).map stripB).length * (1 + 1000000) ≤ 1000001 * (1 + 1000000) := Nat.mul_le_mul_right _ (by omega)
  unfold accJ
  simp only [List.length_cons, List.length_nil] at h1
  omega
theorem accJ_all (l : List UInt8) : accJ (spl 44 [] l) (spl 44 [] l).length = cleanM l := by
  unfold accJ cleanM
  rw [List.take_length]

set_option maxHeartbeats 1600000 in
set_option maxRecDepth 100000 in
theorem rclean_any (l : List UInt8) (hl : l.length ≤ 1000000) (w : World) :
    Calls Tryz.prog 75 #[.string ⟨l.toArray⟩] w fun e w' => e = .returned (.string ⟨(cleanM l).toArray⟩) ∧ Below w.heap.size w w' := by
  have h1 := rsplit_row l 44 hl w
  obtain ⟨tx, htx⟩ : ∃ tx, tx = cleanM l := ⟨_, rfl⟩
  rw [← htx]
  rw [← accJ_all] at htx
  have hsm : ∀ x ∈ spl 44 [] l, x.length ≤ 1000000 := fun x hx => by have := spl_small 44 l [] x hx; simp at this; omega
  have hn : (spl 44 [] l).length ≤ 1000001 := by have := spl_len 44 l []; have h3 : l.count 44 ≤ l.length := List.count_le_length; omega
  have hp := spl_pos 44 l []
  generalize spl 44 [] l = ls at *
  have HTX := Lib.hid htx
  have HS := Lib.hid hsm
  clear htx hsm
  go_enter Tryz.func75, Tryz.ntmps75
  go_wp2_with fail
  refine h1.mono ?_
  rintro e w1 ⟨b, cap, rfl, hR, hb1⟩
  go_wp2_with fail
  go_loop [4, 5] (fun s4 s => ∃ k : Nat, s = .int .i64 k ∧ k ≤ ls.length ∧ s4 = .string ⟨(accJ ls k).toArray⟩) (fun _ s => ls.length - (RowKit.intOf s).toNat)
  case atStart => exact ⟨0, rfl, by omega, rfl⟩
  case round =>
    obtain ⟨k, rfl, hk, rfl⟩ := hrel
    by_cases hlt : k < ls.length
    · have hcell := hR k hlt
      have hxl := HS.out ls[k] (List.getElem_mem hlt)
      by_cases h0 : 0 < k
      · have hstep := accJ_more ls k hlt h0
        have hal := accJ_len ls k (by omega) HS.out
        have hyl := Nat.le_trans (stripB_le ls[k]) hxl
        generalize ls[k] = x at *
        have h2 := rstrip_any x (by omega) w1
        generalize stripB x = y at *
        generalize accJ ls k = a at *
        have e1 := fun w => str_join a [44] (by simp; omega) w
        have e2 := fun w => str_join (a ++ [44]) y (by simp; omega) w
        have HX := Lib.hid hstep
        clear hstep
        go_wp2_with fail
        refine h2.mono ?_
        rintro e w2 ⟨rfl, rfl⟩
        go_wp2_with fail
        go_round
        case rel => exact ⟨k + 1, by go_num, by omega, by rw [HX.out]; simp⟩
        case measure => simp [RowKit.intOf]; omega
      · obtain rfl : k = 0 := by omega
        have hstep := accJ_one ls hlt
        have hyl := Nat.le_trans (stripB_le ls[0]) hxl
        rw [accJ_zero]
        generalize ls[0] = x at *
        have h2 := rstrip_any x (by omega) w1
        generalize stripB x = y at *
        have HX := Lib.hid hstep
        clear hstep
        go_wp2_with fail
        refine h2.mono ?_
        rintro e w2 ⟨rfl, rfl⟩
        go_wp2_with fail
        go_round
        case rel => exact ⟨1, rfl, by omega, by rw [HX.out]⟩
        case measure => simp [RowKit.intOf]; omega
    · obtain rfl : k = ls.length := by omega
      rw [← HTX.out]
      go_wp2_with fail
      go_ret
      exact ⟨rfl, hb1⟩
end Go.Proofs.YtbhdoocajfkfiaaGreatDoor.cln

namespace Go.Proofs.YtbhdoocajfkfiaaGreatDoor.cln
open Go.ChangeShapes Go.WideShapes Go.ChangeAt Go.RowKit Go.Lib Go.Proofs.YtbhdoocajfkfiaaGreatDoor.atr

def nMult : List UInt8 := [109, 117, 108, 116, 105, 112, 108, 101]
def multB (l : List Attr) : Bool := l.any fun x => decide (x.1 = nMult)
theorem multB_fint (l : List Attr) : decide (0 ≤ fint nMult l) = multB l := by
  have h := Lib.idxBy_nonneg_iff (fun _ (y : Attr) => decide (y.1 = nMult)) (l.take l.length) default
  rw [fint_idx, List.take_length] at h
  exact h

theorem mult_pred (w : World) : PredBelow Tryz.prog 108 #[] (fun x => .agg (encA x).toArray) (fun x => decide (x.1 = nMult)) w := fun W x hb => by
  obtain ⟨a, b⟩ := x
  show Calls Tryz.prog 108 #[.agg #[.string ⟨a.toArray⟩, .string ⟨b.toArray⟩]] W _
  have he : (a == [109, 117, 108, 116, 105, 112, 108, 101]) = decide (a = nMult) := lst_eq a nMult
  have HE := Lib.hid he
  clear he
  go_enter Tryz.func108, Tryz.ntmps108
  go_wp2_with fail
  go_ret
  exact ⟨by first | rfl | (rw [← HE.out]; rfl), hb.alloc hb.size _⟩

set_option maxHeartbeats 800000 in
set_option maxRecDepth 100000 in
theorem contains_empty (oa : Option Addr) (cap : Nat) (g : Nat) (lb : Array Value) (w : World) :
    Calls Tryz.prog 107 #[.slice oa 0 cap, .func (.func g) #[] lb] w fun e w' => e = .returned (.bool false) ∧ w = w' := by
  have h := idxf_empty oa cap g lb w
  go_enter Tryz.func107, Tryz.ntmps107
  go_wp2_with fail
  refine h.mono ?_
  rintro e w1 ⟨rfl, rfl⟩
  go_wp2_with fail
  go_ret
  exact ⟨rfl, rfl⟩

theorem mult_any (v : Value) (l : List Attr) (hl : l.length ≤ 1000000000) (w : World) (hA : AttrsAt w v l) :
    Calls Tryz.prog 107 #[v, .func (.func 108) #[] #[]] w fun e w' => e = .returned (.bool (multB l)) ∧ Below w.heap.size w w' := by
  have eg : ∀ args w, (callFunc 108 args).run Tryz.prog w = .ok (.enter 108 args) w := enters_of Tryz.func108 (by kernel_rfl) rfl
  rcases hA with ⟨rfl, oa, cap, rfl⟩ | ⟨b, off, cap, rfl, h0, hb, hR⟩
  · exact (contains_empty oa cap _ _ w).mono fun e w' h => ⟨h.1, by rw [← h.2]; exact Below.refl _ _⟩
  · have h := AnyQ.slices_ContainsFunc Tryz.laysg107 2 isAggA sizeA encA (fun _ => rfl) (fun x => decide (x.1 = nMult)) 108 #[] eg b off l.length cap l w (mult_pred w) (Nat.le_refl _) (by omega) hb (row_cells hR)
    rw [List.take_length] at h
    exact h
end Go.Proofs.YtbhdoocajfkfiaaGreatDoor.cln

namespace Go.Proofs.YtbhdoocajfkfiaaGreatDoor.cln
open Go.Lib Go.Proofs.YtbhdoocajfkfiaaGreatDoor.num Go.Proofs.YtbhdoocajfkfiaaGreatDoor.mom Go.Proofs.YtbhdoocajfkfiaaGreatDoor.atr Go.Proofs.YtbhdoocajfkfiaaGreatDoor.link Go.Proofs.YtbhdoocajfkfiaaGreatDoor.stp

theorem spl_over (c : UInt8) (x : List UInt8) (hx : c ∉ x) (r : List UInt8) : ∀ acc, spl c acc (x ++ r) = spl c (acc ++ x) r := by
  induction x with
  | nil => intro acc; rw [List.nil_append, List.append_nil]
  | cons b t ih =>
    intro acc
    have h1 : b ≠ c := fun h => hx (by rw [h]; exact List.mem_cons_self)
    rw [List.cons_append, spl, if_neg h1, ih (fun h => hx (List.mem_cons_of_mem _ h)), List.append_assoc]
    rfl
theorem spl_tail (c : UInt8) (xs : List (List UInt8)) (h : ∀ x ∈ xs, c ∉ x) : ∀ acc, spl c acc (Lib.joinTail [c] xs) = acc :: xs := by
  induction xs with
  | nil => intro acc; rfl
  | cons a r ih =>
    intro acc
    have e : Lib.joinTail [c] (a :: r) = c :: (a ++ Lib.joinTail [c] r) := rfl
    rw [e, spl, if_pos rfl, spl_over c a (h a List.mem_cons_self), List.nil_append, ih (fun x hx => h x (List.mem_cons_of_mem _ hx))]
theorem spl_join (c : UInt8) (xs : List (List UInt8)) (hn : xs ≠ []) (h : ∀ x ∈ xs, c ∉ x) : spl c [] (Lib.join xs [c]) = xs := by
  cases xs with
  | nil => exact absurd rfl hn
  | cons a r =>
    rw [Lib.join_cons, spl_over c a (h a List.mem_cons_self), List.nil_append, spl_tail c r (fun x hx => h x (List.mem_cons_of_mem _ hx))]
theorem spl_free (c : UInt8) (l : List UInt8) : ∀ acc, c ∉ acc → ∀ x ∈ spl c acc l, c ∉ x := by
  induction l with
  | nil =>
    intro acc h x hx
    rw [spl, List.mem_singleton] at hx
    rw [hx]; exact h
  | cons b r ih =>
    intro acc h x hx
    rw [spl] at hx
    by_cases g : b = c
    · rw [if_pos g] at hx
      rcases List.mem_cons.1 hx with rfl | hx
      · exact h
      · exact ih [] (by simp) x hx
    · rw [if_neg g] at hx
      exact ih (acc ++ [b]) (by
        intro hm
        rcases List.mem_append.1 hm with hm | hm
        · exact h hm
        · exact g (List.mem_singleton.1 hm).symm) x hx
theorem join_spl (c : UInt8) (l : List UInt8) : ∀ acc, Lib.join (spl c acc l) [c] = acc ++ l := by
  induction l with
  | nil => intro acc; rw [spl, Lib.join_one, List.append_nil]
  | cons b r ih =>
    intro acc
    rw [spl]
    by_cases g : b = c
    · rw [if_pos g]
      cases hs : spl c [] r with
      | nil => have := spl_pos c r []; rw [hs] at this; exact absurd this (by simp)
      | cons a t =>
        have h := ih []
        rw [hs, Lib.join_cons, List.nil_append] at h
        rw [Lib.join_cons, g]
        show acc ++ (c :: (a ++ Lib.joinTail [c] t)) = _
        rw [h]
    · rw [if_neg g, ih, List.append_assoc]; rfl
theorem joinTail_le (f : List UInt8 → List UInt8) (hf : ∀ x, (f x).length ≤ x.length) (sep : List UInt8) (xs : List (List UInt8)) : (Lib.joinTail sep (xs.map f)).length ≤ (Lib.joinTail sep xs).length := by
  induction xs with
  | nil => exact Nat.le_refl _
  | cons a r ih =>
    have e : ∀ (y : List UInt8) (t : List (List UInt8)), Lib.joinTail sep (y :: t) = (sep ++ y) ++ Lib.joinTail sep t := fun y t => rfl
    have := hf a
    rw [List.map_cons, e, e, List.length_append, List.length_append, List.length_append, List.length_append]
    omega
theorem cleanM_le (l : List UInt8) : (cleanM l).length ≤ l.length := by
  have h := join_spl 44 l []
  rw [List.nil_append] at h
  have key : (Lib.join ((spl 44 [] l).map stripB) [44]).length ≤ (Lib.join (spl 44 [] l) [44]).length := by
    cases spl 44 [] l with
    | nil => exact Nat.le_refl _
    | cons a t =>
      have h1 := joinTail_le stripB stripB_le [44] t
      have h2 := stripB_le a
      rw [List.map_cons, Lib.join_cons, Lib.join_cons, List.length_append, List.length_append]
      omega
  rw [h] at key
  exact key
theorem cleanM_again (l : List UInt8) : cleanM (cleanM l) = cleanM l := by
  have h0 : spl 44 [] (cleanM l) = (spl 44 [] l).map stripB := by
    unfold cleanM
    refine spl_join 44 _ ?_ ?_
    · intro h
      have := congrArg List.length h
      have hp := spl_pos 44 l []
      rw [List.length_map, List.length_nil] at this
      omega
    · intro x hx
      obtain ⟨y, hy, rfl⟩ := List.mem_map.1 hx
      exact fun hm => spl_free 44 l [] (by simp) y hy (stripB_mem y 44 hm)
  rw [show cleanM (cleanM l) = Lib.join ((spl 44 [] (cleanM l)).map stripB) [44] from rfl, h0, List.map_map]
  have e : (stripB ∘ stripB) = stripB := funext stripB_again
  rw [e]; rfl

/-- what a control makes of a value -/
def cleanV (kind : Int) (l : List Attr) (s : List UInt8) : List UInt8 :=
  if kind = 2 ∨ kind = 3 ∨ kind = 4 ∨ kind = 7 then noBr s
  else if kind = 5 then trimM s
  else if kind = 6 then (if multB l = true then cleanM s else trimM s)
  else if kind = 8 ∨ kind = 9 ∨ kind = 10 ∨ kind = 11 ∨ kind = 13 then (if (valK kind s).2 = true then s else [])
  else if kind = 12 then (if (valK kind s).2 = true then (showK kind (valK kind s).1).1 else [])
  else if kind = 14 then rangeV l s
  else if kind = 15 then cleanC s
  else s
theorem cleanV_A (kind : Int) (l : List Attr) (s : List UInt8) (h : kind = 2 ∨ kind = 3 ∨ kind = 4 ∨ kind = 7) : cleanV kind l s = noBr s := by unfold cleanV; rw [if_pos h]
theorem cleanV_5 (l : List Attr) (s : List UInt8) : cleanV 5 l s = trimM s := by unfold cleanV; rw [if_neg (by decide), if_pos rfl]
theorem cleanV_6 (l : List Attr) (s : List UInt8) : cleanV 6 l s = if multB l = true then cleanM s else trimM s := by unfold cleanV; rw [if_neg (by decide), if_neg (by decide), if_pos rfl]
theorem cleanV_B (kind : Int) (l : List Attr) (s : List UInt8) (h : kind = 8 ∨ kind = 9 ∨ kind = 10 ∨ kind = 11 ∨ kind = 13) : cleanV kind l s = if (valK kind s).2 = true then s else [] := by
  unfold cleanV
  rw [if_neg (by omega), if_neg (by omega), if_neg (by omega), if_pos h]
theorem cleanV_12 (l : List Attr) (s : List UInt8) : cleanV 12 l s = if (valK 12 s).2 = true then (showK 12 (valK 12 s).1).1 else [] := by
  unfold cleanV
  rw [if_neg (by decide), if_neg (by decide), if_neg (by decide), if_neg (by decide), if_pos rfl]
theorem cleanV_14 (l : List Attr) (s : List UInt8) : cleanV 14 l s = rangeV l s := by
  unfold cleanV
  rw [if_neg (by decide), if_neg (by decide), if_neg (by decide), if_neg (by decide), if_neg (by decide), if_pos rfl]
theorem cleanV_15 (l : List Attr) (s : List UInt8) : cleanV 15 l s = cleanC s := by
  unfold cleanV
  rw [if_neg (by decide), if_neg (by decide), if_neg (by decide), if_neg (by decide), if_neg (by decide), if_neg (by decide), if_pos rfl]
theorem cleanV_no (kind : Int) (l : List Attr) (s : List UInt8) (h : ¬ (2 ≤ kind ∧ kind ≤ 15)) : cleanV kind l s = s := by
  unfold cleanV
  rw [if_neg (by omega), if_neg (by omega), if_neg (by omega), if_neg (by omega), if_neg (by omega), if_neg (by omega), if_neg (by omega)]
theorem kindsV (kind : Int) : (kind = 2 ∨ kind = 3 ∨ kind = 4 ∨ kind = 7) ∨ kind = 5 ∨ kind = 6 ∨ (kind = 8 ∨ kind = 9 ∨ kind = 10 ∨ kind = 11 ∨ kind = 13) ∨ kind = 12 ∨ kind = 14 ∨ kind = 15 ∨ ¬ (2 ≤ kind ∧ kind ≤ 15) := by omega

theorem showK12_no (n : Int) (h : (showK 12 n).2 = false) : (showK 12 n).1 = [] := by
  unfold showK at h ⊢
  rw [if_neg (by decide), if_pos (by decide)] at h ⊢
  dsimp only at h ⊢
  rcases mom.back (12 - 7) n with ⟨h1, _⟩ | ⟨_, h2⟩
  · rw [h1] at h; exact absurd h (by decide)
  · exact h2
theorem val12_nil : (valK 12 []).2 = false := by decide +kernel
theorem clean12_again (l : List Attr) (s : List UInt8) : cleanV 12 l (cleanV 12 l s) = cleanV 12 l s := by
  rw [cleanV_12, cleanV_12]
  by_cases h : (valK 12 s).2 = true
  · rw [if_pos h]
    cases g : (showK 12 (valK 12 s).1).2
    · rw [showK12_no _ g, val12_nil, if_neg (by decide)]
    · rw [showK_back 12 _ g, if_pos rfl]
  · rw [if_neg h, val12_nil, if_neg (by decide)]
theorem cleanV_again (kind : Int) (l : List Attr) (s : List UInt8) : cleanV kind l (cleanV kind l s) = cleanV kind l s := by
  rcases kindsV kind with h | rfl | rfl | h | rfl | rfl | rfl | h
  · rw [cleanV_A _ _ _ h, cleanV_A _ _ _ h, noBr_again]
  · rw [cleanV_5, cleanV_5, trimM_again]
  · rw [cleanV_6, cleanV_6]
    by_cases g : multB l = true
    · rw [if_pos g, if_pos g, cleanM_again]
    · rw [if_neg g, if_neg g, trimM_again]
  · rw [cleanV_B _ _ _ h, cleanV_B _ _ _ h]
    by_cases g : (valK kind s).2 = true
    · rw [if_pos g, if_pos g]
    · rw [if_neg g]
      split <;> rfl
  · exact clean12_again l s
  · rw [cleanV_14, cleanV_14, rangeV_again]
  · rw [cleanV_15, cleanV_15, cleanC_again]
  · rw [cleanV_no _ _ _ h, cleanV_no _ _ _ h]
end Go.Proofs.YtbhdoocajfkfiaaGreatDoor.cln
