/- MomentLocal: the walk. -/
import Derived.Test.YtbaloklcpfjmeaaDoorMomentNormalWalk
namespace Go.Proofs.YtbaloklcpfjmeaaDoor.mom
open Go.ChangeShapes Go.WideShapes Go.ChangeAt Go.RowKit Go.Lib Go.Proofs.YtbaloklcpfjmeaaDoor.num Go.Proofs.YtbaloklcpfjmeaaDoor.days Go.Proofs.YtbaloklcpfjmeaaDoor.cal

/-- does a T or a blank stand in it? -/
def midB (l : List UInt8) : Bool := l.any isMid
theorem midB_no (l : List UInt8) (h : midB l = false) : l.all (fun c => !isMid c) = true := by
  unfold midB at h
  rw [List.any_eq_false] at h
  rw [List.all_eq_true]
  intro x hx
  have := h x hx
  cases hm : isMid x
  · rfl
  · exact absurd hm this
theorem midB_cons (c : UInt8) (r : List UInt8) : midB (c :: r) = ((((c.toNat : Int) == 84) || ((c.toNat : Int) == 32)) || midB r) := by
  unfold midB
  rw [List.any_cons]
  unfold isMid
  rw [Go.Proofs.YtbaloklcpfjmeaaDoor.num.byteq c 84 84 rfl, Go.Proofs.YtbaloklcpfjmeaaDoor.num.byteq c 32 32 rfl]

set_option maxHeartbeats 1600000 in
set_option maxRecDepth 100000 in
theorem local_walk (d : List UInt8) (hd : (⟨d.toArray⟩ : ByteArray).size ≤ maxLen) (zd : d.length ≤ 140737488351232) (t : List UInt8) (ht : (⟨t.toArray⟩ : ByteArray).size ≤ maxLen) (zt : t.length ≤ 140737488351232) (b : Bool) (w : World) (hG : G w) (hE : GE w) :
    Calls Tryd.prog 5 #[.string ⟨d.toArray⟩, .string ⟨t.toArray⟩, .bool b] w fun e w' => e = .returned (.bool true) ∧ Below w.heap.size w w' := by
  clear hd ht
  by_cases l1 : (16384 : Int) < (d.length : Int) + t.length
  · go_enter Tryd.func5, Tryd.ntmps5
    go_wp2_with fail
    refine (wakes_any w hG hE).mono ?_
    rintro ee w1 ⟨rfl, B1⟩
    go_wp2_with fail
    go_ret
    exact ⟨rfl, B1⟩
  · have tl : decide ((16384 : Int) < (d.length : Int) + t.length) = false := decide_eq_false l1
    have hdl : d.length ≤ 16384 := by omega
    have htl : t.length ≤ 16384 := by omega
    have p1 := fun w h => mparse_any 1 ⟨by decide, by decide⟩ d (by omega) w h
    have p2 := fun w h => mparse_any 4 ⟨by decide, by decide⟩ t (by omega) w h
    obtain ⟨c, hc⟩ : ∃ c : UInt8, c = if b = true then 32 else 84 := ⟨_, rfl⟩
    have hm : isMid c = true := by rw [hc]; cases b <;> rfl
    have p3 := fun w h => mparse_any 5 ⟨by decide, by decide⟩ (d ++ c :: t) (by simp; omega) w h
    have HL : Hid (midB d = false → (((parseM 1 d).2 ≠ 0 ∨ (parseM 4 t).2 ≠ 0) ∧ parseM 5 (d ++ c :: t) = (0, 1)) ∨
      ((parseM 1 d).2 = 0 ∧ (parseM 4 t).2 = 0 ∧ parseM 5 (d ++ c :: t) = ((parseM 1 d).1 + (parseM 4 t).1, 0))) := Lib.hid (fun g => locals d t c hm (midB_no d g))
    have i1 := parse64 1 d
    have i2 := parse64 4 t
    have HI3 := Lib.hid (parse64 5 (d ++ c :: t))
    generalize (parseM 1 d) = x1 at *
    generalize (parseM 4 t) = x2 at *
    generalize (parseM 5 (d ++ c :: t)) = x3 at *
    obtain ⟨v1, e1⟩ := x1
    obtain ⟨v2, e2⟩ := x2
    obtain ⟨v3, e3⟩ := x3
    dsimp only at *
    have HC := Lib.hid hc
    clear hc hm
    go_enter Tryd.func5, Tryd.ntmps5
    go_wp2_with fail
    refine (wakes_any w hG hE).mono ?_
    rintro ee w1 ⟨rfl, B1⟩
    go_wp2_with fail
    go_loopw [25] (fun x wr => ∃ (k : Nat), x = .int .i64 k ∧ k ≤ d.length ∧ Hid (midB d = midB (d.drop k)) ∧ wr = w1) (fun x _ => d.length - (RowKit.intOf x).toNat)
    case atStart => exact ⟨0, rfl, by omega, Lib.hid rfl, rfl⟩
    case round =>
      obtain ⟨k, rfl, hk, hh, rfl⟩ := hrel
      by_cases hlt : k < d.length
      · obtain ⟨cc, rest, hd1, hd2, hidx⟩ := Go.Proofs.YtbaloklcpfjmeaaDoor.num.byte_at d k hlt
        have hx := hh.out
        rw [hd1, midB_cons, ← hd2] at hx
        clear hh hd1 hd2
        generalize g84 : ((cc.toNat : Int) == 84) = x84 at hx
        generalize g32 : ((cc.toNat : Int) == 32) = x32 at hx
        have HX := Lib.hid hx
        clear hx
        cases x84
        · cases x32
          · have HY : Hid (midB d = midB (d.drop (k + 1))) := Lib.hid (by rw [HX.out]; rfl)
            go_wp2_with fail
            go_roundw
            case rel => exact ⟨k + 1, by go_num, by omega, HY, by first | rfl | trivial⟩
            case measure => simp [RowKit.intOf]; omega
          · go_wp2_with fail
            go_ret
            exact ⟨rfl, B1⟩
        · go_wp2_with fail
          go_ret
          exact ⟨rfl, B1⟩
      · have hnm : midB d = false := by rw [hh.out, List.drop_eq_nil_of_le (by omega)]; rfl
        have HLL := Lib.hid (HL.out hnm)
        clear HL hh hnm tl
        obtain ⟨u1, u2⟩ := i1
        obtain ⟨u3, u4⟩ := i2
        cases b
        · obtain rfl : c = 84 := HC.out
          clear HC
          rcases HLL.out with ⟨g, g3⟩ | ⟨rfl, rfl, g3⟩
          · obtain ⟨rfl, rfl⟩ := Prod.mk.inj g3
            clear g3
            by_cases he1 : e1 = 0
            · have he2 : e2 ≠ 0 := g.resolve_left (fun h => h he1)
              subst he1
              have t2 : (e2 != 0) = true := by simpa using he2
              clear g he2
              go_wp2_with fail
              refine (p1 wr (hE.below B1)).mono ?_
              rintro ee w2 ⟨rfl, C2⟩
              have B2 := below_trans B1 C2
              go_wp2_with fail
              refine (p2 w2 (hE.below B2)).mono ?_
              rintro ee w3 ⟨rfl, C3⟩
              have B3 := below_trans B2 C3
              go_wp2_with fail
              refine (p3 w3 (hE.below B3)).mono ?_
              rintro ee w4 ⟨rfl, C4⟩
              have B4 := below_trans B3 C4
              clear p1 p2 p3 C2 C3 C4
              go_wp2_with fail
              go_ret
              exact ⟨rfl, B4⟩
            · have t1 : (e1 != 0) = true := by simpa using he1
              clear g he1
              go_wp2_with fail
              refine (p1 wr (hE.below B1)).mono ?_
              rintro ee w2 ⟨rfl, C2⟩
              have B2 := below_trans B1 C2
              go_wp2_with fail
              refine (p2 w2 (hE.below B2)).mono ?_
              rintro ee w3 ⟨rfl, C3⟩
              have B3 := below_trans B2 C3
              go_wp2_with fail
              refine (p3 w3 (hE.below B3)).mono ?_
              rintro ee w4 ⟨rfl, C4⟩
              have B4 := below_trans B3 C4
              clear p1 p2 p3 C2 C3 C4
              go_wp2_with fail
              go_ret
              exact ⟨rfl, B4⟩
          · obtain ⟨rfl, rfl⟩ := Prod.mk.inj g3
            have h3 := HI3.out
            obtain ⟨y1, y2⟩ := h3
            clear g3
            go_wp2_with fail
            refine (p1 wr (hE.below B1)).mono ?_
            rintro ee w2 ⟨rfl, C2⟩
            have B2 := below_trans B1 C2
            go_wp2_with fail
            refine (p2 w2 (hE.below B2)).mono ?_
            rintro ee w3 ⟨rfl, C3⟩
            have B3 := below_trans B2 C3
            go_wp2_with fail
            refine (p3 w3 (hE.below B3)).mono ?_
            rintro ee w4 ⟨rfl, C4⟩
            have B4 := below_trans B3 C4
            clear p1 p2 p3 C2 C3 C4
            go_wp2_with fail
            go_ret
            exact ⟨rfl, B4⟩
        · obtain rfl : c = 32 := HC.out
          clear HC
          rcases HLL.out with ⟨g, g3⟩ | ⟨rfl, rfl, g3⟩
          · obtain ⟨rfl, rfl⟩ := Prod.mk.inj g3
            clear g3
            by_cases he1 : e1 = 0
            · have he2 : e2 ≠ 0 := g.resolve_left (fun h => h he1)
              subst he1
              have t2 : (e2 != 0) = true := by simpa using he2
              clear g he2
              go_wp2_with fail
              refine (p1 wr (hE.below B1)).mono ?_
              rintro ee w2 ⟨rfl, C2⟩
              have B2 := below_trans B1 C2
              go_wp2_with fail
              refine (p2 w2 (hE.below B2)).mono ?_
              rintro ee w3 ⟨rfl, C3⟩
              have B3 := below_trans B2 C3
              go_wp2_with fail
              refine (p3 w3 (hE.below B3)).mono ?_
              rintro ee w4 ⟨rfl, C4⟩
              have B4 := below_trans B3 C4
              clear p1 p2 p3 C2 C3 C4
              go_wp2_with fail
              go_ret
              exact ⟨rfl, B4⟩
            · have t1 : (e1 != 0) = true := by simpa using he1
              clear g he1
              go_wp2_with fail
              refine (p1 wr (hE.below B1)).mono ?_
              rintro ee w2 ⟨rfl, C2⟩
              have B2 := below_trans B1 C2
              go_wp2_with fail
              refine (p2 w2 (hE.below B2)).mono ?_
              rintro ee w3 ⟨rfl, C3⟩
              have B3 := below_trans B2 C3
              go_wp2_with fail
              refine (p3 w3 (hE.below B3)).mono ?_
              rintro ee w4 ⟨rfl, C4⟩
              have B4 := below_trans B3 C4
              clear p1 p2 p3 C2 C3 C4
              go_wp2_with fail
              go_ret
              exact ⟨rfl, B4⟩
          · obtain ⟨rfl, rfl⟩ := Prod.mk.inj g3
            have h3 := HI3.out
            obtain ⟨y1, y2⟩ := h3
            clear g3
            go_wp2_with fail
            refine (p1 wr (hE.below B1)).mono ?_
            rintro ee w2 ⟨rfl, C2⟩
            have B2 := below_trans B1 C2
            go_wp2_with fail
            refine (p2 w2 (hE.below B2)).mono ?_
            rintro ee w3 ⟨rfl, C3⟩
            have B3 := below_trans B2 C3
            go_wp2_with fail
            refine (p3 w3 (hE.below B3)).mono ?_
            rintro ee w4 ⟨rfl, C4⟩
            have B4 := below_trans B3 C4
            clear p1 p2 p3 C2 C3 C4
            go_wp2_with fail
            go_ret
            exact ⟨rfl, B4⟩
end Go.Proofs.YtbaloklcpfjmeaaDoor.mom
