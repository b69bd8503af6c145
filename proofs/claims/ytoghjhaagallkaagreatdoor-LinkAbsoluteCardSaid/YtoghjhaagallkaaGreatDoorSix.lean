/- The contracts of link.six and of the reference's six. -/
import Derived.Test.YtoghjhaagallkaaGreatDoorGroups
namespace Go.Proofs.YtoghjhaagallkaaGreatDoor.link
open Go.ChangeShapes Go.WideShapes Go.ChangeAt Go.RowKit Go.Lib Go.Proofs.YtoghjhaagallkaaGreatDoor.str

/-- the first place of two colons -/
def dc : List UInt8 → Option Nat
  | [] => none
  | c :: r => if c = 58 ∧ r.head? = some 58 then some 0 else (dc r).map (· + 1)
def six2 (a b : Option Nat) : Bool := match a, b with | some a, some b => decide (a + b < 8) | _, _ => false
def sixD (l : List UInt8) (o : Option Nat) : Bool := match o with
  | some k => six2 (grpN (l.take k)) (grpN (l.drop (k + 2)))
  | none => grpN l == some 8
def sixS (l : List UInt8) : Bool := sixD l (dc l)

theorem dc_index (l : List UInt8) : index l [58, 58] = match dc l with | some k => (k : Int) | none => -1 := by
  induction l with
  | nil => rfl
  | cons c r ih =>
    rw [index, dc]
    have e : [58, 58].isPrefixOf (c :: r) = true ↔ (c = 58 ∧ r.head? = some 58) := by
      cases r with
      | nil => simp [List.isPrefixOf]
      | cons d t =>
        simp [List.isPrefixOf]
        constructor
        · rintro ⟨h1, h2⟩; exact ⟨h1.symm, h2.symm⟩
        · rintro ⟨h1, h2⟩; exact ⟨h1.symm, h2.symm⟩
    by_cases h : c = 58 ∧ r.head? = some 58
    · rw [if_pos h, if_pos (e.2 h)]; rfl
    · rw [if_neg h, if_neg (fun g => h (e.1 g)), ih]
      cases dc r with
      | none => rfl
      | some k =>
        have : ((k : Int) == -1) = false := by simp
        simp only [this]
        simp

theorem dc_cut (l : List UInt8) : Lib.cut l [58, 58] = match dc l with | some k => (l.take k, l.drop (k + 2), true) | none => (l, [], false) := by
  unfold Lib.cut
  rw [dc_index]
  cases dc l with
  | none => rfl
  | some k =>
    simp only []
    rw [if_pos (by omega)]
    simp

theorem cut2_any (l : List UInt8) (hl : l.length ≤ 1000000000) (w : World) (hG : G w) :
    Calls Tryz.prog 9 #[.string ⟨l.toArray⟩, .string ⟨#[58, 58]⟩] w fun e w' => e = .returned (.tuple #[.string ⟨(Lib.cut l [58, 58]).1.toArray⟩, .string ⟨(Lib.cut l [58, 58]).2.1.toArray⟩, .bool (Lib.cut l [58, 58]).2.2]) ∧ Below w.heap.size w w' := by
  obtain ⟨m, hm⟩ := hG.ml
  have := Tryz.strings_Cut ⟨l.toArray⟩ ⟨#[58, 58]⟩ m w (by rw [bsize]; omega) hm
  exact this.mono fun e w' ⟨he, n, hw⟩ => ⟨he, by rw [hw]; exact below_drewN (Below.refl _ _) n⟩

theorem six_ways (a : Option Nat) : (a = none) ∨ ∃ n, a = some n := by cases a <;> simp

theorem grpN_le (l : List UInt8) (n : Nat) (h : grpN l = some n) : n ≤ l.length + 1 := by
  unfold grpN at h
  split at h
  · cases h; omega
  · unfold grpL at h
    split at h
    · cases h; rw [spl_len]; have := List.count_le_length (a := (58 : UInt8)) (l := l); omega
    · cases h

set_option maxHeartbeats 1600000 in
set_option maxRecDepth 100000 in
theorem six_any (l : List UInt8) (hl : l.length ≤ 1000000) (w : World) (hG : G w) :
    Calls Tryz.prog 34 #[.string ⟨l.toArray⟩] w fun e w' => e = .returned (.bool (sixS l)) ∧ Below w.heap.size w w' := by
  obtain ⟨v, hv⟩ : ∃ v, v = sixS l := ⟨_, rfl⟩
  rw [← hv]
  have hcut := cut2_any l (by omega) w hG
  have he := dc_cut l
  unfold sixS sixD at hv
  have hl1 : (Lib.cut l [58, 58]).1.length ≤ 1000000 := by
    rw [he]; cases dc l <;> simp <;> omega
  have hl2 : (Lib.cut l [58, 58]).2.1.length ≤ 1000000 := by
    rw [he]; cases dc l <;> simp <;> omega
  obtain ⟨a, b, ok, hc⟩ : ∃ a b ok, Lib.cut l [58, 58] = (a, b, ok) := ⟨_, _, _, rfl⟩
  have hvv : v = if ok = true then six2 (grpN a) (grpN b) else (grpN a == some 8) := by
    rw [hv]
    rw [he] at hc
    cases h : dc l with
    | none => rw [h] at hc; cases hc; rfl
    | some k => rw [h] at hc; cases hc; rfl
  rw [hc] at hcut hl1 hl2
  clear hv he hc
  dsimp only at hcut hl1 hl2
  have ga := fun w h => groups_any a hl1 w h
  have gb := fun w h => groups_any b hl2 w h
  have na := grpN_le a
  have nb := grpN_le b
  generalize grpN a = p at *
  generalize grpN b = q at *
  have HV := Lib.hid hvv
  clear hvv
  cases p with
  | none =>
    have HY : Hid (v = false) := Lib.hid (by rw [HV.out]; cases ok <;> rfl)
    go_enter Tryz.func34, Tryz.ntmps34
    go_wp2_with fail
    refine hcut.mono ?_
    rintro e w1 ⟨rfl, hb1⟩
    have G1 := hG.below hb1
    go_wp2_with fail
    refine (ga w1 G1).mono ?_
    rintro e w2 ⟨rfl, hb2⟩
    have G2 := G1.below hb2
    have hb2' := below_trans hb1 hb2
    go_wp2_with fail
    refine (gb w2 G2).mono ?_
    rintro e w3 ⟨rfl, hb3⟩
    have hb3' := below_trans hb2' hb3
    clear hcut ga gb hb1 hb2 hb2' hb3
    cases ok
    · go_wp2_with fail
      go_ret
      exact ⟨ret_bool HY.out.symm, hb3'⟩
    · go_wp2_with fail
      go_ret
      exact ⟨ret_bool HY.out.symm, hb3'⟩
  | some n =>
    have hn := na n rfl
    go_enter Tryz.func34, Tryz.ntmps34
    go_wp2_with fail
    refine hcut.mono ?_
    rintro e w1 ⟨rfl, hb1⟩
    have G1 := hG.below hb1
    go_wp2_with fail
    refine (ga w1 G1).mono ?_
    rintro e w2 ⟨rfl, hb2⟩
    have G2 := G1.below hb2
    have hb2' := below_trans hb1 hb2
    go_wp2_with fail
    refine (gb w2 G2).mono ?_
    rintro e w3 ⟨rfl, hb3⟩
    have hb3' := below_trans hb2' hb3
    clear hcut ga gb hb1 hb2 hb2' hb3 na
    cases ok
    · have HY : Hid (v = ((n : Int) == 8)) := Lib.hid (by
        rw [HV.out]
        show (some n == some 8) = _
        by_cases h : n = 8
        · subst h; rfl
        · have h1 : ((n : Int) == 8) = false := by simp; omega
          rw [h1]; simp [h])
      go_wp2_with fail
      go_ret
      exact ⟨ret_bool HY.out.symm, hb3'⟩
    · cases q with
      | none =>
        have HY : Hid (v = false) := Lib.hid (by rw [HV.out]; rfl)
        go_wp2_with fail
        go_ret
        exact ⟨ret_bool HY.out.symm, hb3'⟩
      | some m =>
        have hm := nb m rfl
        have HY : Hid (v = decide (n + m < 8)) := Lib.hid (by rw [HV.out]; rfl)
        go_wp2_with fail
        go_ret
        exact ⟨ret_bool (by rw [HY.out]; first | rfl | (simp; omega)), hb3'⟩

theorem grpI_neg (o : Option Nat) : (grpI o < 0 ∧ o = none) ∨ ∃ n, o = some n ∧ grpI o = n := by
  cases o with
  | none => left; exact ⟨by decide, rfl⟩
  | some n => right; exact ⟨n, rfl, rfl⟩

theorem dc_at (l : List UInt8) (k : Nat) (a b : UInt8) (r : List UInt8) (h : l.drop k = a :: b :: r) : dc (l.drop k) = if a = 58 ∧ b = 58 then some 0 else (dc (l.drop (k + 1))).map (· + 1) := by
  have h2 : l.drop (k + 1) = b :: r := by
    have := congrArg List.tail h
    rwa [List.tail_drop] at this
  rw [h, dc, h2]
  simp

def sixK (l : List UInt8) (k : Nat) : Bool := sixD l ((dc (l.drop k)).map (· + k))
theorem sixK_step (l : List UInt8) (k : Nat) (a b : UInt8) (r : List UInt8) (h : l.drop k = a :: b :: r) (hn : ¬ (a = 58 ∧ b = 58)) : sixK l k = sixK l (k + 1) := by
  unfold sixK
  rw [dc_at l k a b r h, if_neg hn, Option.map_map]
  congr 1
  cases dc (l.drop (k + 1)) with
  | none => rfl
  | some n => simp; omega
theorem sixK_hit (l : List UInt8) (k : Nat) (r : List UInt8) (h : l.drop k = 58 :: 58 :: r) : sixK l k = six2 (grpN (l.take k)) (grpN (l.drop (k + 2))) := by
  unfold sixK
  rw [dc_at l k 58 58 r h, if_pos ⟨rfl, rfl⟩]
  simp [sixD]
theorem sixK_end (l : List UInt8) (k : Nat) (h : l.length ≤ k + 1) : sixK l k = (grpN l == some 8) := by
  unfold sixK
  have : dc (l.drop k) = none := by
    have hl : (l.drop k).length ≤ 1 := by simp; omega
    match l.drop k, hl with
    | [], _ => rfl
    | [a], _ => simp [dc]
    | a :: b :: r, hl => simp at hl
  rw [this]; rfl

set_option maxHeartbeats 3200000 in
set_option maxRecDepth 100000 in
theorem rsix_any (l : List UInt8) (hl : l.length ≤ 1000000) (w : World) :
    Calls Tryz.prog 46 #[.string ⟨l.toArray⟩] w fun e w' => e = .returned (.bool (sixS l)) ∧ Below w.heap.size w w' := by
  obtain ⟨v, hv⟩ : ∃ v, v = sixS l := ⟨_, rfl⟩
  rw [← hv]
  have HV : Hid (v = sixK l 0) := Lib.hid (by rw [hv]; unfold sixS sixK; simp)
  clear hv
  go_enter Tryz.func46, Tryz.ntmps46
  go_wp2_with fail
  go_loopw [3, 4, 5] (fun s _ _ wr => ∃ k : Nat, s = .int .i64 k ∧ k ≤ l.length ∧ Hid (v = sixK l k) ∧ wr = w) (fun s _ _ _ => l.length - (RowKit.intOf s).toNat)
  case atStart => exact ⟨0, rfl, by omega, HV, rfl⟩
  case round =>
    obtain ⟨k, rfl, hk, hh, rfl⟩ := hrel
    by_cases hlt : k + 1 < l.length
    · obtain ⟨a, rest, hd1, hd2, hidx⟩ := byte_at l k (by omega)
      obtain ⟨b, rest2, hd3, hd4, hidx2⟩ := byte_at l (k + 1) hlt
      rw [hd2] at hd3
      subst hd3
      have ta : ((a.toNat : Int) == 58) = (a == 58) := byteq a 58 58 rfl
      have tb : ((b.toNat : Int) == 58) = (b == 58) := byteq b 58 58 rfl
      have hx := hh.out
      clear hh
      by_cases h1 : a = 58
      · by_cases h2 : b = 58
        · subst h1 h2
          rw [sixK_hit l k rest2 hd1] at hx
          have ta' : (((58 : UInt8).toNat : Int) == 58) = true := rfl
          have ga := fun w => rgroups_any (l.take k) (by simp; omega) w
          have gb := fun w => rgroups_any (l.drop (k + 2)) (by simp; omega) w
          have na := grpN_le (l.take k)
          have nb := grpN_le (l.drop (k + 2))
          have la : (l.take k).length ≤ 1000000 := by simp; omega
          have lb : (l.drop (k + 2)).length ≤ 1000000 := by simp; omega
          clear ta tb hd1 hd2 hd4
          generalize grpN (l.take k) = p at *
          generalize grpN (l.drop (k + 2)) = q at *
          have HX := Lib.hid hx
          clear hx
          go_wp2_with fail
          refine (ga wr).mono ?_
          rintro e w1 ⟨rfl, hb1⟩
          go_wp2_with fail
          refine (gb w1).mono ?_
          rintro e w2 ⟨rfl, hb2⟩
          have hb3 := below_trans hb1 hb2
          clear ga gb hb1 hb2
          cases p with
          | none =>
            have HY : Hid (v = false) := Lib.hid (by rw [HX.out]; rfl)
            have hneg : grpI none < 0 := by decide
            go_wp2_with fail
            go_ret
            exact ⟨ret_bool HY.out.symm, hb3⟩
          | some n =>
            cases q with
            | none =>
              have HY : Hid (v = false) := Lib.hid (by rw [HX.out]; rfl)
              have en : ¬ grpI (some n) < 0 := by show ¬ (n : Int) < 0; omega
              have em : grpI none < 0 := by decide
              go_wp2_with fail
              go_ret
              exact ⟨ret_bool HY.out.symm, hb3⟩
            | some m =>
              have hn := na n rfl
              have hm := nb m rfl
              have en : grpI (some n) = (n : Int) := rfl
              have em : grpI (some m) = (m : Int) := rfl
              have HY : Hid (v = decide (n + m < 8)) := Lib.hid (by rw [HX.out]; rfl)
              go_wp2_with fail
              go_ret
              exact ⟨ret_bool (by rw [HY.out]; first | rfl | (simp; omega)), hb3⟩
        · have tb' : ((b.toNat : Int) == 58) = false := by rw [tb]; simpa using h2
          have HX : Hid (v = sixK l (k + 1)) := Lib.hid (by rw [hx, sixK_step l k a b rest2 hd1 (fun g => h2 g.2)])
          clear hx ta tb hd1 hd2 hd4 h2
          subst h1
          go_wp2_with fail
          go_roundw
          case rel => exact ⟨k + 1, by go_num, by omega, HX, by first | rfl | trivial⟩
          case measure => simp [RowKit.intOf]; omega
      · have ta' : ((a.toNat : Int) == 58) = false := by rw [ta]; simpa using h1
        have HX : Hid (v = sixK l (k + 1)) := Lib.hid (by rw [hx, sixK_step l k a b rest2 hd1 (fun g => h1 g.1)])
        clear hx ta tb hd1 hd2 hd4 h1
        go_wp2_with fail
        go_roundw
        case rel => exact ⟨k + 1, by go_num, by omega, HX, by first | rfl | trivial⟩
        case measure => simp [RowKit.intOf]; omega
    · have HX : Hid (v = (grpN l == some 8)) := Lib.hid (by rw [hh.out, sixK_end l k (by omega)])
      have gl := rgroups_any l hl wr
      have nl := grpN_le l
      clear hh HV
      generalize grpN l = p at *
      go_wp2_with fail
      refine gl.mono ?_
      rintro e w1 ⟨rfl, hb1⟩
      clear gl
      cases p with
      | none =>
        have HY : Hid (v = false) := Lib.hid (by rw [HX.out]; rfl)
        go_wp2_with fail
        go_ret
        exact ⟨ret_bool HY.out.symm, hb1⟩
      | some n =>
        have hn := nl n rfl
        have en : grpI (some n) = (n : Int) := rfl
        have HY : Hid (v = ((n : Int) == 8)) := Lib.hid (by
          rw [HX.out]
          by_cases h : n = 8
          · subst h; rfl
          · have h1 : ((n : Int) == 8) = false := by simp; omega
            rw [h1]; simp [h])
        go_wp2_with fail
        go_ret
        exact ⟨ret_bool HY.out.symm, hb1⟩
end Go.Proofs.YtoghjhaagallkaaGreatDoor.link
