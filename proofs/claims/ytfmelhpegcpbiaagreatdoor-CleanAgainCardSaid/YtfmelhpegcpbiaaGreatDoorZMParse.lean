/- The contract of moment.Parse. -/
import Derived.Test.YtfmelhpegcpbiaaGreatDoorZTimeR
namespace Go.Proofs.YtfmelhpegcpbiaaGreatDoor.mom
open Go.ChangeShapes Go.WideShapes Go.ChangeAt Go.RowKit Go.Lib Go.Proofs.YtfmelhpegcpbiaaGreatDoor.num Go.Proofs.YtfmelhpegcpbiaaGreatDoor.days Go.Proofs.YtfmelhpegcpbiaaGreatDoor.cal

theorem fx1 (w : World) : (Instr.index 96 (Value.agg #[Value.nilFunc, Value.func (Fn.func 80) #[] #[], Value.func (Fn.func 81) #[] #[], Value.func (Fn.func 82) #[] #[], Value.func (Fn.func 83) #[] #[], Value.func (Fn.func 84) #[] #[]]) (.int .i64 1)).run Tryz.prog w = .ok (Value.func (Fn.func 80) #[] #[]) w := by kernel_rfl
theorem fx2 (w : World) : (Instr.index 96 (Value.agg #[Value.nilFunc, Value.func (Fn.func 80) #[] #[], Value.func (Fn.func 81) #[] #[], Value.func (Fn.func 82) #[] #[], Value.func (Fn.func 83) #[] #[], Value.func (Fn.func 84) #[] #[]]) (.int .i64 2)).run Tryz.prog w = .ok (Value.func (Fn.func 81) #[] #[]) w := by kernel_rfl
theorem fx3 (w : World) : (Instr.index 96 (Value.agg #[Value.nilFunc, Value.func (Fn.func 80) #[] #[], Value.func (Fn.func 81) #[] #[], Value.func (Fn.func 82) #[] #[], Value.func (Fn.func 83) #[] #[], Value.func (Fn.func 84) #[] #[]]) (.int .i64 3)).run Tryz.prog w = .ok (Value.func (Fn.func 82) #[] #[]) w := by kernel_rfl
theorem fx4 (w : World) : (Instr.index 96 (Value.agg #[Value.nilFunc, Value.func (Fn.func 80) #[] #[], Value.func (Fn.func 81) #[] #[], Value.func (Fn.func 82) #[] #[], Value.func (Fn.func 83) #[] #[], Value.func (Fn.func 84) #[] #[]]) (.int .i64 4)).run Tryz.prog w = .ok (Value.func (Fn.func 83) #[] #[]) w := by kernel_rfl
theorem fx5 (w : World) : (Instr.index 96 (Value.agg #[Value.nilFunc, Value.func (Fn.func 80) #[] #[], Value.func (Fn.func 81) #[] #[], Value.func (Fn.func 82) #[] #[], Value.func (Fn.func 83) #[] #[], Value.func (Fn.func 84) #[] #[]]) (.int .i64 5)).run Tryz.prog w = .ok (Value.func (Fn.func 84) #[] #[]) w := by kernel_rfl

theorem ro_new (w : World) (l : List UInt8) (hl : l.length ≤ 1000000) (T : TypeId) : Ro w (w.alloc (.cells #[.string ⟨l.toArray⟩, .bool false] T)) w.heap.size l false :=
  ⟨(Below.refl _ _).alloc (Nat.le_refl _) _, Nat.le_refl _, ⟨T, by show (w.heap.push _)[w.heap.size]? = _; simp⟩, hl⟩
theorem parse_fin (F : List UInt8 → Option (Int × List UInt8)) (l r2 : List UInt8) (v : Int) (bad2 : Bool) (h : stepRel F l false v r2 bad2) :
    (bad2 = true ∧ whole (F l) = none) ∨ (bad2 = false ∧ r2 ≠ [] ∧ whole (F l) = none) ∨ (bad2 = false ∧ r2 = [] ∧ whole (F l) = some v) := by
  rcases h.2 with ⟨h1, _, h3⟩ | ⟨h1, h2 | h2⟩
  · right
    cases r2 with
    | nil => right; exact ⟨h1, rfl, by rw [h3]; rfl⟩
    | cons a q => left; exact ⟨h1, by simp, by rw [h3]; rfl⟩
  · cases h2
  · left; exact ⟨h1, by rw [h2]; rfl⟩

set_option maxHeartbeats 1600000 in
set_option maxRecDepth 100000 in
theorem mparse_any (kind : Int) (hk : int64 kind) (l : List UInt8) (hl : l.length ≤ 1000000) (w : World) (hE : GE w) :
    Calls Tryz.prog 49 #[.int .i64 kind, .string ⟨l.toArray⟩] w fun e w' => e = .returned (.tuple #[.int .i64 (parseM kind l).1, .int .i64 (parseM kind l).2]) ∧ Below w.heap.size w w' := by
  obtain ⟨v, hv⟩ : ∃ v, v = parseM kind l := ⟨_, rfl⟩
  rw [← hv]
  unfold parseM at hv
  obtain ⟨k1, k2⟩ := hk
  by_cases h1 : kind < 1
  · rw [if_pos (Or.inl h1)] at hv
    have HV := Lib.hid hv
    clear hv
    go_enter Tryz.func49, Tryz.ntmps49
    go_wp2_with fail
    go_ret2
    exact ⟨ret_ii (by rw [HV.out]) (by rw [HV.out]), Below.refl _ _⟩
  by_cases h2 : 5 < kind
  · rw [if_pos (Or.inr h2)] at hv
    have HV := Lib.hid hv
    clear hv
    go_enter Tryz.func49, Tryz.ntmps49
    go_wp2_with fail
    go_ret2
    exact ⟨ret_ii (by rw [HV.out]) (by rw [HV.out]), Below.refl _ _⟩
  rw [if_neg (by omega)] at hv
  have hkk : kind = 1 ∨ kind = 2 ∨ kind = 3 ∨ kind = 4 ∨ kind = 5 := by omega
  clear h1 h2 k1 k2
  rcases hkk with rfl | rfl | rfl | rfl | rfl
  · have HV : Hid (v = match whole (dateP l) with | some v => (v, 0) | none => (0, 1)) := Lib.hid hv
    clear hv
    have hro := ro_new w l hl 93
    have hc := date_r w _ w.heap.size l false hro hE
    unfold StepPostB at hc
    have ifx := fx1
    have hbp := hro.rd.c0
    have hbq := hro.rd.c1
    go_enter Tryz.func49, Tryz.ntmps49
    go_wp2_with fail
    refine hc.mono ?_
    rintro e w1 ⟨x, r2, b2, rfl, h1, k1, _, _⟩
    have hf := parse_fin _ l r2 x b2 k1
    have c0 := h1.rd.c0
    have c1 := h1.rd.c1
    have hb := h1.low
    clear hc hro ifx hbp hbq k1 h1
    rcases hf with ⟨rfl, g⟩ | ⟨rfl, g1, g⟩ | ⟨rfl, g1, g⟩
    · have HF : Hid (v = (0, 1)) := Lib.hid (by rw [HV.out, g])
      clear g HV
      go_wp2_with fail
      go_ret2
      exact ⟨ret_ii (by rw [HF.out]) (by rw [HF.out]), hb⟩
    · have HF : Hid (v = (0, 1)) := Lib.hid (by rw [HV.out, g])
      have hemp : r2.isEmpty = false := by simp [g1]
      clear g HV
      go_wp2_with fail
      go_ret2
      exact ⟨ret_ii (by rw [HF.out]) (by rw [HF.out]), hb⟩
    · have HF : Hid (v = (x, 0)) := Lib.hid (by rw [HV.out, g])
      subst g1
      clear g HV
      go_wp2_with fail
      go_ret2
      exact ⟨ret_ii (by rw [HF.out]) (by rw [HF.out]), hb⟩
  · have HV : Hid (v = match whole (monthP l) with | some v => (v, 0) | none => (0, 1)) := Lib.hid hv
    clear hv
    have hro := ro_new w l hl 93
    have hc := month_r w _ w.heap.size l false hro hE
    unfold StepPost at hc
    have ifx := fx2
    have hbp := hro.rd.c0
    have hbq := hro.rd.c1
    go_enter Tryz.func49, Tryz.ntmps49
    go_wp2_with fail
    refine hc.mono ?_
    rintro e w1 ⟨x, r2, b2, rfl, h1, k1⟩
    have hf := parse_fin _ l r2 x b2 k1
    have c0 := h1.rd.c0
    have c1 := h1.rd.c1
    have hb := h1.low
    clear hc hro ifx hbp hbq k1 h1
    rcases hf with ⟨rfl, g⟩ | ⟨rfl, g1, g⟩ | ⟨rfl, g1, g⟩
    · have HF : Hid (v = (0, 1)) := Lib.hid (by rw [HV.out, g])
      clear g HV
      go_wp2_with fail
      go_ret2
      exact ⟨ret_ii (by rw [HF.out]) (by rw [HF.out]), hb⟩
    · have HF : Hid (v = (0, 1)) := Lib.hid (by rw [HV.out, g])
      have hemp : r2.isEmpty = false := by simp [g1]
      clear g HV
      go_wp2_with fail
      go_ret2
      exact ⟨ret_ii (by rw [HF.out]) (by rw [HF.out]), hb⟩
    · have HF : Hid (v = (x, 0)) := Lib.hid (by rw [HV.out, g])
      subst g1
      clear g HV
      go_wp2_with fail
      go_ret2
      exact ⟨ret_ii (by rw [HF.out]) (by rw [HF.out]), hb⟩
  · have HV : Hid (v = match whole (weekP l) with | some v => (v, 0) | none => (0, 1)) := Lib.hid hv
    clear hv
    have hro := ro_new w l hl 93
    have hc := week_r w _ w.heap.size l false hro hE
    unfold StepPost at hc
    have ifx := fx3
    have hbp := hro.rd.c0
    have hbq := hro.rd.c1
    go_enter Tryz.func49, Tryz.ntmps49
    go_wp2_with fail
    refine hc.mono ?_
    rintro e w1 ⟨x, r2, b2, rfl, h1, k1⟩
    have hf := parse_fin _ l r2 x b2 k1
    have c0 := h1.rd.c0
    have c1 := h1.rd.c1
    have hb := h1.low
    clear hc hro ifx hbp hbq k1 h1
    rcases hf with ⟨rfl, g⟩ | ⟨rfl, g1, g⟩ | ⟨rfl, g1, g⟩
    · have HF : Hid (v = (0, 1)) := Lib.hid (by rw [HV.out, g])
      clear g HV
      go_wp2_with fail
      go_ret2
      exact ⟨ret_ii (by rw [HF.out]) (by rw [HF.out]), hb⟩
    · have HF : Hid (v = (0, 1)) := Lib.hid (by rw [HV.out, g])
      have hemp : r2.isEmpty = false := by simp [g1]
      clear g HV
      go_wp2_with fail
      go_ret2
      exact ⟨ret_ii (by rw [HF.out]) (by rw [HF.out]), hb⟩
    · have HF : Hid (v = (x, 0)) := Lib.hid (by rw [HV.out, g])
      subst g1
      clear g HV
      go_wp2_with fail
      go_ret2
      exact ⟨ret_ii (by rw [HF.out]) (by rw [HF.out]), hb⟩
  · have HV : Hid (v = match whole (timeP l) with | some v => (v, 0) | none => (0, 1)) := Lib.hid hv
    clear hv
    have hro := ro_new w l hl 93
    have hc := time_r w _ w.heap.size l false hro hE
    unfold StepPostB at hc
    have ifx := fx4
    have hbp := hro.rd.c0
    have hbq := hro.rd.c1
    go_enter Tryz.func49, Tryz.ntmps49
    go_wp2_with fail
    refine hc.mono ?_
    rintro e w1 ⟨x, r2, b2, rfl, h1, k1, _, _⟩
    have hf := parse_fin _ l r2 x b2 k1
    have c0 := h1.rd.c0
    have c1 := h1.rd.c1
    have hb := h1.low
    clear hc hro ifx hbp hbq k1 h1
    rcases hf with ⟨rfl, g⟩ | ⟨rfl, g1, g⟩ | ⟨rfl, g1, g⟩
    · have HF : Hid (v = (0, 1)) := Lib.hid (by rw [HV.out, g])
      clear g HV
      go_wp2_with fail
      go_ret2
      exact ⟨ret_ii (by rw [HF.out]) (by rw [HF.out]), hb⟩
    · have HF : Hid (v = (0, 1)) := Lib.hid (by rw [HV.out, g])
      have hemp : r2.isEmpty = false := by simp [g1]
      clear g HV
      go_wp2_with fail
      go_ret2
      exact ⟨ret_ii (by rw [HF.out]) (by rw [HF.out]), hb⟩
    · have HF : Hid (v = (x, 0)) := Lib.hid (by rw [HV.out, g])
      subst g1
      clear g HV
      go_wp2_with fail
      go_ret2
      exact ⟨ret_ii (by rw [HF.out]) (by rw [HF.out]), hb⟩
  · have HV : Hid (v = match whole (localP l) with | some v => (v, 0) | none => (0, 1)) := Lib.hid hv
    clear hv
    have hro := ro_new w l hl 93
    have hc := local_r w _ w.heap.size l false hro hE
    unfold StepPost at hc
    have ifx := fx5
    have hbp := hro.rd.c0
    have hbq := hro.rd.c1
    go_enter Tryz.func49, Tryz.ntmps49
    go_wp2_with fail
    refine hc.mono ?_
    rintro e w1 ⟨x, r2, b2, rfl, h1, k1⟩
    have hf := parse_fin _ l r2 x b2 k1
    have c0 := h1.rd.c0
    have c1 := h1.rd.c1
    have hb := h1.low
    clear hc hro ifx hbp hbq k1 h1
    rcases hf with ⟨rfl, g⟩ | ⟨rfl, g1, g⟩ | ⟨rfl, g1, g⟩
    · have HF : Hid (v = (0, 1)) := Lib.hid (by rw [HV.out, g])
      clear g HV
      go_wp2_with fail
      go_ret2
      exact ⟨ret_ii (by rw [HF.out]) (by rw [HF.out]), hb⟩
    · have HF : Hid (v = (0, 1)) := Lib.hid (by rw [HV.out, g])
      have hemp : r2.isEmpty = false := by simp [g1]
      clear g HV
      go_wp2_with fail
      go_ret2
      exact ⟨ret_ii (by rw [HF.out]) (by rw [HF.out]), hb⟩
    · have HF : Hid (v = (x, 0)) := Lib.hid (by rw [HV.out, g])
      subst g1
      clear g HV
      go_wp2_with fail
      go_ret2
      exact ⟨ret_ii (by rw [HF.out]) (by rw [HF.out]), hb⟩
end Go.Proofs.YtfmelhpegcpbiaaGreatDoor.mom
