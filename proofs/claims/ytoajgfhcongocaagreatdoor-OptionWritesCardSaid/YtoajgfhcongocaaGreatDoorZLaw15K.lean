/- Kit for the laws of layer 15: what a state keeps of another's sizes. -/
import Derived.Test.YtoajgfhcongocaaGreatDoorGo
import Derived.Test.YtoajgfhcongocaaGreatDoorGe
import Derived.Test.YtoajgfhcongocaaGreatDoorGs
import Derived.Test.YtoajgfhcongocaaGreatDoorGn
import Derived.Test.YtoajgfhcongocaaGreatDoorGp
import Derived.Test.YtoajgfhcongocaaGreatDoorGt
namespace Go.Proofs.YtoajgfhcongocaaGreatDoor.doc
open Go.ChangeShapes Go.WideShapes Go.ChangeAt Go.RowKit Go.Lib Go.Proofs.YtoajgfhcongocaaGreatDoor.atr Go.Proofs.YtoajgfhcongocaaGreatDoor.link Go.Proofs.YtoajgfhcongocaaGreatDoor.ctl

/-- no longer, no other files -/
structure Sh (cs c' : List Ctl) : Prop where
  len : c'.length ≤ cs.length
  files : ∀ x ∈ c', ∃ y ∈ cs, x.files = y.files
theorem Sh.nil (cs : List Ctl) : Sh cs [] := ⟨Nat.zero_le _, fun x h => by cases h⟩
theorem Sh.refl (cs : List Ctl) : Sh cs cs := ⟨Nat.le_refl _, fun x h => ⟨x, h, rfl⟩⟩
theorem Sh.trans {a b c : List Ctl} (h : Sh a b) (k : Sh b c) : Sh a c := ⟨Nat.le_trans k.len h.len, fun x hx => by
  obtain ⟨y, hy, e⟩ := k.files x hx
  obtain ⟨z, hz, e2⟩ := h.files y hy
  exact ⟨z, hz, e.trans e2⟩⟩
theorem Sh.of_map {cs c' : List Ctl} (h : c'.map (·.files) = cs.map (·.files)) : Sh cs c' := by
  have hl : c'.length = cs.length := by
    have := congrArg List.length h
    simpa using this
  refine ⟨by omega, fun x hx => ?_⟩
  have hm : x.files ∈ cs.map (·.files) := by rw [← h]; exact List.mem_map.2 ⟨x, hx, rfl⟩
  obtain ⟨d, hd, e⟩ := List.mem_map.1 hm
  exact ⟨d, hd, e.symm⟩
theorem Sh.mapOn {G : Int → Ctl → Ctl} (hG : ∀ k c, (G k c).files = c.files) (cs : List Ctl) (os : List Int) : Sh cs (mapOn G cs os) := .of_map (files_mapOn G hG cs os)
theorem sh_fixC (l : List Nd) (cs : List Ctl) (k : Int) : Sh cs (fixC l cs k) := by
  unfold fixC
  split
  · exact Sh.refl _
  · exact .of_map (files_only _ _ _)
theorem sh_fix (l : List Nd) (cs : List Ctl) (k : Int) : Sh cs (FixP l cs k) := by
  unfold FixP
  split
  · split
    · exact sh_fixC _ _ _
    · exact Sh.refl _
  · exact Sh.nil _
theorem sh_reset (l : List Nd) (cs : List Ctl) (k : Int) : Sh cs (resetP l cs k) := by
  unfold resetP
  split
  · split
    · exact Sh.trans (b := mapOn (resetG l) cs (optsP l k)) (Sh.mapOn (G := resetG l) (fun _ _ => rfl) cs (optsP l k)) (sh_fixC l (mapOn (resetG l) cs (optsP l k)) k)
    · exact Sh.refl _
  · exact Sh.nil _
theorem sh_write (l : List Nd) (cs : List Ctl) (k : Int) (s : List UInt8) : Sh cs (writeP l cs k s) := by
  unfold writeP
  split
  · split
    · exact Sh.mapOn (G := writeG (pickT l (optsP l k) s)) (fun _ _ => rfl) cs (optsP l k)
    · exact Sh.refl _
  · exact Sh.nil _
theorem sh_choose (l : List Nd) (cs : List Ctl) (k : Int) (on : Bool) : Sh cs (chooseP l cs k on).1 := by
  unfold chooseP
  split
  · exact Sh.nil _
  · split
    · exact Sh.nil _
    · split
      · exact .of_map (files_modify _ _ (fun c => { c with selected := on, dselected := true }) (fun _ => rfl))
      · exact Sh.mapOn (G := chooseG k) (fun _ _ => rfl) cs (optsP l (ownerP l k))
theorem DocAt.sh {w w' : World} {vn vc vn' vc' : Value} {l : List Nd} {cs c' : List Ctl} (h : DocAt w vn vc l cs) (hs : Sh cs c') (hN : NodesAt w' vn' l) (hC : CtlsAt w' vc' c') : DocAt w' vn' vc' l c' :=
  ⟨h.fine, hN, hC, Nat.le_trans (Nat.mul_le_mul hs.len (Nat.le_refl _)) h.cb, fun x hx => by
    obtain ⟨y, hy, e⟩ := hs.files x hx
    rw [e]; exact h.fb y hy⟩
/-- states held against each other -/
theorem same_of {w0 : World} {vn vc : Value} {l : List Nd} {cs c' : List Ctl} (h : DocAt w0 vn vc l cs) (hs : Sh cs c') (va vb : Value) (w : World) (hA : CtlsAt w va c') (hB : CtlsAt w vb c') :
    Calls Tryz.prog 13 #[va, vb] w fun e w' => e = .returned (.bool true) ∧ Below w.heap.size w w' := by
  refine sames_any va vb c' (by have := hs.len; have := h.cb; omega) (fun x hx => ?_) w hA hB
  obtain ⟨y, hy, e⟩ := hs.files x hx
  have := h.fb y hy
  rw [e]; omega
end Go.Proofs.YtoajgfhcongocaaGreatDoor.doc
