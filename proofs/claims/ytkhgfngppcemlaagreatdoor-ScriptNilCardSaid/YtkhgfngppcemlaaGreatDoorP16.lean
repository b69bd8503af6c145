/- Options, and which of them are selected: plain. -/
import Derived.Deep.MidRow
import Derived.Laws.BytesArg
import Derived.Laws.IdiomStrings
import Derived.Lib.Hide
import Derived.Lib.IndexBytes
import Derived.Lib.IndexMore
import Derived.Lib.ItoaMem
import Derived.Lib.ItoaNum
import Derived.Lib.Replace
import Derived.Lib.SlTrimSet
import Derived.Lib.Strings
import Derived.ProofKit
import Derived.WalkKit
import Derived.WalkSmall
import Derived.WalkSpells
import Derived.Test.YtkhgfngppcemlaaGreatDoorRows
import Derived.Test.YtkhgfngppcemlaaGreatDoorP1
import Derived.Test.YtkhgfngppcemlaaGreatDoorP3
import Derived.Test.YtkhgfngppcemlaaGreatDoorP6
import Derived.Test.YtkhgfngppcemlaaGreatDoorP11
import Derived.Test.YtkhgfngppcemlaaGreatDoorP15
namespace Go.Proofs.YtkhgfngppcemlaaGreatDoor.doc
open Go.Proofs.YtkhgfngppcemlaaGreatDoor.atr Go.Proofs.YtkhgfngppcemlaaGreatDoor.link Go.Proofs.YtkhgfngppcemlaaGreatDoor.ctl Go.Proofs.YtkhgfngppcemlaaGreatDoor.num
theorem kids_nodup {l : List Nd} (h : Rt l) (k : Int) (hk : inR l k) : (nd l k).kids.Nodup := by
  rw [List.nodup_iff_count]
  intro c
  by_cases hc : c ∈ (nd l k).kids
  · obtain ⟨c1, c2⟩ := h.kid k c hk hc
    have := h.once c c1 (by rw [c2]; exact hk.1)
    rw [c2] at this
    omega
  · rw [List.count_eq_zero.2 hc]; omega
theorem flat_nodup (a : List Int) (f : Int → List Int) (ha : a.Nodup) (hf : ∀ x ∈ a, (f x).Nodup) (hd : ∀ x ∈ a, ∀ y ∈ a, x ≠ y → ∀ z ∈ f x, z ∉ f y) : (a.flatMap f).Nodup := by
  induction a with
  | nil => exact List.nodup_nil
  | cons x r ih =>
    rw [List.flatMap_cons, List.nodup_append]
    refine ⟨hf x List.mem_cons_self, ih (List.nodup_cons.1 ha).2 (fun y hy => hf y (List.mem_cons_of_mem _ hy)) (fun y hy z hz => hd y (List.mem_cons_of_mem _ hy) z (List.mem_cons_of_mem _ hz)), ?_⟩
    intro z hz w hw e
    obtain ⟨y, hy, hw⟩ := List.mem_flatMap.1 hw
    have hxy : x ≠ y := fun e2 => (List.nodup_cons.1 ha).1 (e2 ▸ hy)
    exact hd x List.mem_cons_self y (List.mem_cons_of_mem _ hy) hxy z hz (e ▸ hw)
end Go.Proofs.YtkhgfngppcemlaaGreatDoor.doc
