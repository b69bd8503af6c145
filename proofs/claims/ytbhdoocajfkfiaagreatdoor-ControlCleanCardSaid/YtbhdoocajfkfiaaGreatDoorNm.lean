/- What a law's card asks behind its walk, whatever the law's parameters: it hands back true, and its arguments read as they did. The one type that bears the name of errors.New's errors. -/
import Derived.WalkKit
import Derived.ProofKit
import Derived.OpenShut
import Derived.WideKeyArgs
import Derived.Deep.SlicePairs
import Derived.Deep.Slices
import Derived.Test.YtbhdoocajfkfiaaGreatDoorMa
import Derived.Stop.LaidErr
namespace Go.Proofs.YtbhdoocajfkfiaaGreatDoor
open Go.ChangeShapes Go.WideShapes Go.WideElems

section
variable {H : Type} {enc : TypeId × Value → H} {P : Program}
theorem trodAll_stays (hl : laidOutB P = true) {W W' : World} {sp' : Nat → Bool} : ∀ {ts : List TypeId} {vs : List Value} {ds : List (DataW H)} {ps : List MemPlace}, (∀ t ∈ ts, P.readableRec t = true ∧ t < P.types.size) →
    DataW.TrodAll enc P W 0 (fun _ => true) true ts vs ds ps → (∀ p ∈ ps, W.sameAt W' p) → (∀ p ∈ ps, sp' p.block = true) → DataW.TrodAll enc P W' 0 sp' true ts vs ds ps
  | [], vs, ds, ps, _, h, _, _ => by
    obtain ⟨rfl, rfl, rfl⟩ := trodAll_nil h
    exact trodAll_mk0
  | t :: ts, vs, ds, ps, ht, h, hs, hp => by
    obtain ⟨v, vs1, d, ds1, a, b, rfl, rfl, rfl, h1, h2⟩ := trodAll_cons h
    have e := ht t List.mem_cons_self
    exact ⟨a, b, Trod_stays hl e.1 e.2 h1 (fun p q => hs p (List.mem_append_left _ q)) (fun p q => hp p (List.mem_append_left _ q)),
      trodAll_stays hl (fun t q => ht t (List.mem_cons_of_mem _ q)) h2 (fun p q => hs p (List.mem_append_right _ q)) (fun p q => hp p (List.mem_append_right _ q)), rfl⟩
end
end Go.Proofs.YtbhdoocajfkfiaaGreatDoor

namespace Go.Proofs.YtbhdoocajfkfiaaGreatDoor
theorem star : "*" ++ "errors.errorString" = "*errors.errorString" := by decide
theorem errRow (u : TypeId) (h : Tryz.prog.typeName? 3 u = some "*errors.errorString") : u = 248 :=
  typeName_ptr_named (nm := "errors.errorString") (by rw [star]; kernel_rfl) (by kernel_rfl) (by decide) u (by rw [star]; exact h)
end Go.Proofs.YtbhdoocajfkfiaaGreatDoor
