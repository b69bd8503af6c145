/- The one type that bears the name of errors.New's errors. -/
import Derived.Test.YtfmelhpegcpbiaaGreatDoorMa
import Derived.Stop.LaidErr
namespace Go.Proofs.YtfmelhpegcpbiaaGreatDoor
theorem star : "*" ++ "errors.errorString" = "*errors.errorString" := by decide
theorem errRow (u : TypeId) (h : Tryz.prog.typeName? 3 u = some "*errors.errorString") : u = 193 :=
  typeName_ptr_named (nm := "errors.errorString") (by rw [star]; kernel_rfl) (by kernel_rfl) (by decide) u (by rw [star]; exact h)
end Go.Proofs.YtfmelhpegcpbiaaGreatDoor
