/- The public strconv.ParseUint(s, 10, 63) at a row of digits. -/
import Derived.Test.YtfmelhpegcpbiaaGreatDoorZParse63
namespace Go.Proofs.YtfmelhpegcpbiaaGreatDoor.num
open Go.ChangeShapes Go.WideShapes Go.ChangeAt Go.RowKit Go.Lib

set_option maxHeartbeats 800000 in
set_option maxRecDepth 100000 in
theorem parse63_ok (l : List UInt8) (hne : l ≠ []) (hd : allDig l = true) (hmax : l.length ≤ 1000000000) (hv : val l ≤ top63) (w : World) :
    Calls Tryz.prog 74 #[.string ⟨l.toArray⟩, .int .i64 10, .int .i64 63] w fun e w' => e = .returned (.tuple #[.int .u64 (val l), .nilIface]) ∧ Below w.heap.size w w' := by
  have hI := iparse63_any l hne hd hmax w
  unfold uint63 at hI
  rw [if_pos hv] at hI
  go_enter Tryz.func74, Tryz.ntmps74
  go_wp2_with (go_at_call 115; refine hI.mono ?_; rintro e w' ⟨rfl, hB⟩)
  go_ret2
  exact ⟨rfl, hB⟩

set_option maxHeartbeats 800000 in
set_option maxRecDepth 100000 in
theorem parse63_range (l : List UInt8) (hne : l ≠ []) (hd : allDig l = true) (hmax : l.length ≤ 1000000000) (hv : ¬ val l ≤ top63) (w : World) (hE : GE w) :
    Calls Tryz.prog 74 #[.string ⟨l.toArray⟩, .int .i64 10, .int .i64 63] w fun e w' => (∃ N, e = .returned (.tuple #[.int .u64 9223372036854775807, .iface 155 (.pointer (some ⟨N, 0, none⟩))])) ∧ Below w.heap.size w w' := by
  have hI := iparse63_any l hne hd hmax w
  unfold uint63 at hI
  rw [if_neg hv] at hI
  go_enter Tryz.func74, Tryz.ntmps74
  go_wp2_with (go_at_call 115; refine hI.mono ?_; rintro e w1 ⟨rfl, hB⟩)
  obtain ⟨ev, hev, hev2⟩ := (hE.below hB).er
  have hT : Calls Tryz.prog 116 #[.string ⟨#[80, 97, 114, 115, 101, 85, 105, 110, 116]⟩, .string ⟨l.toArray⟩, .int .i64 10, .int .i64 63, .iface 153 (.int .i64 1)] w1 fun e w' => ∃ N, e = .returned (.iface 155 (.pointer (some ⟨N, 0, none⟩))) ∧ w1.heap.size ≤ N ∧ w'.heap[N]? = some (.cells #[.string ⟨#[80, 97, 114, 115, 101, 85, 105, 110, 116]⟩, .string ⟨l.toArray⟩, ev] 176 (0, 0)) ∧ Below w1.heap.size w1 w' :=
    AnyPu.strconv_toError_range (P := Tryz.prog) (ρ := Tryz.laysPu14_ren) { Tryz.laysPu14 with } ⟨#[80, 97, 114, 115, 101, 85, 105, 110, 116]⟩ ⟨l.toArray⟩ 10 63 ev w1 (by rw [bsize]; omega) hev hev2
  go_at_call 116
  refine hT.mono ?_
  rintro e w2 ⟨N, rfl, _, _, hB2⟩
  clear hT hI
  go_wp2
  go_ret2
  exact ⟨⟨N, rfl⟩, below_trans hB hB2⟩
end Go.Proofs.YtfmelhpegcpbiaaGreatDoor.num
