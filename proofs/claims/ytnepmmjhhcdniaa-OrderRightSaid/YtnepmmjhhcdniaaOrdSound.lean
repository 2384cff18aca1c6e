/- The printed code is that of the program. -/
import Derived.Test.YtnepmmjhhcdniaaRows
import Derived.Test.YtnepmmjhhcdniaaOrdCode
namespace Go.Proofs.Ytnepmmjhhcdniaa
open Go.RE
theorem mixed : DrawOK Try.prog := by unfold DrawOK; kernel_rfl
theorem cs9 : cfun Try.prog 9 = some c9 := by kernel_rfl
theorem cs12 : cfun Try.prog 12 = some c12 := by kernel_rfl
theorem cTab_sound : CSound Try.prog cTab := by
  intro f fn h
  unfold cTab at h
  split at h <;> first | (cases h; kernel_rfl) | (cases h)
end Go.Proofs.Ytnepmmjhhcdniaa
