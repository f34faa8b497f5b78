/- VerifyKnown: the law has no parameters: the kernel reckons it. -/
import Derived.Test.YthmlommnlihgcaaGreatDoorClosed
namespace Go.Proofs.YthmlommnlihgcaaGreatDoor
open Go Go.Fw
theorem verifyKnown_law : ∀ avs, Typed Tryz.prog [] avs → ∃ n s', (callN (progOf Code.tab gl0) n).call (.func 3) avs emptyS = some (.ret (.bool true), s') := by
  intro avs h
  cases h
  exact law_of_pf closed_3
end Go.Proofs.YthmlommnlihgcaaGreatDoor
