/- LinearKnown: the law has no parameters: the kernel reckons it. -/
import Derived.Test.YtelnnehpbkainaaGreatDoorClosed
namespace Go.Proofs.YtelnnehpbkainaaGreatDoor
open Go Go.Fw
theorem linearKnown_law : ∀ avs, Typed Tryz.prog [] avs → ∃ n s', (callN (progOf Code.tab gl0) n).call (.func 6) avs emptyS = some (.ret (.bool true), s') := by
  intro avs h
  cases h
  exact law_of_pf closed_6
end Go.Proofs.YtelnnehpbkainaaGreatDoor
