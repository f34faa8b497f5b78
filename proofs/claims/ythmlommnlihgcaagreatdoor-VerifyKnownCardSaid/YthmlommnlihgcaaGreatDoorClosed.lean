/- Closed calls of the program, reckoned by the kernel, callees first. Printed by a program of the prover's own. -/
import Derived.Test.YthmlommnlihgcaaGreatDoorFwQuick
import Derived.Test.YthmlommnlihgcaaGreatDoorCodeOk
import Derived.Test.YthmlommnlihgcaaGreatDoorGl
import Derived.KernelRfl
namespace Go.Proofs.YthmlommnlihgcaaGreatDoor
open Go Go.Fw
set_option maxRecDepth 100000
noncomputable abbrev closedP : AProg := progOf Code.tab gl0
def closedL0 : List ME := []
theorem closedK0 : Known closedP closedL0 := .nil
def closedA0 : List AV := [(.agg [(.slice 0 [] .no), (.slice 0 [] .no), (.slice 5 [(.agg [(.int .i64 0), (.int .i64 0), (.int .i64 1), (.bool false), (.slice 4 [(.agg [(.int .i64 0), (.int .i64 3), (.int .i64 0), (.str [])]), (.agg [(.int .i64 4), (.int .i64 0), (.int .i64 0), (.str [])]), (.agg [(.int .i64 3), (.int .i64 0), (.int .i64 0), (.str [])]), (.agg [(.int .i64 6), (.int .i64 1), (.int .i64 1), (.str [])]), (.agg [(.int .i64 8), (.int .i64 0), (.int .i64 0), (.str [])])] .no)]), (.agg [(.int .i64 1), (.int .i64 1), (.int .i64 2), (.bool false), (.slice 4 [(.agg [(.int .i64 3), (.int .i64 1), (.int .i64 0), (.str [])]), (.agg [(.int .i64 3), (.int .i64 0), (.int .i64 0), (.str [])]), (.agg [(.int .i64 5), (.int .i64 0), (.int .i64 0), (.str [43])]), (.agg [(.int .i64 8), (.int .i64 0), (.int .i64 0), (.str [])])] .no)])] .no)])]
def closedV0 : AV := (.tuple [(.slice 1 [(.slice 1 [(.int .i64 0), (.int .i64 1), (.int .i64 0), (.int .i64 1), (.int .i64 1)] .no), (.slice 1 [(.int .i64 0), (.int .i64 1), (.int .i64 2), (.int .i64 1)] .no)] .no), (.agg [(.int .i64 0), (.int .i64 0)]), (.int .i64 0)])
theorem closedE0 : Pf closedP 13 closedA0 closedV0 := pf_runQ closedK0 (n := 19) (by kernel_rfl)
def closedL1 : List ME := ⟨13, closedA0, closedV0⟩ :: closedL0
theorem closedK1 : Known closedP closedL1 := .cons closedE0 closedK0
def closedA1 : List AV := [(.agg [(.slice 0 [] .no), (.slice 0 [] .no), (.slice 5 [(.agg [(.int .i64 0), (.int .i64 0), (.int .i64 0), (.bool false), (.slice 4 [(.agg [(.int .i64 0), (.int .i64 1), (.int .i64 0), (.str [])]), (.agg [(.int .i64 0), (.int .i64 2), (.int .i64 0), (.str [])]), (.agg [(.int .i64 5), (.int .i64 0), (.int .i64 0), (.str [43])]), (.agg [(.int .i64 8), (.int .i64 0), (.int .i64 0), (.str [])])] .no)])] .lit)])]
def closedV1 : AV := (.tuple [(.slice 1 [(.slice 1 [(.int .i64 0), (.int .i64 1), (.int .i64 2), (.int .i64 1)] .no)] .no), (.agg [(.int .i64 0), (.int .i64 0)]), (.int .i64 0)])
theorem closedE1 : Pf closedP 13 closedA1 closedV1 := pf_runQ closedK1 (n := 19) (by kernel_rfl)
def closedL2 : List ME := ⟨13, closedA1, closedV1⟩ :: closedL1
theorem closedK2 : Known closedP closedL2 := .cons closedE1 closedK1
def closedA2 : List AV := []
def closedV2 : AV := (.bool true)
theorem closedE2 : Pf closedP 3 closedA2 closedV2 := pf_runQ closedK2 (n := 22) (by kernel_rfl)
def closedL3 : List ME := ⟨3, closedA2, closedV2⟩ :: closedL2
theorem closedK3 : Known closedP closedL3 := .cons closedE2 closedK2
theorem closed_3 : Pf closedP 3 [] (.bool true) := closedE2
end Go.Proofs.YthmlommnlihgcaaGreatDoor
