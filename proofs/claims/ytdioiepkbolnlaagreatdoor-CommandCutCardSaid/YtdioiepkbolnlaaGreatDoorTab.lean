/- What package-level variables hold, of those that the statements of a group list: cells that are there from the start. -/
import GoSem.Claims
namespace Go.Proofs.YtdioiepkbolnlaaGreatDoor
def cellsOf : List Nat := [0, 15, 49, 48, 2, 64, 128, 48, 16]
def tab : Addr → Option Value := fun a => if a.block = 0 then (if a.spot.isSome then none else (cellsOf[a.off]?).map fun n => .int .u64 n) else none
end Go.Proofs.YtdioiepkbolnlaaGreatDoor
