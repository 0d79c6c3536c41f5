/- Part 29 of the proof. -/
import Derived.Test.YtnmkgbomiillgaaGreatDoorCards
import Derived.KernelRfl
/- SqlExprs: the call starts no goroutine: a closed fact. -/
namespace Go.Proofs.YtnmkgbomiillgaaGreatDoor.sqlExprs
theorem goes : false = Rows.sqlExprsRow.goesBy Tryz.pinned.checked.prog := by kernel_rfl
end Go.Proofs.YtnmkgbomiillgaaGreatDoor.sqlExprs
