/- Part 33 of the proof. -/
import Derived.Test.YtnmkgbomiillgaaGreatDoorCards
import Derived.KernelRfl
/- SqlCompares: the call starts no goroutine: a closed fact. -/
namespace Go.Proofs.YtnmkgbomiillgaaGreatDoor.sqlCompares
theorem goes : false = Rows.sqlComparesRow.goesBy Tryz.pinned.checked.prog := by kernel_rfl
end Go.Proofs.YtnmkgbomiillgaaGreatDoor.sqlCompares
