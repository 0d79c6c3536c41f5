/- Part 28 of the proof. -/
import Derived.Test.YtnmkgbomiillgaaGreatDoorCards
import Derived.KernelRfl
/- SqlLikes: the call starts no goroutine: a closed fact. -/
namespace Go.Proofs.YtnmkgbomiillgaaGreatDoor.sqlLikes
theorem goes : false = Rows.sqlLikesRow.goesBy Tryz.pinned.checked.prog := by kernel_rfl
end Go.Proofs.YtnmkgbomiillgaaGreatDoor.sqlLikes
