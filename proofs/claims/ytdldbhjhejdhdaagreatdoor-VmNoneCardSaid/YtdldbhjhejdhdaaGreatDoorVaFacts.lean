/- VmNone: the row's closed facts. -/
import Derived.Test.YtdldbhjhejdhdaaGreatDoorRows
import Derived.JoinedOf
namespace Go.Proofs.YtdldbhjhejdhdaaGreatDoor
open Go
theorem vmNone_facts : joinedFacts Tryz.pinned.checked.prog 7 Tryz.f7 Rows.vmNoneSpec Rows.vmNoneRow = true := by kernel_rfl
theorem vmNone_named : Tryz.pinned.checked.prog.funcNamed Rows.vmNoneRow.func = some 7 := by kernel_rfl
end Go.Proofs.YtdldbhjhejdhdaaGreatDoor
