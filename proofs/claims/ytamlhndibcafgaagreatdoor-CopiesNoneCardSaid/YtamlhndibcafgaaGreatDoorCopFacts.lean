/- Closed facts of the row of annalistlaw35.CopiesNone. -/
import Derived.Test.YtamlhndibcafgaaGreatDoorRows
import Derived.JoinedOf
import Derived.SevenTiedAt
import Derived.KernelRfl
namespace Go.Proofs.YtamlhndibcafgaaGreatDoor
theorem cn_named : Tryz.pinned.checked.prog.funcNamed Rows.copiesNoneRow.func = some 4 := by kernel_rfl
theorem cn_closed : joinedFacts Tryz.pinned.checked.prog 4 Tryz.f4 Rows.copiesNoneSpec Rows.copiesNoneRow = true := by kernel_rfl
end Go.Proofs.YtamlhndibcafgaaGreatDoor
