/- The alloc of a fraction within a drawn region. -/
import Derived.Test.YtoioafadenniiaaBoxT
import Derived.Test.YtoioafadenniiaaFrac
namespace Go.Proofs.Ytoioafadenniiaa
open Go.RowKit

theorem allocF {d : Tmp} {t0 : TypeId} {pos : String} (a : Act) (w : World) :
    (execOp a.eval { dst := some d, op := .alloc 31, type := t0, pos := pos, after := #[], guard := none }).run Try.prog w = .ok (.value (.pointer (some ⟨w.heap.size, 0, none⟩))) (w.alloc (.cells #[.int .i64 0, .int .i64 0] 31)) := by
  kernel_rfl

end Go.Proofs.Ytoioafadenniiaa
