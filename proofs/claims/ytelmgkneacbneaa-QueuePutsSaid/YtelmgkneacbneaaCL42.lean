import Derived.Test.YtelmgkneacbneaaRows
import Derived.Test.YtelmgkneacbneaaAbs13
namespace Go.Proofs.Ytelmgkneacbneaa
open Go.Abs
set_option maxRecDepth 100000

/-- partywall/partywallref26.put -/
def tc42 : CF := ⟨(.seq (.keep [0, 1] (.ops [⟨some 2, .box 3 (.t 0), none⟩, ⟨some 3, .box 7 (.t 1), none⟩, ⟨some 4, .alloc [.int .i64 0, .nils, .int .i64 0], none⟩, ⟨some 5, .mv (.c (.bool false)), none⟩]))
    (.seq (.seq (.keep [2, 3, 4] (.ops [⟨some 6, .fldA 2 (.t 2), none⟩, ⟨some 7, .ld (none) (.t 6), none⟩, ⟨some 8, .bin .gtr (.t 7) (.c (.int .i64 0)), none⟩, ⟨some 9, .mv (.t 8), none⟩, ⟨some 10, .fldA 1 (.t 2), some (9, false)⟩, ⟨some 11, .ld (none) (.t 10), some (9, false)⟩, ⟨some 12, .len (.t 11), some (9, false)⟩, ⟨some 13, .fldA 0 (.t 2), some (9, false)⟩, ⟨some 14, .ld (none) (.t 13), some (9, false)⟩, ⟨some 15, .bin .eql (.t 12) (.t 14), some (9, false)⟩, ⟨some 16, .pick (.t 9) (.c (.bool true)) (.t 15), none⟩]))
    (.cond (.t 16)
      (.seq (.keep [2, 4] (.ops [⟨some 17, .fldA 2 (.t 2), none⟩, ⟨some 18, .ld (none) (.t 17), none⟩, ⟨some 19, .bin .add (.t 18) (.c (.int .i64 1)), none⟩, ⟨some 20, .mm false (.c (.int .i64 1099511627776)) (.t 19), none⟩, ⟨some 21, .fldA 2 (.t 2), none⟩, ⟨none, .st 1 (.t 21) (.t 20), none⟩]))
      (.seq (.keep [2, 4] (.ops [⟨some 22, .ld (some 3) (.t 2), none⟩, ⟨none, .st 3 (.t 4) (.t 22), none⟩, ⟨some 5, .mv (.c (.bool false)), none⟩]))
      .ret))
      .skip))
    (.seq (.keep [2, 3, 4] (.drw [⟨some 23, .mkSl 7 0 [] [], none⟩, ⟨some 24, .fldA 1 (.t 2), none⟩, ⟨some 25, .ld (none) (.t 24), none⟩, ⟨some 26, .app true 42 7 104 (.t 23) (.t 25), none⟩, ⟨some 27, .ld (some 7) (.t 3), none⟩, ⟨some 28, .call 52 [(.t 27)], none⟩, ⟨some 29, .mkSl 7 1 [.int .i64 0, .int .i64 0, .nils, .nils, .nils, .int .i64 0, .int .i64 0] [(0, 7, (.t 28))], none⟩, ⟨some 30, .app true 42 7 104 (.t 26) (.t 29), none⟩, ⟨some 31, .fldA 1 (.t 2), none⟩, ⟨none, .st 1 (.t 31) (.t 30), none⟩] [0, 0, 1, 4, 1, 1, 0, 4, 0, 2]))
    (.seq (.keep [2, 4] (.ops [⟨some 32, .ld (some 3) (.t 2), none⟩, ⟨none, .st 3 (.t 4) (.t 32), none⟩, ⟨some 5, .mv (.c (.bool true)), none⟩]))
    .ret)))), [.cl 4 (some 3), .t 5], 33⟩
theorem tb42 : fB Try.prog 42 tc42 = true := by kernel_rfl

end Go.Proofs.Ytelmgkneacbneaa
