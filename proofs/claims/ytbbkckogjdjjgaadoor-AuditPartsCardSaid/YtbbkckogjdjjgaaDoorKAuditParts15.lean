/- Part 15 of the proof of AuditParts: an abstract semantics that is proved sound for the model, contracts of functions in it, and plain facts (C28 C28b). No condition. -/
import Derived.Test.YtbbkckogjdjjgaaDoorKAuditParts14
import Derived.Test.YtbbkckogjdjjgaaDoorRows
set_option linter.all false
namespace Go.Proofs.YtbbkckogjdjjgaaDoor
open Go.Abs
set_option maxRecDepth 100000
/-- partywall/partywalllaw28.AuditAppends -/
def c3 : CF := ⟨(.seq (.keep [0, 1, 2] (.ops [⟨some 3, .box 1 (.t 0), none⟩, ⟨some 4, .box 8 (.t 1), none⟩, ⟨some 6, .mv (.c (.bool false)), none⟩]))
    (.seq (.seq (.keep [2, 3, 4] (.ops [⟨some 16, .fldA 0 (.t 3), none⟩, ⟨some 17, .ld (none) (.t 16), none⟩, ⟨some 18, .len (.t 17), none⟩, ⟨some 19, .bin .gtr (.t 18) (.c (.int .i64 100)), none⟩, ⟨some 20, .mv (.t 19), none⟩, ⟨some 21, .fldA 0 (.t 3), some (20, true)⟩, ⟨some 22, .ld (none) (.t 21), some (20, true)⟩, ⟨some 23, .len (.t 22), some (20, true)⟩, ⟨some 24, .bin .leq (.t 23) (.c (.int .i64 384)), some (20, true)⟩, ⟨some 25, .pick (.t 20) (.t 24) (.c (.bool false)), none⟩, ⟨some 26, .mv (.t 25), none⟩, ⟨some 27, .fldA 0 (.t 3), some (26, false)⟩, ⟨some 28, .ld (none) (.t 27), some (26, false)⟩, ⟨some 29, .len (.t 28), some (26, false)⟩, ⟨some 30, .bin .gtr (.t 29) (.c (.int .i64 390)), some (26, false)⟩, ⟨some 31, .pick (.t 26) (.c (.bool true)) (.t 30), none⟩]))
    (.cond (.t 31)
      (.seq (.keep [] (.ops [⟨some 32, .call 9 [], none⟩, ⟨some 6, .mv (.t 32), none⟩]))
      .ret)
      .skip))
    (.seq (.keep [2, 3, 4] (.ops [⟨some 33, .ld (some 1) (.t 3), none⟩, ⟨some 34, .call 10 [(.t 33)], none⟩, ⟨some 7, .alloc [.nils], none⟩, ⟨none, .st 1 (.t 7) (.t 34), none⟩]))
    (.seq (.keep [2, 3, 4, 7] (.ops [⟨some 36, .ld (some 1) (.t 7), none⟩, ⟨some 37, .fldA 0 (.t 4), none⟩, ⟨some 38, .ld (none) (.t 37), none⟩, ⟨some 39, .fldA 1 (.t 4), none⟩, ⟨some 40, .ld (none) (.t 39), none⟩, ⟨some 41, .fldA 2 (.t 4), none⟩, ⟨some 42, .ld (some 6) (.t 41), none⟩, ⟨some 43, .mv (.t 2), none⟩, ⟨some 44, .call 11 [(.t 36), (.t 38), (.t 40), (.t 42), (.t 43)], none⟩, ⟨some 35, .mv (.t 44), none⟩, ⟨some 45, .ext (.t 35) 0, none⟩, ⟨some 46, .ext (.t 35) 1, none⟩, ⟨some 8, .alloc [.nils], none⟩, ⟨none, .st 1 (.t 8) (.t 45), none⟩, ⟨some 9, .mv (.t 46), none⟩]))
    (.seq (.keep [2, 3, 4, 7, 8, 9] (.ops [⟨some 48, .ld (some 1) (.t 3), none⟩, ⟨some 49, .fldA 0 (.t 4), none⟩, ⟨some 50, .ld (none) (.t 49), none⟩, ⟨some 51, .fldA 1 (.t 4), none⟩, ⟨some 52, .ld (none) (.t 51), none⟩, ⟨some 53, .fldA 2 (.t 4), none⟩, ⟨some 54, .ld (some 6) (.t 53), none⟩, ⟨some 55, .mv (.t 2), none⟩, ⟨some 56, .call 12 [(.t 48), (.t 50), (.t 52), (.t 54), (.t 55)], none⟩, ⟨some 47, .mv (.t 56), none⟩, ⟨some 57, .ext (.t 47) 0, none⟩, ⟨some 58, .ext (.t 47) 1, none⟩, ⟨some 10, .alloc [.nils], none⟩, ⟨none, .st 1 (.t 10) (.t 57), none⟩, ⟨some 11, .mv (.t 58), none⟩]))
    (.seq (.keep [3, 4, 7, 8, 9, 10, 11] (.ops [⟨some 60, .fldA 2 (.t 4), none⟩, ⟨some 61, .ld (some 6) (.t 60), none⟩, ⟨some 62, .call 13 [(.t 61)], none⟩, ⟨some 59, .mv (.t 62), none⟩, ⟨some 63, .ext (.t 59) 0, none⟩, ⟨some 64, .ext (.t 59) 1, none⟩, ⟨some 12, .mv (.t 63), none⟩, ⟨some 13, .mv (.t 64), none⟩]))
    (.seq (.keep [3, 4, 7, 8, 9, 10, 11, 12, 13] (.ops [⟨some 66, .fldA 2 (.t 4), none⟩, ⟨some 67, .ld (some 6) (.t 66), none⟩, ⟨some 68, .call 14 [(.t 67)], none⟩, ⟨some 65, .mv (.t 68), none⟩, ⟨some 69, .ext (.t 65) 0, none⟩, ⟨some 70, .ext (.t 65) 1, none⟩, ⟨some 14, .mv (.t 69), none⟩, ⟨some 15, .mv (.t 70), none⟩]))
    (.seq (.keep [3, 4, 7, 8, 9, 10, 11, 12, 13, 14, 15] (.drw [⟨some 71, .ld (some 1) (.t 7), none⟩, ⟨some 72, .call 15 [(.t 71)], none⟩, ⟨some 73, .ld (some 1) (.t 3), none⟩, ⟨some 74, .call 16 [(.t 73)], none⟩, ⟨some 75, .bin .eql (.t 72) (.t 74), none⟩, ⟨some 76, .mv (.t 75), none⟩, ⟨some 77, .fldA 2 (.t 4), some (76, true)⟩, ⟨some 78, .ld (some 6) (.t 77), some (76, true)⟩, ⟨some 79, .call 17 [(.t 78)], some (76, true)⟩, ⟨some 80, .fldA 2 (.t 4), some (76, true)⟩, ⟨some 81, .ld (some 6) (.t 80), some (76, true)⟩, ⟨some 82, .call 18 [(.t 81)], some (76, true)⟩, ⟨some 83, .bin .eql (.t 79) (.t 82), some (76, true)⟩, ⟨some 84, .pick (.t 76) (.t 83) (.c (.bool false)), none⟩, ⟨some 85, .mv (.t 84), none⟩, ⟨some 86, .ld (some 1) (.t 8), some (85, true)⟩, ⟨some 87, .ld (some 1) (.t 10), some (85, true)⟩, ⟨some 88, .call 19 [(.t 86), (.t 87)], some (85, true)⟩, ⟨some 89, .pick (.t 85) (.t 88) (.c (.bool false)), none⟩, ⟨some 90, .mv (.t 89), none⟩, ⟨some 91, .mv (.t 9), some (90, true)⟩, ⟨some 92, .mv (.t 11), some (90, true)⟩, ⟨some 93, .bin .eql (.t 91) (.t 92), some (90, true)⟩, ⟨some 94, .pick (.t 90) (.t 93) (.c (.bool false)), none⟩, ⟨some 95, .mv (.t 94), none⟩, ⟨some 96, .mv (.t 12), some (95, true)⟩, ⟨some 97, .mv (.t 14), some (95, true)⟩, ⟨some 98, .bin .eql (.t 96) (.t 97), some (95, true)⟩, ⟨some 99, .pick (.t 95) (.t 98) (.c (.bool false)), none⟩, ⟨some 100, .mv (.t 99), none⟩, ⟨some 101, .mv (.t 13), some (100, true)⟩, ⟨some 102, .mv (.t 15), some (100, true)⟩, ⟨some 103, .bin .eql (.t 101) (.t 102), some (100, true)⟩, ⟨some 104, .pick (.t 100) (.t 103) (.c (.bool false)), none⟩, ⟨some 105, .mv (.t 104), none⟩, ⟨some 106, .ld (some 1) (.t 7), some (105, true)⟩, ⟨some 107, .ld (some 1) (.t 3), some (105, true)⟩, ⟨some 108, .call 19 [(.t 106), (.t 107)], some (105, true)⟩, ⟨some 109, .pick (.t 105) (.t 108) (.c (.bool false)), none⟩, ⟨some 110, .mv (.t 109), none⟩, ⟨some 111, .call 9 [], some (110, true)⟩, ⟨some 112, .pick (.t 110) (.t 111) (.c (.bool false)), none⟩, ⟨some 6, .mv (.t 112), none⟩] [1, 1, 1, 1, 0, 0, 0, 1, 1, 0, 1, 1, 0, 0, 0, 1, 1, 1, 0, 0, 0, 0, 0, 0, 0, 0, 0, 0, 0, 0, 0, 0, 0, 0, 0, 1, 1, 1, 0, 0, 1, 0, 0]))
    .ret)))))))), [.t 6], 113⟩
theorem b3 : fB Tryd.prog 3 c3 = true := by kernel_rfl
/-- partywall/partywalllaw28.AuditBlind -/
def c4 : CF := ⟨(.seq (.keep [0, 1, 2, 3] (.ops [⟨some 8, .mv (.c (.bool false)), none⟩]))
    (.seq (.keep [0, 1, 2, 3] (.ops [⟨some 25, .mv (.t 0), none⟩, ⟨some 26, .mv (.t 1), none⟩, ⟨some 27, .call 20 [(.t 25), (.t 26)], none⟩, ⟨some 9, .alloc [.nils], none⟩, ⟨none, .st 1 (.t 9) (.t 27), none⟩]))
    (.seq (.keep [2, 3, 9] (.ops [⟨some 10, .alloc [.nils], none⟩, ⟨some 11, .alloc [.nils], none⟩]))
    (.seq (.seq (.keep [2, 3, 9, 10, 11] (.ops [⟨some 12, .mv (.c (.int .i64 0)), none⟩]))
    (.block 0 (.loop (.seq (.seq (.keep [2, 3, 9, 10, 11, 12] (.ops [⟨some 28, .mv (.t 12), none⟩, ⟨some 29, .fldA 0 (.t 9), none⟩, ⟨some 30, .ld (none) (.t 29), none⟩, ⟨some 31, .len (.t 30), none⟩, ⟨some 32, .bin .lss (.t 28) (.t 31), none⟩]))
    (.cond (.t 32)
      .skip
      (.exit 0)))
    (.seq (.block 1 (.seq (.keep [2, 3, 9, 10, 11, 12] (.ops [⟨some 35, .fldA 0 (.t 9), none⟩, ⟨some 36, .ld (none) (.t 35), none⟩, ⟨some 37, .mv (.t 12), none⟩, ⟨some 38, .ixA 8 (.t 36) (.t 37), none⟩, ⟨some 39, .fldA 1 (.t 38), none⟩, ⟨some 40, .ld (none) (.t 39), none⟩, ⟨some 41, .mv (.t 2), none⟩, ⟨some 42, .bin .andNot (.t 40) (.t 41), none⟩, ⟨some 43, .bin .eql (.t 42) (.c (.int .u64 0)), none⟩]))
    (.cond (.t 43)
      (.seq (.keep [2, 3, 9, 10, 11, 12] (.drw [⟨some 44, .fldA 0 (.t 10), none⟩, ⟨some 45, .ld (none) (.t 44), none⟩, ⟨some 46, .fldA 0 (.t 9), none⟩, ⟨some 47, .ld (none) (.t 46), none⟩, ⟨some 48, .mv (.t 12), none⟩, ⟨some 49, .ixA 8 (.t 47) (.t 48), none⟩, ⟨some 50, .ld (some 8) (.t 49), none⟩, ⟨some 51, .mkSl 8 1 [.int .i64 0, .int .u64 0, .int .i64 0, .int .u64 0, .int .u64 0, .int .u64 0, .int .u64 0, .int .u64 0] [(0, 8, (.t 50))], none⟩, ⟨some 52, .app true 31 8 64 (.t 45) (.t 51), none⟩, ⟨some 53, .fldA 0 (.t 10), none⟩, ⟨none, .st 1 (.t 53) (.t 52), none⟩] [0, 1, 0, 1, 0, 0, 1, 0, 4, 0, 2]))
      (.seq (.keep [2, 3, 9, 10, 11, 12] (.ops [⟨some 54, .fldA 0 (.t 9), none⟩, ⟨some 55, .ld (none) (.t 54), none⟩, ⟨some 56, .mv (.t 12), none⟩, ⟨some 57, .ixA 8 (.t 55) (.t 56), none⟩, ⟨some 58, .fldA 1 (.t 57), none⟩, ⟨some 59, .ld (none) (.t 58), none⟩, ⟨some 60, .mv (.t 3), none⟩, ⟨some 61, .bin .andNot (.t 59) (.t 60), none⟩, ⟨some 62, .bin .eql (.t 61) (.c (.int .u64 0)), none⟩]))
      (.cond (.t 62)
        (.keep [2, 3, 9, 10, 11, 12] (.drw [⟨some 63, .fldA 0 (.t 11), none⟩, ⟨some 64, .ld (none) (.t 63), none⟩, ⟨some 65, .fldA 0 (.t 9), none⟩, ⟨some 66, .ld (none) (.t 65), none⟩, ⟨some 67, .mv (.t 12), none⟩, ⟨some 68, .ixA 8 (.t 66) (.t 67), none⟩, ⟨some 69, .ld (some 8) (.t 68), none⟩, ⟨some 70, .mkSl 8 1 [.int .i64 0, .int .u64 0, .int .i64 0, .int .u64 0, .int .u64 0, .int .u64 0, .int .u64 0, .int .u64 0] [(0, 8, (.t 69))], none⟩, ⟨some 71, .app true 31 8 64 (.t 64) (.t 70), none⟩, ⟨some 72, .fldA 0 (.t 11), none⟩, ⟨none, .st 1 (.t 72) (.t 71), none⟩] [0, 1, 0, 1, 0, 0, 1, 0, 4, 0, 2]))
        .skip)))
      .skip)))
    (.keep [2, 3, 9, 10, 11, 12] (.ops [⟨some 33, .mv (.t 12), none⟩, ⟨some 34, .bin .add (.t 33) (.c (.int .i64 1)), none⟩, ⟨some 12, .mv (.t 34), none⟩])))))))
    (.seq (.keep [2, 3, 9, 10, 11] (.ops [⟨some 74, .ld (some 1) (.t 9), none⟩, ⟨some 75, .mv (.t 2), none⟩, ⟨some 76, .call 21 [(.t 74), (.t 75)], none⟩, ⟨some 73, .mv (.t 76), none⟩, ⟨some 77, .ext (.t 73) 0, none⟩, ⟨some 78, .ext (.t 73) 1, none⟩, ⟨some 13, .mv (.t 77), none⟩, ⟨some 14, .mv (.t 78), none⟩]))
    (.seq (.keep [2, 3, 9, 10, 11, 13, 14] (.ops [⟨some 80, .ld (some 1) (.t 10), none⟩, ⟨some 81, .mv (.t 2), none⟩, ⟨some 82, .call 21 [(.t 80), (.t 81)], none⟩, ⟨some 79, .mv (.t 82), none⟩, ⟨some 83, .ext (.t 79) 0, none⟩, ⟨some 84, .ext (.t 79) 1, none⟩, ⟨some 15, .mv (.t 83), none⟩, ⟨some 16, .mv (.t 84), none⟩]))
    (.seq (.keep [2, 3, 9, 11, 13, 14, 15, 16] (.ops [⟨some 86, .ld (some 1) (.t 9), none⟩, ⟨some 87, .mv (.t 2), none⟩, ⟨some 88, .mv (.t 3), none⟩, ⟨some 89, .bin .and (.t 87) (.t 88), none⟩, ⟨some 90, .call 21 [(.t 86), (.t 89)], none⟩, ⟨some 85, .mv (.t 90), none⟩, ⟨some 91, .ext (.t 85) 0, none⟩, ⟨some 92, .ext (.t 85) 1, none⟩, ⟨some 17, .mv (.t 91), none⟩, ⟨some 18, .mv (.t 92), none⟩]))
    (.seq (.keep [2, 3, 9, 11, 13, 14, 15, 16, 17, 18] (.ops [⟨some 94, .ld (some 1) (.t 11), none⟩, ⟨some 95, .mv (.t 2), none⟩, ⟨some 96, .mv (.t 3), none⟩, ⟨some 97, .bin .or (.t 95) (.t 96), none⟩, ⟨some 98, .call 21 [(.t 94), (.t 97)], none⟩, ⟨some 93, .mv (.t 98), none⟩, ⟨some 99, .ext (.t 93) 0, none⟩, ⟨some 100, .ext (.t 93) 1, none⟩, ⟨some 19, .mv (.t 99), none⟩, ⟨some 20, .mv (.t 100), none⟩]))
    (.seq (.keep [2, 3, 9, 13, 14, 15, 16, 17, 18, 19, 20] (.ops [⟨some 102, .ld (some 1) (.t 9), none⟩, ⟨some 103, .mv (.t 2), none⟩, ⟨some 104, .mv (.t 3), none⟩, ⟨some 105, .bin .or (.t 103) (.t 104), none⟩, ⟨some 106, .call 21 [(.t 102), (.t 105)], none⟩, ⟨some 101, .mv (.t 106), none⟩, ⟨some 107, .ext (.t 101) 0, none⟩, ⟨some 108, .ext (.t 101) 1, none⟩, ⟨some 21, .mv (.t 107), none⟩, ⟨some 22, .mv (.t 108), none⟩]))
    (.seq (.seq (.keep [13, 14, 15, 16, 17, 18, 19, 20, 21, 22] (.ops [⟨some 109, .mv (.t 14), none⟩, ⟨some 110, .bin .neq (.t 109) (.c (.int .i64 0)), none⟩, ⟨some 111, .mv (.t 110), none⟩, ⟨some 112, .mv (.t 16), some (111, false)⟩, ⟨some 113, .bin .neq (.t 112) (.c (.int .i64 0)), some (111, false)⟩, ⟨some 114, .pick (.t 111) (.c (.bool true)) (.t 113), none⟩, ⟨some 115, .mv (.t 114), none⟩, ⟨some 116, .mv (.t 18), some (115, false)⟩, ⟨some 117, .bin .neq (.t 116) (.c (.int .i64 0)), some (115, false)⟩, ⟨some 118, .pick (.t 115) (.c (.bool true)) (.t 117), none⟩, ⟨some 119, .mv (.t 118), none⟩, ⟨some 120, .mv (.t 20), some (119, false)⟩, ⟨some 121, .bin .neq (.t 120) (.c (.int .i64 0)), some (119, false)⟩, ⟨some 122, .pick (.t 119) (.c (.bool true)) (.t 121), none⟩, ⟨some 123, .mv (.t 122), none⟩, ⟨some 124, .mv (.t 22), some (123, false)⟩, ⟨some 125, .bin .neq (.t 124) (.c (.int .i64 0)), some (123, false)⟩, ⟨some 126, .pick (.t 123) (.c (.bool true)) (.t 125), none⟩, ⟨some 127, .mv (.t 126), none⟩, ⟨some 128, .mv (.t 13), some (127, false)⟩, ⟨some 129, .mv (.t 15), some (127, false)⟩, ⟨some 130, .call 22 [(.t 128), (.t 129)], some (127, false)⟩, ⟨some 131, .un .not (.t 130), some (127, false)⟩, ⟨some 132, .pick (.t 127) (.c (.bool true)) (.t 131), none⟩, ⟨some 133, .mv (.t 132), none⟩, ⟨some 134, .mv (.t 17), some (133, false)⟩, ⟨some 135, .mv (.t 19), some (133, false)⟩, ⟨some 136, .call 22 [(.t 134), (.t 135)], some (133, false)⟩, ⟨some 137, .un .not (.t 136), some (133, false)⟩, ⟨some 138, .pick (.t 133) (.c (.bool true)) (.t 137), none⟩]))
    (.cond (.t 138)
      (.seq (.keep [] (.ops [⟨some 8, .mv (.c (.bool false)), none⟩]))
      .ret)
      .skip))
    (.seq (.keep [13, 21] (.ops [⟨some 23, .mv (.c (.int .i64 0)), none⟩]))
    (.seq (.seq (.keep [13, 21, 23] (.ops [⟨some 24, .mv (.c (.int .i64 0)), none⟩]))
    (.block 2 (.loop (.seq (.seq (.keep [13, 21, 23, 24] (.ops [⟨some 139, .mv (.t 24), none⟩, ⟨some 140, .mv (.t 21), none⟩, ⟨some 141, .len (.t 140), none⟩, ⟨some 142, .bin .lss (.t 139) (.t 141), none⟩, ⟨some 143, .mv (.t 142), none⟩, ⟨some 144, .mv (.t 23), some (143, true)⟩, ⟨some 145, .mv (.t 13), some (143, true)⟩, ⟨some 146, .len (.t 145), some (143, true)⟩, ⟨some 147, .bin .lss (.t 144) (.t 146), some (143, true)⟩, ⟨some 148, .pick (.t 143) (.t 147) (.c (.bool false)), none⟩]))
    (.cond (.t 148)
      .skip
      (.exit 2)))
    (.seq (.block 3 (.seq (.keep [13, 21, 23, 24] (.drw [⟨some 151, .mv (.t 21), none⟩, ⟨some 152, .mv (.t 24), none⟩, ⟨some 153, .ixA 6 (.t 151) (.t 152), none⟩, ⟨some 154, .ld (some 6) (.t 153), none⟩, ⟨some 155, .mv (.t 13), none⟩, ⟨some 156, .mv (.t 23), none⟩, ⟨some 157, .ixA 6 (.t 155) (.t 156), none⟩, ⟨some 158, .ld (some 6) (.t 157), none⟩, ⟨some 159, .eqA false [0, 0, 0, 0, 0, 0] (.t 154) (.t 158), none⟩] [0, 0, 0, 1, 0, 0, 0, 1, 0]))
    (.cond (.t 159)
      (.keep [13, 21, 23, 24] (.ops [⟨some 160, .mv (.t 23), none⟩, ⟨some 161, .bin .add (.t 160) (.c (.int .i64 1)), none⟩, ⟨some 23, .mv (.t 161), none⟩]))
      .skip)))
    (.keep [13, 21, 23, 24] (.ops [⟨some 149, .mv (.t 24), none⟩, ⟨some 150, .bin .add (.t 149) (.c (.int .i64 1)), none⟩, ⟨some 24, .mv (.t 150), none⟩])))))))
    (.seq (.keep [13, 23] (.ops [⟨some 162, .mv (.t 23), none⟩, ⟨some 163, .mv (.t 13), none⟩, ⟨some 164, .len (.t 163), none⟩, ⟨some 165, .bin .eql (.t 162) (.t 164), none⟩, ⟨some 166, .mv (.t 165), none⟩, ⟨some 167, .call 9 [], some (166, true)⟩, ⟨some 168, .pick (.t 166) (.t 167) (.c (.bool false)), none⟩, ⟨some 8, .mv (.t 168), none⟩]))
    .ret))))))))))))), [.t 8], 169⟩
theorem b4 : fB Tryd.prog 4 c4 = true := by kernel_rfl
/-- partywall/partywalllaw28.AuditParts -/
def c6 : CF := ⟨(.seq (.keep [0, 1, 2, 3] (.ops [⟨some 8, .mv (.c (.bool false)), none⟩]))
    (.seq (.keep [0, 1, 2, 3] (.ops [⟨some 23, .mv (.t 0), none⟩, ⟨some 24, .mv (.t 1), none⟩, ⟨some 25, .call 20 [(.t 23), (.t 24)], none⟩, ⟨some 9, .alloc [.nils], none⟩, ⟨none, .st 1 (.t 9) (.t 25), none⟩]))
    (.seq (.keep [2, 3, 9] (.ops [⟨some 26, .mv (.t 3), none⟩, ⟨some 27, .call 27 [(.t 26), (.c (.int .i64 64))], none⟩, ⟨some 28, .bin .add (.c (.int .i64 1)) (.t 27), none⟩, ⟨some 10, .mv (.t 28), none⟩]))
    (.seq (.keep [2, 9, 10] (.ops [⟨some 30, .ld (some 1) (.t 9), none⟩, ⟨some 31, .mv (.t 2), none⟩, ⟨some 32, .call 21 [(.t 30), (.t 31)], none⟩, ⟨some 29, .mv (.t 32), none⟩, ⟨some 33, .ext (.t 29) 0, none⟩, ⟨some 34, .ext (.t 29) 1, none⟩, ⟨some 11, .mv (.t 33), none⟩, ⟨some 12, .mv (.t 34), none⟩]))
    (.seq (.seq (.keep [2, 9, 10, 11, 12] (.ops [⟨some 35, .mv (.t 12), none⟩, ⟨some 36, .bin .neq (.t 35) (.c (.int .i64 0)), none⟩, ⟨some 37, .mv (.t 36), none⟩, ⟨some 38, .mv (.t 11), some (37, false)⟩, ⟨some 39, .len (.t 38), some (37, false)⟩, ⟨some 40, .bin .gtr (.t 39) (.c (.int .i64 30)), some (37, false)⟩, ⟨some 41, .pick (.t 37) (.c (.bool true)) (.t 40), none⟩]))
    (.cond (.t 41)
      (.seq (.keep [] (.ops [⟨some 8, .mv (.c (.bool false)), none⟩]))
      .ret)
      .skip))
    (.seq (.keep [2, 9, 10, 11] (.ops [⟨some 13, .mv (.c .nils), none⟩]))
    (.seq (.seq (.keep [2, 9, 10, 11, 13] (.ops [⟨some 14, .mv (.c (.int .i64 0)), none⟩]))
    (.block 0 (.loop (.seq (.seq (.keep [2, 9, 10, 11, 13, 14] (.ops [⟨some 42, .mv (.t 14), none⟩, ⟨some 43, .mv (.t 11), none⟩, ⟨some 44, .len (.t 43), none⟩, ⟨some 45, .bin .leq (.t 42) (.t 44), none⟩]))
    (.cond (.t 45)
      .skip
      (.exit 0)))
    (.seq (.block 1 (.seq (.keep [2, 9, 10, 11, 13, 14] (.ops [⟨some 50, .ld (some 1) (.t 9), none⟩, ⟨some 51, .mv (.t 2), none⟩, ⟨some 52, .mv (.t 14), none⟩, ⟨some 53, .mv (.t 10), none⟩, ⟨some 54, .call 26 [(.t 50), (.t 51), (.t 52), (.t 53)], none⟩, ⟨some 49, .mv (.t 54), none⟩, ⟨some 55, .ext (.t 49) 0, none⟩, ⟨some 56, .ext (.t 49) 1, none⟩, ⟨some 15, .mv (.t 55), none⟩, ⟨some 16, .mv (.t 56), none⟩]))
    (.seq (.seq (.keep [2, 9, 10, 11, 13, 14, 15, 16] (.ops [⟨some 57, .mv (.t 16), none⟩, ⟨some 58, .bin .neq (.t 57) (.c (.int .i64 0)), none⟩, ⟨some 59, .mv (.t 58), none⟩, ⟨some 60, .mv (.t 15), some (59, false)⟩, ⟨some 61, .len (.t 60), some (59, false)⟩, ⟨some 62, .mv (.t 10), some (59, false)⟩, ⟨some 63, .bin .gtr (.t 61) (.t 62), some (59, false)⟩, ⟨some 64, .pick (.t 59) (.c (.bool true)) (.t 63), none⟩]))
    (.cond (.t 64)
      (.seq (.keep [] (.ops [⟨some 8, .mv (.c (.bool false)), none⟩]))
      .ret)
      .skip))
    (.keep [2, 9, 10, 11, 13, 14, 15] (.ops [⟨some 65, .mv (.t 13), none⟩, ⟨some 66, .mv (.t 15), none⟩, ⟨some 67, .app true 29 6 48 (.t 65) (.t 66), none⟩, ⟨some 13, .mv (.t 67), none⟩])))))
    (.keep [2, 9, 10, 11, 13, 14] (.ops [⟨some 46, .mv (.t 14), none⟩, ⟨some 47, .mv (.t 10), none⟩, ⟨some 48, .bin .add (.t 46) (.t 47), none⟩, ⟨some 14, .mv (.t 48), none⟩])))))))
    (.seq (.seq (.keep [11, 13] (.ops [⟨some 17, .mv (.c (.int .i64 0)), none⟩]))
    (.block 2 (.loop (.seq (.seq (.keep [11, 13, 17] (.ops [⟨some 68, .mv (.t 17), none⟩, ⟨some 69, .mv (.t 11), none⟩, ⟨some 70, .len (.t 69), none⟩, ⟨some 71, .bin .lss (.t 68) (.t 70), none⟩]))
    (.cond (.t 71)
      .skip
      (.exit 2)))
    (.seq (.block 3 (.seq (.keep [11, 13, 17] (.ops [⟨some 75, .mv (.t 11), none⟩, ⟨some 76, .mv (.t 17), none⟩, ⟨some 77, .ixA 6 (.t 75) (.t 76), none⟩, ⟨some 78, .ld (some 6) (.t 77), none⟩, ⟨some 79, .call 13 [(.t 78)], none⟩, ⟨some 74, .mv (.t 79), none⟩, ⟨some 80, .ext (.t 74) 0, none⟩, ⟨some 81, .ext (.t 74) 1, none⟩, ⟨some 18, .mv (.t 80), none⟩, ⟨some 19, .mv (.t 81), none⟩]))
    (.seq (.keep [11, 13, 17, 18, 19] (.ops [⟨some 20, .mv (.c (.int .i64 0)), none⟩]))
    (.block 4 (.loop (.seq (.seq (.keep [11, 13, 17, 18, 19, 20] (.ops [⟨some 82, .mv (.t 20), none⟩, ⟨some 83, .mv (.t 17), none⟩, ⟨some 84, .bin .lss (.t 82) (.t 83), none⟩]))
    (.cond (.t 84)
      .skip
      (.exit 4)))
    (.seq (.block 5 (.seq (.keep [11, 13, 17, 18, 19, 20] (.ops [⟨some 88, .mv (.t 11), none⟩, ⟨some 89, .mv (.t 20), none⟩, ⟨some 90, .ixA 6 (.t 88) (.t 89), none⟩, ⟨some 91, .ld (some 6) (.t 90), none⟩, ⟨some 92, .call 13 [(.t 91)], none⟩, ⟨some 87, .mv (.t 92), none⟩, ⟨some 93, .ext (.t 87) 0, none⟩, ⟨some 94, .ext (.t 87) 1, none⟩, ⟨some 21, .mv (.t 93), none⟩, ⟨some 22, .mv (.t 94), none⟩]))
    (.seq (.keep [11, 13, 17, 18, 19, 20, 21, 22] (.drw [⟨some 95, .mv (.t 19), none⟩, ⟨some 96, .bin .neq (.t 95) (.c (.int .i64 0)), none⟩, ⟨some 97, .mv (.t 96), none⟩, ⟨some 98, .mv (.t 22), some (97, false)⟩, ⟨some 99, .bin .neq (.t 98) (.c (.int .i64 0)), some (97, false)⟩, ⟨some 100, .pick (.t 97) (.c (.bool true)) (.t 99), none⟩, ⟨some 101, .mv (.t 100), none⟩, ⟨some 102, .mv (.t 18), some (101, false)⟩, ⟨some 103, .mv (.t 21), some (101, false)⟩, ⟨some 104, .bin .eql (.t 102) (.t 103), some (101, false)⟩, ⟨some 105, .mv (.t 11), some (101, false)⟩, ⟨some 106, .mv (.t 17), some (101, false)⟩, ⟨some 107, .ixA 6 (.t 105) (.t 106), some (101, false)⟩, ⟨some 108, .ld (some 6) (.t 107), some (101, false)⟩, ⟨some 109, .mv (.t 11), some (101, false)⟩, ⟨some 110, .mv (.t 20), some (101, false)⟩, ⟨some 111, .ixA 6 (.t 109) (.t 110), some (101, false)⟩, ⟨some 112, .ld (some 6) (.t 111), some (101, false)⟩, ⟨some 113, .eqA false [0, 0, 0, 0, 0, 0] (.t 108) (.t 112), some (101, false)⟩, ⟨some 114, .eqb true (.t 104) (.t 113), some (101, false)⟩, ⟨some 115, .pick (.t 101) (.c (.bool true)) (.t 114), none⟩] [0, 0, 0, 0, 0, 0, 0, 0, 0, 0, 0, 0, 0, 1, 0, 0, 0, 1, 0, 0, 0]))
    (.cond (.t 115)
      (.seq (.keep [] (.ops [⟨some 8, .mv (.c (.bool false)), none⟩]))
      .ret)
      .skip))))
    (.keep [11, 13, 17, 18, 19, 20] (.ops [⟨some 85, .mv (.t 20), none⟩, ⟨some 86, .bin .add (.t 85) (.c (.int .i64 1)), none⟩, ⟨some 20, .mv (.t 86), none⟩])))))))))
    (.keep [11, 13, 17] (.ops [⟨some 72, .mv (.t 17), none⟩, ⟨some 73, .bin .add (.t 72) (.c (.int .i64 1)), none⟩, ⟨some 17, .mv (.t 73), none⟩])))))))
    (.seq (.keep [11, 13] (.ops [⟨some 116, .mv (.t 13), none⟩, ⟨some 117, .mv (.t 11), none⟩, ⟨some 118, .call 22 [(.t 116), (.t 117)], none⟩, ⟨some 119, .mv (.t 118), none⟩, ⟨some 120, .call 9 [], some (119, true)⟩, ⟨some 121, .pick (.t 119) (.t 120) (.c (.bool false)), none⟩, ⟨some 8, .mv (.t 121), none⟩]))
    .ret))))))))), [.t 8], 122⟩
theorem b6 : fB Tryd.prog 6 c6 = true := by kernel_rfl
/-- partywall/partywalllaw28.AuditGrows -/
def c7 : CF := ⟨(.seq (.keep [0, 1, 2, 3] (.ops [⟨some 8, .mv (.c (.bool false)), none⟩]))
    (.seq (.keep [0, 1, 2, 3] (.ops [⟨some 24, .mv (.t 0), none⟩, ⟨some 25, .mv (.t 1), none⟩, ⟨some 26, .call 20 [(.t 24), (.t 25)], none⟩, ⟨some 27, .mv (.t 2), none⟩, ⟨some 28, .call 27 [(.t 27), (.c (.int .i64 6))], none⟩, ⟨some 29, .bin .add (.c (.int .i64 1)) (.t 28), none⟩, ⟨some 9, .alloc [.nils], none⟩, ⟨none, .st 1 (.t 9) (.t 26), none⟩, ⟨some 10, .mv (.t 29), none⟩]))
    (.seq (.keep [0, 3, 9, 10] (.ops [⟨some 30, .mv (.t 0), none⟩, ⟨some 31, .call 27 [(.t 30), (.c (.int .i64 262144))], none⟩, ⟨some 32, .cnv .u64 (.t 31), none⟩, ⟨some 33, .mv (.t 10), none⟩, ⟨some 34, .bin .mul (.c (.int .i64 3)) (.t 33), none⟩, ⟨some 35, .bin .sub (.t 34) (.c (.int .i64 3)), none⟩, ⟨some 36, .cnv .u64 (.t 35), none⟩, ⟨some 37, .bin .shr (.t 32) (.t 36), none⟩, ⟨some 38, .bin .rem (.t 37) (.c (.int .u64 8)), none⟩, ⟨some 11, .mv (.t 38), none⟩]))
    (.seq (.keep [3, 9, 10, 11] (.ops [⟨some 39, .call 23 [], none⟩, ⟨some 12, .alloc [.int .i64 0, .int .u64 0, .int .u64 0, .int .u64 0, .int .u64 0, .int .u64 0], none⟩, ⟨none, .st 6 (.t 12) (.t 39), none⟩]))
    (.seq (.keep [3, 9, 10, 11, 12] (.ops [⟨some 40, .fldA 5 (.t 12), none⟩, ⟨none, .st 1 (.t 40) (.c (.int .u64 1000)), none⟩]))
    (.seq (.seq (.keep [3, 9, 10, 11, 12] (.ops [⟨some 41, .ld (some 1) (.t 9), none⟩, ⟨some 42, .call 15 [(.t 41)], none⟩, ⟨some 43, .bin .neq (.t 42) (.c (.int .i64 0)), none⟩]))
    (.cond (.t 43)
      (.seq (.keep [] (.ops [⟨some 8, .mv (.c (.bool false)), none⟩]))
      .ret)
      .skip))
    (.seq (.keep [3, 9, 10, 11, 12] (.ops [⟨some 45, .ld (some 1) (.t 9), none⟩, ⟨some 46, .mv (.t 10), none⟩, ⟨some 47, .mv (.t 11), none⟩, ⟨some 48, .ld (some 6) (.t 12), none⟩, ⟨some 49, .call 11 [(.t 45), (.t 46), (.t 47), (.t 48), (.c (.int .i64 64))], none⟩, ⟨some 44, .mv (.t 49), none⟩, ⟨some 50, .ext (.t 44) 0, none⟩, ⟨some 51, .ext (.t 44) 1, none⟩, ⟨some 13, .alloc [.nils], none⟩, ⟨none, .st 1 (.t 13) (.t 50), none⟩, ⟨some 14, .mv (.t 51), none⟩]))
    (.seq (.keep [3, 9, 10, 11, 12, 13, 14] (.ops [⟨some 53, .ld (some 1) (.t 9), none⟩, ⟨some 54, .mv (.t 3), none⟩, ⟨some 55, .call 21 [(.t 53), (.t 54)], none⟩, ⟨some 52, .mv (.t 55), none⟩, ⟨some 56, .ext (.t 52) 0, none⟩, ⟨some 57, .ext (.t 52) 1, none⟩, ⟨some 15, .mv (.t 56), none⟩, ⟨some 16, .mv (.t 57), none⟩]))
    (.seq (.keep [3, 9, 10, 11, 12, 13, 14, 15, 16] (.ops [⟨some 59, .ld (some 1) (.t 13), none⟩, ⟨some 60, .mv (.t 3), none⟩, ⟨some 61, .call 21 [(.t 59), (.t 60)], none⟩, ⟨some 58, .mv (.t 61), none⟩, ⟨some 62, .ext (.t 58) 0, none⟩, ⟨some 63, .ext (.t 58) 1, none⟩, ⟨some 17, .mv (.t 62), none⟩, ⟨some 18, .mv (.t 63), none⟩]))
    (.seq (.keep [3, 9, 10, 11, 12, 13, 14, 15, 16, 17, 18] (.ops [⟨some 65, .ld (some 1) (.t 9), none⟩, ⟨some 66, .mv (.t 10), none⟩, ⟨some 67, .call 28 [(.t 65), (.t 66)], none⟩, ⟨some 64, .mv (.t 67), none⟩, ⟨some 68, .ext (.t 64) 0, none⟩, ⟨some 69, .ext (.t 64) 1, none⟩, ⟨some 19, .mv (.t 68), none⟩, ⟨some 20, .mv (.t 69), none⟩]))
    (.seq (.keep [3, 9, 10, 11, 12, 13, 14, 15, 16, 17, 18, 19, 20] (.ops [⟨some 71, .ld (some 1) (.t 13), none⟩, ⟨some 72, .mv (.t 10), none⟩, ⟨some 73, .call 28 [(.t 71), (.t 72)], none⟩, ⟨some 70, .mv (.t 73), none⟩, ⟨some 74, .ext (.t 70) 0, none⟩, ⟨some 75, .ext (.t 70) 1, none⟩, ⟨some 21, .mv (.t 74), none⟩, ⟨some 22, .mv (.t 75), none⟩]))
    (.seq (.seq (.keep [3, 9, 11, 12, 13, 14, 15, 16, 17, 18, 19, 20, 21, 22] (.drw [⟨some 76, .mv (.t 14), none⟩, ⟨some 77, .bin .neq (.t 76) (.c (.int .i64 0)), none⟩, ⟨some 78, .mv (.t 77), none⟩, ⟨some 79, .mv (.t 16), some (78, false)⟩, ⟨some 80, .bin .neq (.t 79) (.c (.int .i64 0)), some (78, false)⟩, ⟨some 81, .pick (.t 78) (.c (.bool true)) (.t 80), none⟩, ⟨some 82, .mv (.t 81), none⟩, ⟨some 83, .mv (.t 18), some (82, false)⟩, ⟨some 84, .bin .neq (.t 83) (.c (.int .i64 0)), some (82, false)⟩, ⟨some 85, .pick (.t 82) (.c (.bool true)) (.t 84), none⟩, ⟨some 86, .mv (.t 85), none⟩, ⟨some 87, .mv (.t 20), some (86, false)⟩, ⟨some 88, .bin .neq (.t 87) (.c (.int .i64 0)), some (86, false)⟩, ⟨some 89, .pick (.t 86) (.c (.bool true)) (.t 88), none⟩, ⟨some 90, .mv (.t 89), none⟩, ⟨some 91, .mv (.t 22), some (90, false)⟩, ⟨some 92, .bin .neq (.t 91) (.c (.int .i64 0)), some (90, false)⟩, ⟨some 93, .pick (.t 90) (.c (.bool true)) (.t 92), none⟩, ⟨some 94, .mv (.t 93), none⟩, ⟨some 95, .fldA 0 (.t 13), some (94, false)⟩, ⟨some 96, .ld (none) (.t 95), some (94, false)⟩, ⟨some 97, .len (.t 96), some (94, false)⟩, ⟨some 98, .fldA 0 (.t 9), some (94, false)⟩, ⟨some 99, .ld (none) (.t 98), some (94, false)⟩, ⟨some 100, .len (.t 99), some (94, false)⟩, ⟨some 101, .bin .add (.t 100) (.c (.int .i64 1)), some (94, false)⟩, ⟨some 102, .bin .neq (.t 97) (.t 101), some (94, false)⟩, ⟨some 103, .pick (.t 94) (.c (.bool true)) (.t 102), none⟩, ⟨some 104, .mv (.t 103), none⟩, ⟨some 105, .fldA 0 (.t 13), some (104, false)⟩, ⟨some 106, .ld (none) (.t 105), some (104, false)⟩, ⟨some 107, .fldA 0 (.t 9), some (104, false)⟩, ⟨some 108, .ld (none) (.t 107), some (104, false)⟩, ⟨some 109, .len (.t 108), some (104, false)⟩, ⟨some 110, .slc 8 (.t 106) none (some (.t 109)) none, some (104, false)⟩, ⟨some 111, .bld [.nils] [(0, 1, (.t 110))], some (104, false)⟩, ⟨some 112, .ld (some 1) (.t 9), some (104, false)⟩, ⟨some 113, .call 19 [(.t 111), (.t 112)], some (104, false)⟩, ⟨some 114, .un .not (.t 113), some (104, false)⟩, ⟨some 115, .pick (.t 104) (.c (.bool true)) (.t 114), none⟩, ⟨some 116, .mv (.t 115), none⟩, ⟨some 117, .mv (.t 21), some (116, false)⟩, ⟨some 118, .mv (.t 19), some (116, false)⟩, ⟨some 119, .bin .add (.t 118) (.c (.int .i64 1)), some (116, false)⟩, ⟨some 120, .bin .neq (.t 117) (.t 119), some (116, false)⟩, ⟨some 121, .pick (.t 116) (.c (.bool true)) (.t 120), none⟩] [0, 0, 0, 0, 0, 0, 0, 0, 0, 0, 0, 0, 0, 0, 0, 0, 0, 0, 0, 0, 1, 0, 0, 1, 0, 0, 0, 0, 0, 0, 1, 0, 1, 0, 0, 0, 1, 1, 0, 0, 0, 0, 0, 0, 0, 0]))
    (.cond (.t 121)
      (.seq (.keep [] (.ops [⟨some 8, .mv (.c (.bool false)), none⟩]))
      .ret)
      .skip))
    (.seq (.keep [3, 11, 12, 15, 17] (.ops [⟨some 122, .mv (.t 15), none⟩, ⟨some 23, .mv (.t 122), none⟩]))
    (.seq (.seq (.keep [3, 11, 12, 15, 17, 23] (.ops [⟨some 123, .mv (.t 11), none⟩, ⟨some 124, .mv (.t 3), none⟩, ⟨some 125, .bin .andNot (.t 123) (.t 124), none⟩, ⟨some 126, .bin .eql (.t 125) (.c (.int .u64 0)), none⟩]))
    (.cond (.t 126)
      (.keep [12, 15, 17] (.drw [⟨some 127, .mkSl 6 0 [] [], none⟩, ⟨some 128, .mv (.t 15), none⟩, ⟨some 129, .app true 29 6 48 (.t 127) (.t 128), none⟩, ⟨some 130, .ld (some 6) (.t 12), none⟩, ⟨some 131, .mkSl 6 1 [.int .i64 0, .int .u64 0, .int .u64 0, .int .u64 0, .int .u64 0, .int .u64 0] [(0, 6, (.t 130))], none⟩, ⟨some 132, .app true 29 6 48 (.t 129) (.t 131), none⟩, ⟨some 23, .mv (.t 132), none⟩] [0, 0, 4, 1, 0, 4, 0]))
      .skip))
    (.seq (.keep [17, 23] (.ops [⟨some 133, .mv (.t 17), none⟩, ⟨some 134, .mv (.t 23), none⟩, ⟨some 135, .call 22 [(.t 133), (.t 134)], none⟩, ⟨some 136, .mv (.t 135), none⟩, ⟨some 137, .call 9 [], some (136, true)⟩, ⟨some 138, .pick (.t 136) (.t 137) (.c (.bool false)), none⟩, ⟨some 8, .mv (.t 138), none⟩]))
    .ret))))))))))))))), [.t 8], 139⟩
/-- partywall/partywalllaw28.AuditReads -/
def c8 : CF := ⟨(.seq (.keep [0, 1, 2, 3] (.ops [⟨some 4, .box 1 (.t 0), none⟩, ⟨some 7, .box 2 (.t 3), none⟩, ⟨some 8, .mv (.c (.bool false)), none⟩]))
    (.seq (.seq (.keep [1, 2, 4, 7] (.ops [⟨some 16, .fldA 0 (.t 4), none⟩, ⟨some 17, .ld (none) (.t 16), none⟩, ⟨some 18, .len (.t 17), none⟩, ⟨some 19, .bin .gtr (.t 18) (.c (.int .i64 100)), none⟩]))
    (.cond (.t 19)
      (.seq (.keep [] (.ops [⟨some 20, .call 9 [], none⟩, ⟨some 8, .mv (.t 20), none⟩]))
      .ret)
      .skip))
    (.seq (.keep [1, 2, 4, 7] (.ops [⟨some 21, .ld (some 1) (.t 4), none⟩, ⟨some 22, .call 10 [(.t 21)], none⟩, ⟨some 9, .alloc [.nils], none⟩, ⟨none, .st 1 (.t 9) (.t 22), none⟩]))
    (.seq (.keep [1, 2, 4, 7, 9] (.ops [⟨some 24, .ld (some 1) (.t 9), none⟩, ⟨some 25, .mv (.t 1), none⟩, ⟨some 26, .call 29 [(.t 24), (.t 25)], none⟩, ⟨some 23, .mv (.t 26), none⟩, ⟨some 27, .ext (.t 23) 0, none⟩, ⟨some 28, .ext (.t 23) 1, none⟩, ⟨some 10, .mv (.t 27), none⟩, ⟨some 11, .mv (.t 28), none⟩]))
    (.seq (.keep [1, 2, 4, 7, 9, 10, 11] (.ops [⟨some 30, .ld (some 1) (.t 4), none⟩, ⟨some 31, .mv (.t 1), none⟩, ⟨some 32, .call 30 [(.t 30), (.t 31)], none⟩, ⟨some 29, .mv (.t 32), none⟩, ⟨some 33, .ext (.t 29) 0, none⟩, ⟨some 34, .ext (.t 29) 1, none⟩, ⟨some 12, .mv (.t 33), none⟩, ⟨some 13, .mv (.t 34), none⟩]))
    (.seq (.seq (.keep [1, 2, 4, 7, 9, 10, 11, 12, 13] (.ops [⟨some 35, .mv (.t 10), none⟩, ⟨some 36, .mv (.t 12), none⟩, ⟨some 37, .call 22 [(.t 35), (.t 36)], none⟩, ⟨some 38, .un .not (.t 37), none⟩, ⟨some 39, .mv (.t 38), none⟩, ⟨some 40, .mv (.t 11), some (39, false)⟩, ⟨some 41, .mv (.t 13), some (39, false)⟩, ⟨some 42, .bin .neq (.t 40) (.t 41), some (39, false)⟩, ⟨some 43, .pick (.t 39) (.c (.bool true)) (.t 42), none⟩]))
    (.cond (.t 43)
      (.seq (.keep [] (.ops [⟨some 8, .mv (.c (.bool false)), none⟩]))
      .ret)
      .skip))
    (.seq (.keep [1, 2, 4, 7, 9] (.ops [⟨some 45, .ld (some 1) (.t 9), none⟩, ⟨some 46, .mv (.t 1), none⟩, ⟨some 47, .call 28 [(.t 45), (.t 46)], none⟩, ⟨some 44, .mv (.t 47), none⟩, ⟨some 48, .ext (.t 44) 0, none⟩, ⟨some 49, .ext (.t 44) 1, none⟩, ⟨some 14, .mv (.t 48), none⟩, ⟨some 11, .mv (.t 49), none⟩]))
    (.seq (.keep [1, 2, 4, 7, 9, 11, 14] (.ops [⟨some 51, .ld (some 1) (.t 4), none⟩, ⟨some 52, .mv (.t 1), none⟩, ⟨some 53, .call 31 [(.t 51), (.t 52)], none⟩, ⟨some 50, .mv (.t 53), none⟩, ⟨some 54, .ext (.t 50) 0, none⟩, ⟨some 55, .ext (.t 50) 1, none⟩, ⟨some 15, .mv (.t 54), none⟩, ⟨some 13, .mv (.t 55), none⟩]))
    (.seq (.seq (.keep [2, 4, 7, 9, 11, 13, 14, 15] (.ops [⟨some 56, .mv (.t 14), none⟩, ⟨some 57, .mv (.t 15), none⟩, ⟨some 58, .bin .neq (.t 56) (.t 57), none⟩, ⟨some 59, .mv (.t 58), none⟩, ⟨some 60, .mv (.t 11), some (59, false)⟩, ⟨some 61, .mv (.t 13), some (59, false)⟩, ⟨some 62, .bin .neq (.t 60) (.t 61), some (59, false)⟩, ⟨some 63, .pick (.t 59) (.c (.bool true)) (.t 62), none⟩]))
    (.cond (.t 63)
      (.seq (.keep [] (.ops [⟨some 8, .mv (.c (.bool false)), none⟩]))
      .ret)
      .skip))
    (.seq (.keep [2, 4, 7, 9] (.ops [⟨some 65, .ld (some 1) (.t 9), none⟩, ⟨some 66, .mv (.t 2), none⟩, ⟨some 67, .call 21 [(.t 65), (.t 66)], none⟩, ⟨some 64, .mv (.t 67), none⟩, ⟨some 68, .ext (.t 64) 0, none⟩, ⟨some 69, .ext (.t 64) 1, none⟩, ⟨some 10, .mv (.t 68), none⟩, ⟨some 11, .mv (.t 69), none⟩]))
    (.seq (.keep [2, 4, 7, 9, 10, 11] (.ops [⟨some 71, .ld (some 1) (.t 4), none⟩, ⟨some 72, .mv (.t 2), none⟩, ⟨some 73, .call 32 [(.t 71), (.t 72)], none⟩, ⟨some 70, .mv (.t 73), none⟩, ⟨some 74, .ext (.t 70) 0, none⟩, ⟨some 75, .ext (.t 70) 1, none⟩, ⟨some 12, .mv (.t 74), none⟩, ⟨some 13, .mv (.t 75), none⟩]))
    (.seq (.seq (.keep [2, 4, 7, 9, 10, 11, 12, 13] (.ops [⟨some 76, .mv (.t 10), none⟩, ⟨some 77, .mv (.t 12), none⟩, ⟨some 78, .call 22 [(.t 76), (.t 77)], none⟩, ⟨some 79, .un .not (.t 78), none⟩, ⟨some 80, .mv (.t 79), none⟩, ⟨some 81, .mv (.t 11), some (80, false)⟩, ⟨some 82, .mv (.t 13), some (80, false)⟩, ⟨some 83, .bin .neq (.t 81) (.t 82), some (80, false)⟩, ⟨some 84, .pick (.t 80) (.c (.bool true)) (.t 83), none⟩]))
    (.cond (.t 84)
      (.seq (.keep [] (.ops [⟨some 8, .mv (.c (.bool false)), none⟩]))
      .ret)
      .skip))
    (.seq (.keep [2, 4, 7, 9] (.ops [⟨some 86, .ld (some 1) (.t 9), none⟩, ⟨some 87, .mv (.t 2), none⟩, ⟨some 88, .fldA 0 (.t 7), none⟩, ⟨some 89, .ld (none) (.t 88), none⟩, ⟨some 90, .fldA 1 (.t 7), none⟩, ⟨some 91, .ld (none) (.t 90), none⟩, ⟨some 92, .call 26 [(.t 86), (.t 87), (.t 89), (.t 91)], none⟩, ⟨some 85, .mv (.t 92), none⟩, ⟨some 93, .ext (.t 85) 0, none⟩, ⟨some 94, .ext (.t 85) 1, none⟩, ⟨some 10, .mv (.t 93), none⟩, ⟨some 11, .mv (.t 94), none⟩]))
    (.seq (.keep [2, 4, 7, 9, 10, 11] (.ops [⟨some 96, .ld (some 1) (.t 4), none⟩, ⟨some 97, .mv (.t 2), none⟩, ⟨some 98, .fldA 0 (.t 7), none⟩, ⟨some 99, .ld (none) (.t 98), none⟩, ⟨some 100, .fldA 1 (.t 7), none⟩, ⟨some 101, .ld (none) (.t 100), none⟩, ⟨some 102, .call 33 [(.t 96), (.t 97), (.t 99), (.t 101)], none⟩, ⟨some 95, .mv (.t 102), none⟩, ⟨some 103, .ext (.t 95) 0, none⟩, ⟨some 104, .ext (.t 95) 1, none⟩, ⟨some 12, .mv (.t 103), none⟩, ⟨some 13, .mv (.t 104), none⟩]))
    (.seq (.keep [4, 9, 10, 11, 12, 13] (.ops [⟨some 105, .mv (.t 10), none⟩, ⟨some 106, .mv (.t 12), none⟩, ⟨some 107, .call 22 [(.t 105), (.t 106)], none⟩, ⟨some 108, .mv (.t 107), none⟩, ⟨some 109, .mv (.t 11), some (108, true)⟩, ⟨some 110, .mv (.t 13), some (108, true)⟩, ⟨some 111, .bin .eql (.t 109) (.t 110), some (108, true)⟩, ⟨some 112, .pick (.t 108) (.t 111) (.c (.bool false)), none⟩, ⟨some 113, .mv (.t 112), none⟩, ⟨some 114, .ld (some 1) (.t 9), some (113, true)⟩, ⟨some 115, .ld (some 1) (.t 4), some (113, true)⟩, ⟨some 116, .call 19 [(.t 114), (.t 115)], some (113, true)⟩, ⟨some 117, .pick (.t 113) (.t 116) (.c (.bool false)), none⟩, ⟨some 118, .mv (.t 117), none⟩, ⟨some 119, .call 9 [], some (118, true)⟩, ⟨some 120, .pick (.t 118) (.t 119) (.c (.bool false)), none⟩, ⟨some 8, .mv (.t 120), none⟩]))
    .ret))))))))))))))), [.t 8], 121⟩
/-- partywall/partywalllaw28.awake -/
def c9 : CF := ⟨(.seq (.keep [] (.ops [⟨some 0, .mv (.c (.bool false)), none⟩]))
    (.seq (.keep [] (.ops [⟨some 6, .call 23 [], none⟩, ⟨some 7, .call 13 [(.t 6)], none⟩, ⟨some 5, .mv (.t 7), none⟩, ⟨some 8, .ext (.t 5) 0, none⟩, ⟨some 9, .ext (.t 5) 1, none⟩, ⟨some 1, .mv (.t 8), none⟩, ⟨some 2, .mv (.t 9), none⟩]))
    (.seq (.keep [1, 2] (.ops [⟨some 11, .call 25 [], none⟩, ⟨some 12, .call 21 [(.t 11), (.c (.int .u64 15))], none⟩, ⟨some 10, .mv (.t 12), none⟩, ⟨some 13, .ext (.t 10) 0, none⟩, ⟨some 14, .ext (.t 10) 1, none⟩, ⟨some 3, .mv (.t 13), none⟩, ⟨some 4, .mv (.t 14), none⟩]))
    (.seq (.keep [1, 2, 3, 4] (.ops [⟨some 15, .mv (.t 1), none⟩, ⟨some 16, .bin .eql (.t 15) (.c (.str [48, 32, 123, 49, 44, 50, 125, 35, 53, 32, 45, 62, 32, 123, 49, 125, 32, 64, 55])), none⟩, ⟨some 17, .mv (.t 16), none⟩, ⟨some 18, .mv (.t 2), some (17, true)⟩, ⟨some 19, .bin .eql (.t 18) (.c (.int .i64 0)), some (17, true)⟩, ⟨some 20, .pick (.t 17) (.t 19) (.c (.bool false)), none⟩, ⟨some 21, .mv (.t 20), none⟩, ⟨some 22, .mv (.t 3), some (21, true)⟩, ⟨some 23, .call 23 [], some (21, true)⟩, ⟨some 24, .call 24 [], some (21, true)⟩, ⟨some 25, .mkSl 6 2 [.int .i64 0, .int .u64 0, .int .u64 0, .int .u64 0, .int .u64 0, .int .u64 0, .int .i64 0, .int .u64 0, .int .u64 0, .int .u64 0, .int .u64 0, .int .u64 0] [(0, 6, (.t 23)), (6, 6, (.t 24))], some (21, true)⟩, ⟨some 26, .call 22 [(.t 22), (.t 25)], some (21, true)⟩, ⟨some 27, .pick (.t 21) (.t 26) (.c (.bool false)), none⟩, ⟨some 28, .mv (.t 27), none⟩, ⟨some 29, .mv (.t 4), some (28, true)⟩, ⟨some 30, .bin .eql (.t 29) (.c (.int .i64 0)), some (28, true)⟩, ⟨some 31, .pick (.t 28) (.t 30) (.c (.bool false)), none⟩, ⟨some 0, .mv (.t 31), none⟩]))
    .ret)))), [.t 0], 32⟩
theorem b9 : fB Tryd.prog 9 c9 = true := by kernel_rfl
/-- partywall/partywalllaw28.own -/
def c10 : CF := ⟨(.seq (.keep [0] (.ops [⟨some 1, .box 1 (.t 0), none⟩, ⟨some 2, .alloc [.nils], none⟩]))
    (.seq (.keep [1, 2] (.ops [⟨some 3, .mkSl 8 0 [] [], none⟩, ⟨some 4, .fldA 0 (.t 1), none⟩, ⟨some 5, .ld (none) (.t 4), none⟩, ⟨some 6, .app false 31 8 64 (.t 3) (.t 5), none⟩, ⟨some 7, .bld [.nils] [(0, 1, (.t 6))], none⟩, ⟨none, .st 1 (.t 2) (.t 7), none⟩]))
    .ret)), [.cl 2 (some 1)], 8⟩
/-- partywall/audit.Text -/
def c13 : CF := ⟨(.seq (.keep [0] (.ops [⟨some 1, .box 6 (.t 0), none⟩, ⟨some 2, .mv (.c (.str [])), none⟩, ⟨some 3, .mv (.c (.int .i64 0)), none⟩]))
    (.seq (.seq (.keep [1] (.ops [⟨some 7, .ld (some 6) (.t 1), none⟩, ⟨some 8, .call 17 [(.t 7)], none⟩, ⟨some 4, .mv (.t 8), none⟩]))
    (.seq (.keep [1, 4] (.ops [⟨some 9, .mv (.t 4), none⟩, ⟨some 10, .bin .neq (.t 9) (.c (.int .i64 0)), none⟩]))
    (.cond (.t 10)
      (.seq (.keep [4] (.ops [⟨some 11, .mv (.t 4), none⟩, ⟨some 2, .mv (.c (.str [])), none⟩, ⟨some 3, .mv (.t 11), none⟩]))
      .ret)
      .skip)))
    (.seq (.keep [1] (.ops [⟨some 13, .fldA 1 (.t 1), none⟩, ⟨some 14, .ld (some 2) (.t 13), none⟩, ⟨some 15, .call 39 [(.t 14)], none⟩, ⟨some 12, .mv (.t 15), none⟩, ⟨some 16, .ext (.t 12) 0, none⟩, ⟨some 17, .ext (.t 12) 1, none⟩, ⟨some 5, .mv (.t 16), none⟩, ⟨some 6, .mv (.t 17), none⟩]))
    (.seq (.keep [1, 5] (.drw [⟨some 18, .fldA 0 (.t 1), none⟩, ⟨some 19, .ld (none) (.t 18), none⟩, ⟨some 20, .call 40 [(.t 19)], none⟩, ⟨some 21, .bin .add (.t 20) (.c (.str [32])), none⟩, ⟨some 22, .mv (.t 5), none⟩, ⟨some 23, .bin .add (.t 21) (.t 22), none⟩, ⟨some 24, .bin .add (.t 23) (.c (.str [32, 45, 62, 32])), none⟩, ⟨some 25, .fldA 4 (.t 1), none⟩, ⟨some 26, .ld (none) (.t 25), none⟩, ⟨some 27, .call 41 [(.t 26)], none⟩, ⟨some 28, .bin .add (.t 24) (.t 27), none⟩, ⟨some 29, .bin .add (.t 28) (.c (.str [32, 64])), none⟩, ⟨some 30, .fldA 5 (.t 1), none⟩, ⟨some 31, .ld (none) (.t 30), none⟩, ⟨some 32, .call 42 [(.t 31), (.c (.int .i64 10))], none⟩, ⟨some 33, .bin .add (.t 29) (.t 32), none⟩, ⟨some 2, .mv (.t 33), none⟩, ⟨some 3, .mv (.c (.int .i64 0)), none⟩] [0, 1, 1, 0, 0, 0, 0, 0, 1, 1, 0, 0, 0, 1, 1, 0, 0, 0]))
    .ret)))), [.t 2, .t 3], 34⟩
theorem b13 : fB Tryd.prog 13 c13 = true := by kernel_rfl
/-- partywall/audit.Check -/
def c15 : CF := ⟨(.seq (.keep [0] (.ops [⟨some 1, .box 1 (.t 0), none⟩, ⟨some 2, .mv (.c (.int .i64 0)), none⟩]))
    (.seq (.keep [1] (.ops [⟨some 6, .ld (some 1) (.t 1), none⟩, ⟨some 7, .call 34 [(.t 6)], none⟩, ⟨some 5, .mv (.t 7), none⟩, ⟨some 8, .ext (.t 5) 0, none⟩, ⟨some 9, .ext (.t 5) 1, none⟩, ⟨some 3, .alloc [.int .u64 0, .int .i64 0, .int .u64 0, .int .i64 0, .int .u64 0, .int .i64 0, .int .u64 0, .int .i64 0, .int .u64 0, .int .i64 0, .int .u64 0, .int .i64 0, .int .u64 0, .int .i64 0], none⟩, ⟨none, .st 14 (.t 3) (.t 8), none⟩, ⟨some 4, .mv (.t 9), none⟩]))
    (.seq (.keep [4] (.ops [⟨some 10, .mv (.t 4), none⟩, ⟨some 2, .mv (.t 10), none⟩]))
    .ret))), [.t 2], 11⟩
theorem b15 : fB Tryd.prog 15 c15 = true := by kernel_rfl
/-- partywall/audit.Right -/
def c17 : CF := ⟨(.seq (.keep [0] (.ops [⟨some 1, .box 6 (.t 0), none⟩, ⟨some 2, .mv (.c (.int .i64 0)), none⟩]))
    (.seq (.block 0 (.seq (.keep [1] (.ops [⟨some 4, .fldA 0 (.t 1), none⟩, ⟨some 5, .ld (none) (.t 4), none⟩, ⟨some 6, .bin .lss (.t 5) (.c (.int .i64 0)), none⟩, ⟨some 7, .mv (.t 6), none⟩, ⟨some 8, .fldA 0 (.t 1), some (7, false)⟩, ⟨some 9, .ld (none) (.t 8), some (7, false)⟩, ⟨some 10, .bin .geq (.t 9) (.c (.int .i64 8)), some (7, false)⟩, ⟨some 11, .pick (.t 7) (.c (.bool true)) (.t 10), none⟩, ⟨some 12, .mv (.t 11), none⟩, ⟨some 13, .fldA 1 (.t 1), some (12, false)⟩, ⟨some 14, .ld (some 2) (.t 13), some (12, false)⟩, ⟨some 15, .call 46 [(.t 14)], some (12, false)⟩, ⟨some 16, .bin .neq (.t 15) (.c (.int .i64 0)), some (12, false)⟩, ⟨some 17, .pick (.t 12) (.c (.bool true)) (.t 16), none⟩, ⟨some 18, .mv (.t 17), none⟩, ⟨some 19, .fldA 5 (.t 1), some (18, false)⟩, ⟨some 20, .ld (none) (.t 19), some (18, false)⟩, ⟨some 21, .bin .gtr (.t 20) (.c (.int .u64 1099511627776)), some (18, false)⟩, ⟨some 22, .pick (.t 18) (.c (.bool true)) (.t 21), none⟩, ⟨some 3, .mv (.t 22), none⟩]))
    (.cond (.t 3)
      (.seq (.keep [] (.ops [⟨some 2, .mv (.c (.int .i64 2)), none⟩]))
      .ret)
      (.seq (.keep [1] (.ops [⟨some 24, .fldA 3 (.t 1), none⟩, ⟨some 25, .ld (none) (.t 24), none⟩, ⟨some 26, .fldA 1 (.t 1), none⟩, ⟨some 27, .fldA 0 (.t 26), none⟩, ⟨some 28, .ld (none) (.t 27), none⟩, ⟨some 29, .bin .neq (.t 25) (.t 28), none⟩, ⟨some 23, .mv (.t 29), none⟩]))
      (.cond (.t 23)
        (.seq (.keep [] (.ops [⟨some 2, .mv (.c (.int .i64 13)), none⟩]))
        .ret)
        .skip)))))
    (.seq (.keep [] (.ops [⟨some 2, .mv (.c (.int .i64 0)), none⟩]))
    .ret))), [.t 2], 30⟩
theorem b17 : fB Tryd.prog 17 c17 = true := by kernel_rfl
/-- partywall/partywalllaw28.Made -/
def c20 : CF := ⟨(.seq (.keep [0, 1] (.ops [⟨some 4, .alloc [.nils], none⟩]))
    (.seq (.keep [0, 1, 4] (.ops [⟨some 5, .alloc [.nils], none⟩]))
    (.seq (.keep [0, 1, 4, 5] (.ops [⟨some 6, .mv (.c (.int .u64 0)), none⟩]))
    (.seq (.seq (.keep [0, 1, 4, 5, 6] (.ops [⟨some 7, .mv (.c (.int .i64 0)), none⟩]))
    (.block 0 (.loop (.seq (.seq (.keep [0, 1, 4, 5, 6, 7] (.ops [⟨some 12, .mv (.t 7), none⟩, ⟨some 13, .mv (.t 1), none⟩, ⟨some 14, .len (.t 13), none⟩, ⟨some 15, .bin .lss (.t 12) (.t 14), none⟩, ⟨some 16, .mv (.t 15), none⟩, ⟨some 17, .mv (.t 7), some (16, true)⟩, ⟨some 18, .bin .lss (.t 17) (.c (.int .i64 30)), some (16, true)⟩, ⟨some 19, .pick (.t 16) (.t 18) (.c (.bool false)), none⟩]))
    (.cond (.t 19)
      .skip
      (.exit 0)))
    (.seq (.block 1 (.seq (.keep [0, 1, 4, 5, 6, 7] (.ops [⟨some 22, .mv (.t 1), none⟩, ⟨some 23, .mv (.t 7), none⟩, ⟨some 24, .ixA 1 (.t 22) (.t 23), none⟩, ⟨some 25, .ld (none) (.t 24), none⟩, ⟨some 26, .call 27 [(.t 25), (.c (.int .i64 1073741824))], none⟩, ⟨some 8, .mv (.t 26), none⟩]))
    (.seq (.keep [0, 1, 4, 5, 6, 7, 8] (.ops [⟨some 27, .mv (.t 8), none⟩, ⟨some 28, .bin .rem (.t 27) (.c (.int .i64 6)), none⟩, ⟨some 29, .bin .add (.c (.int .i64 1)) (.t 28), none⟩, ⟨some 9, .mv (.t 29), none⟩]))
    (.seq (.keep [0, 1, 4, 5, 6, 7, 8, 9] (.ops [⟨some 30, .mv (.t 6), none⟩, ⟨some 31, .mv (.t 8), none⟩, ⟨some 32, .bin .quo (.t 31) (.c (.int .i64 6)), none⟩, ⟨some 33, .bin .rem (.t 32) (.c (.int .i64 3)), none⟩, ⟨some 34, .cnv .u64 (.t 33), none⟩, ⟨some 35, .bin .add (.t 30) (.t 34), none⟩, ⟨some 6, .mv (.t 35), none⟩]))
    (.seq (.keep [0, 1, 4, 5, 6, 7, 8, 9] (.ops [⟨some 36, .mv (.t 8), none⟩, ⟨some 37, .bin .quo (.t 36) (.c (.int .i64 18)), none⟩, ⟨some 38, .bin .rem (.t 37) (.c (.int .i64 8)), none⟩, ⟨some 39, .cnv .u64 (.t 38), none⟩, ⟨some 10, .mv (.t 39), none⟩]))
    (.seq (.keep [0, 1, 4, 5, 6, 7, 8, 9, 10] (.ops [⟨some 40, .mv (.t 8), none⟩, ⟨some 41, .bin .quo (.t 40) (.c (.int .i64 144)), none⟩, ⟨some 42, .bin .rem (.t 41) (.c (.int .i64 8)), none⟩, ⟨some 43, .mv (.t 10), none⟩, ⟨some 44, .mv (.t 8), none⟩, ⟨some 45, .bin .quo (.t 44) (.c (.int .i64 1152)), none⟩, ⟨some 46, .bin .rem (.t 45) (.c (.int .i64 9)), none⟩, ⟨some 47, .bin .add (.c (.int .i64 1)) (.t 46), none⟩, ⟨some 48, .cnv .u64 (.t 47), none⟩, ⟨some 49, .bld [.int .u64 0, .int .u64 0] [(0, 1, (.t 43)), (1, 1, (.t 48))], none⟩, ⟨some 50, .mv (.t 10), none⟩, ⟨some 51, .mv (.t 10), none⟩, ⟨some 52, .bin .and (.t 51) (.c (.int .u64 3)), none⟩, ⟨some 53, .mv (.t 6), none⟩, ⟨some 54, .bld [.int .i64 0, .int .u64 0, .int .u64 0, .int .u64 0, .int .u64 0, .int .u64 0] [(0, 1, (.t 42)), (1, 2, (.t 49)), (3, 1, (.t 50)), (4, 1, (.t 52)), (5, 1, (.t 53))], none⟩, ⟨some 11, .alloc [.int .i64 0, .int .u64 0, .int .u64 0, .int .u64 0, .int .u64 0, .int .u64 0], none⟩, ⟨none, .st 6 (.t 11) (.t 54), none⟩]))
    (.keep [0, 1, 4, 5, 6, 7, 9, 11] (.drw [⟨some 55, .fldA 0 (.t 5), none⟩, ⟨some 56, .ld (none) (.t 55), none⟩, ⟨some 57, .mv (.t 9), none⟩, ⟨some 58, .mv (.t 0), none⟩, ⟨some 59, .call 27 [(.t 58), (.c (.int .i64 262144))], none⟩, ⟨some 60, .cnv .u64 (.t 59), none⟩, ⟨some 61, .mv (.t 9), none⟩, ⟨some 62, .bin .mul (.c (.int .i64 3)) (.t 61), none⟩, ⟨some 63, .bin .sub (.t 62) (.c (.int .i64 3)), none⟩, ⟨some 64, .cnv .u64 (.t 63), none⟩, ⟨some 65, .bin .shr (.t 60) (.t 64), none⟩, ⟨some 66, .bin .rem (.t 65) (.c (.int .u64 8)), none⟩, ⟨some 67, .ld (some 6) (.t 11), none⟩, ⟨some 68, .bld [.int .i64 0, .int .u64 0, .int .i64 0, .int .u64 0, .int .u64 0, .int .u64 0, .int .u64 0, .int .u64 0] [(0, 1, (.t 57)), (1, 1, (.t 66)), (2, 6, (.t 67))], none⟩, ⟨some 69, .mkSl 8 1 [.int .i64 0, .int .u64 0, .int .i64 0, .int .u64 0, .int .u64 0, .int .u64 0, .int .u64 0, .int .u64 0] [(0, 8, (.t 68))], none⟩, ⟨some 70, .app true 31 8 64 (.t 56) (.t 69), none⟩, ⟨some 71, .fldA 0 (.t 5), none⟩, ⟨none, .st 1 (.t 71) (.t 70), none⟩] [0, 1, 0, 0, 1, 0, 0, 0, 0, 0, 0, 0, 1, 0, 0, 4, 0, 2]))))))))
    (.keep [0, 1, 4, 5, 6, 7] (.ops [⟨some 20, .mv (.t 7), none⟩, ⟨some 21, .bin .add (.t 20) (.c (.int .i64 1)), none⟩, ⟨some 7, .mv (.t 21), none⟩])))))))
    (.seq (.keep [4, 5] (.ops [⟨some 72, .ld (some 1) (.t 5), none⟩, ⟨none, .st 1 (.t 4) (.t 72), none⟩]))
    .ret))))), [.cl 4 (some 1)], 73⟩
theorem b20 : fB Tryd.prog 20 c20 = true := by kernel_rfl
/-- partywall/audit.Visible -/
def c21 : CF := ⟨(.seq (.keep [0, 1] (.ops [⟨some 2, .box 1 (.t 0), none⟩, ⟨some 3, .box 1 (.t 1), none⟩, ⟨some 4, .mv (.c .nils), none⟩, ⟨some 5, .mv (.c (.int .i64 0)), none⟩]))
    (.seq (.seq (.keep [2, 3] (.ops [⟨some 7, .ld (some 1) (.t 2), none⟩, ⟨some 8, .call 15 [(.t 7)], none⟩, ⟨some 6, .mv (.t 8), none⟩]))
    (.seq (.keep [2, 3, 6] (.ops [⟨some 9, .mv (.t 6), none⟩, ⟨some 10, .bin .neq (.t 9) (.c (.int .i64 0)), none⟩]))
    (.cond (.t 10)
      (.seq (.keep [6] (.ops [⟨some 11, .mv (.t 6), none⟩, ⟨some 4, .mv (.c .nils), none⟩, ⟨some 5, .mv (.t 11), none⟩]))
      .ret)
      .skip)))
    (.seq (.keep [2, 3] (.ops [⟨some 12, .ld (some 1) (.t 2), none⟩, ⟨some 13, .mkF 48 [(.t 3)], none⟩, ⟨some 14, .call 47 [(.t 12), (.t 13)], none⟩, ⟨some 4, .mv (.t 14), none⟩, ⟨some 5, .mv (.c (.int .i64 0)), none⟩]))
    .ret))), [.t 4, .t 5], 15⟩
theorem b21 : fB Tryd.prog 21 c21 = true := by kernel_rfl
/-- partywall/partywalllaw28.sameRecords -/
def c22 : CF := ⟨(.seq (.keep [0, 1] (.ops [⟨some 4, .mv (.c (.bool false)), none⟩]))
    (.seq (.seq (.keep [0, 1] (.ops [⟨some 6, .mv (.t 0), none⟩, ⟨some 7, .len (.t 6), none⟩, ⟨some 8, .mv (.t 1), none⟩, ⟨some 9, .len (.t 8), none⟩, ⟨some 10, .bin .neq (.t 7) (.t 9), none⟩]))
    (.cond (.t 10)
      (.seq (.keep [] (.ops [⟨some 4, .mv (.c (.bool false)), none⟩]))
      .ret)
      .skip))
    (.seq (.seq (.keep [0, 1] (.ops [⟨some 5, .mv (.c (.int .i64 0)), none⟩]))
    (.block 0 (.loop (.seq (.seq (.keep [0, 1, 5] (.ops [⟨some 11, .mv (.t 5), none⟩, ⟨some 12, .mv (.t 0), none⟩, ⟨some 13, .len (.t 12), none⟩, ⟨some 14, .bin .lss (.t 11) (.t 13), none⟩]))
    (.cond (.t 14)
      .skip
      (.exit 0)))
    (.seq (.block 1 (.seq (.keep [0, 1, 5] (.drw [⟨some 17, .mv (.t 0), none⟩, ⟨some 18, .mv (.t 5), none⟩, ⟨some 19, .ixA 6 (.t 17) (.t 18), none⟩, ⟨some 20, .ld (some 6) (.t 19), none⟩, ⟨some 21, .mv (.t 1), none⟩, ⟨some 22, .mv (.t 5), none⟩, ⟨some 23, .ixA 6 (.t 21) (.t 22), none⟩, ⟨some 24, .ld (some 6) (.t 23), none⟩, ⟨some 25, .eqA true [0, 0, 0, 0, 0, 0] (.t 20) (.t 24), none⟩] [0, 0, 0, 1, 0, 0, 0, 1, 0]))
    (.cond (.t 25)
      (.seq (.keep [] (.ops [⟨some 4, .mv (.c (.bool false)), none⟩]))
      .ret)
      .skip)))
    (.keep [0, 1, 5] (.ops [⟨some 15, .mv (.t 5), none⟩, ⟨some 16, .bin .add (.t 15) (.c (.int .i64 1)), none⟩, ⟨some 5, .mv (.t 16), none⟩])))))))
    (.seq (.keep [] (.ops [⟨some 4, .mv (.c (.bool true)), none⟩]))
    .ret)))), [.t 4], 26⟩
theorem b22 : fB Tryd.prog 22 c22 = true := by kernel_rfl
/-- partywall/partywalllaw28.first -/
def c23 : CF := ⟨(.seq (.keep [] (.ops [⟨some 0, .alloc [.int .i64 0, .int .u64 0, .int .u64 0, .int .u64 0, .int .u64 0, .int .u64 0], none⟩]))
    (.seq (.keep [0] (.ops [⟨some 1, .bld [.int .u64 0, .int .u64 0] [(0, 1, (.c (.int .u64 6))), (1, 1, (.c (.int .u64 5)))], none⟩, ⟨some 2, .bld [.int .i64 0, .int .u64 0, .int .u64 0, .int .u64 0, .int .u64 0, .int .u64 0] [(1, 2, (.t 1)), (3, 1, (.c (.int .u64 6))), (4, 1, (.c (.int .u64 2))), (5, 1, (.c (.int .u64 7)))], none⟩, ⟨none, .st 6 (.t 0) (.t 2), none⟩]))
    .ret)), [.cl 0 (some 6)], 3⟩
theorem b23 : fB Tryd.prog 23 c23 = true := by kernel_rfl
/-- partywall/partywalllaw28.second -/
def c24 : CF := ⟨(.seq (.keep [] (.ops [⟨some 0, .alloc [.int .i64 0, .int .u64 0, .int .u64 0, .int .u64 0, .int .u64 0, .int .u64 0], none⟩]))
    (.seq (.keep [0] (.ops [⟨some 2, .call 23 [], none⟩, ⟨some 1, .alloc [.int .i64 0, .int .u64 0, .int .u64 0, .int .u64 0, .int .u64 0, .int .u64 0], none⟩, ⟨none, .st 6 (.t 1) (.t 2), none⟩]))
    (.seq (.keep [0, 1] (.ops [⟨some 3, .fldA 0 (.t 1), none⟩, ⟨none, .st 1 (.t 3) (.c (.int .i64 1)), none⟩, ⟨some 4, .fldA 5 (.t 1), none⟩, ⟨none, .st 1 (.t 4) (.c (.int .u64 8)), none⟩]))
    (.seq (.keep [0, 1] (.ops [⟨some 5, .ld (some 6) (.t 1), none⟩, ⟨none, .st 6 (.t 0) (.t 5), none⟩]))
    .ret)))), [.cl 0 (some 6)], 6⟩
theorem b24 : fB Tryd.prog 24 c24 = true := by kernel_rfl
/-- partywall/partywalllaw28.two -/
def c25 : CF := ⟨(.seq (.keep [] (.ops [⟨some 0, .alloc [.nils], none⟩]))
    (.seq (.keep [0] (.ops [⟨some 6, .bld [.nils] [], none⟩, ⟨some 7, .call 23 [], none⟩, ⟨some 8, .call 11 [(.t 6), (.c (.int .i64 2)), (.c (.int .u64 14)), (.t 7), (.c (.int .i64 1))], none⟩, ⟨some 5, .mv (.t 8), none⟩, ⟨some 9, .ext (.t 5) 0, none⟩, ⟨some 10, .ext (.t 5) 1, none⟩, ⟨some 1, .alloc [.nils], none⟩, ⟨none, .st 1 (.t 1) (.t 9), none⟩, ⟨some 2, .mv (.t 10), none⟩]))
    (.seq (.keep [0, 1] (.drw [⟨some 12, .ld (some 1) (.t 1), none⟩, ⟨some 13, .call 24 [], none⟩, ⟨some 14, .call 11 [(.t 12), (.c (.int .i64 2)), (.c (.int .u64 14)), (.t 13), (.c (.int .i64 2))], none⟩, ⟨some 11, .mv (.t 14), none⟩, ⟨some 15, .ext (.t 11) 0, none⟩, ⟨some 16, .ext (.t 11) 1, none⟩, ⟨some 3, .alloc [.nils], none⟩, ⟨none, .st 1 (.t 3) (.t 15), none⟩, ⟨some 4, .mv (.t 16), none⟩] [1, 1, 1, 0, 0, 0, 3, 2, 0]))
    (.seq (.keep [0, 3] (.ops [⟨some 17, .ld (some 1) (.t 3), none⟩, ⟨none, .st 1 (.t 0) (.t 17), none⟩]))
    .ret)))), [.cl 0 (some 1)], 18⟩
theorem b25 : fB Tryd.prog 25 c25 = true := by kernel_rfl
/-- partywall/audit.Read -/
def c26 : CF := ⟨(.seq (.keep [0, 1, 2, 3] (.ops [⟨some 4, .box 1 (.t 0), none⟩, ⟨some 8, .mv (.c .nils), none⟩, ⟨some 9, .mv (.c (.int .i64 0)), none⟩]))
    (.seq (.keep [1, 2, 3, 4] (.ops [⟨some 13, .ld (some 1) (.t 4), none⟩, ⟨some 14, .mv (.t 1), none⟩, ⟨some 15, .call 21 [(.t 13), (.t 14)], none⟩, ⟨some 12, .mv (.t 15), none⟩, ⟨some 16, .ext (.t 12) 0, none⟩, ⟨some 17, .ext (.t 12) 1, none⟩, ⟨some 10, .mv (.t 16), none⟩, ⟨some 11, .mv (.t 17), none⟩]))
    (.seq (.seq (.keep [2, 3, 10, 11] (.ops [⟨some 18, .mv (.t 11), none⟩, ⟨some 19, .bin .eql (.t 18) (.c (.int .i64 0)), none⟩, ⟨some 20, .mv (.t 19), none⟩, ⟨some 21, .mv (.t 2), some (20, true)⟩, ⟨some 22, .bin .lss (.t 21) (.c (.int .i64 0)), some (20, true)⟩, ⟨some 23, .mv (.t 22), some (20, true)⟩, ⟨some 24, .mv (.t 3), some (23, false)⟩, ⟨some 25, .bin .lss (.t 24) (.c (.int .i64 1)), some (23, false)⟩, ⟨some 26, .pick (.t 23) (.c (.bool true)) (.t 25), some (20, true)⟩, ⟨some 27, .mv (.t 26), some (20, true)⟩, ⟨some 28, .mv (.t 3), some (27, false)⟩, ⟨some 29, .bin .gtr (.t 28) (.c (.int .i64 64)), some (27, false)⟩, ⟨some 30, .pick (.t 27) (.c (.bool true)) (.t 29), some (20, true)⟩, ⟨some 31, .pick (.t 20) (.t 30) (.c (.bool false)), none⟩]))
    (.cond (.t 31)
      (.keep [2, 3, 10] (.ops [⟨some 11, .mv (.c (.int .i64 2)), none⟩]))
      .skip))
    (.seq (.seq (.keep [2, 3, 10, 11] (.ops [⟨some 32, .mv (.t 11), none⟩, ⟨some 33, .bin .neq (.t 32) (.c (.int .i64 0)), none⟩]))
    (.cond (.t 33)
      (.seq (.keep [11] (.ops [⟨some 34, .mv (.t 11), none⟩, ⟨some 8, .mv (.c .nils), none⟩, ⟨some 9, .mv (.t 34), none⟩]))
      .ret)
      .skip))
    (.seq (.keep [2, 3, 10] (.ops [⟨some 35, .mv (.t 10), none⟩, ⟨some 36, .mv (.t 2), none⟩, ⟨some 37, .mv (.t 10), none⟩, ⟨some 38, .len (.t 37), none⟩, ⟨some 39, .mm false (.t 36) (.t 38), none⟩, ⟨some 40, .slc 6 (.t 35) (some (.t 39)) none none, none⟩, ⟨some 10, .mv (.t 40), none⟩]))
    (.seq (.keep [3, 10] (.ops [⟨some 41, .mv (.t 10), none⟩, ⟨some 42, .mv (.t 3), none⟩, ⟨some 43, .mv (.t 10), none⟩, ⟨some 44, .len (.t 43), none⟩, ⟨some 45, .mm false (.t 42) (.t 44), none⟩, ⟨some 46, .slc 6 (.t 41) none (some (.t 45)) none, none⟩, ⟨some 8, .mv (.t 46), none⟩, ⟨some 9, .mv (.c (.int .i64 0)), none⟩]))
    .ret)))))), [.t 8, .t 9], 47⟩
theorem b26 : fB Tryd.prog 26 c26 = true := by kernel_rfl
/-- partywall/partywallkit.Mod -/
def c27 : CF := ⟨(.seq (.keep [0, 1] (.ops [⟨some 4, .mv (.c (.int .i64 0)), none⟩]))
    (.seq (.seq (.keep [0, 1] (.ops [⟨some 5, .mv (.t 1), none⟩, ⟨some 6, .bin .lss (.t 5) (.c (.int .i64 1)), none⟩]))
    (.cond (.t 6)
      (.seq (.keep [] (.ops [⟨some 4, .mv (.c (.int .i64 0)), none⟩]))
      .ret)
      .skip))
    (.seq (.keep [0, 1] (.ops [⟨some 7, .mv (.t 0), none⟩, ⟨some 8, .mv (.t 1), none⟩, ⟨some 9, .bin .rem (.t 7) (.t 8), none⟩, ⟨some 0, .mv (.t 9), none⟩]))
    (.seq (.seq (.keep [0, 1] (.ops [⟨some 10, .mv (.t 0), none⟩, ⟨some 11, .bin .lss (.t 10) (.c (.int .i64 0)), none⟩]))
    (.cond (.t 11)
      (.keep [0, 1] (.ops [⟨some 12, .mv (.t 0), none⟩, ⟨some 13, .mv (.t 1), none⟩, ⟨some 14, .bin .add (.t 12) (.t 13), none⟩, ⟨some 0, .mv (.t 14), none⟩]))
      .skip))
    (.seq (.keep [0] (.ops [⟨some 15, .mv (.t 0), none⟩, ⟨some 4, .mv (.t 15), none⟩]))
    .ret))))), [.t 4], 16⟩
theorem b27 : fB Tryd.prog 27 c27 = true := by kernel_rfl
/-- partywall/audit.count -/
def c34 : CF := ⟨(.seq (.keep [0] (.ops [⟨some 1, .box 1 (.t 0), none⟩, ⟨some 2, .alloc [.int .u64 0, .int .i64 0, .int .u64 0, .int .i64 0, .int .u64 0, .int .i64 0, .int .u64 0, .int .i64 0, .int .u64 0, .int .i64 0, .int .u64 0, .int .i64 0, .int .u64 0, .int .i64 0], none⟩, ⟨some 3, .mv (.c (.int .i64 0)), none⟩]))
    (.seq (.seq (.keep [1, 2] (.ops [⟨some 6, .fldA 0 (.t 1), none⟩, ⟨some 7, .ld (none) (.t 6), none⟩, ⟨some 8, .len (.t 7), none⟩, ⟨some 9, .bin .gtr (.t 8) (.c (.int .i64 384)), none⟩]))
    (.cond (.t 9)
      (.seq (.keep [2] (.ops [⟨some 10, .ld (some 14) (.t 2), none⟩, ⟨none, .st 14 (.t 2) (.t 10), none⟩, ⟨some 3, .mv (.c (.int .i64 6)), none⟩]))
      .ret)
      .skip))
    (.seq (.seq (.keep [1, 2] (.ops [⟨some 11, .fldA 0 (.t 1), none⟩, ⟨some 12, .ld (none) (.t 11), none⟩, ⟨some 13, .len (.t 12), none⟩, ⟨some 14, .mv (.c (.int .i64 0)), none⟩]))
    (.block 0 (.loop (.seq (.keep [1, 2, 12, 13, 14] (.ops [⟨some 15, .bin .lss (.t 14) (.t 13), none⟩]))
    (.seq (.cond (.t 15)
      .skip
      (.exit 0))
    (.seq (.block 1 (.seq (.keep [1, 2, 12, 13, 14] (.ops [⟨some 16, .mv (.t 14), none⟩, ⟨some 17, .ixA 8 (.t 12) (.t 14), none⟩, ⟨some 18, .ld (some 8) (.t 17), none⟩, ⟨some 5, .alloc [.int .i64 0, .int .u64 0, .int .i64 0, .int .u64 0, .int .u64 0, .int .u64 0, .int .u64 0, .int .u64 0], none⟩, ⟨some 4, .mv (.t 16), none⟩, ⟨none, .st 8 (.t 5) (.t 18), none⟩]))
    (.seq (.seq (.keep [1, 2, 4, 5, 12, 13, 14] (.ops [⟨some 20, .ld (some 14) (.t 2), none⟩, ⟨some 21, .ld (some 8) (.t 5), none⟩, ⟨some 22, .call 50 [(.t 20), (.t 21)], none⟩, ⟨some 19, .mv (.t 22), none⟩, ⟨some 23, .ext (.t 19) 0, none⟩, ⟨some 24, .ext (.t 19) 1, none⟩, ⟨none, .st 14 (.t 2) (.t 23), none⟩, ⟨some 3, .mv (.t 24), none⟩]))
    (.seq (.keep [1, 2, 3, 4, 5, 12, 13, 14] (.ops [⟨some 25, .mv (.t 3), none⟩, ⟨some 26, .bin .neq (.t 25) (.c (.int .i64 0)), none⟩]))
    (.cond (.t 26)
      (.seq (.keep [2, 3] (.ops [⟨some 27, .bld [.int .u64 0, .int .i64 0, .int .u64 0, .int .i64 0, .int .u64 0, .int .i64 0, .int .u64 0, .int .i64 0, .int .u64 0, .int .i64 0, .int .u64 0, .int .i64 0, .int .u64 0, .int .i64 0] [], none⟩, ⟨some 28, .mv (.t 3), none⟩, ⟨none, .st 14 (.t 2) (.t 27), none⟩, ⟨some 3, .mv (.t 28), none⟩]))
      .ret)
      .skip)))
    (.seq (.keep [1, 2, 4, 5, 12, 13, 14] (.drw [⟨some 29, .mv (.t 4), none⟩, ⟨some 30, .bin .gtr (.t 29) (.c (.int .i64 0)), none⟩, ⟨some 31, .mv (.t 30), none⟩, ⟨some 32, .fldA 0 (.t 1), some (31, true)⟩, ⟨some 33, .ld (none) (.t 32), some (31, true)⟩, ⟨some 34, .mv (.t 4), some (31, true)⟩, ⟨some 35, .bin .sub (.t 34) (.c (.int .i64 1)), some (31, true)⟩, ⟨some 36, .ixA 8 (.t 33) (.t 35), some (31, true)⟩, ⟨some 37, .fldA 2 (.t 36), some (31, true)⟩, ⟨some 38, .fldA 5 (.t 37), some (31, true)⟩, ⟨some 39, .ld (none) (.t 38), some (31, true)⟩, ⟨some 40, .fldA 2 (.t 5), some (31, true)⟩, ⟨some 41, .fldA 5 (.t 40), some (31, true)⟩, ⟨some 42, .ld (none) (.t 41), some (31, true)⟩, ⟨some 43, .bin .gtr (.t 39) (.t 42), some (31, true)⟩, ⟨some 44, .pick (.t 31) (.t 43) (.c (.bool false)), none⟩] [0, 0, 0, 0, 1, 0, 0, 0, 0, 0, 1, 0, 0, 1, 0, 0]))
    (.cond (.t 44)
      (.seq (.keep [2] (.ops [⟨some 45, .bld [.int .u64 0, .int .i64 0, .int .u64 0, .int .i64 0, .int .u64 0, .int .i64 0, .int .u64 0, .int .i64 0, .int .u64 0, .int .i64 0, .int .u64 0, .int .i64 0, .int .u64 0, .int .i64 0] [], none⟩, ⟨none, .st 14 (.t 2) (.t 45), none⟩, ⟨some 3, .mv (.c (.int .i64 9)), none⟩]))
      .ret)
      .skip)))))
    (.keep [1, 2, 12, 13, 14] (.ops [⟨some 46, .bin .add (.t 14) (.c (.int .i64 1)), none⟩, ⟨some 14, .mv (.t 46), none⟩]))))))))
    (.seq (.keep [2] (.ops [⟨some 47, .ld (some 14) (.t 2), none⟩, ⟨none, .st 14 (.t 2) (.t 47), none⟩, ⟨some 3, .mv (.c (.int .i64 0)), none⟩]))
    .ret)))), [.cl 2 (some 14), .t 3], 48⟩
theorem b34 : fB Tryd.prog 34 c34 = true := by kernel_rfl
/-- partywall/audit.tenant -/
def c35 : CF := ⟨(.seq (.keep [0] (.ops [⟨some 2, .mv (.c (.bool false)), none⟩]))
    (.seq (.keep [0] (.ops [⟨some 3, .mv (.t 0), none⟩, ⟨some 4, .bin .geq (.t 3) (.c (.int .i64 1)), none⟩, ⟨some 5, .mv (.t 4), none⟩, ⟨some 6, .mv (.t 0), some (5, true)⟩, ⟨some 7, .bin .leq (.t 6) (.c (.int .i64 6)), some (5, true)⟩, ⟨some 8, .pick (.t 5) (.t 7) (.c (.bool false)), none⟩, ⟨some 2, .mv (.t 8), none⟩]))
    .ret)), [.t 2], 9⟩
theorem b35 : fB Tryd.prog 35 c35 = true := by kernel_rfl
/-- partywall/event.IdText -/
def c39 : CF := ⟨(.seq (.keep [0] (.ops [⟨some 1, .box 2 (.t 0), none⟩, ⟨some 2, .mv (.c (.str [])), none⟩, ⟨some 3, .mv (.c (.int .i64 0)), none⟩]))
    (.seq (.seq (.keep [1] (.ops [⟨some 5, .ld (some 2) (.t 1), none⟩, ⟨some 6, .call 46 [(.t 5)], none⟩, ⟨some 4, .mv (.t 6), none⟩]))
    (.seq (.keep [1, 4] (.ops [⟨some 7, .mv (.t 4), none⟩, ⟨some 8, .bin .neq (.t 7) (.c (.int .i64 0)), none⟩]))
    (.cond (.t 8)
      (.seq (.keep [4] (.ops [⟨some 9, .mv (.t 4), none⟩, ⟨some 2, .mv (.c (.str [])), none⟩, ⟨some 3, .mv (.t 9), none⟩]))
      .ret)
      .skip)))
    (.seq (.keep [1] (.drw [⟨some 10, .fldA 0 (.t 1), none⟩, ⟨some 11, .ld (none) (.t 10), none⟩, ⟨some 12, .call 41 [(.t 11)], none⟩, ⟨some 13, .bin .add (.t 12) (.c (.str [35])), none⟩, ⟨some 14, .fldA 1 (.t 1), none⟩, ⟨some 15, .ld (none) (.t 14), none⟩, ⟨some 16, .cnv .i64 (.t 15), none⟩, ⟨some 17, .call 51 [(.t 16)], none⟩, ⟨some 18, .bin .add (.t 13) (.t 17), none⟩, ⟨some 2, .mv (.t 18), none⟩, ⟨some 3, .mv (.c (.int .i64 0)), none⟩] [0, 1, 1, 0, 0, 1, 0, 1, 0, 0, 0]))
    .ret))), [.t 2, .t 3], 19⟩
theorem b39 : fB Tryd.prog 39 c39 = true := by kernel_rfl
/-- partywall/label.Text -/
def c41 : CF := ⟨(.seq (.keep [0] (.ops [⟨some 2, .mv (.c (.str [])), none⟩]))
    (.seq (.keep [0, 2] (.ops [⟨some 3, .alloc [.nils], none⟩]))
    (.seq (.seq (.keep [0, 2, 3] (.ops [⟨some 5, .mv (.t 0), none⟩, ⟨some 6, .call 53 [(.t 5)], none⟩]))
    (.block 0 (.rfun (.t 6) [7]
      (.keep [3, 7] (.ops [⟨some 4, .mv (.t 7), none⟩]))
      (.block 1 (.keep [3, 4] (.drw [⟨some 8, .ld (none) (.t 3), none⟩, ⟨some 9, .mv (.t 4), none⟩, ⟨some 10, .call 40 [(.t 9)], none⟩, ⟨some 11, .mkSl 1 1 [.str []] [(0, 1, (.t 10))], none⟩, ⟨some 12, .app true 9 1 16 (.t 8) (.t 11), none⟩, ⟨none, .st 1 (.t 3) (.t 12), none⟩] [1, 0, 1, 0, 4, 2]))))))
    (.seq (.keep [3] (.ops [⟨some 13, .ld (none) (.t 3), none⟩, ⟨some 14, .call 54 [(.t 13), (.c (.str [44]))], none⟩, ⟨some 15, .bin .add (.c (.str [123])) (.t 14), none⟩, ⟨some 16, .bin .add (.t 15) (.c (.str [125])), none⟩, ⟨some 2, .mv (.t 16), none⟩]))
    .ret)))), [.t 2], 17⟩
theorem b41 : fB Tryd.prog 41 c41 = true := by kernel_rfl
/-- strconv.FormatUint -/
def c42 : CF := ⟨(.seq (.keep [0, 1] (.ops [⟨some 4, .mv (.c (.str [])), none⟩]))
    (.seq (.keep [0, 1] (.ops [⟨some 5, .mv (.t 0), none⟩, ⟨some 6, .mv (.t 1), none⟩, ⟨some 7, .call 55 [(.t 5), (.t 6)], none⟩, ⟨some 4, .mv (.t 7), none⟩]))
    .ret)), [.t 4], 8⟩
theorem b42 : fB Tryd.prog 42 c42 = true := by kernel_rfl
/-- partywall/event.CheckId -/
def c46 : CF := ⟨(.seq (.keep [0] (.ops [⟨some 1, .box 2 (.t 0), none⟩, ⟨some 2, .mv (.c (.int .i64 0)), none⟩]))
    (.seq (.seq (.keep [1] (.ops [⟨some 3, .fldA 1 (.t 1), none⟩, ⟨some 4, .ld (none) (.t 3), none⟩, ⟨some 5, .bin .lss (.t 4) (.c (.int .u64 1)), none⟩, ⟨some 6, .mv (.t 5), none⟩, ⟨some 7, .fldA 1 (.t 1), some (6, false)⟩, ⟨some 8, .ld (none) (.t 7), some (6, false)⟩, ⟨some 9, .bin .gtr (.t 8) (.c (.int .u64 1099511627776)), some (6, false)⟩, ⟨some 10, .pick (.t 6) (.c (.bool true)) (.t 9), none⟩]))
    (.cond (.t 10)
      (.seq (.keep [] (.ops [⟨some 2, .mv (.c (.int .i64 2)), none⟩]))
      .ret)
      .skip))
    (.seq (.keep [] (.ops [⟨some 2, .mv (.c (.int .i64 0)), none⟩]))
    .ret))), [.t 2], 11⟩
theorem b46 : fB Tryd.prog 46 c46 = true := by kernel_rfl
/-- partywall/audit.records -/
def c47 : CF := ⟨(.seq (.keep [0, 1] (.ops [⟨some 2, .box 1 (.t 0), none⟩, ⟨some 4, .mv (.c .nils), none⟩]))
    (.seq (.keep [1, 2, 4] (.ops [⟨some 5, .alloc [.nils], none⟩]))
    (.seq (.seq (.keep [1, 2, 4, 5] (.ops [⟨some 7, .fldA 0 (.t 2), none⟩, ⟨some 8, .ld (none) (.t 7), none⟩, ⟨some 9, .mv (.t 1), none⟩, ⟨some 10, .call 62 [(.t 8), (.t 9)], none⟩]))
    (.block 0 (.rfun (.t 10) [11]
      (.keep [5, 11] (.ops [⟨some 6, .alloc [.int .i64 0, .int .u64 0, .int .i64 0, .int .u64 0, .int .u64 0, .int .u64 0, .int .u64 0, .int .u64 0], none⟩, ⟨none, .st 8 (.t 6) (.t 11), none⟩]))
      (.block 1 (.keep [5, 6] (.ops [⟨some 12, .ld (none) (.t 5), none⟩, ⟨some 13, .fldA 2 (.t 6), none⟩, ⟨some 14, .ld (some 6) (.t 13), none⟩, ⟨some 15, .mkSl 6 1 [.int .i64 0, .int .u64 0, .int .u64 0, .int .u64 0, .int .u64 0, .int .u64 0] [(0, 6, (.t 14))], none⟩, ⟨some 16, .app true 29 6 48 (.t 12) (.t 15), none⟩, ⟨none, .st 1 (.t 5) (.t 16), none⟩]))))))
    (.seq (.keep [5] (.ops [⟨some 17, .ld (none) (.t 5), none⟩, ⟨some 4, .mv (.t 17), none⟩]))
    .ret)))), [.t 4], 18⟩
theorem b47 : fB Tryd.prog 47 c47 = true := by kernel_rfl
/-- partywall/audit.Visible$1 -/
def c48 : CF := ⟨(.seq (.keep [0, 1] (.ops [⟨some 2, .box 8 (.t 0), none⟩, ⟨some 3, .mv (.c (.bool false)), none⟩]))
    (.seq (.keep [1, 2] (.ops [⟨some 4, .fldA 1 (.t 2), none⟩, ⟨some 5, .ld (none) (.t 4), none⟩, ⟨some 6, .ld (none) (.t 1), none⟩, ⟨some 7, .bin .andNot (.t 5) (.t 6), none⟩, ⟨some 8, .bin .eql (.t 7) (.c (.int .u64 0)), none⟩, ⟨some 3, .mv (.t 8), none⟩]))
    .ret)), [.t 3], 9⟩
theorem b48 : fB Tryd.prog 48 c48 = true := by kernel_rfl
/-- (partywall/audit.tally).with -/
def c50 : CF := ⟨(.seq (.keep [0, 1] (.ops [⟨some 2, .box 14 (.t 0), none⟩, ⟨some 3, .box 8 (.t 1), none⟩, ⟨some 4, .alloc [.int .u64 0, .int .i64 0, .int .u64 0, .int .i64 0, .int .u64 0, .int .i64 0, .int .u64 0, .int .i64 0, .int .u64 0, .int .i64 0, .int .u64 0, .int .i64 0, .int .u64 0, .int .i64 0], none⟩, ⟨some 5, .mv (.c (.int .i64 0)), none⟩]))
    (.seq (.seq (.keep [2, 3, 4] (.ops [⟨some 8, .fldA 0 (.t 3), none⟩, ⟨some 9, .ld (none) (.t 8), none⟩, ⟨some 10, .call 35 [(.t 9)], none⟩, ⟨some 11, .un .not (.t 10), none⟩]))
    (.cond (.t 11)
      (.seq (.keep [2, 4] (.ops [⟨some 12, .ld (some 14) (.t 2), none⟩, ⟨none, .st 14 (.t 4) (.t 12), none⟩, ⟨some 5, .mv (.c (.int .i64 2)), none⟩]))
      .ret)
      .skip))
    (.seq (.seq (.keep [2, 3, 4] (.ops [⟨some 13, .fldA 2 (.t 3), none⟩, ⟨some 14, .ld (some 6) (.t 13), none⟩, ⟨some 15, .call 17 [(.t 14)], none⟩, ⟨some 6, .mv (.t 15), none⟩]))
    (.seq (.keep [2, 3, 4, 6] (.ops [⟨some 16, .mv (.t 6), none⟩, ⟨some 17, .bin .neq (.t 16) (.c (.int .i64 0)), none⟩]))
    (.cond (.t 17)
      (.seq (.keep [2, 4, 6] (.ops [⟨some 18, .ld (some 14) (.t 2), none⟩, ⟨some 19, .mv (.t 6), none⟩, ⟨none, .st 14 (.t 4) (.t 18), none⟩, ⟨some 5, .mv (.t 19), none⟩]))
      .ret)
      .skip)))
    (.seq (.keep [2, 3, 4] (.ops [⟨some 20, .fldA 0 (.t 3), none⟩, ⟨some 21, .ld (none) (.t 20), none⟩, ⟨some 22, .ixP 7 2 (.t 2) (.t 21), none⟩, ⟨some 7, .mv (.t 22), none⟩]))
    (.seq (.block 0 (.seq (.keep [2, 3, 4, 7] (.drw [⟨some 24, .mv (.t 7), none⟩, ⟨some 25, .nilc (.t 24), none⟩, ⟨some 26, .fldA 1 (.t 25), none⟩, ⟨some 27, .ld (none) (.t 26), none⟩, ⟨some 28, .bin .gtr (.t 27) (.c (.int .i64 0)), none⟩, ⟨some 29, .mv (.t 28), none⟩, ⟨some 30, .mv (.t 7), some (29, true)⟩, ⟨some 31, .nilc (.t 30), some (29, true)⟩, ⟨some 32, .fldA 0 (.t 31), some (29, true)⟩, ⟨some 33, .ld (none) (.t 32), some (29, true)⟩, ⟨some 34, .fldA 1 (.t 3), some (29, true)⟩, ⟨some 35, .ld (none) (.t 34), some (29, true)⟩, ⟨some 36, .bin .neq (.t 33) (.t 35), some (29, true)⟩, ⟨some 37, .pick (.t 29) (.t 36) (.c (.bool false)), none⟩, ⟨some 23, .mv (.t 37), none⟩] [0, 0, 0, 1, 0, 0, 0, 0, 0, 1, 0, 1, 0, 0, 0]))
    (.cond (.t 23)
      (.seq (.keep [2, 4] (.ops [⟨some 38, .ld (some 14) (.t 2), none⟩, ⟨none, .st 14 (.t 4) (.t 38), none⟩, ⟨some 5, .mv (.c (.int .i64 13)), none⟩]))
      .ret)
      (.seq (.keep [2, 3, 4, 7] (.ops [⟨some 40, .mv (.t 7), none⟩, ⟨some 41, .nilc (.t 40), none⟩, ⟨some 42, .fldA 1 (.t 41), none⟩, ⟨some 43, .ld (none) (.t 42), none⟩, ⟨some 44, .bin .geq (.t 43) (.c (.int .i64 64)), none⟩, ⟨some 39, .mv (.t 44), none⟩]))
      (.cond (.t 39)
        (.seq (.keep [2, 4] (.ops [⟨some 45, .ld (some 14) (.t 2), none⟩, ⟨none, .st 14 (.t 4) (.t 45), none⟩, ⟨some 5, .mv (.c (.int .i64 6)), none⟩]))
        .ret)
        .skip)))))
    (.seq (.keep [2, 3, 4, 7] (.drw [⟨some 46, .mv (.t 7), none⟩, ⟨some 47, .mv (.t 7), none⟩, ⟨some 48, .fldA 1 (.t 3), none⟩, ⟨some 49, .ld (none) (.t 48), none⟩, ⟨some 50, .mv (.t 7), none⟩, ⟨some 51, .nilc (.t 50), none⟩, ⟨some 52, .fldA 1 (.t 51), none⟩, ⟨some 53, .ld (none) (.t 52), none⟩, ⟨some 54, .bin .add (.t 53) (.c (.int .i64 1)), none⟩, ⟨some 55, .nilc (.t 46), none⟩, ⟨some 56, .fldA 0 (.t 55), none⟩, ⟨none, .st 1 (.t 56) (.t 49), none⟩, ⟨some 57, .nilc (.t 47), none⟩, ⟨some 58, .fldA 1 (.t 57), none⟩, ⟨none, .st 1 (.t 58) (.t 54), none⟩] [0, 0, 0, 1, 0, 0, 0, 1, 0, 0, 0, 2, 0, 0, 2]))
    (.seq (.keep [2, 4] (.ops [⟨some 59, .ld (some 14) (.t 2), none⟩, ⟨none, .st 14 (.t 4) (.t 59), none⟩, ⟨some 5, .mv (.c (.int .i64 0)), none⟩]))
    .ret))))))), [.cl 4 (some 14), .t 5], 60⟩
theorem b50 : fB Tryd.prog 50 c50 = true := by kernel_rfl
/-- partywall/sums.Text -/
def c51 : CF := ⟨(.seq (.keep [0] (.ops [⟨some 2, .mv (.c (.str [])), none⟩]))
    (.seq (.keep [0] (.ops [⟨some 3, .mv (.t 0), none⟩, ⟨some 4, .call 63 [(.t 3), (.c (.int .i64 10))], none⟩, ⟨some 2, .mv (.t 4), none⟩]))
    .ret)), [.t 2], 5⟩
theorem b51 : fB Tryd.prog 51 c51 = true := by kernel_rfl
/-- partywall/label.each -/
def c53 : CF := ⟨(.seq (.keep [0] (.ops [⟨some 1, .box 1 (.t 0), none⟩, ⟨some 2, .mv (.c .nilf), none⟩]))
    (.seq (.keep [1] (.ops [⟨some 3, .mkF 65 [(.t 1)], none⟩, ⟨some 2, .mv (.t 3), none⟩]))
    .ret)), [.t 2], 4⟩
theorem b53 : fB Tryd.prog 53 c53 = true := by kernel_rfl
/-- partywall/audit.filter[partywall/api.Logged] -/
def c62 : CF := ⟨(.seq (.keep [0, 1] (.ops [⟨some 2, .box 1 (.t 0), none⟩, ⟨some 3, .box 1 (.t 1), none⟩, ⟨some 4, .mv (.c .nilf), none⟩]))
    (.seq (.keep [2, 3] (.ops [⟨some 5, .mkF 75 [(.t 2), (.t 3)], none⟩, ⟨some 4, .mv (.t 5), none⟩]))
    .ret)), [.t 4], 6⟩
theorem b62 : fB Tryd.prog 62 c62 = true := by kernel_rfl
/-- partywall/label.each$1 -/
def c65 : CF := ⟨(.block 0 (.loop (.seq (.seq (.keep [0, 1] (.ops [⟨some 3, .ld (none) (.t 1), none⟩, ⟨some 4, .bin .neq (.t 3) (.c (.int .u64 0)), none⟩]))
    (.cond (.t 4)
      .skip
      (.exit 0)))
    (.seq (.block 1 (.seq (.keep [0, 1] (.ops [⟨some 9, .mv (.t 0), none⟩, ⟨some 10, .ld (none) (.t 1), none⟩, ⟨some 11, .call 66 [(.t 10)], none⟩, ⟨some 12, .callv (.t 9) [(.t 11)], none⟩, ⟨some 13, .un .not (.t 12), none⟩]))
    (.cond (.t 13)
      .ret
      .skip)))
    (.keep [0, 1] (.ops [⟨some 5, .ld (none) (.t 1), none⟩, ⟨some 6, .ld (none) (.t 1), none⟩, ⟨some 7, .bin .sub (.t 6) (.c (.int .u64 1)), none⟩, ⟨some 8, .bin .and (.t 5) (.t 7), none⟩, ⟨none, .st 1 (.t 1) (.t 8), none⟩])))))), [], 14⟩
theorem b65 : fB Tryd.prog 65 c65 = true := by kernel_rfl
/-- math/bits.TrailingZeros64 -/
def c66 : CF := ⟨(.seq (.keep [0] (.ops [⟨some 2, .mv (.c (.int .i64 0)), none⟩]))
    (.seq (.seq (.keep [0] (.ops [⟨some 3, .mv (.t 0), none⟩, ⟨some 4, .bin .eql (.t 3) (.c (.int .u64 0)), none⟩]))
    (.cond (.t 4)
      (.seq (.keep [] (.ops [⟨some 2, .mv (.c (.int .i64 64)), none⟩]))
      .ret)
      .skip))
    (.seq (.keep [0] (.ops [⟨some 5, .mv (.t 0), none⟩, ⟨some 6, .mv (.t 0), none⟩, ⟨some 7, .un .neg (.t 6), none⟩, ⟨some 8, .bin .and (.t 5) (.t 7), none⟩, ⟨some 9, .bin .mul (.t 8) (.c (.int .u64 285870213051353865)), none⟩, ⟨some 10, .bin .shr (.t 9) (.c (.int .u64 58)), none⟩, ⟨some 11, .ixP 64 1 (.g 0) (.t 10), none⟩, ⟨some 12, .ld (none) (.t 11), none⟩, ⟨some 13, .cnv .i64 (.t 12), none⟩, ⟨some 2, .mv (.t 13), none⟩]))
    .ret))), [.t 2], 14⟩
theorem b66 : fB Tryd.prog 66 c66 = true := by kernel_rfl
/-- partywall/audit.filter[partywall/api.Logged]$1 -/
def c75 : CF := ⟨(.seq (.keep [0, 1, 2] (.ops [⟨some 6, .ld (none) (.t 1), none⟩, ⟨some 7, .len (.t 6), none⟩, ⟨some 8, .mv (.c (.int .i64 0)), none⟩]))
    (.block 0 (.loop (.seq (.keep [0, 2, 6, 7, 8] (.ops [⟨some 9, .bin .lss (.t 8) (.t 7), none⟩]))
    (.seq (.cond (.t 9)
      .skip
      (.exit 0))
    (.seq (.block 1 (.seq (.keep [0, 2, 6, 7, 8] (.ops [⟨some 10, .ixA 8 (.t 6) (.t 8), none⟩, ⟨some 11, .ld (some 8) (.t 10), none⟩, ⟨some 5, .alloc [.int .i64 0, .int .u64 0, .int .i64 0, .int .u64 0, .int .u64 0, .int .u64 0, .int .u64 0, .int .u64 0], none⟩, ⟨none, .st 8 (.t 5) (.t 11), none⟩]))
    (.seq (.keep [0, 2, 5, 6, 7, 8] (.ops [⟨some 12, .ld (none) (.t 2), none⟩, ⟨some 13, .ld (some 8) (.t 5), none⟩, ⟨some 14, .callv (.t 12) [(.t 13)], none⟩, ⟨some 15, .mv (.t 14), none⟩, ⟨some 16, .mv (.t 0), some (15, true)⟩, ⟨some 17, .ld (some 8) (.t 5), some (15, true)⟩, ⟨some 18, .callv (.t 16) [(.t 17)], some (15, true)⟩, ⟨some 19, .un .not (.t 18), some (15, true)⟩, ⟨some 20, .pick (.t 15) (.t 19) (.c (.bool false)), none⟩]))
    (.cond (.t 20)
      .ret
      .skip))))
    (.keep [0, 2, 6, 7, 8] (.ops [⟨some 21, .bin .add (.t 8) (.c (.int .i64 1)), none⟩, ⟨some 8, .mv (.t 21), none⟩])))))))), [], 22⟩
theorem b75 : fB Tryd.prog 75 c75 = true := by kernel_rfl
end Go.Proofs.YtbbkckogjdjjgaaDoor
namespace Go.Proofs.YtbbkckogjdjjgaaDoor
open Go.Abs
set_option maxRecDepth 100000
/-- partywall/audit.Append -/
def c11 : CF := ⟨(.seq (.keep [0, 1, 2, 3, 4] (.ops [⟨some 5, .box 1 (.t 0), none⟩, ⟨some 8, .box 6 (.t 3), none⟩, ⟨some 10, .alloc [.nils], none⟩, ⟨some 11, .mv (.c (.int .i64 0)), none⟩]))
    (.seq (.keep [1, 2, 4, 5, 8, 10] (.ops [⟨some 17, .ld (some 1) (.t 5), none⟩, ⟨some 18, .call 34 [(.t 17)], none⟩, ⟨some 16, .mv (.t 18), none⟩, ⟨some 19, .ext (.t 16) 0, none⟩, ⟨some 20, .ext (.t 16) 1, none⟩, ⟨some 12, .alloc [.int .u64 0, .int .i64 0, .int .u64 0, .int .i64 0, .int .u64 0, .int .i64 0, .int .u64 0, .int .i64 0, .int .u64 0, .int .i64 0, .int .u64 0, .int .i64 0, .int .u64 0, .int .i64 0], none⟩, ⟨none, .st 14 (.t 12) (.t 19), none⟩, ⟨some 13, .mv (.t 20), none⟩]))
    (.seq (.seq (.keep [1, 2, 4, 5, 8, 10, 12, 13] (.ops [⟨some 21, .mv (.t 13), none⟩, ⟨some 22, .bin .eql (.t 21) (.c (.int .i64 0)), none⟩, ⟨some 23, .mv (.t 22), none⟩, ⟨some 24, .mv (.t 1), some (23, true)⟩, ⟨some 25, .call 35 [(.t 24)], some (23, true)⟩, ⟨some 26, .un .not (.t 25), some (23, true)⟩, ⟨some 27, .mv (.t 26), some (23, true)⟩, ⟨some 28, .mv (.t 4), some (27, false)⟩, ⟨some 29, .bin .lss (.t 28) (.c (.int .i64 0)), some (27, false)⟩, ⟨some 30, .pick (.t 27) (.c (.bool true)) (.t 29), some (23, true)⟩, ⟨some 31, .mv (.t 30), some (23, true)⟩, ⟨some 32, .mv (.t 4), some (31, false)⟩, ⟨some 33, .bin .gtr (.t 32) (.c (.int .i64 64)), some (31, false)⟩, ⟨some 34, .pick (.t 31) (.c (.bool true)) (.t 33), some (23, true)⟩, ⟨some 35, .pick (.t 23) (.t 34) (.c (.bool false)), none⟩]))
    (.cond (.t 35)
      (.keep [1, 2, 4, 5, 8, 10, 12] (.ops [⟨some 13, .mv (.c (.int .i64 2)), none⟩]))
      .skip))
    (.seq (.seq (.keep [1, 2, 4, 5, 8, 10, 12, 13] (.ops [⟨some 36, .mv (.t 13), none⟩, ⟨some 37, .bin .eql (.t 36) (.c (.int .i64 0)), none⟩]))
    (.cond (.t 37)
      (.keep [1, 2, 4, 5, 8, 10, 12] (.ops [⟨some 38, .ld (some 6) (.t 8), none⟩, ⟨some 39, .call 17 [(.t 38)], none⟩, ⟨some 13, .mv (.t 39), none⟩]))
      .skip))
    (.seq (.seq (.keep [1, 2, 4, 5, 8, 10, 12, 13] (.ops [⟨some 40, .mv (.t 13), none⟩, ⟨some 41, .bin .neq (.t 40) (.c (.int .i64 0)), none⟩]))
    (.cond (.t 41)
      (.seq (.keep [10, 13] (.ops [⟨some 42, .bld [.nils] [], none⟩, ⟨some 43, .mv (.t 13), none⟩, ⟨none, .st 1 (.t 10) (.t 42), none⟩, ⟨some 11, .mv (.t 43), none⟩]))
      .ret)
      .skip))
    (.seq (.keep [1, 2, 4, 5, 8, 10, 12] (.ops [⟨some 44, .mv (.t 1), none⟩, ⟨some 45, .ixP 7 2 (.t 12) (.t 44), none⟩, ⟨some 46, .ld (some 2) (.t 45), none⟩, ⟨some 14, .alloc [.int .u64 0, .int .i64 0], none⟩, ⟨none, .st 2 (.t 14) (.t 46), none⟩]))
    (.seq (.seq (.keep [1, 2, 4, 5, 8, 10, 14] (.ops [⟨some 47, .fldA 0 (.t 5), none⟩, ⟨some 48, .ld (none) (.t 47), none⟩, ⟨some 49, .len (.t 48), none⟩, ⟨some 15, .mv (.t 49), none⟩]))
    (.block 0 (.seq (.keep [1, 2, 4, 5, 8, 10, 14, 15] (.ops [⟨some 51, .ld (some 2) (.t 14), none⟩, ⟨some 52, .bld [.int .u64 0, .int .i64 0] [], none⟩, ⟨some 53, .eqA true [0, 0] (.t 51) (.t 52), none⟩, ⟨some 54, .mv (.t 53), none⟩, ⟨some 55, .fldA 1 (.t 14), some (54, true)⟩, ⟨some 56, .ld (none) (.t 55), some (54, true)⟩, ⟨some 57, .bin .gtr (.t 56) (.c (.int .i64 0)), some (54, true)⟩, ⟨some 58, .pick (.t 54) (.t 57) (.c (.bool false)), none⟩, ⟨some 59, .mv (.t 58), none⟩, ⟨some 60, .fldA 0 (.t 14), some (59, true)⟩, ⟨some 61, .ld (none) (.t 60), some (59, true)⟩, ⟨some 62, .mv (.t 2), some (59, true)⟩, ⟨some 63, .bin .neq (.t 61) (.t 62), some (59, true)⟩, ⟨some 64, .pick (.t 59) (.t 63) (.c (.bool false)), none⟩, ⟨some 50, .mv (.t 64), none⟩]))
    (.cond (.t 50)
      (.seq (.keep [10] (.ops [⟨some 65, .bld [.nils] [], none⟩, ⟨none, .st 1 (.t 10) (.t 65), none⟩, ⟨some 11, .mv (.c (.int .i64 13)), none⟩]))
      .ret)
      (.seq (.keep [1, 2, 4, 5, 8, 10, 14, 15] (.drw [⟨some 67, .mv (.t 15), none⟩, ⟨some 68, .bin .gtr (.t 67) (.c (.int .i64 0)), none⟩, ⟨some 69, .mv (.t 68), none⟩, ⟨some 70, .fldA 0 (.t 5), some (69, true)⟩, ⟨some 71, .ld (none) (.t 70), some (69, true)⟩, ⟨some 72, .mv (.t 15), some (69, true)⟩, ⟨some 73, .bin .sub (.t 72) (.c (.int .i64 1)), some (69, true)⟩, ⟨some 74, .ixA 8 (.t 71) (.t 73), some (69, true)⟩, ⟨some 75, .fldA 2 (.t 74), some (69, true)⟩, ⟨some 76, .fldA 5 (.t 75), some (69, true)⟩, ⟨some 77, .ld (none) (.t 76), some (69, true)⟩, ⟨some 78, .fldA 5 (.t 8), some (69, true)⟩, ⟨some 79, .ld (none) (.t 78), some (69, true)⟩, ⟨some 80, .bin .gtr (.t 77) (.t 79), some (69, true)⟩, ⟨some 81, .pick (.t 69) (.t 80) (.c (.bool false)), none⟩, ⟨some 66, .mv (.t 81), none⟩] [0, 0, 0, 0, 1, 0, 0, 0, 0, 0, 1, 0, 1, 0, 0, 0]))
      (.cond (.t 66)
        (.seq (.keep [10] (.ops [⟨some 82, .bld [.nils] [], none⟩, ⟨none, .st 1 (.t 10) (.t 82), none⟩, ⟨some 11, .mv (.c (.int .i64 9)), none⟩]))
        .ret)
        (.seq (.keep [1, 2, 4, 5, 8, 10, 14] (.ops [⟨some 84, .fldA 1 (.t 14), none⟩, ⟨some 85, .ld (none) (.t 84), none⟩, ⟨some 86, .mv (.t 4), none⟩, ⟨some 87, .bin .geq (.t 85) (.t 86), none⟩, ⟨some 83, .mv (.t 87), none⟩]))
        (.cond (.t 83)
          (.seq (.keep [10] (.ops [⟨some 88, .bld [.nils] [], none⟩, ⟨none, .st 1 (.t 10) (.t 88), none⟩, ⟨some 11, .mv (.c (.int .i64 21)), none⟩]))
          .ret)
          .skip))))))))
    (.seq (.keep [1, 2, 5, 8, 10] (.any (mkT [⟨some 89, .fldA 0 (.t 5), none⟩, ⟨some 90, .ld (none) (.t 89), none⟩, ⟨some 91, .call 36 [(.t 90)], none⟩, ⟨some 92, .mv (.t 1), none⟩, ⟨some 93, .mv (.t 2), none⟩, ⟨some 94, .ld (some 6) (.t 8), none⟩, ⟨some 95, .bld [.int .i64 0, .int .u64 0, .int .i64 0, .int .u64 0, .int .u64 0, .int .u64 0, .int .u64 0, .int .u64 0] [(0, 1, (.t 92)), (1, 1, (.t 93)), (2, 6, (.t 94))], none⟩, ⟨some 96, .mkSl 8 1 [.int .i64 0, .int .u64 0, .int .i64 0, .int .u64 0, .int .u64 0, .int .u64 0, .int .u64 0, .int .u64 0] [(0, 8, (.t 95))], none⟩, ⟨some 97, .app true 31 8 64 (.t 91) (.t 96), none⟩, ⟨some 98, .bld [.nils] [(0, 1, (.t 97))], none⟩, ⟨none, .st 1 (.t 10) (.t 98), none⟩, ⟨some 11, .mv (.c (.int .i64 0)), none⟩] [[], [0], [1], [], [], [], [3, 4, 5], [6], [2, 7, 2], [8], [9, 8, 0, 1, 2, 3, 4, 5, 6, 7, 8, 9], [10, 0, 1, 2, 3, 4, 5, 6, 7, 8, 9, 10]] 13 0)))
    .ret)))))))), [.cl 10 (some 1), .t 11], 99⟩
theorem b11 : fB Tryd.prog 11 c11 = true := by kernel_rfl
/-- slices.Clone[[]partywall/api.Logged,partywall/api.Logged] -/
def c36 : CF := ⟨(.seq (.keep [0] (.ops [⟨some 2, .mv (.c .nils), none⟩]))
    (.seq (.seq (.keep [0] (.ops [⟨some 3, .mv (.t 0), none⟩, ⟨some 4, .isnil 0 false (.t 3), none⟩]))
    (.cond (.t 4)
      (.seq (.keep [] (.ops [⟨some 2, .mv (.c .nils), none⟩]))
      .ret)
      .skip))
    (.seq (.keep [0] (.ops [⟨some 5, .mkSl 8 0 [] [], none⟩, ⟨some 6, .mv (.t 0), none⟩, ⟨some 7, .app true 31 8 64 (.t 5) (.t 6), none⟩, ⟨some 2, .mv (.t 7), none⟩]))
    .ret))), [.t 2], 8⟩
theorem b36 : fB Tryd.prog 36 c36 = true := by kernel_rfl
end Go.Proofs.YtbbkckogjdjjgaaDoor
