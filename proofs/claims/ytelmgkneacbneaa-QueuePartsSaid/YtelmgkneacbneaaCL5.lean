import Derived.Test.YtelmgkneacbneaaRows
import Derived.Test.YtelmgkneacbneaaAbs13
namespace Go.Proofs.Ytelmgkneacbneaa
open Go.Abs
set_option maxRecDepth 100000

/-- partywall/partywalllaw26.QueueParts -/
def tc5 : CF := ⟨(.seq (.keep [0, 1, 2] (.ops [⟨some 6, .mv (.c (.bool false)), none⟩]))
    (.seq (.keep [0, 1, 2] (.ops [⟨some 28, .call 4 [], none⟩, ⟨some 7, .mv (.t 28), none⟩]))
    (.seq (.keep [0, 1, 2, 7] (.ops [⟨some 29, .mv (.t 0), none⟩, ⟨some 30, .call 29 [(.t 29), (.c (.int .i64 21))], none⟩, ⟨some 0, .mv (.t 30), none⟩]))
    (.seq (.keep [0, 1, 2, 7] (.ops [⟨some 31, .mv (.t 1), none⟩, ⟨some 32, .call 30 [(.t 31)], none⟩, ⟨some 8, .mv (.t 32), none⟩]))
    (.seq (.keep [0, 2, 7, 8] (.ops [⟨some 33, .mv (.t 2), none⟩, ⟨some 34, .mv (.t 8), none⟩, ⟨some 35, .len (.t 34), none⟩, ⟨some 36, .bin .add (.t 35) (.c (.int .i64 1)), none⟩, ⟨some 37, .call 29 [(.t 33), (.t 36)], none⟩, ⟨some 2, .mv (.t 37), none⟩]))
    (.seq (.keep [0, 2, 7, 8] (.ops [⟨some 39, .mv (.t 0), none⟩, ⟨some 40, .mv (.t 8), none⟩, ⟨some 41, .call 25 [(.t 39), (.t 40)], none⟩, ⟨some 38, .mv (.t 41), none⟩, ⟨some 42, .ext (.t 38) 0, none⟩, ⟨some 43, .ext (.t 38) 1, none⟩, ⟨some 9, .alloc [.int .i64 0, .nils, .int .i64 0], none⟩, ⟨none, .st 3 (.t 9) (.t 42), none⟩, ⟨some 10, .mv (.t 43), none⟩]))
    (.seq (.keep [0, 2, 7, 8, 9] (.ops [⟨some 45, .mv (.t 0), none⟩, ⟨some 46, .mv (.t 8), none⟩, ⟨some 47, .mv (.t 2), none⟩, ⟨some 48, .slc 7 (.t 46) none (some (.t 47)) none, none⟩, ⟨some 49, .call 25 [(.t 45), (.t 48)], none⟩, ⟨some 44, .mv (.t 49), none⟩, ⟨some 50, .ext (.t 44) 0, none⟩, ⟨some 51, .ext (.t 44) 1, none⟩, ⟨some 11, .alloc [.int .i64 0, .nils, .int .i64 0], none⟩, ⟨none, .st 3 (.t 11) (.t 50), none⟩, ⟨some 12, .mv (.t 51), none⟩]))
    (.seq (.keep [2, 7, 8, 9, 11] (.drw [⟨some 53, .ld (some 3) (.t 11), none⟩, ⟨some 54, .mv (.t 8), none⟩, ⟨some 55, .mv (.t 2), none⟩, ⟨some 56, .slc 7 (.t 54) (some (.t 55)) none none, none⟩, ⟨some 57, .call 17 [(.t 53), (.t 56)], none⟩, ⟨some 52, .mv (.t 57), none⟩, ⟨some 58, .ext (.t 52) 0, none⟩, ⟨some 59, .ext (.t 52) 1, none⟩, ⟨some 60, .ext (.t 52) 2, none⟩, ⟨none, .st 3 (.t 11) (.t 58), none⟩, ⟨some 13, .mv (.t 59), none⟩, ⟨some 14, .mv (.t 60), none⟩] [1, 0, 0, 0, 1, 0, 0, 0, 0, 2, 0, 0]))
    (.seq (.seq (.keep [2, 7, 8, 9, 11, 13, 14] (.ops [⟨some 61, .mv (.t 14), none⟩, ⟨some 62, .bin .neq (.t 61) (.c (.int .i64 0)), none⟩, ⟨some 63, .mv (.t 62), none⟩, ⟨some 64, .ld (some 3) (.t 11), some (63, false)⟩, ⟨some 65, .ld (some 3) (.t 9), some (63, false)⟩, ⟨some 66, .call 14 [(.t 64), (.t 65)], some (63, false)⟩, ⟨some 67, .un .not (.t 66), some (63, false)⟩, ⟨some 68, .pick (.t 63) (.c (.bool true)) (.t 67), none⟩, ⟨some 69, .mv (.t 68), none⟩, ⟨some 70, .mv (.t 13), some (69, false)⟩, ⟨some 71, .mv (.t 8), some (69, false)⟩, ⟨some 72, .len (.t 71), some (69, false)⟩, ⟨some 73, .mv (.t 2), some (69, false)⟩, ⟨some 74, .bin .sub (.t 72) (.t 73), some (69, false)⟩, ⟨some 75, .bin .gtr (.t 70) (.t 74), some (69, false)⟩, ⟨some 76, .pick (.t 69) (.c (.bool true)) (.t 75), none⟩]))
    (.cond (.t 76)
      (.seq (.keep [] (.ops [⟨some 6, .mv (.c (.bool false)), none⟩]))
      .ret)
      .skip))
    (.seq (.keep [7, 9, 11] (.ops [⟨some 78, .ld (some 3) (.t 9), none⟩, ⟨some 79, .call 31 [(.t 78)], none⟩, ⟨some 77, .mv (.t 79), none⟩, ⟨some 80, .ext (.t 77) 0, none⟩, ⟨some 81, .ext (.t 77) 1, none⟩, ⟨some 15, .mv (.t 80), none⟩, ⟨some 16, .mv (.t 81), none⟩]))
    (.seq (.keep [7, 9, 11, 15, 16] (.ops [⟨some 17, .mv (.c .nils), none⟩]))
    (.seq (.seq (.keep [7, 9, 11, 15, 16, 17] (.ops [⟨some 18, .mv (.c (.int .i64 0)), none⟩]))
    (.block 0 (.loop (.seq (.seq (.keep [7, 9, 11, 15, 16, 17, 18] (.ops [⟨some 82, .mv (.t 18), none⟩, ⟨some 83, .bin .lss (.t 82) (.c (.int .i64 40)), none⟩]))
    (.cond (.t 83)
      .skip
      (.exit 0)))
    (.seq (.block 1 (.seq (.keep [7, 9, 11, 15, 16, 17, 18] (.ops [⟨some 87, .ld (some 3) (.t 11), none⟩, ⟨some 88, .call 28 [(.t 87), (.c (.int .i64 1))], none⟩, ⟨some 86, .mv (.t 88), none⟩, ⟨some 89, .ext (.t 86) 0, none⟩, ⟨some 90, .ext (.t 86) 1, none⟩, ⟨some 91, .ext (.t 86) 2, none⟩, ⟨some 19, .alloc [.int .i64 0, .nils, .int .i64 0], none⟩, ⟨none, .st 3 (.t 19) (.t 89), none⟩, ⟨some 20, .mv (.t 90), none⟩, ⟨some 21, .mv (.t 91), none⟩]))
    (.seq (.seq (.keep [7, 9, 11, 15, 16, 17, 18, 19, 20, 21] (.ops [⟨some 92, .mv (.t 21), none⟩, ⟨some 93, .bin .neq (.t 92) (.c (.int .i64 0)), none⟩, ⟨some 94, .mv (.t 93), none⟩, ⟨some 95, .mv (.t 20), some (94, false)⟩, ⟨some 96, .len (.t 95), some (94, false)⟩, ⟨some 97, .bin .gtr (.t 96) (.c (.int .i64 1)), some (94, false)⟩, ⟨some 98, .pick (.t 94) (.c (.bool true)) (.t 97), none⟩]))
    (.cond (.t 98)
      (.seq (.keep [] (.ops [⟨some 6, .mv (.c (.bool false)), none⟩]))
      .ret)
      .skip))
    (.seq (.seq (.keep [7, 9, 11, 15, 16, 17, 18, 19, 20] (.ops [⟨some 99, .mv (.t 20), none⟩, ⟨some 100, .len (.t 99), none⟩, ⟨some 101, .bin .eql (.t 100) (.c (.int .i64 0)), none⟩]))
    (.cond (.t 101)
      (.exit 0)
      .skip))
    (.keep [7, 9, 11, 15, 16, 17, 18, 19, 20] (.drw [⟨some 102, .mv (.t 17), none⟩, ⟨some 103, .mv (.t 20), none⟩, ⟨some 104, .app true 42 7 104 (.t 102) (.t 103), none⟩, ⟨some 105, .ld (some 3) (.t 19), none⟩, ⟨some 17, .mv (.t 104), none⟩, ⟨none, .st 3 (.t 11) (.t 105), none⟩] [0, 0, 4, 1, 0, 2]))))))
    (.keep [7, 9, 11, 15, 16, 17, 18] (.ops [⟨some 84, .mv (.t 18), none⟩, ⟨some 85, .bin .add (.t 84) (.c (.int .i64 1)), none⟩, ⟨some 18, .mv (.t 85), none⟩])))))))
    (.seq (.seq (.keep [7, 9, 15, 16, 17] (.ops [⟨some 106, .mv (.t 16), none⟩, ⟨some 107, .bin .neq (.t 106) (.c (.int .i64 0)), none⟩, ⟨some 108, .mv (.t 107), none⟩, ⟨some 109, .mv (.t 17), some (108, false)⟩, ⟨some 110, .mv (.t 15), some (108, false)⟩, ⟨some 111, .call 23 [(.t 109), (.t 110)], some (108, false)⟩, ⟨some 112, .un .not (.t 111), some (108, false)⟩, ⟨some 113, .pick (.t 108) (.c (.bool true)) (.t 112), none⟩]))
    (.cond (.t 113)
      (.seq (.keep [] (.ops [⟨some 6, .mv (.c (.bool false)), none⟩]))
      .ret)
      .skip))
    (.seq (.seq (.keep [7, 9] (.ops [⟨some 114, .fldA 2 (.t 9), none⟩, ⟨some 115, .ld (none) (.t 114), none⟩, ⟨some 116, .bin .eql (.t 115) (.c (.int .i64 0)), none⟩]))
    (.cond (.t 116)
      (.seq (.keep [7] (.ops [⟨some 117, .mv (.t 7), none⟩, ⟨some 6, .mv (.t 117), none⟩]))
      .ret)
      .skip))
    (.seq (.keep [7, 9] (.ops [⟨some 119, .ld (some 3) (.t 9), none⟩, ⟨some 120, .fldA 1 (.t 9), none⟩, ⟨some 121, .ld (none) (.t 120), none⟩, ⟨some 122, .len (.t 121), none⟩, ⟨some 123, .mm true (.c (.int .i64 1)) (.t 122), none⟩, ⟨some 124, .call 28 [(.t 119), (.t 123)], none⟩, ⟨some 118, .mv (.t 124), none⟩, ⟨some 125, .ext (.t 118) 0, none⟩, ⟨some 126, .ext (.t 118) 1, none⟩, ⟨some 127, .ext (.t 118) 2, none⟩, ⟨some 22, .alloc [.int .i64 0, .nils, .int .i64 0], none⟩, ⟨none, .st 3 (.t 22) (.t 125), none⟩, ⟨some 23, .mv (.t 126), none⟩, ⟨some 24, .mv (.t 127), none⟩]))
    (.seq (.seq (.keep [7, 9, 22, 24] (.ops [⟨some 128, .fldA 1 (.t 9), none⟩, ⟨some 129, .ld (none) (.t 128), none⟩, ⟨some 130, .len (.t 129), none⟩, ⟨some 131, .bin .eql (.t 130) (.c (.int .i64 0)), none⟩]))
    (.cond (.t 131)
      (.seq (.keep [7, 22, 24] (.ops [⟨some 132, .mv (.t 7), none⟩, ⟨some 133, .mv (.t 132), none⟩, ⟨some 134, .mv (.t 24), some (133, true)⟩, ⟨some 135, .bin .eql (.t 134) (.c (.int .i64 0)), some (133, true)⟩, ⟨some 136, .pick (.t 133) (.t 135) (.c (.bool false)), none⟩, ⟨some 137, .mv (.t 136), none⟩, ⟨some 138, .fldA 2 (.t 22), some (137, true)⟩, ⟨some 139, .ld (none) (.t 138), some (137, true)⟩, ⟨some 140, .bin .eql (.t 139) (.c (.int .i64 0)), some (137, true)⟩, ⟨some 141, .pick (.t 137) (.t 140) (.c (.bool false)), none⟩, ⟨some 6, .mv (.t 141), none⟩]))
      .ret)
      .skip))
    (.seq (.keep [7, 9, 22, 24] (.drw [⟨some 143, .ld (some 3) (.t 22), none⟩, ⟨some 144, .call 24 [(.c (.int .i64 1))], none⟩, ⟨some 145, .call 19 [(.t 143), (.t 144)], none⟩, ⟨some 142, .mv (.t 145), none⟩, ⟨some 146, .ext (.t 142) 0, none⟩, ⟨some 147, .ext (.t 142) 1, none⟩, ⟨some 148, .ext (.t 142) 2, none⟩, ⟨some 25, .alloc [.int .i64 0, .nils, .int .i64 0], none⟩, ⟨none, .st 3 (.t 25) (.t 146), none⟩, ⟨some 26, .mv (.t 147), none⟩, ⟨some 27, .mv (.t 148), none⟩] [1, 1, 1, 0, 0, 0, 0, 3, 2, 0, 0]))
    (.seq (.keep [7, 9, 24, 25, 26, 27] (.ops [⟨some 149, .mv (.t 7), none⟩, ⟨some 150, .mv (.t 149), none⟩, ⟨some 151, .mv (.t 24), some (150, true)⟩, ⟨some 152, .bin .eql (.t 151) (.c (.int .i64 0)), some (150, true)⟩, ⟨some 153, .pick (.t 150) (.t 152) (.c (.bool false)), none⟩, ⟨some 154, .mv (.t 153), none⟩, ⟨some 155, .mv (.t 27), some (154, true)⟩, ⟨some 156, .bin .eql (.t 155) (.c (.int .i64 0)), some (154, true)⟩, ⟨some 157, .pick (.t 154) (.t 156) (.c (.bool false)), none⟩, ⟨some 158, .mv (.t 157), none⟩, ⟨some 159, .mv (.t 26), some (158, true)⟩, ⟨some 160, .un .not (.t 159), some (158, true)⟩, ⟨some 161, .pick (.t 158) (.t 160) (.c (.bool false)), none⟩, ⟨some 162, .mv (.t 161), none⟩, ⟨some 163, .fldA 2 (.t 25), some (162, true)⟩, ⟨some 164, .ld (none) (.t 163), some (162, true)⟩, ⟨some 165, .fldA 2 (.t 9), some (162, true)⟩, ⟨some 166, .ld (none) (.t 165), some (162, true)⟩, ⟨some 167, .bin .add (.t 166) (.c (.int .i64 1)), some (162, true)⟩, ⟨some 168, .bin .eql (.t 164) (.t 167), some (162, true)⟩, ⟨some 169, .pick (.t 162) (.t 168) (.c (.bool false)), none⟩, ⟨some 170, .mv (.t 169), none⟩, ⟨some 171, .fldA 1 (.t 25), some (170, true)⟩, ⟨some 172, .ld (none) (.t 171), some (170, true)⟩, ⟨some 173, .len (.t 172), some (170, true)⟩, ⟨some 174, .bin .eql (.t 173) (.c (.int .i64 0)), some (170, true)⟩, ⟨some 175, .pick (.t 170) (.t 174) (.c (.bool false)), none⟩, ⟨some 6, .mv (.t 175), none⟩]))
    .ret)))))))))))))))))), [.t 6], 176⟩
theorem tb5 : fB Try.prog 5 tc5 = true := by kernel_rfl

end Go.Proofs.Ytelmgkneacbneaa
