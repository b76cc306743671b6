import Derived.Test.YtelmgkneacbneaaRows
import Derived.Test.YtelmgkneacbneaaAbs17
namespace Go.Proofs.Ytelmgkneacbneaa
open Go.Abs
set_option maxRecDepth 100000

/-- partywall/partywalllaw26.QueuePuts -/
def ec3 : CF := ⟨(.seq (.keep [0, 1, 2] (.ops [⟨some 3, .box 3 (.t 0), none⟩, ⟨some 6, .mv (.c (.bool false)), none⟩]))
    (.seq (.seq (.keep [1, 2, 3] (.ops [⟨some 21, .fldA 1 (.t 3), none⟩, ⟨some 22, .ld (none) (.t 21), none⟩, ⟨some 23, .call 8 [(.t 22)], none⟩, ⟨some 24, .un .not (.t 23), none⟩, ⟨some 25, .mv (.t 24), none⟩, ⟨some 26, .mv (.t 1), some (25, false)⟩, ⟨some 27, .call 8 [(.t 26)], some (25, false)⟩, ⟨some 28, .un .not (.t 27), some (25, false)⟩, ⟨some 29, .pick (.t 25) (.c (.bool true)) (.t 28), none⟩]))
    (.cond (.t 29)
      (.seq (.keep [] (.ops [⟨some 30, .call 9 [], none⟩, ⟨some 6, .mv (.t 30), none⟩]))
      .ret)
      .skip))
    (.seq (.keep [1, 2, 3] (.ops [⟨some 31, .ld (some 3) (.t 3), none⟩, ⟨some 32, .call 10 [(.t 31)], none⟩, ⟨some 33, .mv (.t 1), none⟩, ⟨some 34, .call 11 [(.t 33)], none⟩, ⟨some 7, .alloc [.int .i64 0, .nils, .int .i64 0], none⟩, ⟨none, .st 3 (.t 7) (.t 32), none⟩, ⟨some 8, .mv (.t 34), none⟩]))
    (.seq (.keep [1, 2, 3, 7, 8] (.ops [⟨some 36, .mv (.t 2), none⟩, ⟨some 37, .call 12 [(.t 36)], none⟩, ⟨some 35, .mv (.t 37), none⟩, ⟨some 38, .ext (.t 35) 0, none⟩, ⟨some 39, .ext (.t 35) 1, none⟩, ⟨some 9, .alloc [.int .i64 0, .nils, .int .i64 0], none⟩, ⟨none, .st 3 (.t 9) (.t 38), none⟩, ⟨some 10, .mv (.t 39), none⟩]))
    (.seq (.keep [1, 2, 3, 7, 8, 9, 10] (.ops [⟨some 41, .mv (.t 2), none⟩, ⟨some 42, .call 13 [(.t 41)], none⟩, ⟨some 40, .mv (.t 42), none⟩, ⟨some 43, .ext (.t 40) 0, none⟩, ⟨some 44, .ext (.t 40) 1, none⟩, ⟨some 11, .alloc [.int .i64 0, .nils, .int .i64 0], none⟩, ⟨none, .st 3 (.t 11) (.t 43), none⟩, ⟨some 12, .mv (.t 44), none⟩]))
    (.seq (.seq (.keep [1, 3, 7, 8, 9, 10, 11, 12] (.drw [⟨some 45, .ld (some 3) (.t 9), none⟩, ⟨some 46, .ld (some 3) (.t 11), none⟩, ⟨some 47, .call 14 [(.t 45), (.t 46)], none⟩, ⟨some 48, .un .not (.t 47), none⟩, ⟨some 49, .mv (.t 48), none⟩, ⟨some 50, .mv (.t 10), some (49, false)⟩, ⟨some 51, .mv (.t 12), some (49, false)⟩, ⟨some 52, .bin .neq (.t 50) (.t 51), some (49, false)⟩, ⟨some 53, .pick (.t 49) (.c (.bool true)) (.t 52), none⟩, ⟨some 54, .mv (.t 53), none⟩, ⟨some 55, .ld (some 3) (.t 7), some (54, false)⟩, ⟨some 56, .call 15 [(.t 55)], some (54, false)⟩, ⟨some 57, .ld (some 3) (.t 3), some (54, false)⟩, ⟨some 58, .call 16 [(.t 57)], some (54, false)⟩, ⟨some 59, .bin .neq (.t 56) (.t 58), some (54, false)⟩, ⟨some 60, .pick (.t 54) (.c (.bool true)) (.t 59), none⟩] [1, 1, 1, 0, 0, 0, 0, 0, 0, 0, 1, 1, 1, 1, 0, 0]))
    (.cond (.t 60)
      (.seq (.keep [] (.ops [⟨some 6, .mv (.c (.bool false)), none⟩]))
      .ret)
      .skip))
    (.seq (.keep [1, 3, 7, 8, 9, 11] (.ops [⟨some 62, .ld (some 3) (.t 7), none⟩, ⟨some 63, .mv (.t 8), none⟩, ⟨some 64, .call 17 [(.t 62), (.t 63)], none⟩, ⟨some 61, .mv (.t 64), none⟩, ⟨some 65, .ext (.t 61) 0, none⟩, ⟨some 66, .ext (.t 61) 1, none⟩, ⟨some 67, .ext (.t 61) 2, none⟩, ⟨none, .st 3 (.t 9) (.t 65), none⟩, ⟨some 13, .mv (.t 66), none⟩, ⟨some 10, .mv (.t 67), none⟩]))
    (.seq (.keep [1, 3, 7, 8, 9, 10, 11, 13] (.ops [⟨some 69, .ld (some 3) (.t 3), none⟩, ⟨some 70, .mv (.t 1), none⟩, ⟨some 71, .call 18 [(.t 69), (.t 70)], none⟩, ⟨some 68, .mv (.t 71), none⟩, ⟨some 72, .ext (.t 68) 0, none⟩, ⟨some 73, .ext (.t 68) 1, none⟩, ⟨some 74, .ext (.t 68) 2, none⟩, ⟨none, .st 3 (.t 11) (.t 72), none⟩, ⟨some 14, .mv (.t 73), none⟩, ⟨some 12, .mv (.t 74), none⟩]))
    (.seq (.seq (.keep [1, 3, 7, 8, 9, 10, 11, 12, 13, 14] (.ops [⟨some 75, .ld (some 3) (.t 9), none⟩, ⟨some 76, .ld (some 3) (.t 11), none⟩, ⟨some 77, .call 14 [(.t 75), (.t 76)], none⟩, ⟨some 78, .un .not (.t 77), none⟩, ⟨some 79, .mv (.t 78), none⟩, ⟨some 80, .mv (.t 13), some (79, false)⟩, ⟨some 81, .mv (.t 14), some (79, false)⟩, ⟨some 82, .bin .neq (.t 80) (.t 81), some (79, false)⟩, ⟨some 83, .pick (.t 79) (.c (.bool true)) (.t 82), none⟩, ⟨some 84, .mv (.t 83), none⟩, ⟨some 85, .mv (.t 10), some (84, false)⟩, ⟨some 86, .mv (.t 12), some (84, false)⟩, ⟨some 87, .bin .neq (.t 85) (.t 86), some (84, false)⟩, ⟨some 88, .pick (.t 84) (.c (.bool true)) (.t 87), none⟩]))
    (.cond (.t 88)
      (.seq (.keep [] (.ops [⟨some 6, .mv (.c (.bool false)), none⟩]))
      .ret)
      .skip))
    (.seq (.seq (.keep [1, 3, 7, 8] (.ops [⟨some 89, .mv (.t 1), none⟩, ⟨some 90, .len (.t 89), none⟩, ⟨some 91, .bin .gtr (.t 90) (.c (.int .i64 0)), none⟩]))
    (.cond (.t 91)
      (.seq (.keep [1, 3, 7, 8] (.drw [⟨some 93, .ld (some 3) (.t 7), none⟩, ⟨some 94, .mv (.t 8), none⟩, ⟨some 95, .ixA 7 (.t 94) (.c (.int .i64 0)), none⟩, ⟨some 96, .ld (some 7) (.t 95), none⟩, ⟨some 97, .call 19 [(.t 93), (.t 96)], none⟩, ⟨some 92, .mv (.t 97), none⟩, ⟨some 98, .ext (.t 92) 0, none⟩, ⟨some 99, .ext (.t 92) 1, none⟩, ⟨some 100, .ext (.t 92) 2, none⟩, ⟨some 15, .alloc [.int .i64 0, .nils, .int .i64 0], none⟩, ⟨none, .st 3 (.t 15) (.t 98), none⟩, ⟨some 16, .mv (.t 99), none⟩, ⟨some 17, .mv (.t 100), none⟩] [1, 0, 0, 1, 1, 0, 0, 0, 0, 3, 2, 0, 0]))
      (.seq (.keep [1, 3, 7, 8, 15, 16, 17] (.drw [⟨some 102, .ld (some 3) (.t 3), none⟩, ⟨some 103, .mv (.t 1), none⟩, ⟨some 104, .ixA 7 (.t 103) (.c (.int .i64 0)), none⟩, ⟨some 105, .ld (some 7) (.t 104), none⟩, ⟨some 106, .call 20 [(.t 102), (.t 105)], none⟩, ⟨some 101, .mv (.t 106), none⟩, ⟨some 107, .ext (.t 101) 0, none⟩, ⟨some 108, .ext (.t 101) 1, none⟩, ⟨some 109, .ext (.t 101) 2, none⟩, ⟨some 18, .alloc [.int .i64 0, .nils, .int .i64 0], none⟩, ⟨none, .st 3 (.t 18) (.t 107), none⟩, ⟨some 19, .mv (.t 108), none⟩, ⟨some 20, .mv (.t 109), none⟩] [1, 0, 0, 1, 1, 0, 0, 0, 0, 3, 2, 0, 0]))
      (.seq (.keep [1, 3, 7, 8, 15, 16, 17, 18, 19, 20] (.ops [⟨some 110, .ld (some 3) (.t 15), none⟩, ⟨some 111, .ld (some 3) (.t 18), none⟩, ⟨some 112, .call 14 [(.t 110), (.t 111)], none⟩, ⟨some 113, .un .not (.t 112), none⟩, ⟨some 114, .mv (.t 113), none⟩, ⟨some 115, .mv (.t 16), some (114, false)⟩, ⟨some 116, .mv (.t 19), some (114, false)⟩, ⟨some 117, .eqb true (.t 115) (.t 116), some (114, false)⟩, ⟨some 118, .pick (.t 114) (.c (.bool true)) (.t 117), none⟩, ⟨some 119, .mv (.t 118), none⟩, ⟨some 120, .mv (.t 17), some (119, false)⟩, ⟨some 121, .mv (.t 20), some (119, false)⟩, ⟨some 122, .bin .neq (.t 120) (.t 121), some (119, false)⟩, ⟨some 123, .pick (.t 119) (.c (.bool true)) (.t 122), none⟩]))
      (.cond (.t 123)
        (.seq (.keep [] (.ops [⟨some 6, .mv (.c (.bool false)), none⟩]))
        .ret)
        .skip))))
      .skip))
    (.seq (.keep [1, 3, 7, 8] (.ops [⟨some 125, .ld (some 3) (.t 7), none⟩, ⟨some 126, .call 21 [(.t 125)], none⟩, ⟨some 124, .mv (.t 126), none⟩, ⟨some 127, .ext (.t 124) 0, none⟩, ⟨some 128, .ext (.t 124) 1, none⟩, ⟨some 13, .mv (.t 127), none⟩, ⟨some 10, .mv (.t 128), none⟩]))
    (.seq (.keep [1, 3, 7, 8, 10, 13] (.ops [⟨some 130, .ld (some 3) (.t 3), none⟩, ⟨some 131, .call 22 [(.t 130)], none⟩, ⟨some 129, .mv (.t 131), none⟩, ⟨some 132, .ext (.t 129) 0, none⟩, ⟨some 133, .ext (.t 129) 1, none⟩, ⟨some 14, .mv (.t 132), none⟩, ⟨some 12, .mv (.t 133), none⟩]))
    (.seq (.keep [1, 3, 7, 8, 10, 12, 13, 14] (.ops [⟨some 134, .mv (.t 13), none⟩, ⟨some 135, .mv (.t 14), none⟩, ⟨some 136, .bin .eql (.t 134) (.t 135), none⟩, ⟨some 137, .mv (.t 136), none⟩, ⟨some 138, .mv (.t 10), some (137, true)⟩, ⟨some 139, .mv (.t 12), some (137, true)⟩, ⟨some 140, .bin .eql (.t 138) (.t 139), some (137, true)⟩, ⟨some 141, .pick (.t 137) (.t 140) (.c (.bool false)), none⟩, ⟨some 142, .mv (.t 141), none⟩, ⟨some 143, .ld (some 3) (.t 7), some (142, true)⟩, ⟨some 144, .ld (some 3) (.t 3), some (142, true)⟩, ⟨some 145, .call 14 [(.t 143), (.t 144)], some (142, true)⟩, ⟨some 146, .pick (.t 142) (.t 145) (.c (.bool false)), none⟩, ⟨some 147, .mv (.t 146), none⟩, ⟨some 148, .mv (.t 8), some (147, true)⟩, ⟨some 149, .mv (.t 1), some (147, true)⟩, ⟨some 150, .call 23 [(.t 148), (.t 149)], some (147, true)⟩, ⟨some 151, .pick (.t 147) (.t 150) (.c (.bool false)), none⟩, ⟨some 152, .mv (.t 151), none⟩, ⟨some 153, .call 9 [], some (152, true)⟩, ⟨some 154, .pick (.t 152) (.t 153) (.c (.bool false)), none⟩, ⟨some 6, .mv (.t 154), none⟩]))
    .ret))))))))))))), [.t 6], 155⟩
theorem eb3 : fB Try.prog 3 ec3 = true := by kernel_rfl

/-- partywall/partywalllaw26.QueueKnown -/
def ec4 : CF := ⟨(.seq (.keep [] (.ops [⟨some 0, .mv (.c (.bool false)), none⟩]))
    (.seq (.keep [] (.ops [⟨some 33, .call 12 [(.c (.int .i64 2))], none⟩, ⟨some 32, .mv (.t 33), none⟩, ⟨some 34, .ext (.t 32) 0, none⟩, ⟨some 35, .ext (.t 32) 1, none⟩, ⟨some 1, .alloc [.int .i64 0, .nils, .int .i64 0], none⟩, ⟨none, .st 3 (.t 1) (.t 34), none⟩, ⟨some 2, .mv (.t 35), none⟩]))
    (.seq (.keep [1, 2] (.drw [⟨some 37, .ld (some 3) (.t 1), none⟩, ⟨some 38, .call 24 [(.c (.int .i64 0))], none⟩, ⟨some 39, .call 19 [(.t 37), (.t 38)], none⟩, ⟨some 36, .mv (.t 39), none⟩, ⟨some 40, .ext (.t 36) 0, none⟩, ⟨some 41, .ext (.t 36) 1, none⟩, ⟨some 42, .ext (.t 36) 2, none⟩, ⟨none, .st 3 (.t 1) (.t 40), none⟩, ⟨some 3, .mv (.t 41), none⟩, ⟨some 4, .mv (.t 42), none⟩] [1, 1, 1, 0, 0, 0, 0, 2, 0, 0]))
    (.seq (.keep [1, 2, 3, 4] (.drw [⟨some 44, .ld (some 3) (.t 1), none⟩, ⟨some 45, .call 24 [(.c (.int .i64 1))], none⟩, ⟨some 46, .call 19 [(.t 44), (.t 45)], none⟩, ⟨some 43, .mv (.t 46), none⟩, ⟨some 47, .ext (.t 43) 0, none⟩, ⟨some 48, .ext (.t 43) 1, none⟩, ⟨some 49, .ext (.t 43) 2, none⟩, ⟨none, .st 3 (.t 1) (.t 47), none⟩, ⟨some 5, .mv (.t 48), none⟩, ⟨some 6, .mv (.t 49), none⟩] [1, 1, 1, 0, 0, 0, 0, 2, 0, 0]))
    (.seq (.keep [1, 2, 3, 4, 5, 6] (.drw [⟨some 51, .ld (some 3) (.t 1), none⟩, ⟨some 52, .call 24 [(.c (.int .i64 2))], none⟩, ⟨some 53, .call 19 [(.t 51), (.t 52)], none⟩, ⟨some 50, .mv (.t 53), none⟩, ⟨some 54, .ext (.t 50) 0, none⟩, ⟨some 55, .ext (.t 50) 1, none⟩, ⟨some 56, .ext (.t 50) 2, none⟩, ⟨none, .st 3 (.t 1) (.t 54), none⟩, ⟨some 7, .mv (.t 55), none⟩, ⟨some 8, .mv (.t 56), none⟩] [1, 1, 1, 0, 0, 0, 0, 2, 0, 0]))
    (.seq (.keep [1, 2, 3, 4, 5, 6, 7, 8] (.ops [⟨some 57, .mv (.t 2), none⟩, ⟨some 58, .bin .eql (.t 57) (.c (.int .i64 0)), none⟩, ⟨some 59, .mv (.t 58), none⟩, ⟨some 60, .mv (.t 4), some (59, true)⟩, ⟨some 61, .bin .eql (.t 60) (.c (.int .i64 0)), some (59, true)⟩, ⟨some 62, .pick (.t 59) (.t 61) (.c (.bool false)), none⟩, ⟨some 63, .mv (.t 62), none⟩, ⟨some 64, .mv (.t 6), some (63, true)⟩, ⟨some 65, .bin .eql (.t 64) (.c (.int .i64 0)), some (63, true)⟩, ⟨some 66, .pick (.t 63) (.t 65) (.c (.bool false)), none⟩, ⟨some 67, .mv (.t 66), none⟩, ⟨some 68, .mv (.t 8), some (67, true)⟩, ⟨some 69, .bin .eql (.t 68) (.c (.int .i64 0)), some (67, true)⟩, ⟨some 70, .pick (.t 67) (.t 69) (.c (.bool false)), none⟩, ⟨some 71, .mv (.t 70), none⟩, ⟨some 72, .mv (.t 3), some (71, true)⟩, ⟨some 73, .pick (.t 71) (.t 72) (.c (.bool false)), none⟩, ⟨some 74, .mv (.t 73), none⟩, ⟨some 75, .mv (.t 5), some (74, true)⟩, ⟨some 76, .pick (.t 74) (.t 75) (.c (.bool false)), none⟩, ⟨some 77, .mv (.t 76), none⟩, ⟨some 78, .mv (.t 7), some (77, true)⟩, ⟨some 79, .un .not (.t 78), some (77, true)⟩, ⟨some 80, .pick (.t 77) (.t 79) (.c (.bool false)), none⟩, ⟨some 81, .mv (.t 80), none⟩, ⟨some 82, .fldA 2 (.t 1), some (81, true)⟩, ⟨some 83, .ld (none) (.t 82), some (81, true)⟩, ⟨some 84, .bin .eql (.t 83) (.c (.int .i64 1)), some (81, true)⟩, ⟨some 85, .pick (.t 81) (.t 84) (.c (.bool false)), none⟩, ⟨some 9, .mv (.t 85), none⟩]))
    (.seq (.keep [1, 9] (.ops [⟨some 87, .call 24 [(.c (.int .i64 0))], none⟩, ⟨some 88, .call 24 [(.c (.int .i64 1))], none⟩, ⟨some 89, .call 24 [(.c (.int .i64 2))], none⟩, ⟨some 90, .call 24 [(.c (.int .i64 0))], none⟩, ⟨some 91, .mkSl 7 4 [.int .i64 0, .int .i64 0, .nils, .nils, .nils, .int .i64 0, .int .i64 0, .int .i64 0, .int .i64 0, .nils, .nils, .nils, .int .i64 0, .int .i64 0, .int .i64 0, .int .i64 0, .nils, .nils, .nils, .int .i64 0, .int .i64 0, .int .i64 0, .int .i64 0, .nils, .nils, .nils, .int .i64 0, .int .i64 0] [(0, 7, (.t 87)), (7, 7, (.t 88)), (14, 7, (.t 89)), (21, 7, (.t 90))], none⟩, ⟨some 92, .call 25 [(.c (.int .i64 2)), (.t 91)], none⟩, ⟨some 86, .mv (.t 92), none⟩, ⟨some 93, .ext (.t 86) 0, none⟩, ⟨some 94, .ext (.t 86) 1, none⟩, ⟨some 10, .alloc [.int .i64 0, .nils, .int .i64 0], none⟩, ⟨none, .st 3 (.t 10) (.t 93), none⟩, ⟨some 11, .mv (.t 94), none⟩]))
    (.seq (.keep [1, 9, 10, 11] (.ops [⟨some 96, .ld (some 3) (.t 10), none⟩, ⟨some 97, .call 21 [(.t 96)], none⟩, ⟨some 95, .mv (.t 97), none⟩, ⟨some 98, .ext (.t 95) 0, none⟩, ⟨some 99, .ext (.t 95) 1, none⟩, ⟨some 12, .mv (.t 98), none⟩, ⟨some 13, .mv (.t 99), none⟩]))
    (.seq (.keep [1, 9, 10, 11, 12, 13] (.ops [⟨some 101, .call 24 [(.c (.int .i64 0))], none⟩, ⟨some 102, .call 24 [(.c (.int .i64 1))], none⟩, ⟨some 103, .call 24 [(.c (.int .i64 2))], none⟩, ⟨some 104, .mkSl 7 3 [.int .i64 0, .int .i64 0, .nils, .nils, .nils, .int .i64 0, .int .i64 0, .int .i64 0, .int .i64 0, .nils, .nils, .nils, .int .i64 0, .int .i64 0, .int .i64 0, .int .i64 0, .nils, .nils, .nils, .int .i64 0, .int .i64 0] [(0, 7, (.t 101)), (7, 7, (.t 102)), (14, 7, (.t 103))], none⟩, ⟨some 105, .call 25 [(.c (.int .i64 2)), (.t 104)], none⟩, ⟨some 100, .mv (.t 105), none⟩, ⟨some 106, .ext (.t 100) 0, none⟩, ⟨some 107, .ext (.t 100) 1, none⟩, ⟨some 14, .alloc [.int .i64 0, .nils, .int .i64 0], none⟩, ⟨none, .st 3 (.t 14) (.t 106), none⟩, ⟨some 15, .mv (.t 107), none⟩]))
    (.seq (.keep [1, 9, 10, 11, 12, 13, 14] (.drw [⟨some 109, .ld (some 3) (.t 14), none⟩, ⟨some 110, .call 24 [(.c (.int .i64 0))], none⟩, ⟨some 111, .mkSl 7 1 [.int .i64 0, .int .i64 0, .nils, .nils, .nils, .int .i64 0, .int .i64 0] [(0, 7, (.t 110))], none⟩, ⟨some 112, .call 26 [(.t 109), (.c (.int .i64 1)), (.t 111)], none⟩, ⟨some 108, .mv (.t 112), none⟩, ⟨some 113, .ext (.t 108) 0, none⟩, ⟨some 114, .ext (.t 108) 1, none⟩, ⟨none, .st 3 (.t 14) (.t 113), none⟩, ⟨some 16, .mv (.t 114), none⟩] [1, 1, 0, 1, 0, 0, 0, 2, 0]))
    (.seq (.keep [1, 9, 10, 11, 12, 13, 14, 16] (.drw [⟨some 116, .ld (some 3) (.t 14), none⟩, ⟨some 117, .call 24 [(.c (.int .i64 3))], none⟩, ⟨some 118, .call 19 [(.t 116), (.t 117)], none⟩, ⟨some 115, .mv (.t 118), none⟩, ⟨some 119, .ext (.t 115) 0, none⟩, ⟨some 120, .ext (.t 115) 1, none⟩, ⟨some 121, .ext (.t 115) 2, none⟩, ⟨none, .st 3 (.t 14) (.t 119), none⟩, ⟨some 17, .mv (.t 120), none⟩, ⟨some 18, .mv (.t 121), none⟩] [1, 1, 1, 0, 0, 0, 0, 2, 0, 0]))
    (.seq (.keep [1, 9, 10, 11, 12, 13, 14, 16, 17, 18] (.ops [⟨some 122, .mv (.t 11), none⟩, ⟨some 123, .bin .eql (.t 122) (.c (.int .i64 2)), none⟩, ⟨some 124, .mv (.t 123), none⟩, ⟨some 125, .fldA 2 (.t 10), some (124, true)⟩, ⟨some 126, .ld (none) (.t 125), some (124, true)⟩, ⟨some 127, .bin .eql (.t 126) (.c (.int .i64 2)), some (124, true)⟩, ⟨some 128, .pick (.t 124) (.t 127) (.c (.bool false)), none⟩, ⟨some 129, .mv (.t 128), none⟩, ⟨some 130, .mv (.t 13), some (129, true)⟩, ⟨some 131, .bin .eql (.t 130) (.c (.int .i64 0)), some (129, true)⟩, ⟨some 132, .pick (.t 129) (.t 131) (.c (.bool false)), none⟩, ⟨some 133, .mv (.t 132), none⟩, ⟨some 134, .mv (.t 12), some (133, true)⟩, ⟨some 135, .bin .eql (.t 134) (.c (.int .i64 0)), some (133, true)⟩, ⟨some 136, .pick (.t 133) (.t 135) (.c (.bool false)), none⟩, ⟨some 137, .mv (.t 136), none⟩, ⟨some 138, .mv (.t 16), some (137, true)⟩, ⟨some 139, .pick (.t 137) (.t 138) (.c (.bool false)), none⟩, ⟨some 140, .mv (.t 139), none⟩, ⟨some 141, .mv (.t 18), some (140, true)⟩, ⟨some 142, .bin .eql (.t 141) (.c (.int .i64 0)), some (140, true)⟩, ⟨some 143, .pick (.t 140) (.t 142) (.c (.bool false)), none⟩, ⟨some 144, .mv (.t 143), none⟩, ⟨some 145, .mv (.t 17), some (144, true)⟩, ⟨some 146, .un .not (.t 145), some (144, true)⟩, ⟨some 147, .pick (.t 144) (.t 146) (.c (.bool false)), none⟩, ⟨some 148, .mv (.t 147), none⟩, ⟨some 149, .fldA 2 (.t 14), some (148, true)⟩, ⟨some 150, .ld (none) (.t 149), some (148, true)⟩, ⟨some 151, .bin .eql (.t 150) (.c (.int .i64 2)), some (148, true)⟩, ⟨some 152, .pick (.t 148) (.t 151) (.c (.bool false)), none⟩, ⟨some 19, .mv (.t 152), none⟩]))
    (.seq (.keep [1, 9, 19] (.ops [⟨some 154, .call 24 [(.c (.int .i64 0))], none⟩, ⟨some 155, .mkSl 7 1 [.int .i64 0, .int .i64 0, .nils, .nils, .nils, .int .i64 0, .int .i64 0] [(0, 7, (.t 154))], none⟩, ⟨some 156, .call 25 [(.c (.int .i64 0)), (.t 155)], none⟩, ⟨some 153, .mv (.t 156), none⟩, ⟨some 157, .ext (.t 153) 0, none⟩, ⟨some 158, .ext (.t 153) 1, none⟩, ⟨some 20, .alloc [.int .i64 0, .nils, .int .i64 0], none⟩, ⟨none, .st 3 (.t 20) (.t 157), none⟩, ⟨some 21, .mv (.t 158), none⟩]))
    (.seq (.keep [1, 9, 19, 20, 21] (.drw [⟨some 160, .ld (some 3) (.t 20), none⟩, ⟨some 161, .call 27 [(.c (.int .i64 1))], none⟩, ⟨some 162, .mkSl 7 1 [.int .i64 0, .int .i64 0, .nils, .nils, .nils, .int .i64 0, .int .i64 0] [(0, 7, (.t 161))], none⟩, ⟨some 163, .call 26 [(.t 160), (.c (.int .i64 1)), (.t 162)], none⟩, ⟨some 159, .mv (.t 163), none⟩, ⟨some 164, .ext (.t 159) 0, none⟩, ⟨some 165, .ext (.t 159) 1, none⟩, ⟨some 22, .alloc [.int .i64 0, .nils, .int .i64 0], none⟩, ⟨none, .st 3 (.t 22) (.t 164), none⟩, ⟨some 23, .mv (.t 165), none⟩] [1, 1, 0, 1, 0, 0, 0, 3, 2, 0]))
    (.seq (.keep [1, 9, 19, 21, 23] (.ops [⟨some 167, .call 12 [(.c (.int .i64 65))], none⟩, ⟨some 166, .mv (.t 167), none⟩, ⟨some 168, .ext (.t 166) 0, none⟩, ⟨some 169, .ext (.t 166) 1, none⟩, ⟨some 24, .alloc [.int .i64 0, .nils, .int .i64 0], none⟩, ⟨none, .st 3 (.t 24) (.t 168), none⟩, ⟨some 25, .mv (.t 169), none⟩]))
    (.seq (.keep [1, 9, 19, 21, 23, 25] (.ops [⟨some 171, .ld (some 3) (.t 1), none⟩, ⟨some 172, .call 28 [(.t 171), (.c (.int .i64 0))], none⟩, ⟨some 170, .mv (.t 172), none⟩, ⟨some 173, .ext (.t 170) 0, none⟩, ⟨some 174, .ext (.t 170) 1, none⟩, ⟨some 175, .ext (.t 170) 2, none⟩, ⟨some 26, .alloc [.int .i64 0, .nils, .int .i64 0], none⟩, ⟨none, .st 3 (.t 26) (.t 173), none⟩, ⟨some 27, .mv (.t 174), none⟩, ⟨some 28, .mv (.t 175), none⟩]))
    (.seq (.keep [1, 9, 19, 21, 23, 25, 28] (.ops [⟨some 177, .ld (some 3) (.t 1), none⟩, ⟨some 178, .call 28 [(.t 177), (.c (.int .i64 65))], none⟩, ⟨some 176, .mv (.t 178), none⟩, ⟨some 179, .ext (.t 176) 0, none⟩, ⟨some 180, .ext (.t 176) 1, none⟩, ⟨some 181, .ext (.t 176) 2, none⟩, ⟨some 29, .alloc [.int .i64 0, .nils, .int .i64 0], none⟩, ⟨none, .st 3 (.t 29) (.t 179), none⟩, ⟨some 30, .mv (.t 180), none⟩, ⟨some 31, .mv (.t 181), none⟩]))
    (.seq (.keep [9, 19, 21, 23, 25, 28, 31] (.ops [⟨some 182, .call 9 [], none⟩, ⟨some 183, .mv (.t 182), none⟩, ⟨some 184, .mv (.t 9), some (183, true)⟩, ⟨some 185, .pick (.t 183) (.t 184) (.c (.bool false)), none⟩, ⟨some 186, .mv (.t 185), none⟩, ⟨some 187, .mv (.t 19), some (186, true)⟩, ⟨some 188, .pick (.t 186) (.t 187) (.c (.bool false)), none⟩, ⟨some 189, .mv (.t 188), none⟩, ⟨some 190, .mv (.t 21), some (189, true)⟩, ⟨some 191, .bin .eql (.t 190) (.c (.int .i64 0)), some (189, true)⟩, ⟨some 192, .pick (.t 189) (.t 191) (.c (.bool false)), none⟩, ⟨some 193, .mv (.t 192), none⟩, ⟨some 194, .mv (.t 23), some (193, true)⟩, ⟨some 195, .pick (.t 193) (.t 194) (.c (.bool false)), none⟩, ⟨some 196, .mv (.t 195), none⟩, ⟨some 197, .mv (.t 25), some (196, true)⟩, ⟨some 198, .bin .eql (.t 197) (.c (.int .i64 2)), some (196, true)⟩, ⟨some 199, .pick (.t 196) (.t 198) (.c (.bool false)), none⟩, ⟨some 200, .mv (.t 199), none⟩, ⟨some 201, .mv (.t 28), some (200, true)⟩, ⟨some 202, .bin .eql (.t 201) (.c (.int .i64 2)), some (200, true)⟩, ⟨some 203, .pick (.t 200) (.t 202) (.c (.bool false)), none⟩, ⟨some 204, .mv (.t 203), none⟩, ⟨some 205, .mv (.t 31), some (204, true)⟩, ⟨some 206, .bin .eql (.t 205) (.c (.int .i64 2)), some (204, true)⟩, ⟨some 207, .pick (.t 204) (.t 206) (.c (.bool false)), none⟩, ⟨some 208, .mv (.t 207), none⟩, ⟨some 209, .call 24 [(.c (.int .i64 0))], some (208, true)⟩, ⟨some 210, .call 24 [(.c (.int .i64 1))], some (208, true)⟩, ⟨some 211, .mkSl 7 2 [.int .i64 0, .int .i64 0, .nils, .nils, .nils, .int .i64 0, .int .i64 0, .int .i64 0, .int .i64 0, .nils, .nils, .nils, .int .i64 0, .int .i64 0] [(0, 7, (.t 209)), (7, 7, (.t 210))], some (208, true)⟩, ⟨some 212, .bld [.int .i64 0, .nils, .int .i64 0] [(0, 1, (.c (.int .i64 1))), (1, 1, (.t 211))], some (208, true)⟩, ⟨some 213, .call 15 [(.t 212)], some (208, true)⟩, ⟨some 214, .bin .eql (.t 213) (.c (.int .i64 6)), some (208, true)⟩, ⟨some 215, .pick (.t 208) (.t 214) (.c (.bool false)), none⟩, ⟨some 0, .mv (.t 215), none⟩]))
    .ret)))))))))))))))))), [.t 0], 216⟩
theorem eb4 : fB Try.prog 4 ec4 = true := by kernel_rfl

/-- partywall/partywalllaw26.QueueParts -/
def ec5 : CF := ⟨(.seq (.keep [0, 1, 2] (.ops [⟨some 6, .mv (.c (.bool false)), none⟩]))
    (.seq (.keep [0, 1, 2] (.ops [⟨some 28, .call 4 [], none⟩, ⟨some 7, .mv (.t 28), none⟩]))
    (.seq (.keep [0, 1, 2, 7] (.ops [⟨some 29, .mv (.t 0), none⟩, ⟨some 30, .call 29 [(.t 29), (.c (.int .i64 21))], none⟩, ⟨some 0, .mv (.t 30), none⟩]))
    (.seq (.keep [0, 1, 2, 7] (.ops [⟨some 31, .mv (.t 1), none⟩, ⟨some 32, .call 30 [(.t 31)], none⟩, ⟨some 8, .mv (.t 32), none⟩]))
    (.seq (.keep [0, 2, 7, 8] (.ops [⟨some 33, .mv (.t 2), none⟩, ⟨some 34, .mv (.t 8), none⟩, ⟨some 35, .len (.t 34), none⟩, ⟨some 36, .bin .add (.t 35) (.c (.int .i64 1)), none⟩, ⟨some 37, .call 29 [(.t 33), (.t 36)], none⟩, ⟨some 2, .mv (.t 37), none⟩]))
    (.seq (.keep [0, 2, 7, 8] (.ops [⟨some 39, .mv (.t 0), none⟩, ⟨some 40, .mv (.t 8), none⟩, ⟨some 41, .call 25 [(.t 39), (.t 40)], none⟩, ⟨some 38, .mv (.t 41), none⟩, ⟨some 42, .ext (.t 38) 0, none⟩, ⟨some 43, .ext (.t 38) 1, none⟩, ⟨some 9, .alloc [.int .i64 0, .nils, .int .i64 0], none⟩, ⟨none, .st 3 (.t 9) (.t 42), none⟩, ⟨some 10, .mv (.t 43), none⟩]))
    (.seq (.keep [0, 2, 7, 8, 9] (.ops [⟨some 45, .mv (.t 0), none⟩, ⟨some 46, .mv (.t 8), none⟩, ⟨some 47, .mv (.t 2), none⟩, ⟨some 48, .slc 7 (.t 46) none (some (.t 47)) none, none⟩, ⟨some 49, .call 25 [(.t 45), (.t 48)], none⟩, ⟨some 44, .mv (.t 49), none⟩, ⟨some 50, .ext (.t 44) 0, none⟩, ⟨some 51, .ext (.t 44) 1, none⟩, ⟨some 11, .alloc [.int .i64 0, .nils, .int .i64 0], none⟩, ⟨none, .st 3 (.t 11) (.t 50), none⟩, ⟨some 12, .mv (.t 51), none⟩]))
    (.seq (.keep [2, 7, 8, 9, 11] (.drw [⟨some 53, .ld (some 3) (.t 11), none⟩, ⟨some 54, .mv (.t 8), none⟩, ⟨some 55, .mv (.t 2), none⟩, ⟨some 56, .slc 7 (.t 54) (some (.t 55)) none none, none⟩, ⟨some 57, .call 17 [(.t 53), (.t 56)], none⟩, ⟨some 52, .mv (.t 57), none⟩, ⟨some 58, .ext (.t 52) 0, none⟩, ⟨some 59, .ext (.t 52) 1, none⟩, ⟨some 60, .ext (.t 52) 2, none⟩, ⟨none, .st 3 (.t 11) (.t 58), none⟩, ⟨some 13, .mv (.t 59), none⟩, ⟨some 14, .mv (.t 60), none⟩] [1, 0, 0, 0, 1, 0, 0, 0, 0, 2, 0, 0]))
    (.seq (.seq (.keep [2, 7, 8, 9, 11, 13, 14] (.ops [⟨some 61, .mv (.t 14), none⟩, ⟨some 62, .bin .neq (.t 61) (.c (.int .i64 0)), none⟩, ⟨some 63, .mv (.t 62), none⟩, ⟨some 64, .ld (some 3) (.t 11), some (63, false)⟩, ⟨some 65, .ld (some 3) (.t 9), some (63, false)⟩, ⟨some 66, .call 14 [(.t 64), (.t 65)], some (63, false)⟩, ⟨some 67, .un .not (.t 66), some (63, false)⟩, ⟨some 68, .pick (.t 63) (.c (.bool true)) (.t 67), none⟩, ⟨some 69, .mv (.t 68), none⟩, ⟨some 70, .mv (.t 13), some (69, false)⟩, ⟨some 71, .mv (.t 8), some (69, false)⟩, ⟨some 72, .len (.t 71), some (69, false)⟩, ⟨some 73, .mv (.t 2), some (69, false)⟩, ⟨some 74, .bin .sub (.t 72) (.t 73), some (69, false)⟩, ⟨some 75, .bin .gtr (.t 70) (.t 74), some (69, false)⟩, ⟨some 76, .pick (.t 69) (.c (.bool true)) (.t 75), none⟩]))
    (.cond (.t 76)
      (.seq (.keep [] (.ops [⟨some 6, .mv (.c (.bool false)), none⟩]))
      .ret)
      .skip))
    (.seq (.keep [7, 9, 11] (.ops [⟨some 78, .ld (some 3) (.t 9), none⟩, ⟨some 79, .call 31 [(.t 78)], none⟩, ⟨some 77, .mv (.t 79), none⟩, ⟨some 80, .ext (.t 77) 0, none⟩, ⟨some 81, .ext (.t 77) 1, none⟩, ⟨some 15, .mv (.t 80), none⟩, ⟨some 16, .mv (.t 81), none⟩]))
    (.seq (.keep [7, 9, 11, 15, 16] (.ops [⟨some 17, .mv (.c .nils), none⟩]))
    (.seq (.seq (.keep [7, 9, 11, 15, 16, 17] (.ops [⟨some 18, .mv (.c (.int .i64 0)), none⟩]))
    (.block 0 (.loop (.seq (.seq (.keep [7, 9, 11, 15, 16, 17, 18] (.ops [⟨some 82, .mv (.t 18), none⟩, ⟨some 83, .bin .lss (.t 82) (.c (.int .i64 40)), none⟩]))
    (.cond (.t 83)
      .skip
      (.exit 0)))
    (.seq (.block 1 (.seq (.keep [7, 9, 11, 15, 16, 17, 18] (.ops [⟨some 87, .ld (some 3) (.t 11), none⟩, ⟨some 88, .call 28 [(.t 87), (.c (.int .i64 1))], none⟩, ⟨some 86, .mv (.t 88), none⟩, ⟨some 89, .ext (.t 86) 0, none⟩, ⟨some 90, .ext (.t 86) 1, none⟩, ⟨some 91, .ext (.t 86) 2, none⟩, ⟨some 19, .alloc [.int .i64 0, .nils, .int .i64 0], none⟩, ⟨none, .st 3 (.t 19) (.t 89), none⟩, ⟨some 20, .mv (.t 90), none⟩, ⟨some 21, .mv (.t 91), none⟩]))
    (.seq (.seq (.keep [7, 9, 11, 15, 16, 17, 18, 19, 20, 21] (.ops [⟨some 92, .mv (.t 21), none⟩, ⟨some 93, .bin .neq (.t 92) (.c (.int .i64 0)), none⟩, ⟨some 94, .mv (.t 93), none⟩, ⟨some 95, .mv (.t 20), some (94, false)⟩, ⟨some 96, .len (.t 95), some (94, false)⟩, ⟨some 97, .bin .gtr (.t 96) (.c (.int .i64 1)), some (94, false)⟩, ⟨some 98, .pick (.t 94) (.c (.bool true)) (.t 97), none⟩]))
    (.cond (.t 98)
      (.seq (.keep [] (.ops [⟨some 6, .mv (.c (.bool false)), none⟩]))
      .ret)
      .skip))
    (.seq (.seq (.keep [7, 9, 11, 15, 16, 17, 18, 19, 20] (.ops [⟨some 99, .mv (.t 20), none⟩, ⟨some 100, .len (.t 99), none⟩, ⟨some 101, .bin .eql (.t 100) (.c (.int .i64 0)), none⟩]))
    (.cond (.t 101)
      (.exit 0)
      .skip))
    (.keep [7, 9, 11, 15, 16, 17, 18, 19, 20] (.drw [⟨some 102, .mv (.t 17), none⟩, ⟨some 103, .mv (.t 20), none⟩, ⟨some 104, .app false 42 7 104 (.t 102) (.t 103), none⟩, ⟨some 105, .ld (some 3) (.t 19), none⟩, ⟨some 17, .mv (.t 104), none⟩, ⟨none, .st 3 (.t 11) (.t 105), none⟩] [0, 0, 0, 1, 0, 2]))))))
    (.keep [7, 9, 11, 15, 16, 17, 18] (.ops [⟨some 84, .mv (.t 18), none⟩, ⟨some 85, .bin .add (.t 84) (.c (.int .i64 1)), none⟩, ⟨some 18, .mv (.t 85), none⟩])))))))
    (.seq (.seq (.keep [7, 9, 15, 16, 17] (.ops [⟨some 106, .mv (.t 16), none⟩, ⟨some 107, .bin .neq (.t 106) (.c (.int .i64 0)), none⟩, ⟨some 108, .mv (.t 107), none⟩, ⟨some 109, .mv (.t 17), some (108, false)⟩, ⟨some 110, .mv (.t 15), some (108, false)⟩, ⟨some 111, .call 23 [(.t 109), (.t 110)], some (108, false)⟩, ⟨some 112, .un .not (.t 111), some (108, false)⟩, ⟨some 113, .pick (.t 108) (.c (.bool true)) (.t 112), none⟩]))
    (.cond (.t 113)
      (.seq (.keep [] (.ops [⟨some 6, .mv (.c (.bool false)), none⟩]))
      .ret)
      .skip))
    (.seq (.seq (.keep [7, 9] (.ops [⟨some 114, .fldA 2 (.t 9), none⟩, ⟨some 115, .ld (none) (.t 114), none⟩, ⟨some 116, .bin .eql (.t 115) (.c (.int .i64 0)), none⟩]))
    (.cond (.t 116)
      (.seq (.keep [7] (.ops [⟨some 117, .mv (.t 7), none⟩, ⟨some 6, .mv (.t 117), none⟩]))
      .ret)
      .skip))
    (.seq (.keep [7, 9] (.ops [⟨some 119, .ld (some 3) (.t 9), none⟩, ⟨some 120, .fldA 1 (.t 9), none⟩, ⟨some 121, .ld (none) (.t 120), none⟩, ⟨some 122, .len (.t 121), none⟩, ⟨some 123, .mm true (.c (.int .i64 1)) (.t 122), none⟩, ⟨some 124, .call 28 [(.t 119), (.t 123)], none⟩, ⟨some 118, .mv (.t 124), none⟩, ⟨some 125, .ext (.t 118) 0, none⟩, ⟨some 126, .ext (.t 118) 1, none⟩, ⟨some 127, .ext (.t 118) 2, none⟩, ⟨some 22, .alloc [.int .i64 0, .nils, .int .i64 0], none⟩, ⟨none, .st 3 (.t 22) (.t 125), none⟩, ⟨some 23, .mv (.t 126), none⟩, ⟨some 24, .mv (.t 127), none⟩]))
    (.seq (.seq (.keep [7, 9, 22, 24] (.ops [⟨some 128, .fldA 1 (.t 9), none⟩, ⟨some 129, .ld (none) (.t 128), none⟩, ⟨some 130, .len (.t 129), none⟩, ⟨some 131, .bin .eql (.t 130) (.c (.int .i64 0)), none⟩]))
    (.cond (.t 131)
      (.seq (.keep [7, 22, 24] (.ops [⟨some 132, .mv (.t 7), none⟩, ⟨some 133, .mv (.t 132), none⟩, ⟨some 134, .mv (.t 24), some (133, true)⟩, ⟨some 135, .bin .eql (.t 134) (.c (.int .i64 0)), some (133, true)⟩, ⟨some 136, .pick (.t 133) (.t 135) (.c (.bool false)), none⟩, ⟨some 137, .mv (.t 136), none⟩, ⟨some 138, .fldA 2 (.t 22), some (137, true)⟩, ⟨some 139, .ld (none) (.t 138), some (137, true)⟩, ⟨some 140, .bin .eql (.t 139) (.c (.int .i64 0)), some (137, true)⟩, ⟨some 141, .pick (.t 137) (.t 140) (.c (.bool false)), none⟩, ⟨some 6, .mv (.t 141), none⟩]))
      .ret)
      .skip))
    (.seq (.keep [7, 9, 22, 24] (.drw [⟨some 143, .ld (some 3) (.t 22), none⟩, ⟨some 144, .call 24 [(.c (.int .i64 1))], none⟩, ⟨some 145, .call 19 [(.t 143), (.t 144)], none⟩, ⟨some 142, .mv (.t 145), none⟩, ⟨some 146, .ext (.t 142) 0, none⟩, ⟨some 147, .ext (.t 142) 1, none⟩, ⟨some 148, .ext (.t 142) 2, none⟩, ⟨some 25, .alloc [.int .i64 0, .nils, .int .i64 0], none⟩, ⟨none, .st 3 (.t 25) (.t 146), none⟩, ⟨some 26, .mv (.t 147), none⟩, ⟨some 27, .mv (.t 148), none⟩] [1, 1, 1, 0, 0, 0, 0, 3, 2, 0, 0]))
    (.seq (.keep [7, 9, 24, 25, 26, 27] (.ops [⟨some 149, .mv (.t 7), none⟩, ⟨some 150, .mv (.t 149), none⟩, ⟨some 151, .mv (.t 24), some (150, true)⟩, ⟨some 152, .bin .eql (.t 151) (.c (.int .i64 0)), some (150, true)⟩, ⟨some 153, .pick (.t 150) (.t 152) (.c (.bool false)), none⟩, ⟨some 154, .mv (.t 153), none⟩, ⟨some 155, .mv (.t 27), some (154, true)⟩, ⟨some 156, .bin .eql (.t 155) (.c (.int .i64 0)), some (154, true)⟩, ⟨some 157, .pick (.t 154) (.t 156) (.c (.bool false)), none⟩, ⟨some 158, .mv (.t 157), none⟩, ⟨some 159, .mv (.t 26), some (158, true)⟩, ⟨some 160, .un .not (.t 159), some (158, true)⟩, ⟨some 161, .pick (.t 158) (.t 160) (.c (.bool false)), none⟩, ⟨some 162, .mv (.t 161), none⟩, ⟨some 163, .fldA 2 (.t 25), some (162, true)⟩, ⟨some 164, .ld (none) (.t 163), some (162, true)⟩, ⟨some 165, .fldA 2 (.t 9), some (162, true)⟩, ⟨some 166, .ld (none) (.t 165), some (162, true)⟩, ⟨some 167, .bin .add (.t 166) (.c (.int .i64 1)), some (162, true)⟩, ⟨some 168, .bin .eql (.t 164) (.t 167), some (162, true)⟩, ⟨some 169, .pick (.t 162) (.t 168) (.c (.bool false)), none⟩, ⟨some 170, .mv (.t 169), none⟩, ⟨some 171, .fldA 1 (.t 25), some (170, true)⟩, ⟨some 172, .ld (none) (.t 171), some (170, true)⟩, ⟨some 173, .len (.t 172), some (170, true)⟩, ⟨some 174, .bin .eql (.t 173) (.c (.int .i64 0)), some (170, true)⟩, ⟨some 175, .pick (.t 170) (.t 174) (.c (.bool false)), none⟩, ⟨some 6, .mv (.t 175), none⟩]))
    .ret)))))))))))))))))), [.t 6], 176⟩
theorem eb5 : fB Try.prog 5 ec5 = true := by kernel_rfl

/-- partywall/partywalllaw26.QueuePolls -/
def ec6 : CF := ⟨(.seq (.keep [0, 1, 2] (.ops [⟨some 3, .box 3 (.t 0), none⟩, ⟨some 6, .mv (.c (.bool false)), none⟩]))
    (.seq (.seq (.keep [1, 2, 3] (.ops [⟨some 20, .fldA 1 (.t 3), none⟩, ⟨some 21, .ld (none) (.t 20), none⟩, ⟨some 22, .call 8 [(.t 21)], none⟩, ⟨some 23, .un .not (.t 22), none⟩, ⟨some 24, .mv (.t 23), none⟩, ⟨some 25, .mv (.t 1), some (24, false)⟩, ⟨some 26, .call 8 [(.t 25)], some (24, false)⟩, ⟨some 27, .un .not (.t 26), some (24, false)⟩, ⟨some 28, .pick (.t 24) (.c (.bool true)) (.t 27), none⟩]))
    (.cond (.t 28)
      (.seq (.keep [] (.ops [⟨some 29, .call 9 [], none⟩, ⟨some 6, .mv (.t 29), none⟩]))
      .ret)
      .skip))
    (.seq (.keep [1, 2, 3] (.ops [⟨some 30, .ld (some 3) (.t 3), none⟩, ⟨some 31, .call 10 [(.t 30)], none⟩, ⟨some 7, .alloc [.int .i64 0, .nils, .int .i64 0], none⟩, ⟨none, .st 3 (.t 7) (.t 31), none⟩]))
    (.seq (.keep [1, 2, 3, 7] (.ops [⟨some 33, .ld (some 3) (.t 7), none⟩, ⟨some 34, .mv (.t 2), none⟩, ⟨some 35, .call 28 [(.t 33), (.t 34)], none⟩, ⟨some 32, .mv (.t 35), none⟩, ⟨some 36, .ext (.t 32) 0, none⟩, ⟨some 37, .ext (.t 32) 1, none⟩, ⟨some 38, .ext (.t 32) 2, none⟩, ⟨some 8, .alloc [.int .i64 0, .nils, .int .i64 0], none⟩, ⟨none, .st 3 (.t 8) (.t 36), none⟩, ⟨some 9, .mv (.t 37), none⟩, ⟨some 10, .mv (.t 38), none⟩]))
    (.seq (.keep [1, 2, 3, 7, 8, 9, 10] (.ops [⟨some 40, .ld (some 3) (.t 3), none⟩, ⟨some 41, .mv (.t 2), none⟩, ⟨some 42, .call 32 [(.t 40), (.t 41)], none⟩, ⟨some 39, .mv (.t 42), none⟩, ⟨some 43, .ext (.t 39) 0, none⟩, ⟨some 44, .ext (.t 39) 1, none⟩, ⟨some 45, .ext (.t 39) 2, none⟩, ⟨some 11, .alloc [.int .i64 0, .nils, .int .i64 0], none⟩, ⟨none, .st 3 (.t 11) (.t 43), none⟩, ⟨some 12, .mv (.t 44), none⟩, ⟨some 13, .mv (.t 45), none⟩]))
    (.seq (.seq (.keep [1, 3, 7, 8, 9, 10, 11, 12, 13] (.ops [⟨some 46, .ld (some 3) (.t 8), none⟩, ⟨some 47, .ld (some 3) (.t 11), none⟩, ⟨some 48, .call 14 [(.t 46), (.t 47)], none⟩, ⟨some 49, .un .not (.t 48), none⟩, ⟨some 50, .mv (.t 49), none⟩, ⟨some 51, .mv (.t 9), some (50, false)⟩, ⟨some 52, .mv (.t 12), some (50, false)⟩, ⟨some 53, .call 23 [(.t 51), (.t 52)], some (50, false)⟩, ⟨some 54, .un .not (.t 53), some (50, false)⟩, ⟨some 55, .pick (.t 50) (.c (.bool true)) (.t 54), none⟩, ⟨some 56, .mv (.t 55), none⟩, ⟨some 57, .mv (.t 10), some (56, false)⟩, ⟨some 58, .mv (.t 13), some (56, false)⟩, ⟨some 59, .bin .neq (.t 57) (.t 58), some (56, false)⟩, ⟨some 60, .pick (.t 56) (.c (.bool true)) (.t 59), none⟩]))
    (.cond (.t 60)
      (.seq (.keep [] (.ops [⟨some 6, .mv (.c (.bool false)), none⟩]))
      .ret)
      .skip))
    (.seq (.keep [1, 3, 7] (.ops [⟨some 62, .ld (some 3) (.t 7), none⟩, ⟨some 63, .call 31 [(.t 62)], none⟩, ⟨some 61, .mv (.t 63), none⟩, ⟨some 64, .ext (.t 61) 0, none⟩, ⟨some 65, .ext (.t 61) 1, none⟩, ⟨some 9, .mv (.t 64), none⟩, ⟨some 10, .mv (.t 65), none⟩]))
    (.seq (.keep [1, 3, 7, 9, 10] (.ops [⟨some 67, .ld (some 3) (.t 3), none⟩, ⟨some 68, .call 33 [(.t 67)], none⟩, ⟨some 66, .mv (.t 68), none⟩, ⟨some 69, .ext (.t 66) 0, none⟩, ⟨some 70, .ext (.t 66) 1, none⟩, ⟨some 12, .mv (.t 69), none⟩, ⟨some 13, .mv (.t 70), none⟩]))
    (.seq (.seq (.keep [1, 3, 7, 9, 10, 12, 13] (.ops [⟨some 71, .mv (.t 9), none⟩, ⟨some 72, .mv (.t 12), none⟩, ⟨some 73, .call 23 [(.t 71), (.t 72)], none⟩, ⟨some 74, .un .not (.t 73), none⟩, ⟨some 75, .mv (.t 74), none⟩, ⟨some 76, .mv (.t 10), some (75, false)⟩, ⟨some 77, .mv (.t 13), some (75, false)⟩, ⟨some 78, .bin .neq (.t 76) (.t 77), some (75, false)⟩, ⟨some 79, .pick (.t 75) (.c (.bool true)) (.t 78), none⟩]))
    (.cond (.t 79)
      (.seq (.keep [] (.ops [⟨some 6, .mv (.c (.bool false)), none⟩]))
      .ret)
      .skip))
    (.seq (.keep [1, 3, 7] (.ops [⟨some 81, .mv (.t 1), none⟩, ⟨some 82, .call 34 [(.t 81)], none⟩, ⟨some 80, .mv (.t 82), none⟩, ⟨some 83, .ext (.t 80) 0, none⟩, ⟨some 84, .ext (.t 80) 1, none⟩, ⟨some 85, .ext (.t 80) 2, none⟩, ⟨some 14, .mv (.t 83), none⟩, ⟨some 15, .mv (.t 84), none⟩, ⟨some 16, .mv (.t 85), none⟩]))
    (.seq (.keep [1, 3, 7, 14, 15, 16] (.ops [⟨some 87, .mv (.t 1), none⟩, ⟨some 88, .call 35 [(.t 87)], none⟩, ⟨some 86, .mv (.t 88), none⟩, ⟨some 89, .ext (.t 86) 0, none⟩, ⟨some 90, .ext (.t 86) 1, none⟩, ⟨some 91, .ext (.t 86) 2, none⟩, ⟨some 17, .mv (.t 89), none⟩, ⟨some 18, .mv (.t 90), none⟩, ⟨some 19, .mv (.t 91), none⟩]))
    (.seq (.keep [3, 7, 14, 15, 16, 17, 18, 19] (.ops [⟨some 92, .mv (.t 14), none⟩, ⟨some 93, .mv (.t 17), none⟩, ⟨some 94, .bin .eql (.t 92) (.t 93), none⟩, ⟨some 95, .mv (.t 94), none⟩, ⟨some 96, .mv (.t 15), some (95, true)⟩, ⟨some 97, .mv (.t 18), some (95, true)⟩, ⟨some 98, .bin .eql (.t 96) (.t 97), some (95, true)⟩, ⟨some 99, .pick (.t 95) (.t 98) (.c (.bool false)), none⟩, ⟨some 100, .mv (.t 99), none⟩, ⟨some 101, .mv (.t 16), some (100, true)⟩, ⟨some 102, .mv (.t 19), some (100, true)⟩, ⟨some 103, .bin .eql (.t 101) (.t 102), some (100, true)⟩, ⟨some 104, .pick (.t 100) (.t 103) (.c (.bool false)), none⟩, ⟨some 105, .mv (.t 104), none⟩, ⟨some 106, .ld (some 3) (.t 7), some (105, true)⟩, ⟨some 107, .ld (some 3) (.t 3), some (105, true)⟩, ⟨some 108, .call 14 [(.t 106), (.t 107)], some (105, true)⟩, ⟨some 109, .pick (.t 105) (.t 108) (.c (.bool false)), none⟩, ⟨some 110, .mv (.t 109), none⟩, ⟨some 111, .call 9 [], some (110, true)⟩, ⟨some 112, .pick (.t 110) (.t 111) (.c (.bool false)), none⟩, ⟨some 6, .mv (.t 112), none⟩]))
    .ret)))))))))))), [.t 6], 113⟩
theorem eb6 : fB Try.prog 6 ec6 = true := by kernel_rfl

/-- partywall/partywalllaw26.QueueKeeps -/
def ec7 : CF := ⟨(.seq (.keep [0, 1] (.ops [⟨some 4, .mv (.c (.bool false)), none⟩]))
    (.seq (.keep [0, 1] (.ops [⟨some 17, .call 4 [], none⟩, ⟨some 5, .mv (.t 17), none⟩]))
    (.seq (.keep [0, 1, 5] (.ops [⟨some 18, .mv (.t 0), none⟩, ⟨some 19, .call 29 [(.t 18), (.c (.int .i64 21))], none⟩, ⟨some 0, .mv (.t 19), none⟩]))
    (.seq (.keep [0, 1, 5] (.ops [⟨some 20, .mv (.t 1), none⟩, ⟨some 21, .call 30 [(.t 20)], none⟩, ⟨some 6, .mv (.t 21), none⟩]))
    (.seq (.keep [0, 5, 6] (.ops [⟨some 23, .mv (.t 0), none⟩, ⟨some 24, .mv (.t 6), none⟩, ⟨some 25, .call 25 [(.t 23), (.t 24)], none⟩, ⟨some 22, .mv (.t 25), none⟩, ⟨some 26, .ext (.t 22) 0, none⟩, ⟨some 27, .ext (.t 22) 1, none⟩, ⟨some 7, .alloc [.int .i64 0, .nils, .int .i64 0], none⟩, ⟨none, .st 3 (.t 7) (.t 26), none⟩, ⟨some 8, .mv (.t 27), none⟩]))
    (.seq (.seq (.keep [0, 5, 6, 7, 8] (.drw [⟨some 28, .mv (.t 8), none⟩, ⟨some 29, .mv (.t 0), none⟩, ⟨some 30, .mv (.t 6), none⟩, ⟨some 31, .len (.t 30), none⟩, ⟨some 32, .mm false (.t 29) (.t 31), none⟩, ⟨some 33, .bin .neq (.t 28) (.t 32), none⟩, ⟨some 34, .mv (.t 33), none⟩, ⟨some 35, .fldA 1 (.t 7), some (34, false)⟩, ⟨some 36, .ld (none) (.t 35), some (34, false)⟩, ⟨some 37, .len (.t 36), some (34, false)⟩, ⟨some 38, .mv (.t 8), some (34, false)⟩, ⟨some 39, .bin .neq (.t 37) (.t 38), some (34, false)⟩, ⟨some 40, .pick (.t 34) (.c (.bool true)) (.t 39), none⟩, ⟨some 41, .mv (.t 40), none⟩, ⟨some 42, .fldA 2 (.t 7), some (41, false)⟩, ⟨some 43, .ld (none) (.t 42), some (41, false)⟩, ⟨some 44, .mv (.t 6), some (41, false)⟩, ⟨some 45, .len (.t 44), some (41, false)⟩, ⟨some 46, .mv (.t 8), some (41, false)⟩, ⟨some 47, .bin .sub (.t 45) (.t 46), some (41, false)⟩, ⟨some 48, .bin .neq (.t 43) (.t 47), some (41, false)⟩, ⟨some 49, .pick (.t 41) (.c (.bool true)) (.t 48), none⟩, ⟨some 50, .mv (.t 49), none⟩, ⟨some 51, .fldA 1 (.t 7), some (50, false)⟩, ⟨some 52, .ld (none) (.t 51), some (50, false)⟩, ⟨some 53, .mv (.t 6), some (50, false)⟩, ⟨some 54, .mv (.t 8), some (50, false)⟩, ⟨some 55, .slc 7 (.t 53) none (some (.t 54)) none, some (50, false)⟩, ⟨some 56, .call 23 [(.t 52), (.t 55)], some (50, false)⟩, ⟨some 57, .un .not (.t 56), some (50, false)⟩, ⟨some 58, .pick (.t 50) (.c (.bool true)) (.t 57), none⟩] [0, 0, 0, 0, 0, 0, 0, 0, 1, 0, 0, 0, 0, 0, 0, 1, 0, 0, 0, 0, 0, 0, 0, 0, 1, 0, 0, 0, 1, 0, 0]))
    (.cond (.t 58)
      (.seq (.keep [] (.ops [⟨some 4, .mv (.c (.bool false)), none⟩]))
      .ret)
      .skip))
    (.seq (.keep [5, 6, 7, 8] (.ops [⟨some 60, .ld (some 3) (.t 7), none⟩, ⟨some 61, .call 31 [(.t 60)], none⟩, ⟨some 59, .mv (.t 61), none⟩, ⟨some 62, .ext (.t 59) 0, none⟩, ⟨some 63, .ext (.t 59) 1, none⟩, ⟨some 9, .mv (.t 62), none⟩, ⟨some 10, .mv (.t 63), none⟩]))
    (.seq (.keep [5, 6, 7, 8, 9, 10] (.ops [⟨some 65, .ld (some 3) (.t 7), none⟩, ⟨some 66, .call 28 [(.t 65), (.c (.int .i64 64))], none⟩, ⟨some 64, .mv (.t 66), none⟩, ⟨some 67, .ext (.t 64) 0, none⟩, ⟨some 68, .ext (.t 64) 1, none⟩, ⟨some 69, .ext (.t 64) 2, none⟩, ⟨some 11, .alloc [.int .i64 0, .nils, .int .i64 0], none⟩, ⟨none, .st 3 (.t 11) (.t 67), none⟩, ⟨some 12, .mv (.t 68), none⟩, ⟨some 13, .mv (.t 69), none⟩]))
    (.seq (.seq (.keep [5, 6, 8, 9, 10, 11, 12, 13] (.ops [⟨some 70, .mv (.t 10), none⟩, ⟨some 71, .bin .neq (.t 70) (.c (.int .i64 0)), none⟩, ⟨some 72, .mv (.t 71), none⟩, ⟨some 73, .mv (.t 13), some (72, false)⟩, ⟨some 74, .bin .neq (.t 73) (.c (.int .i64 0)), some (72, false)⟩, ⟨some 75, .pick (.t 72) (.c (.bool true)) (.t 74), none⟩, ⟨some 76, .mv (.t 75), none⟩, ⟨some 77, .mv (.t 9), some (76, false)⟩, ⟨some 78, .mv (.t 12), some (76, false)⟩, ⟨some 79, .call 23 [(.t 77), (.t 78)], some (76, false)⟩, ⟨some 80, .un .not (.t 79), some (76, false)⟩, ⟨some 81, .pick (.t 76) (.c (.bool true)) (.t 80), none⟩, ⟨some 82, .mv (.t 81), none⟩, ⟨some 83, .fldA 1 (.t 11), some (82, false)⟩, ⟨some 84, .ld (none) (.t 83), some (82, false)⟩, ⟨some 85, .len (.t 84), some (82, false)⟩, ⟨some 86, .bin .neq (.t 85) (.c (.int .i64 0)), some (82, false)⟩, ⟨some 87, .pick (.t 82) (.c (.bool true)) (.t 86), none⟩, ⟨some 88, .mv (.t 87), none⟩, ⟨some 89, .fldA 2 (.t 11), some (88, false)⟩, ⟨some 90, .ld (none) (.t 89), some (88, false)⟩, ⟨some 91, .bin .neq (.t 90) (.c (.int .i64 0)), some (88, false)⟩, ⟨some 92, .pick (.t 88) (.c (.bool true)) (.t 91), none⟩]))
    (.cond (.t 92)
      (.seq (.keep [] (.ops [⟨some 4, .mv (.c (.bool false)), none⟩]))
      .ret)
      .skip))
    (.seq (.keep [5, 6, 8, 12] (.ops [⟨some 94, .mv (.t 12), none⟩, ⟨some 95, .call 34 [(.t 94)], none⟩, ⟨some 93, .mv (.t 95), none⟩, ⟨some 96, .ext (.t 93) 0, none⟩, ⟨some 97, .ext (.t 93) 1, none⟩, ⟨some 98, .ext (.t 93) 2, none⟩, ⟨some 14, .mv (.t 96), none⟩, ⟨some 15, .mv (.t 97), none⟩, ⟨some 16, .mv (.t 98), none⟩]))
    (.seq (.keep [5, 6, 8, 12, 14, 15, 16] (.ops [⟨some 99, .mv (.t 5), none⟩, ⟨some 100, .mv (.t 99), none⟩, ⟨some 101, .mv (.t 16), some (100, true)⟩, ⟨some 102, .bin .eql (.t 101) (.c (.int .i64 0)), some (100, true)⟩, ⟨some 103, .pick (.t 100) (.t 102) (.c (.bool false)), none⟩, ⟨some 104, .mv (.t 103), none⟩, ⟨some 105, .mv (.t 14), some (104, true)⟩, ⟨some 106, .mv (.t 8), some (104, true)⟩, ⟨some 107, .bin .eql (.t 105) (.t 106), some (104, true)⟩, ⟨some 108, .pick (.t 104) (.t 107) (.c (.bool false)), none⟩, ⟨some 109, .mv (.t 108), none⟩, ⟨some 110, .mv (.t 15), some (109, true)⟩, ⟨some 111, .mv (.t 6), some (109, true)⟩, ⟨some 112, .len (.t 111), some (109, true)⟩, ⟨some 113, .mv (.t 8), some (109, true)⟩, ⟨some 114, .bin .sub (.t 112) (.t 113), some (109, true)⟩, ⟨some 115, .bin .eql (.t 110) (.t 114), some (109, true)⟩, ⟨some 116, .pick (.t 109) (.t 115) (.c (.bool false)), none⟩, ⟨some 117, .mv (.t 116), none⟩, ⟨some 118, .mv (.t 12), some (117, true)⟩, ⟨some 119, .len (.t 118), some (117, true)⟩, ⟨some 120, .mv (.t 8), some (117, true)⟩, ⟨some 121, .mv (.t 15), some (117, true)⟩, ⟨some 122, .mm false (.c (.int .i64 1)) (.t 121), some (117, true)⟩, ⟨some 123, .bin .add (.t 120) (.t 122), some (117, true)⟩, ⟨some 124, .bin .eql (.t 119) (.t 123), some (117, true)⟩, ⟨some 125, .pick (.t 117) (.t 124) (.c (.bool false)), none⟩, ⟨some 4, .mv (.t 125), none⟩]))
    .ret))))))))))), [.t 4], 126⟩
theorem eb7 : fB Try.prog 7 ec7 = true := by kernel_rfl

/-- partywall/partywalllaw26.light -/
def ec8 : CF := ⟨(.seq (.keep [0] (.ops [⟨some 2, .mv (.c (.bool false)), none⟩]))
    (.seq (.seq (.keep [0] (.ops [⟨some 4, .mv (.t 0), none⟩, ⟨some 5, .len (.t 4), none⟩, ⟨some 6, .bin .gtr (.t 5) (.c (.int .i64 80)), none⟩]))
    (.cond (.t 6)
      (.seq (.keep [] (.ops [⟨some 2, .mv (.c (.bool false)), none⟩]))
      .ret)
      .skip))
    (.seq (.seq (.keep [0] (.ops [⟨some 3, .mv (.c (.int .i64 0)), none⟩]))
    (.block 0 (.loop (.seq (.seq (.keep [0, 3] (.ops [⟨some 7, .mv (.t 3), none⟩, ⟨some 8, .mv (.t 0), none⟩, ⟨some 9, .len (.t 8), none⟩, ⟨some 10, .bin .lss (.t 7) (.t 9), none⟩]))
    (.cond (.t 10)
      .skip
      (.exit 0)))
    (.seq (.block 1 (.seq (.keep [0, 3] (.ops [⟨some 13, .mv (.t 0), none⟩, ⟨some 14, .mv (.t 3), none⟩, ⟨some 15, .ixA 7 (.t 13) (.t 14), none⟩, ⟨some 16, .fldA 2 (.t 15), none⟩, ⟨some 17, .ld (none) (.t 16), none⟩, ⟨some 18, .len (.t 17), none⟩, ⟨some 19, .bin .gtr (.t 18) (.c (.int .i64 14)), none⟩, ⟨some 20, .mv (.t 19), none⟩, ⟨some 21, .mv (.t 0), some (20, false)⟩, ⟨some 22, .mv (.t 3), some (20, false)⟩, ⟨some 23, .ixA 7 (.t 21) (.t 22), some (20, false)⟩, ⟨some 24, .fldA 3 (.t 23), some (20, false)⟩, ⟨some 25, .ld (none) (.t 24), some (20, false)⟩, ⟨some 26, .len (.t 25), some (20, false)⟩, ⟨some 27, .bin .gtr (.t 26) (.c (.int .i64 14)), some (20, false)⟩, ⟨some 28, .pick (.t 20) (.c (.bool true)) (.t 27), none⟩, ⟨some 29, .mv (.t 28), none⟩, ⟨some 30, .mv (.t 0), some (29, false)⟩, ⟨some 31, .mv (.t 3), some (29, false)⟩, ⟨some 32, .ixA 7 (.t 30) (.t 31), some (29, false)⟩, ⟨some 33, .fldA 4 (.t 32), some (29, false)⟩, ⟨some 34, .ld (none) (.t 33), some (29, false)⟩, ⟨some 35, .len (.t 34), some (29, false)⟩, ⟨some 36, .bin .gtr (.t 35) (.c (.int .i64 14)), some (29, false)⟩, ⟨some 37, .pick (.t 29) (.c (.bool true)) (.t 36), none⟩]))
    (.cond (.t 37)
      (.seq (.keep [] (.ops [⟨some 2, .mv (.c (.bool false)), none⟩]))
      .ret)
      .skip)))
    (.keep [0, 3] (.ops [⟨some 11, .mv (.t 3), none⟩, ⟨some 12, .bin .add (.t 11) (.c (.int .i64 1)), none⟩, ⟨some 3, .mv (.t 12), none⟩])))))))
    (.seq (.keep [] (.ops [⟨some 2, .mv (.c (.bool true)), none⟩]))
    .ret)))), [.t 2], 38⟩
theorem eb8 : fB Try.prog 8 ec8 = true := by kernel_rfl

/-- partywall/partywalllaw26.awake -/
def ec9 : CF := ⟨(.seq (.keep [] (.ops [⟨some 0, .mv (.c (.bool false)), none⟩]))
    (.seq (.keep [] (.ops [⟨some 9, .call 24 [(.c (.int .i64 0))], none⟩, ⟨some 10, .call 24 [(.c (.int .i64 1))], none⟩, ⟨some 11, .call 24 [(.c (.int .i64 2))], none⟩, ⟨some 12, .mkSl 7 3 [.int .i64 0, .int .i64 0, .nils, .nils, .nils, .int .i64 0, .int .i64 0, .int .i64 0, .int .i64 0, .nils, .nils, .nils, .int .i64 0, .int .i64 0, .int .i64 0, .int .i64 0, .nils, .nils, .nils, .int .i64 0, .int .i64 0] [(0, 7, (.t 9)), (7, 7, (.t 10)), (14, 7, (.t 11))], none⟩, ⟨some 13, .call 25 [(.c (.int .i64 2)), (.t 12)], none⟩, ⟨some 8, .mv (.t 13), none⟩, ⟨some 14, .ext (.t 8) 0, none⟩, ⟨some 15, .ext (.t 8) 1, none⟩, ⟨some 1, .alloc [.int .i64 0, .nils, .int .i64 0], none⟩, ⟨none, .st 3 (.t 1) (.t 14), none⟩, ⟨some 2, .mv (.t 15), none⟩]))
    (.seq (.keep [1, 2] (.drw [⟨some 17, .ld (some 3) (.t 1), none⟩, ⟨some 18, .call 24 [(.c (.int .i64 0))], none⟩, ⟨some 19, .mkSl 7 1 [.int .i64 0, .int .i64 0, .nils, .nils, .nils, .int .i64 0, .int .i64 0] [(0, 7, (.t 18))], none⟩, ⟨some 20, .call 26 [(.t 17), (.c (.int .i64 1)), (.t 19)], none⟩, ⟨some 16, .mv (.t 20), none⟩, ⟨some 21, .ext (.t 16) 0, none⟩, ⟨some 22, .ext (.t 16) 1, none⟩, ⟨some 3, .alloc [.int .i64 0, .nils, .int .i64 0], none⟩, ⟨none, .st 3 (.t 3) (.t 21), none⟩, ⟨some 4, .mv (.t 22), none⟩] [1, 1, 0, 1, 0, 0, 0, 3, 2, 0]))
    (.seq (.keep [1, 2, 3, 4] (.drw [⟨some 24, .ld (some 3) (.t 3), none⟩, ⟨some 25, .call 24 [(.c (.int .i64 1))], none⟩, ⟨some 26, .call 27 [(.c (.int .i64 1))], none⟩, ⟨some 27, .mkSl 7 2 [.int .i64 0, .int .i64 0, .nils, .nils, .nils, .int .i64 0, .int .i64 0, .int .i64 0, .int .i64 0, .nils, .nils, .nils, .int .i64 0, .int .i64 0] [(0, 7, (.t 25)), (7, 7, (.t 26))], none⟩, ⟨some 28, .call 26 [(.t 24), (.c (.int .i64 2)), (.t 27)], none⟩, ⟨some 23, .mv (.t 28), none⟩, ⟨some 29, .ext (.t 23) 0, none⟩, ⟨some 30, .ext (.t 23) 1, none⟩, ⟨none, .st 3 (.t 3) (.t 29), none⟩, ⟨some 5, .mv (.t 30), none⟩] [1, 1, 1, 0, 1, 0, 0, 0, 2, 0]))
    (.seq (.keep [1, 2, 3, 4, 5] (.ops [⟨some 32, .ld (some 3) (.t 3), none⟩, ⟨some 33, .call 26 [(.t 32), (.c (.int .i64 1)), (.c .nils)], none⟩, ⟨some 31, .mv (.t 33), none⟩, ⟨some 34, .ext (.t 31) 0, none⟩, ⟨some 35, .ext (.t 31) 1, none⟩, ⟨some 6, .alloc [.int .i64 0, .nils, .int .i64 0], none⟩, ⟨none, .st 3 (.t 6) (.t 34), none⟩, ⟨some 7, .mv (.t 35), none⟩]))
    (.seq (.keep [1, 2, 4, 5, 7] (.ops [⟨some 36, .mv (.t 2), none⟩, ⟨some 37, .bin .eql (.t 36) (.c (.int .i64 2)), none⟩, ⟨some 38, .mv (.t 37), none⟩, ⟨some 39, .fldA 2 (.t 1), some (38, true)⟩, ⟨some 40, .ld (none) (.t 39), some (38, true)⟩, ⟨some 41, .bin .eql (.t 40) (.c (.int .i64 1)), some (38, true)⟩, ⟨some 42, .pick (.t 38) (.t 41) (.c (.bool false)), none⟩, ⟨some 43, .mv (.t 42), none⟩, ⟨some 44, .mv (.t 4), some (43, true)⟩, ⟨some 45, .pick (.t 43) (.t 44) (.c (.bool false)), none⟩, ⟨some 46, .mv (.t 45), none⟩, ⟨some 47, .mv (.t 5), some (46, true)⟩, ⟨some 48, .pick (.t 46) (.t 47) (.c (.bool false)), none⟩, ⟨some 49, .mv (.t 48), none⟩, ⟨some 50, .mv (.t 7), some (49, true)⟩, ⟨some 51, .pick (.t 49) (.t 50) (.c (.bool false)), none⟩, ⟨some 0, .mv (.t 51), none⟩]))
    .ret)))))), [.t 0], 52⟩
theorem eb9 : fB Try.prog 9 ec9 = true := by kernel_rfl

/-- partywall/partywalllaw26.own -/
def ec10 : CF := ⟨(.seq (.keep [0] (.ops [⟨some 1, .box 3 (.t 0), none⟩, ⟨some 2, .alloc [.int .i64 0, .nils, .int .i64 0], none⟩]))
    (.seq (.keep [1, 2] (.ops [⟨some 3, .fldA 1 (.t 1), none⟩, ⟨some 4, .ld (none) (.t 3), none⟩, ⟨some 5, .call 11 [(.t 4)], none⟩, ⟨some 6, .fldA 1 (.t 1), none⟩, ⟨none, .st 1 (.t 6) (.t 5), none⟩]))
    (.seq (.keep [1, 2] (.ops [⟨some 7, .ld (some 3) (.t 1), none⟩, ⟨none, .st 3 (.t 2) (.t 7), none⟩]))
    .ret))), [.cl 2 (some 3)], 8⟩
theorem eb10 : fB Try.prog 10 ec10 = true := by kernel_rfl

/-- partywall/partywallkit.OwnItems -/
def ec11 : CF := ⟨(.seq (.keep [0] (.ops [⟨some 2, .mv (.c .nils), none⟩]))
    (.seq (.keep [0] (.ops [⟨some 5, .mkSl 7 0 [] [], none⟩, ⟨some 3, .mv (.t 5), none⟩]))
    (.seq (.seq (.keep [0, 3] (.ops [⟨some 4, .mv (.c (.int .i64 0)), none⟩]))
    (.block 0 (.loop (.seq (.seq (.keep [0, 3, 4] (.ops [⟨some 6, .mv (.t 4), none⟩, ⟨some 7, .mv (.t 0), none⟩, ⟨some 8, .len (.t 7), none⟩, ⟨some 9, .bin .lss (.t 6) (.t 8), none⟩]))
    (.cond (.t 9)
      .skip
      (.exit 0)))
    (.seq (.block 1 (.keep [0, 3, 4] (.ops [⟨some 12, .mv (.t 3), none⟩, ⟨some 13, .mv (.t 0), none⟩, ⟨some 14, .mv (.t 4), none⟩, ⟨some 15, .ixA 7 (.t 13) (.t 14), none⟩, ⟨some 16, .ld (some 7) (.t 15), none⟩, ⟨some 17, .call 36 [(.t 16)], none⟩, ⟨some 18, .mkSl 7 1 [.int .i64 0, .int .i64 0, .nils, .nils, .nils, .int .i64 0, .int .i64 0] [(0, 7, (.t 17))], none⟩, ⟨some 19, .app true 42 7 104 (.t 12) (.t 18), none⟩, ⟨some 3, .mv (.t 19), none⟩])))
    (.keep [0, 3, 4] (.ops [⟨some 10, .mv (.t 4), none⟩, ⟨some 11, .bin .add (.t 10) (.c (.int .i64 1)), none⟩, ⟨some 4, .mv (.t 11), none⟩])))))))
    (.seq (.keep [3] (.ops [⟨some 20, .mv (.t 3), none⟩, ⟨some 2, .mv (.t 20), none⟩]))
    .ret)))), [.t 2], 21⟩
theorem eb11 : fB Try.prog 11 ec11 = true := by kernel_rfl

/-- partywall/queue.New -/
def ec12 : CF := ⟨(.seq (.keep [0] (.ops [⟨some 2, .alloc [.int .i64 0, .nils, .int .i64 0], none⟩, ⟨some 3, .mv (.c (.int .i64 0)), none⟩]))
    (.seq (.seq (.keep [0, 2] (.ops [⟨some 4, .mv (.t 0), none⟩, ⟨some 5, .bin .lss (.t 4) (.c (.int .i64 0)), none⟩, ⟨some 6, .mv (.t 5), none⟩, ⟨some 7, .mv (.t 0), some (6, false)⟩, ⟨some 8, .bin .gtr (.t 7) (.c (.int .i64 64)), some (6, false)⟩, ⟨some 9, .pick (.t 6) (.c (.bool true)) (.t 8), none⟩]))
    (.cond (.t 9)
      (.seq (.keep [2] (.ops [⟨some 10, .bld [.int .i64 0, .nils, .int .i64 0] [], none⟩, ⟨none, .st 3 (.t 2) (.t 10), none⟩, ⟨some 3, .mv (.c (.int .i64 2)), none⟩]))
      .ret)
      .skip))
    (.seq (.keep [0, 2] (.ops [⟨some 11, .mv (.t 0), none⟩, ⟨some 12, .bld [.int .i64 0, .nils, .int .i64 0] [(0, 1, (.t 11))], none⟩, ⟨none, .st 3 (.t 2) (.t 12), none⟩, ⟨some 3, .mv (.c (.int .i64 0)), none⟩]))
    .ret))), [.cl 2 (some 3), .t 3], 13⟩
theorem eb12 : fB Try.prog 12 ec12 = true := by kernel_rfl

/-- partywall/partywallref26.New -/
def ec13 : CF := ⟨(.seq (.keep [0] (.ops [⟨some 2, .alloc [.int .i64 0, .nils, .int .i64 0], none⟩, ⟨some 3, .mv (.c (.int .i64 0)), none⟩]))
    (.seq (.seq (.keep [0, 2] (.ops [⟨some 4, .mv (.t 0), none⟩, ⟨some 5, .bin .lss (.t 4) (.c (.int .i64 0)), none⟩, ⟨some 6, .mv (.t 5), none⟩, ⟨some 7, .mv (.t 0), some (6, false)⟩, ⟨some 8, .bin .gtr (.t 7) (.c (.int .i64 64)), some (6, false)⟩, ⟨some 9, .pick (.t 6) (.c (.bool true)) (.t 8), none⟩]))
    (.cond (.t 9)
      (.seq (.keep [2] (.ops [⟨some 10, .bld [.int .i64 0, .nils, .int .i64 0] [], none⟩, ⟨none, .st 3 (.t 2) (.t 10), none⟩, ⟨some 3, .mv (.c (.int .i64 2)), none⟩]))
      .ret)
      .skip))
    (.seq (.keep [0, 2] (.ops [⟨some 11, .mv (.t 0), none⟩, ⟨some 12, .bld [.int .i64 0, .nils, .int .i64 0] [(0, 1, (.t 11))], none⟩, ⟨none, .st 3 (.t 2) (.t 12), none⟩, ⟨some 3, .mv (.c (.int .i64 0)), none⟩]))
    .ret))), [.cl 2 (some 3), .t 3], 13⟩
theorem eb13 : fB Try.prog 13 ec13 = true := by kernel_rfl

/-- partywall/partywalllaw26.equal -/
def ec14 : CF := ⟨(.seq (.keep [0, 1] (.ops [⟨some 2, .box 3 (.t 0), none⟩, ⟨some 3, .box 3 (.t 1), none⟩, ⟨some 4, .mv (.c (.bool false)), none⟩]))
    (.seq (.keep [2, 3] (.ops [⟨some 5, .fldA 0 (.t 2), none⟩, ⟨some 6, .ld (none) (.t 5), none⟩, ⟨some 7, .fldA 0 (.t 3), none⟩, ⟨some 8, .ld (none) (.t 7), none⟩, ⟨some 9, .bin .eql (.t 6) (.t 8), none⟩, ⟨some 10, .mv (.t 9), none⟩, ⟨some 11, .fldA 2 (.t 2), some (10, true)⟩, ⟨some 12, .ld (none) (.t 11), some (10, true)⟩, ⟨some 13, .fldA 2 (.t 3), some (10, true)⟩, ⟨some 14, .ld (none) (.t 13), some (10, true)⟩, ⟨some 15, .bin .eql (.t 12) (.t 14), some (10, true)⟩, ⟨some 16, .pick (.t 10) (.t 15) (.c (.bool false)), none⟩, ⟨some 17, .mv (.t 16), none⟩, ⟨some 18, .fldA 1 (.t 2), some (17, true)⟩, ⟨some 19, .ld (none) (.t 18), some (17, true)⟩, ⟨some 20, .fldA 1 (.t 3), some (17, true)⟩, ⟨some 21, .ld (none) (.t 20), some (17, true)⟩, ⟨some 22, .call 23 [(.t 19), (.t 21)], some (17, true)⟩, ⟨some 23, .pick (.t 17) (.t 22) (.c (.bool false)), none⟩, ⟨some 4, .mv (.t 23), none⟩]))
    .ret)), [.t 4], 24⟩
theorem eb14 : fB Try.prog 14 ec14 = true := by kernel_rfl

/-- partywall/queue.Check -/
def ec15 : CF := ⟨(.seq (.keep [0] (.ops [⟨some 1, .box 3 (.t 0), none⟩, ⟨some 2, .mv (.c (.int .i64 0)), none⟩]))
    (.seq (.block 0 (.seq (.keep [1] (.ops [⟨some 4, .fldA 0 (.t 1), none⟩, ⟨some 5, .ld (none) (.t 4), none⟩, ⟨some 6, .bin .lss (.t 5) (.c (.int .i64 0)), none⟩, ⟨some 7, .mv (.t 6), none⟩, ⟨some 8, .fldA 0 (.t 1), some (7, false)⟩, ⟨some 9, .ld (none) (.t 8), some (7, false)⟩, ⟨some 10, .bin .gtr (.t 9) (.c (.int .i64 64)), some (7, false)⟩, ⟨some 11, .pick (.t 7) (.c (.bool true)) (.t 10), none⟩, ⟨some 12, .mv (.t 11), none⟩, ⟨some 13, .fldA 2 (.t 1), some (12, false)⟩, ⟨some 14, .ld (none) (.t 13), some (12, false)⟩, ⟨some 15, .bin .lss (.t 14) (.c (.int .i64 0)), some (12, false)⟩, ⟨some 16, .pick (.t 12) (.c (.bool true)) (.t 15), none⟩, ⟨some 17, .mv (.t 16), none⟩, ⟨some 18, .fldA 2 (.t 1), some (17, false)⟩, ⟨some 19, .ld (none) (.t 18), some (17, false)⟩, ⟨some 20, .bin .gtr (.t 19) (.c (.int .i64 1099511627776)), some (17, false)⟩, ⟨some 21, .pick (.t 17) (.c (.bool true)) (.t 20), none⟩, ⟨some 3, .mv (.t 21), none⟩]))
    (.cond (.t 3)
      (.seq (.keep [] (.ops [⟨some 2, .mv (.c (.int .i64 2)), none⟩]))
      .ret)
      (.seq (.keep [1] (.ops [⟨some 23, .fldA 1 (.t 1), none⟩, ⟨some 24, .ld (none) (.t 23), none⟩, ⟨some 25, .len (.t 24), none⟩, ⟨some 26, .fldA 0 (.t 1), none⟩, ⟨some 27, .ld (none) (.t 26), none⟩, ⟨some 28, .bin .gtr (.t 25) (.t 27), none⟩, ⟨some 22, .mv (.t 28), none⟩]))
      (.cond (.t 22)
        (.seq (.keep [] (.ops [⟨some 2, .mv (.c (.int .i64 6)), none⟩]))
        .ret)
        .skip)))))
    (.seq (.keep [1] (.ops [⟨some 29, .fldA 1 (.t 1), none⟩, ⟨some 30, .ld (none) (.t 29), none⟩, ⟨some 31, .call 37 [(.t 30)], none⟩, ⟨some 2, .mv (.t 31), none⟩]))
    .ret))), [.t 2], 32⟩
theorem eb15 : fB Try.prog 15 ec15 = true := by kernel_rfl

/-- partywall/partywallref26.Check -/
def ec16 : CF := ⟨(.seq (.keep [0] (.ops [⟨some 1, .box 3 (.t 0), none⟩, ⟨some 2, .mv (.c (.int .i64 0)), none⟩]))
    (.seq (.block 0 (.seq (.keep [1] (.ops [⟨some 4, .fldA 0 (.t 1), none⟩, ⟨some 5, .ld (none) (.t 4), none⟩, ⟨some 6, .bin .lss (.t 5) (.c (.int .i64 0)), none⟩, ⟨some 7, .mv (.t 6), none⟩, ⟨some 8, .fldA 0 (.t 1), some (7, false)⟩, ⟨some 9, .ld (none) (.t 8), some (7, false)⟩, ⟨some 10, .bin .gtr (.t 9) (.c (.int .i64 64)), some (7, false)⟩, ⟨some 11, .pick (.t 7) (.c (.bool true)) (.t 10), none⟩, ⟨some 12, .mv (.t 11), none⟩, ⟨some 13, .fldA 2 (.t 1), some (12, false)⟩, ⟨some 14, .ld (none) (.t 13), some (12, false)⟩, ⟨some 15, .bin .lss (.t 14) (.c (.int .i64 0)), some (12, false)⟩, ⟨some 16, .pick (.t 12) (.c (.bool true)) (.t 15), none⟩, ⟨some 17, .mv (.t 16), none⟩, ⟨some 18, .fldA 2 (.t 1), some (17, false)⟩, ⟨some 19, .ld (none) (.t 18), some (17, false)⟩, ⟨some 20, .bin .gtr (.t 19) (.c (.int .i64 1099511627776)), some (17, false)⟩, ⟨some 21, .pick (.t 17) (.c (.bool true)) (.t 20), none⟩, ⟨some 3, .mv (.t 21), none⟩]))
    (.cond (.t 3)
      (.seq (.keep [] (.ops [⟨some 2, .mv (.c (.int .i64 2)), none⟩]))
      .ret)
      (.seq (.keep [1] (.ops [⟨some 23, .fldA 1 (.t 1), none⟩, ⟨some 24, .ld (none) (.t 23), none⟩, ⟨some 25, .len (.t 24), none⟩, ⟨some 26, .fldA 0 (.t 1), none⟩, ⟨some 27, .ld (none) (.t 26), none⟩, ⟨some 28, .bin .gtr (.t 25) (.t 27), none⟩, ⟨some 22, .mv (.t 28), none⟩]))
      (.cond (.t 22)
        (.seq (.keep [] (.ops [⟨some 2, .mv (.c (.int .i64 6)), none⟩]))
        .ret)
        .skip)))))
    (.seq (.keep [1] (.ops [⟨some 29, .fldA 1 (.t 1), none⟩, ⟨some 30, .ld (none) (.t 29), none⟩, ⟨some 31, .call 38 [(.t 30)], none⟩, ⟨some 2, .mv (.t 31), none⟩]))
    .ret))), [.t 2], 32⟩
theorem eb16 : fB Try.prog 16 ec16 = true := by kernel_rfl

/-- partywall/queue.PutAll -/
def ec17 : CF := ⟨(.seq (.keep [0, 1] (.ops [⟨some 2, .box 3 (.t 0), none⟩, ⟨some 4, .alloc [.int .i64 0, .nils, .int .i64 0], none⟩, ⟨some 5, .mv (.c (.int .i64 0)), none⟩, ⟨some 6, .mv (.c (.int .i64 0)), none⟩]))
    (.seq (.keep [1, 2, 4] (.ops [⟨some 12, .ld (some 3) (.t 2), none⟩, ⟨some 13, .call 15 [(.t 12)], none⟩, ⟨some 7, .mv (.t 13), none⟩]))
    (.seq (.seq (.keep [1, 2, 4, 7] (.ops [⟨some 14, .mv (.t 7), none⟩, ⟨some 15, .bin .eql (.t 14) (.c (.int .i64 0)), none⟩]))
    (.cond (.t 15)
      (.keep [1, 2, 4] (.ops [⟨some 16, .mv (.t 1), none⟩, ⟨some 17, .call 37 [(.t 16)], none⟩, ⟨some 7, .mv (.t 17), none⟩]))
      .skip))
    (.seq (.seq (.keep [1, 2, 4, 7] (.ops [⟨some 18, .mv (.t 7), none⟩, ⟨some 19, .bin .neq (.t 18) (.c (.int .i64 0)), none⟩]))
    (.cond (.t 19)
      (.seq (.keep [4, 7] (.ops [⟨some 20, .bld [.int .i64 0, .nils, .int .i64 0] [], none⟩, ⟨some 21, .mv (.t 7), none⟩, ⟨none, .st 3 (.t 4) (.t 20), none⟩, ⟨some 5, .mv (.c (.int .i64 0)), none⟩, ⟨some 6, .mv (.t 21), none⟩]))
      .ret)
      .skip))
    (.seq (.keep [1, 2, 4] (.ops [⟨some 22, .ld (some 3) (.t 2), none⟩, ⟨some 23, .bld [.int .i64 0, .nils, .int .i64 0] [(0, 3, (.t 22))], none⟩, ⟨some 8, .alloc [.int .i64 0, .nils, .int .i64 0], none⟩, ⟨none, .st 3 (.t 8) (.t 23), none⟩, ⟨some 9, .mv (.c (.int .u64 0)), none⟩]))
    (.seq (.seq (.keep [1, 4, 8, 9] (.ops [⟨some 24, .mv (.t 1), none⟩, ⟨some 25, .len (.t 24), none⟩, ⟨some 26, .mv (.c (.int .i64 0)), none⟩]))
    (.block 0 (.loop (.seq (.keep [4, 8, 9, 24, 25, 26] (.ops [⟨some 27, .bin .lss (.t 26) (.t 25), none⟩]))
    (.seq (.cond (.t 27)
      .skip
      (.exit 0))
    (.seq (.block 1 (.seq (.keep [4, 8, 9, 24, 25, 26] (.ops [⟨some 28, .ixA 7 (.t 24) (.t 26), none⟩, ⟨some 29, .ld (some 7) (.t 28), none⟩, ⟨some 11, .alloc [.int .i64 0, .int .i64 0, .nils, .nils, .nils, .int .i64 0, .int .i64 0], none⟩, ⟨none, .st 7 (.t 11) (.t 29), none⟩]))
    (.seq (.keep [4, 8, 9, 11, 24, 25, 26] (.ops [⟨some 30, .ld (some 7) (.t 11), none⟩, ⟨some 31, .call 39 [(.t 8), (.t 30)], none⟩]))
    (.cond (.t 31)
      (.keep [4, 8, 9, 24, 25, 26] (.ops [⟨some 32, .mv (.t 9), none⟩, ⟨some 33, .bin .add (.t 32) (.c (.int .u64 1)), none⟩, ⟨some 9, .mv (.t 33), none⟩]))
      .skip))))
    (.keep [4, 8, 9, 24, 25, 26] (.ops [⟨some 34, .bin .add (.t 26) (.c (.int .i64 1)), none⟩, ⟨some 26, .mv (.t 34), none⟩]))))))))
    (.seq (.keep [4, 8, 9] (.ops [⟨some 35, .fldA 0 (.t 8), none⟩, ⟨some 36, .ld (some 3) (.t 35), none⟩, ⟨some 37, .mv (.t 9), none⟩, ⟨some 38, .cnv .i64 (.t 37), none⟩, ⟨none, .st 3 (.t 4) (.t 36), none⟩, ⟨some 5, .mv (.t 38), none⟩, ⟨some 6, .mv (.c (.int .i64 0)), none⟩]))
    .ret))))))), [.cl 4 (some 3), .t 5, .t 6], 39⟩
theorem eb17 : fB Try.prog 17 ec17 = true := by kernel_rfl

/-- partywall/partywallref26.PutAll -/
def ec18 : CF := ⟨(.seq (.keep [0, 1] (.ops [⟨some 2, .box 3 (.t 0), none⟩, ⟨some 4, .alloc [.int .i64 0, .nils, .int .i64 0], none⟩, ⟨some 5, .mv (.c (.int .i64 0)), none⟩, ⟨some 6, .mv (.c (.int .i64 0)), none⟩]))
    (.seq (.keep [1, 2, 4] (.ops [⟨some 12, .ld (some 3) (.t 2), none⟩, ⟨some 13, .mv (.t 1), none⟩, ⟨some 14, .call 40 [(.t 12), (.t 13)], none⟩, ⟨some 7, .mv (.t 14), none⟩]))
    (.seq (.seq (.keep [1, 2, 4, 7] (.ops [⟨some 15, .mv (.t 7), none⟩, ⟨some 16, .bin .neq (.t 15) (.c (.int .i64 0)), none⟩]))
    (.cond (.t 16)
      (.seq (.keep [4, 7] (.ops [⟨some 17, .bld [.int .i64 0, .nils, .int .i64 0] [], none⟩, ⟨some 18, .mv (.t 7), none⟩, ⟨none, .st 3 (.t 4) (.t 17), none⟩, ⟨some 5, .mv (.c (.int .i64 0)), none⟩, ⟨some 6, .mv (.t 18), none⟩]))
      .ret)
      .skip))
    (.seq (.keep [1, 2, 4] (.ops [⟨some 19, .fldA 1 (.t 2), none⟩, ⟨some 20, .ld (none) (.t 19), none⟩, ⟨some 21, .call 41 [(.t 20)], none⟩, ⟨some 22, .fldA 1 (.t 2), none⟩, ⟨none, .st 1 (.t 22) (.t 21), none⟩]))
    (.seq (.keep [1, 2, 4] (.ops [⟨some 8, .mv (.c (.int .i64 0)), none⟩]))
    (.seq (.seq (.keep [1, 2, 4, 8] (.ops [⟨some 9, .mv (.c (.int .i64 0)), none⟩]))
    (.block 0 (.loop (.seq (.seq (.keep [1, 2, 4, 8, 9] (.ops [⟨some 23, .mv (.t 9), none⟩, ⟨some 24, .mv (.t 1), none⟩, ⟨some 25, .len (.t 24), none⟩, ⟨some 26, .bin .lss (.t 23) (.t 25), none⟩]))
    (.cond (.t 26)
      .skip
      (.exit 0)))
    (.seq (.block 1 (.seq (.keep [1, 2, 4, 8, 9] (.drw [⟨some 30, .ld (some 3) (.t 2), none⟩, ⟨some 31, .mv (.t 1), none⟩, ⟨some 32, .mv (.t 9), none⟩, ⟨some 33, .ixA 7 (.t 31) (.t 32), none⟩, ⟨some 34, .ld (some 7) (.t 33), none⟩, ⟨some 35, .call 42 [(.t 30), (.t 34)], none⟩, ⟨some 29, .mv (.t 35), none⟩, ⟨some 36, .ext (.t 29) 0, none⟩, ⟨some 37, .ext (.t 29) 1, none⟩, ⟨some 10, .alloc [.int .i64 0, .nils, .int .i64 0], none⟩, ⟨none, .st 3 (.t 10) (.t 36), none⟩, ⟨some 11, .mv (.t 37), none⟩] [1, 0, 0, 0, 1, 1, 0, 0, 0, 3, 2, 0]))
    (.seq (.keep [1, 2, 4, 8, 9, 10, 11] (.ops [⟨some 38, .ld (some 3) (.t 10), none⟩, ⟨none, .st 3 (.t 2) (.t 38), none⟩]))
    (.seq (.keep [1, 2, 4, 8, 9, 11] (.ops [⟨some 39, .mv (.t 11), none⟩]))
    (.cond (.t 39)
      (.keep [1, 2, 4, 8, 9] (.ops [⟨some 40, .mv (.t 8), none⟩, ⟨some 41, .bin .add (.t 40) (.c (.int .i64 1)), none⟩, ⟨some 8, .mv (.t 41), none⟩]))
      .skip)))))
    (.keep [1, 2, 4, 8, 9] (.ops [⟨some 27, .mv (.t 9), none⟩, ⟨some 28, .bin .add (.t 27) (.c (.int .i64 1)), none⟩, ⟨some 9, .mv (.t 28), none⟩])))))))
    (.seq (.keep [2, 4, 8] (.ops [⟨some 42, .ld (some 3) (.t 2), none⟩, ⟨some 43, .mv (.t 8), none⟩, ⟨none, .st 3 (.t 4) (.t 42), none⟩, ⟨some 5, .mv (.t 43), none⟩, ⟨some 6, .mv (.c (.int .i64 0)), none⟩]))
    .ret))))))), [.cl 4 (some 3), .t 5, .t 6], 44⟩
theorem eb18 : fB Try.prog 18 ec18 = true := by kernel_rfl

/-- partywall/queue.Put -/
def ec19 : CF := ⟨(.seq (.keep [0, 1] (.ops [⟨some 2, .box 3 (.t 0), none⟩, ⟨some 3, .box 7 (.t 1), none⟩, ⟨some 4, .alloc [.int .i64 0, .nils, .int .i64 0], none⟩, ⟨some 5, .mv (.c (.bool false)), none⟩, ⟨some 6, .mv (.c (.int .i64 0)), none⟩]))
    (.seq (.keep [2, 3, 4] (.ops [⟨some 11, .ld (some 3) (.t 2), none⟩, ⟨some 12, .ld (some 7) (.t 3), none⟩, ⟨some 13, .mkSl 7 1 [.int .i64 0, .int .i64 0, .nils, .nils, .nils, .int .i64 0, .int .i64 0] [(0, 7, (.t 12))], none⟩, ⟨some 14, .call 17 [(.t 11), (.t 13)], none⟩, ⟨some 10, .mv (.t 14), none⟩, ⟨some 15, .ext (.t 10) 0, none⟩, ⟨some 16, .ext (.t 10) 1, none⟩, ⟨some 17, .ext (.t 10) 2, none⟩, ⟨some 7, .alloc [.int .i64 0, .nils, .int .i64 0], none⟩, ⟨none, .st 3 (.t 7) (.t 15), none⟩, ⟨some 8, .mv (.t 16), none⟩, ⟨some 9, .mv (.t 17), none⟩]))
    (.seq (.keep [4, 7, 8, 9] (.ops [⟨some 18, .ld (some 3) (.t 7), none⟩, ⟨some 19, .mv (.t 8), none⟩, ⟨some 20, .bin .eql (.t 19) (.c (.int .i64 1)), none⟩, ⟨some 21, .mv (.t 9), none⟩, ⟨none, .st 3 (.t 4) (.t 18), none⟩, ⟨some 5, .mv (.t 20), none⟩, ⟨some 6, .mv (.t 21), none⟩]))
    .ret))), [.cl 4 (some 3), .t 5, .t 6], 22⟩
theorem eb19 : fB Try.prog 19 ec19 = true := by kernel_rfl

/-- partywall/partywallref26.Put -/
def ec20 : CF := ⟨(.seq (.keep [0, 1] (.ops [⟨some 2, .box 3 (.t 0), none⟩, ⟨some 3, .box 7 (.t 1), none⟩, ⟨some 4, .alloc [.int .i64 0, .nils, .int .i64 0], none⟩, ⟨some 5, .mv (.c (.bool false)), none⟩, ⟨some 6, .mv (.c (.int .i64 0)), none⟩]))
    (.seq (.keep [2, 3, 4] (.ops [⟨some 9, .ld (some 3) (.t 2), none⟩, ⟨some 10, .ld (some 7) (.t 3), none⟩, ⟨some 11, .mkSl 7 1 [.int .i64 0, .int .i64 0, .nils, .nils, .nils, .int .i64 0, .int .i64 0] [(0, 7, (.t 10))], none⟩, ⟨some 12, .call 40 [(.t 9), (.t 11)], none⟩, ⟨some 7, .mv (.t 12), none⟩]))
    (.seq (.seq (.keep [2, 3, 4, 7] (.ops [⟨some 13, .mv (.t 7), none⟩, ⟨some 14, .bin .neq (.t 13) (.c (.int .i64 0)), none⟩]))
    (.cond (.t 14)
      (.seq (.keep [4, 7] (.ops [⟨some 15, .bld [.int .i64 0, .nils, .int .i64 0] [], none⟩, ⟨some 16, .mv (.t 7), none⟩, ⟨none, .st 3 (.t 4) (.t 15), none⟩, ⟨some 5, .mv (.c (.bool false)), none⟩, ⟨some 6, .mv (.t 16), none⟩]))
      .ret)
      .skip))
    (.seq (.keep [2, 3, 4] (.ops [⟨some 17, .fldA 1 (.t 2), none⟩, ⟨some 18, .ld (none) (.t 17), none⟩, ⟨some 19, .call 41 [(.t 18)], none⟩, ⟨some 20, .fldA 1 (.t 2), none⟩, ⟨none, .st 1 (.t 20) (.t 19), none⟩]))
    (.seq (.keep [2, 3, 4] (.ops [⟨some 22, .ld (some 3) (.t 2), none⟩, ⟨some 23, .ld (some 7) (.t 3), none⟩, ⟨some 24, .call 42 [(.t 22), (.t 23)], none⟩, ⟨some 21, .mv (.t 24), none⟩, ⟨some 25, .ext (.t 21) 0, none⟩, ⟨some 26, .ext (.t 21) 1, none⟩, ⟨none, .st 3 (.t 2) (.t 25), none⟩, ⟨some 8, .mv (.t 26), none⟩]))
    (.seq (.keep [2, 4, 8] (.ops [⟨some 27, .ld (some 3) (.t 2), none⟩, ⟨some 28, .mv (.t 8), none⟩, ⟨none, .st 3 (.t 4) (.t 27), none⟩, ⟨some 5, .mv (.t 28), none⟩, ⟨some 6, .mv (.c (.int .i64 0)), none⟩]))
    .ret)))))), [.cl 4 (some 3), .t 5, .t 6], 29⟩
theorem eb20 : fB Try.prog 20 ec20 = true := by kernel_rfl

/-- partywall/queue.Room -/
def ec21 : CF := ⟨(.seq (.keep [0] (.ops [⟨some 1, .box 3 (.t 0), none⟩, ⟨some 2, .mv (.c (.int .i64 0)), none⟩, ⟨some 3, .mv (.c (.int .i64 0)), none⟩]))
    (.seq (.seq (.keep [1] (.ops [⟨some 5, .ld (some 3) (.t 1), none⟩, ⟨some 6, .call 15 [(.t 5)], none⟩, ⟨some 4, .mv (.t 6), none⟩]))
    (.seq (.keep [1, 4] (.ops [⟨some 7, .mv (.t 4), none⟩, ⟨some 8, .bin .neq (.t 7) (.c (.int .i64 0)), none⟩]))
    (.cond (.t 8)
      (.seq (.keep [4] (.ops [⟨some 9, .mv (.t 4), none⟩, ⟨some 2, .mv (.c (.int .i64 0)), none⟩, ⟨some 3, .mv (.t 9), none⟩]))
      .ret)
      .skip)))
    (.seq (.keep [1] (.ops [⟨some 10, .ld (some 3) (.t 1), none⟩, ⟨some 11, .bld [.int .i64 0, .nils, .int .i64 0] [(0, 3, (.t 10))], none⟩, ⟨some 12, .call 43 [(.t 11)], none⟩, ⟨some 2, .mv (.t 12), none⟩, ⟨some 3, .mv (.c (.int .i64 0)), none⟩]))
    .ret))), [.t 2, .t 3], 13⟩
theorem eb21 : fB Try.prog 21 ec21 = true := by kernel_rfl

/-- partywall/partywallref26.Room -/
def ec22 : CF := ⟨(.seq (.keep [0] (.ops [⟨some 1, .box 3 (.t 0), none⟩, ⟨some 2, .mv (.c (.int .i64 0)), none⟩, ⟨some 3, .mv (.c (.int .i64 0)), none⟩]))
    (.seq (.keep [1] (.ops [⟨some 5, .ld (some 3) (.t 1), none⟩, ⟨some 6, .call 16 [(.t 5)], none⟩, ⟨some 4, .mv (.t 6), none⟩]))
    (.seq (.seq (.keep [1, 4] (.ops [⟨some 7, .mv (.t 4), none⟩, ⟨some 8, .bin .neq (.t 7) (.c (.int .i64 0)), none⟩, ⟨some 9, .mv (.t 8), none⟩, ⟨some 10, .fldA 2 (.t 1), some (9, false)⟩, ⟨some 11, .ld (none) (.t 10), some (9, false)⟩, ⟨some 12, .bin .gtr (.t 11) (.c (.int .i64 0)), some (9, false)⟩, ⟨some 13, .pick (.t 9) (.c (.bool true)) (.t 12), none⟩]))
    (.cond (.t 13)
      (.seq (.keep [4] (.ops [⟨some 14, .mv (.t 4), none⟩, ⟨some 2, .mv (.c (.int .i64 0)), none⟩, ⟨some 3, .mv (.t 14), none⟩]))
      .ret)
      .skip))
    (.seq (.keep [1] (.ops [⟨some 15, .fldA 0 (.t 1), none⟩, ⟨some 16, .ld (none) (.t 15), none⟩, ⟨some 17, .fldA 1 (.t 1), none⟩, ⟨some 18, .ld (none) (.t 17), none⟩, ⟨some 19, .len (.t 18), none⟩, ⟨some 20, .bin .sub (.t 16) (.t 19), none⟩, ⟨some 2, .mv (.t 20), none⟩, ⟨some 3, .mv (.c (.int .i64 0)), none⟩]))
    .ret)))), [.t 2, .t 3], 21⟩
theorem eb22 : fB Try.prog 22 ec22 = true := by kernel_rfl

/-- partywall/partywallkit.SameItems -/
def ec23 : CF := ⟨(.seq (.keep [0, 1] (.ops [⟨some 4, .mv (.c (.bool false)), none⟩]))
    (.seq (.seq (.keep [0, 1] (.ops [⟨some 6, .mv (.t 0), none⟩, ⟨some 7, .len (.t 6), none⟩, ⟨some 8, .mv (.t 1), none⟩, ⟨some 9, .len (.t 8), none⟩, ⟨some 10, .bin .neq (.t 7) (.t 9), none⟩]))
    (.cond (.t 10)
      (.seq (.keep [] (.ops [⟨some 4, .mv (.c (.bool false)), none⟩]))
      .ret)
      .skip))
    (.seq (.seq (.keep [0, 1] (.ops [⟨some 5, .mv (.c (.int .i64 0)), none⟩]))
    (.block 0 (.loop (.seq (.seq (.keep [0, 1, 5] (.ops [⟨some 11, .mv (.t 5), none⟩, ⟨some 12, .mv (.t 0), none⟩, ⟨some 13, .len (.t 12), none⟩, ⟨some 14, .bin .lss (.t 11) (.t 13), none⟩]))
    (.cond (.t 14)
      .skip
      (.exit 0)))
    (.seq (.block 1 (.seq (.keep [0, 1, 5] (.drw [⟨some 17, .mv (.t 0), none⟩, ⟨some 18, .mv (.t 5), none⟩, ⟨some 19, .ixA 7 (.t 17) (.t 18), none⟩, ⟨some 20, .ld (some 7) (.t 19), none⟩, ⟨some 21, .mv (.t 1), none⟩, ⟨some 22, .mv (.t 5), none⟩, ⟨some 23, .ixA 7 (.t 21) (.t 22), none⟩, ⟨some 24, .ld (some 7) (.t 23), none⟩, ⟨some 25, .call 44 [(.t 20), (.t 24)], none⟩, ⟨some 26, .un .not (.t 25), none⟩] [0, 0, 0, 1, 0, 0, 0, 1, 1, 0]))
    (.cond (.t 26)
      (.seq (.keep [] (.ops [⟨some 4, .mv (.c (.bool false)), none⟩]))
      .ret)
      .skip)))
    (.keep [0, 1, 5] (.ops [⟨some 15, .mv (.t 5), none⟩, ⟨some 16, .bin .add (.t 15) (.c (.int .i64 1)), none⟩, ⟨some 5, .mv (.t 16), none⟩])))))))
    (.seq (.keep [] (.ops [⟨some 4, .mv (.c (.bool true)), none⟩]))
    .ret)))), [.t 4], 27⟩
theorem eb23 : fB Try.prog 23 ec23 = true := by kernel_rfl

/-- partywall/partywalllaw26.item -/
def ec24 : CF := ⟨(.seq (.keep [0] (.ops [⟨some 2, .alloc [.int .i64 0, .int .i64 0, .nils, .nils, .nils, .int .i64 0, .int .i64 0], none⟩]))
    (.seq (.keep [0, 2] (.ops [⟨some 3, .mv (.t 0), none⟩, ⟨some 4, .call 29 [(.t 3), (.c (.int .i64 1048576))], none⟩, ⟨some 0, .mv (.t 4), none⟩]))
    (.seq (.seq (.keep [0, 2] (.ops [⟨some 5, .mv (.t 0), none⟩, ⟨some 6, .bin .rem (.t 5) (.c (.int .i64 5)), none⟩, ⟨some 7, .bin .eql (.t 6) (.c (.int .i64 4)), none⟩]))
    (.cond (.t 7)
      (.seq (.keep [0, 2] (.ops [⟨some 8, .mv (.t 0), none⟩, ⟨some 9, .bin .quo (.t 8) (.c (.int .i64 5)), none⟩, ⟨some 10, .bin .rem (.t 9) (.c (.int .i64 4)), none⟩, ⟨some 11, .bin .add (.c (.int .i64 1)) (.t 10), none⟩, ⟨some 12, .mv (.t 0), none⟩, ⟨some 13, .bin .quo (.t 12) (.c (.int .i64 20)), none⟩, ⟨some 14, .bin .rem (.t 13) (.c (.int .i64 9)), none⟩, ⟨some 15, .bin .add (.c (.int .i64 1)) (.t 14), none⟩, ⟨some 16, .bld [.int .i64 0, .int .i64 0, .nils, .nils, .nils, .int .i64 0, .int .i64 0] [(0, 1, (.c (.int .i64 2))), (1, 1, (.t 11)), (5, 1, (.c (.int .i64 18))), (6, 1, (.t 15))], none⟩, ⟨none, .st 7 (.t 2) (.t 16), none⟩]))
      .ret)
      .skip))
    (.seq (.keep [0, 2] (.ops [⟨some 17, .mv (.t 0), none⟩, ⟨some 18, .bin .quo (.t 17) (.c (.int .i64 5)), none⟩, ⟨some 19, .bin .rem (.t 18) (.c (.int .i64 4)), none⟩, ⟨some 20, .bin .add (.c (.int .i64 1)) (.t 19), none⟩, ⟨some 21, .mv (.t 0), none⟩, ⟨some 22, .bin .rem (.t 21) (.c (.int .i64 3)), none⟩, ⟨some 23, .cnv .u64 (.t 22), none⟩, ⟨some 24, .mv (.t 0), none⟩, ⟨some 25, .bin .quo (.t 24) (.c (.int .i64 20)), none⟩, ⟨some 26, .bin .add (.c (.int .i64 1)) (.t 25), none⟩, ⟨some 27, .cnv .u64 (.t 26), none⟩, ⟨some 28, .bld [.int .u64 0, .int .u64 0] [(0, 1, (.t 23)), (1, 1, (.t 27))], none⟩, ⟨some 29, .mkSl 2 1 [.int .u64 0, .int .u64 0] [(0, 2, (.t 28))], none⟩, ⟨some 30, .mv (.t 0), none⟩, ⟨some 31, .bin .rem (.t 30) (.c (.int .i64 12)), none⟩, ⟨some 32, .mkSl 1 1 [.int .i64 0] [(0, 1, (.t 31))], none⟩, ⟨some 33, .mv (.t 0), none⟩, ⟨some 34, .mkSl 1 1 [.int .i64 0] [(0, 1, (.t 33))], none⟩, ⟨some 35, .bld [.int .i64 0, .int .i64 0, .nils, .nils, .nils, .int .i64 0, .int .i64 0] [(0, 1, (.c (.int .i64 1))), (1, 1, (.t 20)), (2, 1, (.t 29)), (3, 1, (.t 32)), (4, 1, (.t 34))], none⟩, ⟨none, .st 7 (.t 2) (.t 35), none⟩]))
    .ret)))), [.cl 2 (some 7)], 36⟩
theorem eb24 : fB Try.prog 24 ec24 = true := by kernel_rfl

/-- partywall/partywalllaw26.behind -/
def ec25 : CF := ⟨(.seq (.keep [0, 1] (.ops [⟨some 4, .alloc [.int .i64 0, .nils, .int .i64 0], none⟩, ⟨some 5, .mv (.c (.int .i64 0)), none⟩]))
    (.seq (.keep [0, 1, 4] (.ops [⟨some 11, .mv (.t 0), none⟩, ⟨some 12, .call 12 [(.t 11)], none⟩, ⟨some 10, .mv (.t 12), none⟩, ⟨some 13, .ext (.t 10) 0, none⟩, ⟨some 14, .ext (.t 10) 1, none⟩, ⟨some 6, .alloc [.int .i64 0, .nils, .int .i64 0], none⟩, ⟨none, .st 3 (.t 6) (.t 13), none⟩, ⟨some 7, .mv (.t 14), none⟩]))
    (.seq (.keep [1, 4, 6, 7] (.ops [⟨some 16, .ld (some 3) (.t 6), none⟩, ⟨some 17, .mv (.t 1), none⟩, ⟨some 18, .call 17 [(.t 16), (.t 17)], none⟩, ⟨some 15, .mv (.t 18), none⟩, ⟨some 19, .ext (.t 15) 0, none⟩, ⟨some 20, .ext (.t 15) 1, none⟩, ⟨some 21, .ext (.t 15) 2, none⟩, ⟨none, .st 3 (.t 6) (.t 19), none⟩, ⟨some 8, .mv (.t 20), none⟩, ⟨some 9, .mv (.t 21), none⟩]))
    (.seq (.seq (.keep [4, 6, 7, 8, 9] (.ops [⟨some 22, .mv (.t 7), none⟩, ⟨some 23, .bin .neq (.t 22) (.c (.int .i64 0)), none⟩, ⟨some 24, .mv (.t 23), none⟩, ⟨some 25, .mv (.t 9), some (24, false)⟩, ⟨some 26, .bin .neq (.t 25) (.c (.int .i64 0)), some (24, false)⟩, ⟨some 27, .pick (.t 24) (.c (.bool true)) (.t 26), none⟩]))
    (.cond (.t 27)
      (.seq (.keep [4] (.ops [⟨some 28, .bld [.int .i64 0, .nils, .int .i64 0] [], none⟩, ⟨none, .st 3 (.t 4) (.t 28), none⟩, ⟨some 5, .mv (.c (.int .i64 (-1))), none⟩]))
      .ret)
      .skip))
    (.seq (.keep [4, 6, 8] (.ops [⟨some 29, .ld (some 3) (.t 6), none⟩, ⟨some 30, .mv (.t 8), none⟩, ⟨none, .st 3 (.t 4) (.t 29), none⟩, ⟨some 5, .mv (.t 30), none⟩]))
    .ret))))), [.cl 4 (some 3), .t 5], 31⟩
theorem eb25 : fB Try.prog 25 ec25 = true := by kernel_rfl

/-- partywall/partywalllaw26.gives -/
def ec26 : CF := ⟨(.seq (.keep [0, 1, 2] (.ops [⟨some 3, .box 3 (.t 0), none⟩, ⟨some 6, .alloc [.int .i64 0, .nils, .int .i64 0], none⟩, ⟨some 7, .mv (.c (.bool false)), none⟩]))
    (.seq (.keep [1, 2, 3, 6] (.ops [⟨some 11, .ld (some 3) (.t 3), none⟩, ⟨some 12, .mv (.t 1), none⟩, ⟨some 13, .call 28 [(.t 11), (.t 12)], none⟩, ⟨some 10, .mv (.t 13), none⟩, ⟨some 14, .ext (.t 10) 0, none⟩, ⟨some 15, .ext (.t 10) 1, none⟩, ⟨some 16, .ext (.t 10) 2, none⟩, ⟨none, .st 3 (.t 3) (.t 14), none⟩, ⟨some 8, .mv (.t 15), none⟩, ⟨some 9, .mv (.t 16), none⟩]))
    (.seq (.keep [2, 3, 6, 8, 9] (.drw [⟨some 17, .ld (some 3) (.t 3), none⟩, ⟨some 18, .mv (.t 9), none⟩, ⟨some 19, .bin .eql (.t 18) (.c (.int .i64 0)), none⟩, ⟨some 20, .mv (.t 19), none⟩, ⟨some 21, .mv (.t 8), some (20, true)⟩, ⟨some 22, .mv (.t 2), some (20, true)⟩, ⟨some 23, .call 23 [(.t 21), (.t 22)], some (20, true)⟩, ⟨some 24, .pick (.t 20) (.t 23) (.c (.bool false)), none⟩, ⟨none, .st 3 (.t 6) (.t 17), none⟩, ⟨some 7, .mv (.t 24), none⟩] [1, 0, 0, 0, 0, 0, 1, 0, 2, 0]))
    .ret))), [.cl 6 (some 3), .t 7], 25⟩
theorem eb26 : fB Try.prog 26 ec26 = true := by kernel_rfl

/-- partywall/partywalllaw26.out -/
def ec27 : CF := ⟨(.seq (.keep [0] (.ops [⟨some 2, .alloc [.int .i64 0, .int .i64 0, .nils, .nils, .nils, .int .i64 0, .int .i64 0], none⟩]))
    (.seq (.keep [0, 2] (.ops [⟨some 3, .mv (.t 0), none⟩, ⟨some 4, .bld [.int .i64 0, .int .i64 0, .nils, .nils, .nils, .int .i64 0, .int .i64 0] [(0, 1, (.c (.int .i64 2))), (5, 1, (.c (.int .i64 19))), (6, 1, (.t 3))], none⟩, ⟨none, .st 7 (.t 2) (.t 4), none⟩]))
    .ret)), [.cl 2 (some 7)], 5⟩
theorem eb27 : fB Try.prog 27 ec27 = true := by kernel_rfl

/-- partywall/queue.Poll -/
def ec28 : CF := ⟨(.seq (.keep [0, 1] (.ops [⟨some 2, .box 3 (.t 0), none⟩, ⟨some 4, .alloc [.int .i64 0, .nils, .int .i64 0], none⟩, ⟨some 5, .mv (.c .nils), none⟩, ⟨some 6, .mv (.c (.int .i64 0)), none⟩]))
    (.seq (.keep [1, 2, 4] (.ops [⟨some 10, .ld (some 3) (.t 2), none⟩, ⟨some 11, .call 15 [(.t 10)], none⟩, ⟨some 7, .mv (.t 11), none⟩]))
    (.seq (.seq (.keep [1, 2, 4, 7] (.ops [⟨some 12, .mv (.t 7), none⟩, ⟨some 13, .bin .eql (.t 12) (.c (.int .i64 0)), none⟩, ⟨some 14, .mv (.t 13), none⟩, ⟨some 15, .mv (.t 1), some (14, true)⟩, ⟨some 16, .bin .lss (.t 15) (.c (.int .i64 1)), some (14, true)⟩, ⟨some 17, .mv (.t 16), some (14, true)⟩, ⟨some 18, .mv (.t 1), some (17, false)⟩, ⟨some 19, .bin .gtr (.t 18) (.c (.int .i64 64)), some (17, false)⟩, ⟨some 20, .pick (.t 17) (.c (.bool true)) (.t 19), some (14, true)⟩, ⟨some 21, .pick (.t 14) (.t 20) (.c (.bool false)), none⟩]))
    (.cond (.t 21)
      (.keep [1, 2, 4] (.ops [⟨some 7, .mv (.c (.int .i64 2)), none⟩]))
      .skip))
    (.seq (.seq (.keep [1, 2, 4, 7] (.ops [⟨some 22, .mv (.t 7), none⟩, ⟨some 23, .bin .neq (.t 22) (.c (.int .i64 0)), none⟩]))
    (.cond (.t 23)
      (.seq (.keep [4, 7] (.ops [⟨some 24, .bld [.int .i64 0, .nils, .int .i64 0] [], none⟩, ⟨some 25, .mv (.t 7), none⟩, ⟨none, .st 3 (.t 4) (.t 24), none⟩, ⟨some 5, .mv (.c .nils), none⟩, ⟨some 6, .mv (.t 25), none⟩]))
      .ret)
      .skip))
    (.seq (.keep [1, 2, 4] (.ops [⟨some 26, .ld (some 3) (.t 2), none⟩, ⟨some 27, .bld [.int .i64 0, .nils, .int .i64 0] [(0, 3, (.t 26))], none⟩, ⟨some 8, .alloc [.int .i64 0, .nils, .int .i64 0], none⟩, ⟨none, .st 3 (.t 8) (.t 27), none⟩]))
    (.seq (.keep [1, 4, 8] (.ops [⟨some 28, .mv (.t 1), none⟩, ⟨some 29, .call 45 [(.t 8), (.t 28)], none⟩, ⟨some 9, .mv (.t 29), none⟩]))
    (.seq (.keep [4, 8, 9] (.ops [⟨some 30, .fldA 0 (.t 8), none⟩, ⟨some 31, .ld (some 3) (.t 30), none⟩, ⟨some 32, .mv (.t 9), none⟩, ⟨none, .st 3 (.t 4) (.t 31), none⟩, ⟨some 5, .mv (.t 32), none⟩, ⟨some 6, .mv (.c (.int .i64 0)), none⟩]))
    .ret))))))), [.cl 4 (some 3), .t 5, .t 6], 33⟩
theorem eb28 : fB Try.prog 28 ec28 = true := by kernel_rfl

/-- partywall/partywallkit.Mod -/
def ec29 : CF := ⟨(.seq (.keep [0, 1] (.ops [⟨some 4, .mv (.c (.int .i64 0)), none⟩]))
    (.seq (.seq (.keep [0, 1] (.ops [⟨some 5, .mv (.t 1), none⟩, ⟨some 6, .bin .lss (.t 5) (.c (.int .i64 1)), none⟩]))
    (.cond (.t 6)
      (.seq (.keep [] (.ops [⟨some 4, .mv (.c (.int .i64 0)), none⟩]))
      .ret)
      .skip))
    (.seq (.keep [0, 1] (.ops [⟨some 7, .mv (.t 0), none⟩, ⟨some 8, .mv (.t 1), none⟩, ⟨some 9, .bin .rem (.t 7) (.t 8), none⟩, ⟨some 0, .mv (.t 9), none⟩]))
    (.seq (.seq (.keep [0, 1] (.ops [⟨some 10, .mv (.t 0), none⟩, ⟨some 11, .bin .lss (.t 10) (.c (.int .i64 0)), none⟩]))
    (.cond (.t 11)
      (.keep [0, 1] (.ops [⟨some 12, .mv (.t 0), none⟩, ⟨some 13, .mv (.t 1), none⟩, ⟨some 14, .bin .add (.t 12) (.t 13), none⟩, ⟨some 0, .mv (.t 14), none⟩]))
      .skip))
    (.seq (.keep [0] (.ops [⟨some 15, .mv (.t 0), none⟩, ⟨some 4, .mv (.t 15), none⟩]))
    .ret))))), [.t 4], 16⟩
theorem eb29 : fB Try.prog 29 ec29 = true := by kernel_rfl

/-- partywall/partywalllaw26.items -/
def ec30 : CF := ⟨(.seq (.keep [0] (.ops [⟨some 2, .mv (.c .nils), none⟩]))
    (.seq (.keep [0] (.ops [⟨some 3, .mv (.c .nils), none⟩]))
    (.seq (.seq (.keep [0, 3] (.ops [⟨some 4, .mv (.c (.int .i64 0)), none⟩]))
    (.block 0 (.loop (.seq (.seq (.keep [0, 3, 4] (.ops [⟨some 5, .mv (.t 4), none⟩, ⟨some 6, .mv (.t 0), none⟩, ⟨some 7, .len (.t 6), none⟩, ⟨some 8, .bin .lss (.t 5) (.t 7), none⟩, ⟨some 9, .mv (.t 8), none⟩, ⟨some 10, .mv (.t 4), some (9, true)⟩, ⟨some 11, .bin .lss (.t 10) (.c (.int .i64 30)), some (9, true)⟩, ⟨some 12, .pick (.t 9) (.t 11) (.c (.bool false)), none⟩]))
    (.cond (.t 12)
      .skip
      (.exit 0)))
    (.seq (.block 1 (.keep [0, 3, 4] (.ops [⟨some 15, .mv (.t 3), none⟩, ⟨some 16, .mv (.t 0), none⟩, ⟨some 17, .mv (.t 4), none⟩, ⟨some 18, .ixA 1 (.t 16) (.t 17), none⟩, ⟨some 19, .ld (none) (.t 18), none⟩, ⟨some 20, .call 24 [(.t 19)], none⟩, ⟨some 21, .mkSl 7 1 [.int .i64 0, .int .i64 0, .nils, .nils, .nils, .int .i64 0, .int .i64 0] [(0, 7, (.t 20))], none⟩, ⟨some 22, .app true 42 7 104 (.t 15) (.t 21), none⟩, ⟨some 3, .mv (.t 22), none⟩])))
    (.keep [0, 3, 4] (.ops [⟨some 13, .mv (.t 4), none⟩, ⟨some 14, .bin .add (.t 13) (.c (.int .i64 1)), none⟩, ⟨some 4, .mv (.t 14), none⟩])))))))
    (.seq (.keep [3] (.ops [⟨some 23, .mv (.t 3), none⟩, ⟨some 2, .mv (.t 23), none⟩]))
    .ret)))), [.t 2], 24⟩
theorem eb30 : fB Try.prog 30 ec30 = true := by kernel_rfl

/-- partywall/queue.All -/
def ec31 : CF := ⟨(.seq (.keep [0] (.ops [⟨some 1, .box 3 (.t 0), none⟩, ⟨some 2, .mv (.c .nils), none⟩, ⟨some 3, .mv (.c (.int .i64 0)), none⟩]))
    (.seq (.seq (.keep [1] (.ops [⟨some 9, .ld (some 3) (.t 1), none⟩, ⟨some 10, .call 15 [(.t 9)], none⟩, ⟨some 4, .mv (.t 10), none⟩]))
    (.seq (.keep [1, 4] (.ops [⟨some 11, .mv (.t 4), none⟩, ⟨some 12, .bin .neq (.t 11) (.c (.int .i64 0)), none⟩]))
    (.cond (.t 12)
      (.seq (.keep [4] (.ops [⟨some 13, .mv (.t 4), none⟩, ⟨some 2, .mv (.c .nils), none⟩, ⟨some 3, .mv (.t 13), none⟩]))
      .ret)
      .skip)))
    (.seq (.keep [1] (.ops [⟨some 14, .ld (some 3) (.t 1), none⟩, ⟨some 15, .bld [.int .i64 0, .nils, .int .i64 0] [(0, 3, (.t 14))], none⟩, ⟨some 5, .alloc [.int .i64 0, .nils, .int .i64 0], none⟩, ⟨none, .st 3 (.t 5) (.t 15), none⟩]))
    (.seq (.keep [5] (.ops [⟨some 16, .mkF 46 [(.t 5)], none⟩, ⟨some 6, .mv (.t 16), none⟩]))
    (.seq (.keep [6] (.ops [⟨some 7, .mv (.c .nils), none⟩]))
    (.seq (.seq (.keep [6, 7] (.ops [⟨some 17, .mv (.t 6), none⟩, ⟨some 18, .callv (.t 17) [], none⟩, ⟨some 8, .mv (.t 18), none⟩]))
    (.block 0 (.loop (.seq (.seq (.keep [6, 7, 8] (.ops [⟨some 19, .mv (.t 8), none⟩, ⟨some 20, .len (.t 19), none⟩, ⟨some 21, .bin .gtr (.t 20) (.c (.int .i64 0)), none⟩]))
    (.cond (.t 21)
      .skip
      (.exit 0)))
    (.seq (.block 1 (.keep [6, 7, 8] (.ops [⟨some 24, .mv (.t 7), none⟩, ⟨some 25, .mv (.t 8), none⟩, ⟨some 26, .app true 42 7 104 (.t 24) (.t 25), none⟩, ⟨some 7, .mv (.t 26), none⟩])))
    (.keep [6, 7] (.ops [⟨some 22, .mv (.t 6), none⟩, ⟨some 23, .callv (.t 22) [], none⟩, ⟨some 8, .mv (.t 23), none⟩])))))))
    (.seq (.keep [7] (.ops [⟨some 27, .mv (.t 7), none⟩, ⟨some 2, .mv (.t 27), none⟩, ⟨some 3, .mv (.c (.int .i64 0)), none⟩]))
    .ret))))))), [.t 2, .t 3], 28⟩
theorem eb31 : fB Try.prog 31 ec31 = true := by kernel_rfl

/-- partywall/partywallref26.Poll -/
def ec32 : CF := ⟨(.seq (.keep [0, 1] (.ops [⟨some 2, .box 3 (.t 0), none⟩, ⟨some 4, .alloc [.int .i64 0, .nils, .int .i64 0], none⟩, ⟨some 5, .mv (.c .nils), none⟩, ⟨some 6, .mv (.c (.int .i64 0)), none⟩]))
    (.seq (.keep [1, 2, 4] (.ops [⟨some 9, .ld (some 3) (.t 2), none⟩, ⟨some 10, .call 16 [(.t 9)], none⟩, ⟨some 7, .mv (.t 10), none⟩]))
    (.seq (.seq (.keep [1, 2, 4, 7] (.ops [⟨some 11, .mv (.t 7), none⟩, ⟨some 12, .bin .eql (.t 11) (.c (.int .i64 0)), none⟩, ⟨some 13, .mv (.t 12), none⟩, ⟨some 14, .mv (.t 1), some (13, true)⟩, ⟨some 15, .bin .lss (.t 14) (.c (.int .i64 1)), some (13, true)⟩, ⟨some 16, .mv (.t 15), some (13, true)⟩, ⟨some 17, .mv (.t 1), some (16, false)⟩, ⟨some 18, .bin .gtr (.t 17) (.c (.int .i64 64)), some (16, false)⟩, ⟨some 19, .pick (.t 16) (.c (.bool true)) (.t 18), some (13, true)⟩, ⟨some 20, .pick (.t 13) (.t 19) (.c (.bool false)), none⟩]))
    (.cond (.t 20)
      (.keep [1, 2, 4] (.ops [⟨some 7, .mv (.c (.int .i64 2)), none⟩]))
      .skip))
    (.seq (.seq (.keep [1, 2, 4, 7] (.ops [⟨some 21, .mv (.t 7), none⟩, ⟨some 22, .bin .neq (.t 21) (.c (.int .i64 0)), none⟩]))
    (.cond (.t 22)
      (.seq (.keep [4, 7] (.ops [⟨some 23, .bld [.int .i64 0, .nils, .int .i64 0] [], none⟩, ⟨some 24, .mv (.t 7), none⟩, ⟨none, .st 3 (.t 4) (.t 23), none⟩, ⟨some 5, .mv (.c .nils), none⟩, ⟨some 6, .mv (.t 24), none⟩]))
      .ret)
      .skip))
    (.seq (.keep [1, 2, 4] (.ops [⟨some 26, .ld (some 3) (.t 2), none⟩, ⟨some 27, .mv (.t 1), none⟩, ⟨some 28, .call 47 [(.t 26), (.t 27)], none⟩, ⟨some 25, .mv (.t 28), none⟩, ⟨some 29, .ext (.t 25) 0, none⟩, ⟨some 30, .ext (.t 25) 1, none⟩, ⟨none, .st 3 (.t 2) (.t 29), none⟩, ⟨some 8, .mv (.t 30), none⟩]))
    (.seq (.keep [2, 4, 8] (.ops [⟨some 31, .ld (some 3) (.t 2), none⟩, ⟨some 32, .mv (.t 8), none⟩, ⟨none, .st 3 (.t 4) (.t 31), none⟩, ⟨some 5, .mv (.t 32), none⟩, ⟨some 6, .mv (.c (.int .i64 0)), none⟩]))
    .ret)))))), [.cl 4 (some 3), .t 5, .t 6], 33⟩
theorem eb32 : fB Try.prog 32 ec32 = true := by kernel_rfl

/-- partywall/partywallref26.All -/
def ec33 : CF := ⟨(.seq (.keep [0] (.ops [⟨some 1, .box 3 (.t 0), none⟩, ⟨some 2, .mv (.c .nils), none⟩, ⟨some 3, .mv (.c (.int .i64 0)), none⟩]))
    (.seq (.keep [1] (.ops [⟨some 8, .ld (some 3) (.t 1), none⟩, ⟨some 9, .call 16 [(.t 8)], none⟩, ⟨some 4, .mv (.t 9), none⟩]))
    (.seq (.seq (.keep [1, 4] (.ops [⟨some 10, .mv (.t 4), none⟩, ⟨some 11, .bin .neq (.t 10) (.c (.int .i64 0)), none⟩]))
    (.cond (.t 11)
      (.seq (.keep [4] (.ops [⟨some 12, .mv (.t 4), none⟩, ⟨some 2, .mv (.c .nils), none⟩, ⟨some 3, .mv (.t 12), none⟩]))
      .ret)
      .skip))
    (.seq (.keep [1] (.ops [⟨some 14, .ld (some 3) (.t 1), none⟩, ⟨some 15, .call 47 [(.t 14), (.c (.int .i64 64))], none⟩, ⟨some 13, .mv (.t 15), none⟩, ⟨some 16, .ext (.t 13) 0, none⟩, ⟨some 17, .ext (.t 13) 1, none⟩, ⟨none, .st 3 (.t 1) (.t 16), none⟩, ⟨some 5, .mv (.t 17), none⟩]))
    (.seq (.keep [1, 5] (.ops [⟨some 19, .ld (some 3) (.t 1), none⟩, ⟨some 20, .call 47 [(.t 19), (.c (.int .i64 64))], none⟩, ⟨some 18, .mv (.t 20), none⟩, ⟨some 21, .ext (.t 18) 0, none⟩, ⟨some 22, .ext (.t 18) 1, none⟩, ⟨some 6, .alloc [.int .i64 0, .nils, .int .i64 0], none⟩, ⟨none, .st 3 (.t 6) (.t 21), none⟩, ⟨some 7, .mv (.t 22), none⟩]))
    (.seq (.keep [5, 7] (.ops [⟨some 23, .mv (.t 5), none⟩, ⟨some 24, .mv (.t 7), none⟩, ⟨some 25, .app true 42 7 104 (.t 23) (.t 24), none⟩, ⟨some 2, .mv (.t 25), none⟩, ⟨some 3, .mv (.c (.int .i64 0)), none⟩]))
    .ret)))))), [.t 2, .t 3], 26⟩
theorem eb33 : fB Try.prog 33 ec33 = true := by kernel_rfl

/-- partywall/queue.Told -/
def ec34 : CF := ⟨(.seq (.keep [0] (.ops [⟨some 2, .mv (.c (.int .i64 0)), none⟩, ⟨some 3, .mv (.c (.int .i64 0)), none⟩, ⟨some 4, .mv (.c (.int .i64 0)), none⟩]))
    (.seq (.seq (.keep [0, 2, 3] (.ops [⟨some 8, .mv (.t 0), none⟩, ⟨some 9, .call 37 [(.t 8)], none⟩, ⟨some 5, .mv (.t 9), none⟩]))
    (.seq (.keep [0, 2, 3, 5] (.ops [⟨some 10, .mv (.t 5), none⟩, ⟨some 11, .bin .neq (.t 10) (.c (.int .i64 0)), none⟩]))
    (.cond (.t 11)
      (.seq (.keep [5] (.ops [⟨some 12, .mv (.t 5), none⟩, ⟨some 2, .mv (.c (.int .i64 0)), none⟩, ⟨some 3, .mv (.c (.int .i64 0)), none⟩, ⟨some 4, .mv (.t 12), none⟩]))
      .ret)
      .skip)))
    (.seq (.seq (.keep [0, 2, 3] (.ops [⟨some 13, .mv (.t 0), none⟩, ⟨some 14, .len (.t 13), none⟩, ⟨some 15, .mv (.c (.int .i64 0)), none⟩]))
    (.block 0 (.loop (.seq (.keep [2, 3, 13, 14, 15] (.ops [⟨some 16, .bin .lss (.t 15) (.t 14), none⟩]))
    (.seq (.cond (.t 16)
      .skip
      (.exit 0))
    (.seq (.block 1 (.seq (.keep [2, 3, 13, 14, 15] (.ops [⟨some 17, .ixA 7 (.t 13) (.t 15), none⟩, ⟨some 18, .ld (some 7) (.t 17), none⟩, ⟨some 7, .alloc [.int .i64 0, .int .i64 0, .nils, .nils, .nils, .int .i64 0, .int .i64 0], none⟩, ⟨none, .st 7 (.t 7) (.t 18), none⟩]))
    (.seq (.keep [2, 3, 7, 13, 14, 15] (.ops [⟨some 19, .fldA 0 (.t 7), none⟩, ⟨some 20, .ld (none) (.t 19), none⟩, ⟨some 21, .bin .eql (.t 20) (.c (.int .i64 2)), none⟩, ⟨some 22, .mv (.t 21), none⟩, ⟨some 23, .fldA 5 (.t 7), some (22, true)⟩, ⟨some 24, .ld (none) (.t 23), some (22, true)⟩, ⟨some 25, .bin .eql (.t 24) (.c (.int .i64 19)), some (22, true)⟩, ⟨some 26, .pick (.t 22) (.t 25) (.c (.bool false)), none⟩]))
    (.cond (.t 26)
      (.keep [2, 3, 7, 13, 14, 15] (.ops [⟨some 27, .mv (.t 3), none⟩, ⟨some 28, .fldA 6 (.t 7), none⟩, ⟨some 29, .ld (none) (.t 28), none⟩, ⟨some 30, .bin .add (.t 27) (.t 29), none⟩, ⟨some 31, .mm false (.t 30) (.c (.int .i64 1099511627776)), none⟩, ⟨some 3, .mv (.t 31), none⟩]))
      (.keep [2, 3, 13, 14, 15] (.ops [⟨some 32, .mv (.t 2), none⟩, ⟨some 33, .bin .add (.t 32) (.c (.int .i64 1)), none⟩, ⟨some 2, .mv (.t 33), none⟩]))))))
    (.keep [2, 3, 13, 14, 15] (.ops [⟨some 34, .bin .add (.t 15) (.c (.int .i64 1)), none⟩, ⟨some 15, .mv (.t 34), none⟩]))))))))
    (.seq (.keep [2, 3] (.ops [⟨some 35, .mv (.t 2), none⟩, ⟨some 36, .mv (.t 3), none⟩, ⟨some 2, .mv (.t 35), none⟩, ⟨some 3, .mv (.t 36), none⟩, ⟨some 4, .mv (.c (.int .i64 0)), none⟩]))
    .ret)))), [.t 2, .t 3, .t 4], 37⟩
theorem eb34 : fB Try.prog 34 ec34 = true := by kernel_rfl

/-- partywall/partywallref26.Told -/
def ec35 : CF := ⟨(.seq (.keep [0] (.ops [⟨some 2, .mv (.c (.int .i64 0)), none⟩, ⟨some 3, .mv (.c (.int .i64 0)), none⟩, ⟨some 4, .mv (.c (.int .i64 0)), none⟩]))
    (.seq (.keep [0] (.ops [⟨some 9, .mv (.t 0), none⟩, ⟨some 10, .call 38 [(.t 9)], none⟩, ⟨some 5, .mv (.t 10), none⟩]))
    (.seq (.seq (.keep [0, 5] (.ops [⟨some 11, .mv (.t 5), none⟩, ⟨some 12, .bin .neq (.t 11) (.c (.int .i64 0)), none⟩]))
    (.cond (.t 12)
      (.seq (.keep [5] (.ops [⟨some 13, .mv (.t 5), none⟩, ⟨some 2, .mv (.c (.int .i64 0)), none⟩, ⟨some 3, .mv (.c (.int .i64 0)), none⟩, ⟨some 4, .mv (.t 13), none⟩]))
      .ret)
      .skip))
    (.seq (.keep [0] (.ops [⟨some 6, .mv (.c (.int .i64 0)), none⟩, ⟨some 7, .mv (.c (.int .i64 0)), none⟩]))
    (.seq (.seq (.keep [0, 6, 7] (.ops [⟨some 8, .mv (.c (.int .i64 0)), none⟩]))
    (.block 0 (.loop (.seq (.seq (.keep [0, 6, 7, 8] (.ops [⟨some 14, .mv (.t 8), none⟩, ⟨some 15, .mv (.t 0), none⟩, ⟨some 16, .len (.t 15), none⟩, ⟨some 17, .bin .lss (.t 14) (.t 16), none⟩]))
    (.cond (.t 17)
      .skip
      (.exit 0)))
    (.seq (.block 1 (.seq (.keep [0, 6, 7, 8] (.ops [⟨some 20, .mv (.t 0), none⟩, ⟨some 21, .mv (.t 8), none⟩, ⟨some 22, .ixA 7 (.t 20) (.t 21), none⟩, ⟨some 23, .fldA 0 (.t 22), none⟩, ⟨some 24, .ld (none) (.t 23), none⟩, ⟨some 25, .bin .eql (.t 24) (.c (.int .i64 2)), none⟩, ⟨some 26, .mv (.t 25), none⟩, ⟨some 27, .mv (.t 0), some (26, true)⟩, ⟨some 28, .mv (.t 8), some (26, true)⟩, ⟨some 29, .ixA 7 (.t 27) (.t 28), some (26, true)⟩, ⟨some 30, .fldA 5 (.t 29), some (26, true)⟩, ⟨some 31, .ld (none) (.t 30), some (26, true)⟩, ⟨some 32, .bin .eql (.t 31) (.c (.int .i64 19)), some (26, true)⟩, ⟨some 33, .pick (.t 26) (.t 32) (.c (.bool false)), none⟩]))
    (.cond (.t 33)
      (.keep [0, 6, 7, 8] (.ops [⟨some 34, .mv (.t 7), none⟩, ⟨some 35, .mv (.t 0), none⟩, ⟨some 36, .mv (.t 8), none⟩, ⟨some 37, .ixA 7 (.t 35) (.t 36), none⟩, ⟨some 38, .fldA 6 (.t 37), none⟩, ⟨some 39, .ld (none) (.t 38), none⟩, ⟨some 40, .bin .add (.t 34) (.t 39), none⟩, ⟨some 41, .mm false (.c (.int .i64 1099511627776)) (.t 40), none⟩, ⟨some 7, .mv (.t 41), none⟩]))
      (.keep [0, 6, 7, 8] (.ops [⟨some 42, .mv (.t 6), none⟩, ⟨some 43, .bin .add (.t 42) (.c (.int .i64 1)), none⟩, ⟨some 6, .mv (.t 43), none⟩])))))
    (.keep [0, 6, 7, 8] (.ops [⟨some 18, .mv (.t 8), none⟩, ⟨some 19, .bin .add (.t 18) (.c (.int .i64 1)), none⟩, ⟨some 8, .mv (.t 19), none⟩])))))))
    (.seq (.keep [6, 7] (.ops [⟨some 44, .mv (.t 6), none⟩, ⟨some 45, .mv (.t 7), none⟩, ⟨some 2, .mv (.t 44), none⟩, ⟨some 3, .mv (.t 45), none⟩, ⟨some 4, .mv (.c (.int .i64 0)), none⟩]))
    .ret)))))), [.t 2, .t 3, .t 4], 46⟩
theorem eb35 : fB Try.prog 35 ec35 = true := by kernel_rfl

/-- partywall/partywallkit.OwnItem -/
def ec36 : CF := ⟨(.seq (.keep [0] (.ops [⟨some 1, .box 7 (.t 0), none⟩, ⟨some 2, .alloc [.int .i64 0, .int .i64 0, .nils, .nils, .nils, .int .i64 0, .int .i64 0], none⟩]))
    (.seq (.keep [1, 2] (.drw [⟨some 3, .mkSl 2 0 [] [], none⟩, ⟨some 4, .fldA 2 (.t 1), none⟩, ⟨some 5, .ld (none) (.t 4), none⟩, ⟨some 6, .app false 74 2 16 (.t 3) (.t 5), none⟩, ⟨some 7, .fldA 3 (.t 1), none⟩, ⟨some 8, .ld (none) (.t 7), none⟩, ⟨some 9, .call 48 [(.t 8)], none⟩, ⟨some 10, .mkSl 1 0 [] [], none⟩, ⟨some 11, .fldA 4 (.t 1), none⟩, ⟨some 12, .ld (none) (.t 11), none⟩, ⟨some 13, .app false 2 1 8 (.t 10) (.t 12), none⟩, ⟨some 14, .fldA 2 (.t 1), none⟩, ⟨none, .st 1 (.t 14) (.t 6), none⟩, ⟨some 15, .fldA 3 (.t 1), none⟩, ⟨none, .st 1 (.t 15) (.t 9), none⟩, ⟨some 16, .fldA 4 (.t 1), none⟩, ⟨none, .st 1 (.t 16) (.t 13), none⟩] [0, 0, 1, 0, 0, 1, 1, 0, 0, 1, 0, 0, 2, 0, 2, 0, 2]))
    (.seq (.keep [1, 2] (.ops [⟨some 17, .ld (some 7) (.t 1), none⟩, ⟨none, .st 7 (.t 2) (.t 17), none⟩]))
    .ret))), [.cl 2 (some 7)], 18⟩
theorem eb36 : fB Try.prog 36 ec36 = true := by kernel_rfl

/-- partywall/queue.right -/
def ec37 : CF := ⟨(.seq (.keep [0] (.ops [⟨some 2, .mv (.c (.int .i64 0)), none⟩]))
    (.seq (.seq (.keep [0] (.ops [⟨some 6, .mv (.t 0), none⟩, ⟨some 7, .len (.t 6), none⟩, ⟨some 8, .mv (.c (.int .i64 0)), none⟩]))
    (.block 0 (.loop (.seq (.keep [6, 7, 8] (.ops [⟨some 9, .bin .lss (.t 8) (.t 7), none⟩]))
    (.seq (.cond (.t 9)
      .skip
      (.exit 0))
    (.seq (.block 1 (.seq (.keep [6, 7, 8] (.ops [⟨some 10, .ixA 7 (.t 6) (.t 8), none⟩, ⟨some 11, .ld (some 7) (.t 10), none⟩, ⟨some 4, .alloc [.int .i64 0, .int .i64 0, .nils, .nils, .nils, .int .i64 0, .int .i64 0], none⟩, ⟨none, .st 7 (.t 4) (.t 11), none⟩]))
    (.seq (.keep [4, 6, 7, 8] (.ops [⟨some 12, .ld (some 7) (.t 4), none⟩, ⟨some 13, .call 49 [(.t 12)], none⟩, ⟨some 5, .mv (.t 13), none⟩]))
    (.seq (.keep [5, 6, 7, 8] (.ops [⟨some 14, .mv (.t 5), none⟩, ⟨some 15, .bin .neq (.t 14) (.c (.int .i64 0)), none⟩]))
    (.cond (.t 15)
      (.seq (.keep [5] (.ops [⟨some 16, .mv (.t 5), none⟩, ⟨some 2, .mv (.t 16), none⟩]))
      .ret)
      .skip)))))
    (.keep [6, 7, 8] (.ops [⟨some 17, .bin .add (.t 8) (.c (.int .i64 1)), none⟩, ⟨some 8, .mv (.t 17), none⟩]))))))))
    (.seq (.keep [] (.ops [⟨some 2, .mv (.c (.int .i64 0)), none⟩]))
    .ret))), [.t 2], 18⟩
theorem eb37 : fB Try.prog 37 ec37 = true := by kernel_rfl

/-- partywall/partywallref26.right -/
def ec38 : CF := ⟨(.seq (.keep [0] (.ops [⟨some 2, .mv (.c (.int .i64 0)), none⟩]))
    (.seq (.seq (.keep [0] (.ops [⟨some 3, .mv (.c (.int .i64 0)), none⟩]))
    (.block 0 (.loop (.seq (.seq (.keep [0, 3] (.ops [⟨some 5, .mv (.t 3), none⟩, ⟨some 6, .mv (.t 0), none⟩, ⟨some 7, .len (.t 6), none⟩, ⟨some 8, .bin .lss (.t 5) (.t 7), none⟩]))
    (.cond (.t 8)
      .skip
      (.exit 0)))
    (.seq (.block 1 (.seq (.keep [0, 3] (.ops [⟨some 11, .mv (.t 0), none⟩, ⟨some 12, .mv (.t 3), none⟩, ⟨some 13, .ixA 7 (.t 11) (.t 12), none⟩, ⟨some 14, .ld (some 7) (.t 13), none⟩, ⟨some 15, .call 50 [(.t 14)], none⟩, ⟨some 4, .mv (.t 15), none⟩]))
    (.seq (.keep [0, 3, 4] (.ops [⟨some 16, .mv (.t 4), none⟩, ⟨some 17, .bin .neq (.t 16) (.c (.int .i64 0)), none⟩]))
    (.cond (.t 17)
      (.seq (.keep [4] (.ops [⟨some 18, .mv (.t 4), none⟩, ⟨some 2, .mv (.t 18), none⟩]))
      .ret)
      .skip))))
    (.keep [0, 3] (.ops [⟨some 9, .mv (.t 3), none⟩, ⟨some 10, .bin .add (.t 9) (.c (.int .i64 1)), none⟩, ⟨some 3, .mv (.t 10), none⟩])))))))
    (.seq (.keep [] (.ops [⟨some 2, .mv (.c (.int .i64 0)), none⟩]))
    .ret))), [.t 2], 19⟩
theorem eb38 : fB Try.prog 38 ec38 = true := by kernel_rfl

/-- (*partywall/queue.queue).put -/
def ec39 : CF := ⟨(.seq (.keep [0, 1] (.ops [⟨some 3, .box 7 (.t 1), none⟩, ⟨some 4, .mv (.c (.bool false)), none⟩]))
    (.seq (.seq (.keep [0, 3] (.ops [⟨some 6, .mv (.t 0), none⟩, ⟨some 7, .nilc (.t 6), none⟩, ⟨some 8, .ld (some 3) (.t 7), none⟩, ⟨some 9, .call 43 [(.t 8)], none⟩, ⟨some 10, .bin .eql (.t 9) (.c (.int .i64 0)), none⟩]))
    (.cond (.t 10)
      (.seq (.keep [0] (.ops [⟨some 11, .mv (.t 0), none⟩, ⟨some 12, .call 51 [(.t 11)], none⟩]))
      (.seq (.keep [] (.ops [⟨some 4, .mv (.c (.bool false)), none⟩]))
      .ret))
      .skip))
    (.seq (.keep [0, 3] (.ops [⟨some 13, .mv (.t 0), none⟩, ⟨some 14, .nilc (.t 13), none⟩, ⟨some 15, .fldA 0 (.t 14), none⟩, ⟨some 16, .fldA 1 (.t 15), none⟩, ⟨some 17, .ld (none) (.t 16), none⟩, ⟨some 18, .len (.t 17), none⟩, ⟨some 5, .mv (.t 18), none⟩]))
    (.seq (.keep [0, 3, 5] (.drw [⟨some 19, .mv (.t 0), none⟩, ⟨some 20, .mv (.t 0), none⟩, ⟨some 21, .nilc (.t 20), none⟩, ⟨some 22, .fldA 0 (.t 21), none⟩, ⟨some 23, .fldA 1 (.t 22), none⟩, ⟨some 24, .ld (none) (.t 23), none⟩, ⟨some 25, .mv (.t 5), none⟩, ⟨some 26, .mv (.t 5), none⟩, ⟨some 27, .slc 7 (.t 24) none (some (.t 25)) (some (.t 26)), none⟩, ⟨some 28, .ld (some 7) (.t 3), none⟩, ⟨some 29, .mkSl 7 1 [.int .i64 0, .int .i64 0, .nils, .nils, .nils, .int .i64 0, .int .i64 0] [(0, 7, (.t 28))], none⟩, ⟨some 30, .app false 42 7 104 (.t 27) (.t 29), none⟩, ⟨some 31, .nilc (.t 19), none⟩, ⟨some 32, .fldA 0 (.t 31), none⟩, ⟨some 33, .fldA 1 (.t 32), none⟩, ⟨none, .st 1 (.t 33) (.t 30), none⟩] [0, 0, 0, 0, 0, 1, 0, 0, 0, 1, 0, 0, 0, 0, 0, 2]))
    (.seq (.keep [] (.ops [⟨some 4, .mv (.c (.bool true)), none⟩]))
    .ret))))), [.t 4], 34⟩
theorem eb39 : fB Try.prog 39 ec39 = true := by kernel_rfl

/-- partywall/partywallref26.both -/
def ec40 : CF := ⟨(.seq (.keep [0, 1] (.ops [⟨some 2, .box 3 (.t 0), none⟩, ⟨some 4, .mv (.c (.int .i64 0)), none⟩]))
    (.seq (.keep [1, 2] (.ops [⟨some 6, .ld (some 3) (.t 2), none⟩, ⟨some 7, .call 16 [(.t 6)], none⟩, ⟨some 5, .mv (.t 7), none⟩]))
    (.seq (.seq (.keep [1, 5] (.ops [⟨some 8, .mv (.t 5), none⟩, ⟨some 9, .bin .eql (.t 8) (.c (.int .i64 0)), none⟩]))
    (.cond (.t 9)
      (.keep [1] (.ops [⟨some 10, .mv (.t 1), none⟩, ⟨some 11, .call 38 [(.t 10)], none⟩, ⟨some 5, .mv (.t 11), none⟩]))
      .skip))
    (.seq (.keep [5] (.ops [⟨some 12, .mv (.t 5), none⟩, ⟨some 4, .mv (.t 12), none⟩]))
    .ret)))), [.t 4], 13⟩
theorem eb40 : fB Try.prog 40 ec40 = true := by kernel_rfl

/-- partywall/partywallref26.owned -/
def ec41 : CF := ⟨(.seq (.keep [0] (.ops [⟨some 2, .mv (.c .nils), none⟩]))
    (.seq (.keep [0] (.ops [⟨some 3, .mv (.c .nils), none⟩]))
    (.seq (.seq (.keep [0, 3] (.ops [⟨some 4, .mv (.c (.int .i64 0)), none⟩]))
    (.block 0 (.loop (.seq (.seq (.keep [0, 3, 4] (.ops [⟨some 5, .mv (.t 4), none⟩, ⟨some 6, .mv (.t 0), none⟩, ⟨some 7, .len (.t 6), none⟩, ⟨some 8, .bin .lss (.t 5) (.t 7), none⟩]))
    (.cond (.t 8)
      .skip
      (.exit 0)))
    (.seq (.block 1 (.keep [0, 3, 4] (.ops [⟨some 11, .mv (.t 3), none⟩, ⟨some 12, .mv (.t 0), none⟩, ⟨some 13, .mv (.t 4), none⟩, ⟨some 14, .ixA 7 (.t 12) (.t 13), none⟩, ⟨some 15, .ld (some 7) (.t 14), none⟩, ⟨some 16, .call 52 [(.t 15)], none⟩, ⟨some 17, .mkSl 7 1 [.int .i64 0, .int .i64 0, .nils, .nils, .nils, .int .i64 0, .int .i64 0] [(0, 7, (.t 16))], none⟩, ⟨some 18, .app true 42 7 104 (.t 11) (.t 17), none⟩, ⟨some 3, .mv (.t 18), none⟩])))
    (.keep [0, 3, 4] (.ops [⟨some 9, .mv (.t 4), none⟩, ⟨some 10, .bin .add (.t 9) (.c (.int .i64 1)), none⟩, ⟨some 4, .mv (.t 10), none⟩])))))))
    (.seq (.keep [3] (.ops [⟨some 19, .mv (.t 3), none⟩, ⟨some 2, .mv (.t 19), none⟩]))
    .ret)))), [.t 2], 20⟩
theorem eb41 : fB Try.prog 41 ec41 = true := by kernel_rfl

/-- partywall/partywallref26.put -/
def ec42 : CF := ⟨(.seq (.keep [0, 1] (.ops [⟨some 2, .box 3 (.t 0), none⟩, ⟨some 3, .box 7 (.t 1), none⟩, ⟨some 4, .alloc [.int .i64 0, .nils, .int .i64 0], none⟩, ⟨some 5, .mv (.c (.bool false)), none⟩]))
    (.seq (.seq (.keep [2, 3, 4] (.ops [⟨some 6, .fldA 2 (.t 2), none⟩, ⟨some 7, .ld (none) (.t 6), none⟩, ⟨some 8, .bin .gtr (.t 7) (.c (.int .i64 0)), none⟩, ⟨some 9, .mv (.t 8), none⟩, ⟨some 10, .fldA 1 (.t 2), some (9, false)⟩, ⟨some 11, .ld (none) (.t 10), some (9, false)⟩, ⟨some 12, .len (.t 11), some (9, false)⟩, ⟨some 13, .fldA 0 (.t 2), some (9, false)⟩, ⟨some 14, .ld (none) (.t 13), some (9, false)⟩, ⟨some 15, .bin .eql (.t 12) (.t 14), some (9, false)⟩, ⟨some 16, .pick (.t 9) (.c (.bool true)) (.t 15), none⟩]))
    (.cond (.t 16)
      (.seq (.keep [2, 4] (.ops [⟨some 17, .fldA 2 (.t 2), none⟩, ⟨some 18, .ld (none) (.t 17), none⟩, ⟨some 19, .bin .add (.t 18) (.c (.int .i64 1)), none⟩, ⟨some 20, .mm false (.c (.int .i64 1099511627776)) (.t 19), none⟩, ⟨some 21, .fldA 2 (.t 2), none⟩, ⟨none, .st 1 (.t 21) (.t 20), none⟩]))
      (.seq (.keep [2, 4] (.ops [⟨some 22, .ld (some 3) (.t 2), none⟩, ⟨none, .st 3 (.t 4) (.t 22), none⟩, ⟨some 5, .mv (.c (.bool false)), none⟩]))
      .ret))
      .skip))
    (.seq (.keep [2, 3, 4] (.drw [⟨some 23, .mkSl 7 0 [] [], none⟩, ⟨some 24, .fldA 1 (.t 2), none⟩, ⟨some 25, .ld (none) (.t 24), none⟩, ⟨some 26, .app false 42 7 104 (.t 23) (.t 25), none⟩, ⟨some 27, .ld (some 7) (.t 3), none⟩, ⟨some 28, .call 52 [(.t 27)], none⟩, ⟨some 29, .mkSl 7 1 [.int .i64 0, .int .i64 0, .nils, .nils, .nils, .int .i64 0, .int .i64 0] [(0, 7, (.t 28))], none⟩, ⟨some 30, .app false 42 7 104 (.t 26) (.t 29), none⟩, ⟨some 31, .fldA 1 (.t 2), none⟩, ⟨none, .st 1 (.t 31) (.t 30), none⟩] [0, 0, 1, 0, 1, 1, 0, 0, 0, 2]))
    (.seq (.keep [2, 4] (.ops [⟨some 32, .ld (some 3) (.t 2), none⟩, ⟨none, .st 3 (.t 4) (.t 32), none⟩, ⟨some 5, .mv (.c (.bool true)), none⟩]))
    .ret)))), [.cl 4 (some 3), .t 5], 33⟩
theorem eb42 : fB Try.prog 42 ec42 = true := by kernel_rfl

/-- (partywall/queue.queue).room -/
def ec43 : CF := ⟨(.seq (.keep [0] (.ops [⟨some 1, .box 3 (.t 0), none⟩, ⟨some 2, .mv (.c (.int .i64 0)), none⟩]))
    (.seq (.seq (.keep [1] (.ops [⟨some 3, .fldA 0 (.t 1), none⟩, ⟨some 4, .fldA 2 (.t 3), none⟩, ⟨some 5, .ld (none) (.t 4), none⟩, ⟨some 6, .bin .neq (.t 5) (.c (.int .i64 0)), none⟩]))
    (.cond (.t 6)
      (.seq (.keep [] (.ops [⟨some 2, .mv (.c (.int .i64 0)), none⟩]))
      .ret)
      .skip))
    (.seq (.keep [1] (.ops [⟨some 7, .fldA 0 (.t 1), none⟩, ⟨some 8, .fldA 0 (.t 7), none⟩, ⟨some 9, .ld (none) (.t 8), none⟩, ⟨some 10, .fldA 0 (.t 1), none⟩, ⟨some 11, .fldA 1 (.t 10), none⟩, ⟨some 12, .ld (none) (.t 11), none⟩, ⟨some 13, .len (.t 12), none⟩, ⟨some 14, .bin .sub (.t 9) (.t 13), none⟩, ⟨some 2, .mv (.t 14), none⟩]))
    .ret))), [.t 2], 15⟩
theorem eb43 : fB Try.prog 43 ec43 = true := by kernel_rfl

/-- partywall/partywallkit.SameItem -/
def ec44 : CF := ⟨(.seq (.keep [0, 1] (.ops [⟨some 2, .box 7 (.t 0), none⟩, ⟨some 3, .box 7 (.t 1), none⟩, ⟨some 4, .mv (.c (.bool false)), none⟩]))
    (.seq (.keep [2, 3] (.ops [⟨some 5, .fldA 0 (.t 2), none⟩, ⟨some 6, .ld (none) (.t 5), none⟩, ⟨some 7, .fldA 0 (.t 3), none⟩, ⟨some 8, .ld (none) (.t 7), none⟩, ⟨some 9, .bin .eql (.t 6) (.t 8), none⟩, ⟨some 10, .mv (.t 9), none⟩, ⟨some 11, .fldA 1 (.t 2), some (10, true)⟩, ⟨some 12, .ld (none) (.t 11), some (10, true)⟩, ⟨some 13, .fldA 1 (.t 3), some (10, true)⟩, ⟨some 14, .ld (none) (.t 13), some (10, true)⟩, ⟨some 15, .bin .eql (.t 12) (.t 14), some (10, true)⟩, ⟨some 16, .pick (.t 10) (.t 15) (.c (.bool false)), none⟩, ⟨some 17, .mv (.t 16), none⟩, ⟨some 18, .fldA 2 (.t 2), some (17, true)⟩, ⟨some 19, .ld (none) (.t 18), some (17, true)⟩, ⟨some 20, .fldA 2 (.t 3), some (17, true)⟩, ⟨some 21, .ld (none) (.t 20), some (17, true)⟩, ⟨some 22, .call 53 [(.t 19), (.t 21)], some (17, true)⟩, ⟨some 23, .pick (.t 17) (.t 22) (.c (.bool false)), none⟩, ⟨some 24, .mv (.t 23), none⟩, ⟨some 25, .fldA 3 (.t 2), some (24, true)⟩, ⟨some 26, .ld (none) (.t 25), some (24, true)⟩, ⟨some 27, .fldA 3 (.t 3), some (24, true)⟩, ⟨some 28, .ld (none) (.t 27), some (24, true)⟩, ⟨some 29, .call 54 [(.t 26), (.t 28)], some (24, true)⟩, ⟨some 30, .pick (.t 24) (.t 29) (.c (.bool false)), none⟩, ⟨some 31, .mv (.t 30), none⟩, ⟨some 32, .fldA 4 (.t 2), some (31, true)⟩, ⟨some 33, .ld (none) (.t 32), some (31, true)⟩, ⟨some 34, .fldA 4 (.t 3), some (31, true)⟩, ⟨some 35, .ld (none) (.t 34), some (31, true)⟩, ⟨some 36, .call 55 [(.t 33), (.t 35)], some (31, true)⟩, ⟨some 37, .pick (.t 31) (.t 36) (.c (.bool false)), none⟩, ⟨some 38, .mv (.t 37), none⟩, ⟨some 39, .fldA 5 (.t 2), some (38, true)⟩, ⟨some 40, .ld (none) (.t 39), some (38, true)⟩, ⟨some 41, .fldA 5 (.t 3), some (38, true)⟩, ⟨some 42, .ld (none) (.t 41), some (38, true)⟩, ⟨some 43, .bin .eql (.t 40) (.t 42), some (38, true)⟩, ⟨some 44, .pick (.t 38) (.t 43) (.c (.bool false)), none⟩, ⟨some 45, .mv (.t 44), none⟩, ⟨some 46, .fldA 6 (.t 2), some (45, true)⟩, ⟨some 47, .ld (none) (.t 46), some (45, true)⟩, ⟨some 48, .fldA 6 (.t 3), some (45, true)⟩, ⟨some 49, .ld (none) (.t 48), some (45, true)⟩, ⟨some 50, .bin .eql (.t 47) (.t 49), some (45, true)⟩, ⟨some 51, .pick (.t 45) (.t 50) (.c (.bool false)), none⟩, ⟨some 4, .mv (.t 51), none⟩]))
    .ret)), [.t 4], 52⟩
theorem eb44 : fB Try.prog 44 ec44 = true := by kernel_rfl

/-- (*partywall/queue.queue).poll -/
def ec45 : CF := ⟨(.seq (.keep [0, 1] (.ops [⟨some 4, .mv (.c .nils), none⟩]))
    (.seq (.keep [0, 1] (.ops [⟨some 9, .mv (.t 1), none⟩, ⟨some 10, .mv (.t 0), none⟩, ⟨some 11, .nilc (.t 10), none⟩, ⟨some 12, .fldA 0 (.t 11), none⟩, ⟨some 13, .fldA 1 (.t 12), none⟩, ⟨some 14, .ld (none) (.t 13), none⟩, ⟨some 15, .len (.t 14), none⟩, ⟨some 16, .mm false (.t 9) (.t 15), none⟩, ⟨some 5, .mv (.t 16), none⟩]))
    (.seq (.keep [0, 1, 5] (.ops [⟨some 17, .mv (.t 0), none⟩, ⟨some 18, .nilc (.t 17), none⟩, ⟨some 19, .fldA 0 (.t 18), none⟩, ⟨some 20, .fldA 1 (.t 19), none⟩, ⟨some 21, .ld (none) (.t 20), none⟩, ⟨some 22, .mv (.t 5), none⟩, ⟨some 23, .mv (.t 5), none⟩, ⟨some 24, .slc 7 (.t 21) none (some (.t 22)) (some (.t 23)), none⟩, ⟨some 25, .call 56 [(.t 24)], none⟩, ⟨some 6, .mv (.t 25), none⟩]))
    (.seq (.keep [0, 1, 5, 6] (.ops [⟨some 26, .mv (.t 0), none⟩, ⟨some 27, .mv (.t 0), none⟩, ⟨some 28, .nilc (.t 27), none⟩, ⟨some 29, .fldA 0 (.t 28), none⟩, ⟨some 30, .fldA 1 (.t 29), none⟩, ⟨some 31, .ld (none) (.t 30), none⟩, ⟨some 32, .mv (.t 5), none⟩, ⟨some 33, .slc 7 (.t 31) (some (.t 32)) none none, none⟩, ⟨some 34, .call 56 [(.t 33)], none⟩, ⟨some 35, .nilc (.t 26), none⟩, ⟨some 36, .fldA 0 (.t 35), none⟩, ⟨some 37, .fldA 1 (.t 36), none⟩, ⟨none, .st 1 (.t 37) (.t 34), none⟩]))
    (.seq (.seq (.keep [0, 1, 5, 6] (.ops [⟨some 38, .mv (.t 5), none⟩, ⟨some 39, .mv (.t 1), none⟩, ⟨some 40, .bin .lss (.t 38) (.t 39), none⟩, ⟨some 41, .mv (.t 40), none⟩, ⟨some 42, .mv (.t 0), some (41, true)⟩, ⟨some 43, .nilc (.t 42), some (41, true)⟩, ⟨some 44, .fldA 0 (.t 43), some (41, true)⟩, ⟨some 45, .fldA 2 (.t 44), some (41, true)⟩, ⟨some 46, .ld (none) (.t 45), some (41, true)⟩, ⟨some 47, .bin .gtr (.t 46) (.c (.int .i64 0)), some (41, true)⟩, ⟨some 48, .pick (.t 41) (.t 47) (.c (.bool false)), none⟩]))
    (.cond (.t 48)
      (.seq (.keep [0, 6] (.ops [⟨some 50, .mv (.t 0), none⟩, ⟨some 51, .nilc (.t 50), none⟩, ⟨some 52, .fldA 0 (.t 51), none⟩, ⟨some 53, .fldA 2 (.t 52), none⟩, ⟨some 54, .ld (none) (.t 53), none⟩, ⟨some 55, .call 57 [(.c (.int .i64 0)), (.c (.int .i64 19)), (.t 54)], none⟩, ⟨some 49, .mv (.t 55), none⟩, ⟨some 56, .ext (.t 49) 0, none⟩, ⟨some 57, .ext (.t 49) 1, none⟩, ⟨some 7, .alloc [.int .i64 0, .int .i64 0, .nils, .nils, .nils, .int .i64 0, .int .i64 0], none⟩, ⟨none, .st 7 (.t 7) (.t 56), none⟩, ⟨some 8, .mv (.t 57), none⟩]))
      (.keep [0, 6, 7] (.ops [⟨some 58, .mv (.t 0), none⟩, ⟨some 59, .mv (.t 6), none⟩, ⟨some 60, .ld (some 7) (.t 7), none⟩, ⟨some 61, .mkSl 7 1 [.int .i64 0, .int .i64 0, .nils, .nils, .nils, .int .i64 0, .int .i64 0] [(0, 7, (.t 60))], none⟩, ⟨some 62, .app true 42 7 104 (.t 59) (.t 61), none⟩, ⟨some 6, .mv (.t 62), none⟩, ⟨some 63, .nilc (.t 58), none⟩, ⟨some 64, .fldA 0 (.t 63), none⟩, ⟨some 65, .fldA 2 (.t 64), none⟩, ⟨none, .st 1 (.t 65) (.c (.int .i64 0)), none⟩])))
      .skip))
    (.seq (.keep [6] (.ops [⟨some 66, .mv (.t 6), none⟩, ⟨some 4, .mv (.t 66), none⟩]))
    .ret)))))), [.t 4], 67⟩
theorem eb45 : fB Try.prog 45 ec45 = true := by kernel_rfl

/-- partywall/queue.All$1 -/
def ec46 : CF := ⟨(.seq (.keep [0] (.ops [⟨some 1, .mv (.c .nils), none⟩]))
    (.seq (.keep [0] (.ops [⟨some 2, .call 45 [(.t 0), (.c (.int .i64 64))], none⟩, ⟨some 1, .mv (.t 2), none⟩]))
    .ret)), [.t 1], 3⟩
theorem eb46 : fB Try.prog 46 ec46 = true := by kernel_rfl

/-- partywall/partywallref26.poll -/
def ec47 : CF := ⟨(.seq (.keep [0, 1] (.ops [⟨some 2, .box 3 (.t 0), none⟩, ⟨some 4, .alloc [.int .i64 0, .nils, .int .i64 0], none⟩, ⟨some 5, .mv (.c .nils), none⟩]))
    (.seq (.keep [1, 2, 4] (.ops [⟨some 8, .mv (.t 1), none⟩, ⟨some 9, .fldA 1 (.t 2), none⟩, ⟨some 10, .ld (none) (.t 9), none⟩, ⟨some 11, .len (.t 10), none⟩, ⟨some 12, .mm false (.t 8) (.t 11), none⟩, ⟨some 6, .mv (.t 12), none⟩]))
    (.seq (.keep [1, 2, 4, 6] (.ops [⟨some 13, .fldA 1 (.t 2), none⟩, ⟨some 14, .ld (none) (.t 13), none⟩, ⟨some 15, .mv (.t 6), none⟩, ⟨some 16, .slc 7 (.t 14) none (some (.t 15)) none, none⟩, ⟨some 17, .call 41 [(.t 16)], none⟩, ⟨some 7, .mv (.t 17), none⟩]))
    (.seq (.keep [1, 2, 4, 6, 7] (.ops [⟨some 18, .fldA 1 (.t 2), none⟩, ⟨some 19, .ld (none) (.t 18), none⟩, ⟨some 20, .mv (.t 6), none⟩, ⟨some 21, .slc 7 (.t 19) (some (.t 20)) none none, none⟩, ⟨some 22, .call 41 [(.t 21)], none⟩, ⟨some 23, .fldA 1 (.t 2), none⟩, ⟨none, .st 1 (.t 23) (.t 22), none⟩]))
    (.seq (.seq (.keep [1, 2, 4, 6, 7] (.ops [⟨some 24, .mv (.t 6), none⟩, ⟨some 25, .mv (.t 1), none⟩, ⟨some 26, .bin .lss (.t 24) (.t 25), none⟩, ⟨some 27, .mv (.t 26), none⟩, ⟨some 28, .fldA 2 (.t 2), some (27, true)⟩, ⟨some 29, .ld (none) (.t 28), some (27, true)⟩, ⟨some 30, .bin .gtr (.t 29) (.c (.int .i64 0)), some (27, true)⟩, ⟨some 31, .pick (.t 27) (.t 30) (.c (.bool false)), none⟩]))
    (.cond (.t 31)
      (.seq (.keep [2, 4, 7] (.ops [⟨some 32, .mv (.t 7), none⟩, ⟨some 33, .fldA 2 (.t 2), none⟩, ⟨some 34, .ld (none) (.t 33), none⟩, ⟨some 35, .bld [.int .i64 0, .int .i64 0, .nils, .nils, .nils, .int .i64 0, .int .i64 0] [(0, 1, (.c (.int .i64 2))), (5, 1, (.c (.int .i64 19))), (6, 1, (.t 34))], none⟩, ⟨some 36, .mkSl 7 1 [.int .i64 0, .int .i64 0, .nils, .nils, .nils, .int .i64 0, .int .i64 0] [(0, 7, (.t 35))], none⟩, ⟨some 37, .app true 42 7 104 (.t 32) (.t 36), none⟩, ⟨some 7, .mv (.t 37), none⟩]))
      (.keep [2, 4, 7] (.ops [⟨some 38, .fldA 2 (.t 2), none⟩, ⟨none, .st 1 (.t 38) (.c (.int .i64 0)), none⟩])))
      .skip))
    (.seq (.keep [2, 4, 7] (.ops [⟨some 39, .ld (some 3) (.t 2), none⟩, ⟨some 40, .mv (.t 7), none⟩, ⟨none, .st 3 (.t 4) (.t 39), none⟩, ⟨some 5, .mv (.t 40), none⟩]))
    .ret)))))), [.cl 4 (some 3), .t 5], 41⟩
theorem eb47 : fB Try.prog 47 ec47 = true := by kernel_rfl

/-- partywall/partywallkit.OwnInts -/
def ec48 : CF := ⟨(.seq (.keep [0] (.ops [⟨some 2, .mv (.c .nils), none⟩]))
    (.seq (.keep [0] (.ops [⟨some 3, .mkSl 1 0 [] [], none⟩, ⟨some 4, .mv (.t 0), none⟩, ⟨some 5, .app true 3 1 8 (.t 3) (.t 4), none⟩, ⟨some 2, .mv (.t 5), none⟩]))
    .ret)), [.t 2], 6⟩
theorem eb48 : fB Try.prog 48 ec48 = true := by kernel_rfl

/-- partywall/match.Right -/
def ec49 : CF := ⟨(.seq (.keep [0] (.ops [⟨some 1, .box 7 (.t 0), none⟩, ⟨some 2, .mv (.c (.int .i64 0)), none⟩]))
    (.seq (.seq (.keep [1] (.ops [⟨some 3, .fldA 0 (.t 1), none⟩, ⟨some 4, .ld (none) (.t 3), none⟩]))
    (.block 0 (.seq (.keep [1, 4] (.ops [⟨some 6, .bin .eql (.t 4) (.c (.int .i64 1)), none⟩, ⟨some 5, .mv (.t 6), none⟩]))
    (.cond (.t 5)
      (.seq (.keep [1] (.ops [⟨some 7, .ld (some 7) (.t 1), none⟩, ⟨some 8, .call 58 [(.t 7)], none⟩, ⟨some 2, .mv (.t 8), none⟩]))
      .ret)
      (.seq (.keep [1, 4] (.ops [⟨some 10, .bin .eql (.t 4) (.c (.int .i64 2)), none⟩, ⟨some 9, .mv (.t 10), none⟩]))
      (.cond (.t 9)
        (.seq (.keep [1] (.ops [⟨some 11, .ld (some 7) (.t 1), none⟩, ⟨some 12, .call 59 [(.t 11)], none⟩, ⟨some 2, .mv (.t 12), none⟩]))
        .ret)
        .skip))))))
    (.seq (.keep [] (.ops [⟨some 2, .mv (.c (.int .i64 11)), none⟩]))
    .ret))), [.t 2], 13⟩
theorem eb49 : fB Try.prog 49 ec49 = true := by kernel_rfl

/-- partywall/partywallref17.Right -/
def ec50 : CF := ⟨(.seq (.keep [0] (.ops [⟨some 1, .box 7 (.t 0), none⟩, ⟨some 2, .mv (.c (.int .i64 0)), none⟩]))
    (.seq (.seq (.keep [1] (.ops [⟨some 3, .fldA 0 (.t 1), none⟩, ⟨some 4, .ld (none) (.t 3), none⟩]))
    (.block 0 (.seq (.keep [1, 4] (.ops [⟨some 6, .bin .eql (.t 4) (.c (.int .i64 1)), none⟩, ⟨some 5, .mv (.t 6), none⟩]))
    (.cond (.t 5)
      (.seq (.keep [1] (.ops [⟨some 7, .ld (some 7) (.t 1), none⟩, ⟨some 8, .call 60 [(.t 7)], none⟩, ⟨some 2, .mv (.t 8), none⟩]))
      .ret)
      (.seq (.keep [1, 4] (.ops [⟨some 10, .bin .eql (.t 4) (.c (.int .i64 2)), none⟩, ⟨some 9, .mv (.t 10), none⟩]))
      (.cond (.t 9)
        (.seq (.keep [1] (.ops [⟨some 11, .ld (some 7) (.t 1), none⟩, ⟨some 12, .call 61 [(.t 11)], none⟩, ⟨some 2, .mv (.t 12), none⟩]))
        .ret)
        .skip))))))
    (.seq (.keep [] (.ops [⟨some 2, .mv (.c (.int .i64 11)), none⟩]))
    .ret))), [.t 2], 13⟩
theorem eb50 : fB Try.prog 50 ec50 = true := by kernel_rfl

/-- (*partywall/queue.queue).drop -/
def ec51 : CF := ⟨(.seq (.keep [0] (.ops [⟨some 2, .mv (.t 0), none⟩, ⟨some 3, .nilc (.t 2), none⟩, ⟨some 4, .fldA 0 (.t 3), none⟩, ⟨some 5, .fldA 2 (.t 4), none⟩, ⟨some 6, .ld (none) (.t 5), none⟩, ⟨some 7, .bin .lss (.t 6) (.c (.int .i64 1099511627776)), none⟩]))
    (.cond (.t 7)
      (.keep [0] (.ops [⟨some 8, .mv (.t 0), none⟩, ⟨some 9, .nilc (.t 8), none⟩, ⟨some 10, .fldA 0 (.t 9), none⟩, ⟨some 11, .fldA 2 (.t 10), none⟩, ⟨some 12, .ld (none) (.t 11), none⟩, ⟨some 13, .bin .add (.t 12) (.c (.int .i64 1)), none⟩, ⟨some 14, .nilc (.t 8), none⟩, ⟨some 15, .fldA 0 (.t 14), none⟩, ⟨some 16, .fldA 2 (.t 15), none⟩, ⟨none, .st 1 (.t 16) (.t 13), none⟩]))
      .skip)), [], 17⟩
theorem eb51 : fB Try.prog 51 ec51 = true := by kernel_rfl

/-- partywall/partywallref26.own -/
def ec52 : CF := ⟨(.seq (.keep [0] (.ops [⟨some 1, .box 7 (.t 0), none⟩, ⟨some 2, .alloc [.int .i64 0, .int .i64 0, .nils, .nils, .nils, .int .i64 0, .int .i64 0], none⟩]))
    (.seq (.keep [1, 2] (.ops [⟨some 3, .mkSl 2 0 [] [], none⟩, ⟨some 4, .fldA 2 (.t 1), none⟩, ⟨some 5, .ld (none) (.t 4), none⟩, ⟨some 6, .app true 74 2 16 (.t 3) (.t 5), none⟩, ⟨some 7, .fldA 2 (.t 1), none⟩, ⟨none, .st 1 (.t 7) (.t 6), none⟩]))
    (.seq (.keep [1, 2] (.ops [⟨some 8, .mkSl 1 0 [] [], none⟩, ⟨some 9, .fldA 3 (.t 1), none⟩, ⟨some 10, .ld (none) (.t 9), none⟩, ⟨some 11, .app true 3 1 8 (.t 8) (.t 10), none⟩, ⟨some 12, .fldA 3 (.t 1), none⟩, ⟨none, .st 1 (.t 12) (.t 11), none⟩]))
    (.seq (.keep [1, 2] (.ops [⟨some 13, .mkSl 1 0 [] [], none⟩, ⟨some 14, .fldA 4 (.t 1), none⟩, ⟨some 15, .ld (none) (.t 14), none⟩, ⟨some 16, .app true 2 1 8 (.t 13) (.t 15), none⟩, ⟨some 17, .fldA 4 (.t 1), none⟩, ⟨none, .st 1 (.t 17) (.t 16), none⟩]))
    (.seq (.keep [1, 2] (.ops [⟨some 18, .ld (some 7) (.t 1), none⟩, ⟨none, .st 7 (.t 2) (.t 18), none⟩]))
    .ret))))), [.cl 2 (some 7)], 19⟩
theorem eb52 : fB Try.prog 52 ec52 = true := by kernel_rfl

/-- partywall/partywallkit.SameIds -/
def ec53 : CF := ⟨(.seq (.keep [0, 1] (.ops [⟨some 4, .mv (.c (.bool false)), none⟩]))
    (.seq (.seq (.keep [0, 1] (.ops [⟨some 6, .mv (.t 0), none⟩, ⟨some 7, .len (.t 6), none⟩, ⟨some 8, .mv (.t 1), none⟩, ⟨some 9, .len (.t 8), none⟩, ⟨some 10, .bin .neq (.t 7) (.t 9), none⟩]))
    (.cond (.t 10)
      (.seq (.keep [] (.ops [⟨some 4, .mv (.c (.bool false)), none⟩]))
      .ret)
      .skip))
    (.seq (.seq (.keep [0, 1] (.ops [⟨some 5, .mv (.c (.int .i64 0)), none⟩]))
    (.block 0 (.loop (.seq (.seq (.keep [0, 1, 5] (.ops [⟨some 11, .mv (.t 5), none⟩, ⟨some 12, .mv (.t 0), none⟩, ⟨some 13, .len (.t 12), none⟩, ⟨some 14, .bin .lss (.t 11) (.t 13), none⟩]))
    (.cond (.t 14)
      .skip
      (.exit 0)))
    (.seq (.block 1 (.seq (.keep [0, 1, 5] (.drw [⟨some 17, .mv (.t 0), none⟩, ⟨some 18, .mv (.t 5), none⟩, ⟨some 19, .ixA 2 (.t 17) (.t 18), none⟩, ⟨some 20, .ld (some 2) (.t 19), none⟩, ⟨some 21, .mv (.t 1), none⟩, ⟨some 22, .mv (.t 5), none⟩, ⟨some 23, .ixA 2 (.t 21) (.t 22), none⟩, ⟨some 24, .ld (some 2) (.t 23), none⟩, ⟨some 25, .eqA true [0, 0] (.t 20) (.t 24), none⟩] [0, 0, 0, 1, 0, 0, 0, 1, 0]))
    (.cond (.t 25)
      (.seq (.keep [] (.ops [⟨some 4, .mv (.c (.bool false)), none⟩]))
      .ret)
      .skip)))
    (.keep [0, 1, 5] (.ops [⟨some 15, .mv (.t 5), none⟩, ⟨some 16, .bin .add (.t 15) (.c (.int .i64 1)), none⟩, ⟨some 5, .mv (.t 16), none⟩])))))))
    (.seq (.keep [] (.ops [⟨some 4, .mv (.c (.bool true)), none⟩]))
    .ret)))), [.t 4], 26⟩
theorem eb53 : fB Try.prog 53 ec53 = true := by kernel_rfl

/-- partywall/partywallkit.SameInts -/
def ec54 : CF := ⟨(.seq (.keep [0, 1] (.ops [⟨some 4, .mv (.c (.bool false)), none⟩]))
    (.seq (.seq (.keep [0, 1] (.ops [⟨some 6, .mv (.t 0), none⟩, ⟨some 7, .len (.t 6), none⟩, ⟨some 8, .mv (.t 1), none⟩, ⟨some 9, .len (.t 8), none⟩, ⟨some 10, .bin .neq (.t 7) (.t 9), none⟩]))
    (.cond (.t 10)
      (.seq (.keep [] (.ops [⟨some 4, .mv (.c (.bool false)), none⟩]))
      .ret)
      .skip))
    (.seq (.seq (.keep [0, 1] (.ops [⟨some 5, .mv (.c (.int .i64 0)), none⟩]))
    (.block 0 (.loop (.seq (.seq (.keep [0, 1, 5] (.ops [⟨some 11, .mv (.t 5), none⟩, ⟨some 12, .mv (.t 0), none⟩, ⟨some 13, .len (.t 12), none⟩, ⟨some 14, .bin .lss (.t 11) (.t 13), none⟩]))
    (.cond (.t 14)
      .skip
      (.exit 0)))
    (.seq (.block 1 (.seq (.keep [0, 1, 5] (.drw [⟨some 17, .mv (.t 0), none⟩, ⟨some 18, .mv (.t 5), none⟩, ⟨some 19, .ixA 1 (.t 17) (.t 18), none⟩, ⟨some 20, .ld (none) (.t 19), none⟩, ⟨some 21, .mv (.t 1), none⟩, ⟨some 22, .mv (.t 5), none⟩, ⟨some 23, .ixA 1 (.t 21) (.t 22), none⟩, ⟨some 24, .ld (none) (.t 23), none⟩, ⟨some 25, .bin .neq (.t 20) (.t 24), none⟩] [0, 0, 0, 1, 0, 0, 0, 1, 0]))
    (.cond (.t 25)
      (.seq (.keep [] (.ops [⟨some 4, .mv (.c (.bool false)), none⟩]))
      .ret)
      .skip)))
    (.keep [0, 1, 5] (.ops [⟨some 15, .mv (.t 5), none⟩, ⟨some 16, .bin .add (.t 15) (.c (.int .i64 1)), none⟩, ⟨some 5, .mv (.t 16), none⟩])))))))
    (.seq (.keep [] (.ops [⟨some 4, .mv (.c (.bool true)), none⟩]))
    .ret)))), [.t 4], 26⟩
theorem eb54 : fB Try.prog 54 ec54 = true := by kernel_rfl

/-- partywall/partywallkit.SameValues -/
def ec55 : CF := ⟨(.seq (.keep [0, 1] (.ops [⟨some 4, .mv (.c (.bool false)), none⟩]))
    (.seq (.seq (.keep [0, 1] (.ops [⟨some 6, .mv (.t 0), none⟩, ⟨some 7, .len (.t 6), none⟩, ⟨some 8, .mv (.t 1), none⟩, ⟨some 9, .len (.t 8), none⟩, ⟨some 10, .bin .neq (.t 7) (.t 9), none⟩]))
    (.cond (.t 10)
      (.seq (.keep [] (.ops [⟨some 4, .mv (.c (.bool false)), none⟩]))
      .ret)
      .skip))
    (.seq (.seq (.keep [0, 1] (.ops [⟨some 5, .mv (.c (.int .i64 0)), none⟩]))
    (.block 0 (.loop (.seq (.seq (.keep [0, 1, 5] (.ops [⟨some 11, .mv (.t 5), none⟩, ⟨some 12, .mv (.t 0), none⟩, ⟨some 13, .len (.t 12), none⟩, ⟨some 14, .bin .lss (.t 11) (.t 13), none⟩]))
    (.cond (.t 14)
      .skip
      (.exit 0)))
    (.seq (.block 1 (.seq (.keep [0, 1, 5] (.drw [⟨some 17, .mv (.t 0), none⟩, ⟨some 18, .mv (.t 5), none⟩, ⟨some 19, .ixA 1 (.t 17) (.t 18), none⟩, ⟨some 20, .ld (none) (.t 19), none⟩, ⟨some 21, .mv (.t 1), none⟩, ⟨some 22, .mv (.t 5), none⟩, ⟨some 23, .ixA 1 (.t 21) (.t 22), none⟩, ⟨some 24, .ld (none) (.t 23), none⟩, ⟨some 25, .bin .neq (.t 20) (.t 24), none⟩] [0, 0, 0, 1, 0, 0, 0, 1, 0]))
    (.cond (.t 25)
      (.seq (.keep [] (.ops [⟨some 4, .mv (.c (.bool false)), none⟩]))
      .ret)
      .skip)))
    (.keep [0, 1, 5] (.ops [⟨some 15, .mv (.t 5), none⟩, ⟨some 16, .bin .add (.t 15) (.c (.int .i64 1)), none⟩, ⟨some 5, .mv (.t 16), none⟩])))))))
    (.seq (.keep [] (.ops [⟨some 4, .mv (.c (.bool true)), none⟩]))
    .ret)))), [.t 4], 26⟩
theorem eb55 : fB Try.prog 55 ec55 = true := by kernel_rfl

/-- slices.Clone[[]partywall/api.Item,partywall/api.Item] -/
def ec56 : CF := ⟨(.seq (.keep [0] (.ops [⟨some 2, .mv (.c .nils), none⟩]))
    (.seq (.seq (.keep [0] (.ops [⟨some 3, .mv (.t 0), none⟩, ⟨some 4, .isnil 0 false (.t 3), none⟩]))
    (.cond (.t 4)
      (.seq (.keep [] (.ops [⟨some 2, .mv (.c .nils), none⟩]))
      .ret)
      .skip))
    (.seq (.keep [0] (.ops [⟨some 5, .mkSl 7 0 [] [], none⟩, ⟨some 6, .mv (.t 0), none⟩, ⟨some 7, .app true 42 7 104 (.t 5) (.t 6), none⟩, ⟨some 2, .mv (.t 7), none⟩]))
    .ret))), [.t 2], 8⟩
theorem eb56 : fB Try.prog 56 ec56 = true := by kernel_rfl

/-- partywall/match.Notice -/
def ec57 : CF := ⟨(.seq (.keep [0, 1, 2] (.ops [⟨some 6, .alloc [.int .i64 0, .int .i64 0, .nils, .nils, .nils, .int .i64 0, .int .i64 0], none⟩, ⟨some 7, .mv (.c (.int .i64 0)), none⟩]))
    (.seq (.keep [0, 1, 2, 6] (.ops [⟨some 10, .mv (.t 0), none⟩, ⟨some 11, .mv (.t 1), none⟩, ⟨some 12, .mv (.t 2), none⟩, ⟨some 13, .bld [.int .i64 0, .int .i64 0, .nils, .nils, .nils, .int .i64 0, .int .i64 0] [(0, 1, (.c (.int .i64 2))), (1, 1, (.t 10)), (5, 1, (.t 11)), (6, 1, (.t 12))], none⟩, ⟨some 8, .alloc [.int .i64 0, .int .i64 0, .nils, .nils, .nils, .int .i64 0, .int .i64 0], none⟩, ⟨none, .st 7 (.t 8) (.t 13), none⟩]))
    (.seq (.seq (.keep [6, 8] (.ops [⟨some 14, .ld (some 7) (.t 8), none⟩, ⟨some 15, .call 49 [(.t 14)], none⟩, ⟨some 9, .mv (.t 15), none⟩]))
    (.seq (.keep [6, 8, 9] (.ops [⟨some 16, .mv (.t 9), none⟩, ⟨some 17, .bin .neq (.t 16) (.c (.int .i64 0)), none⟩]))
    (.cond (.t 17)
      (.seq (.keep [6, 9] (.ops [⟨some 18, .bld [.int .i64 0, .int .i64 0, .nils, .nils, .nils, .int .i64 0, .int .i64 0] [], none⟩, ⟨some 19, .mv (.t 9), none⟩, ⟨none, .st 7 (.t 6) (.t 18), none⟩, ⟨some 7, .mv (.t 19), none⟩]))
      .ret)
      .skip)))
    (.seq (.keep [6, 8] (.ops [⟨some 20, .ld (some 7) (.t 8), none⟩, ⟨none, .st 7 (.t 6) (.t 20), none⟩, ⟨some 7, .mv (.c (.int .i64 0)), none⟩]))
    .ret)))), [.cl 6 (some 7), .t 7], 21⟩
theorem eb57 : fB Try.prog 57 ec57 = true := by kernel_rfl

/-- partywall/match.found -/
def ec58 : CF := ⟨(.seq (.keep [0] (.ops [⟨some 1, .box 7 (.t 0), none⟩, ⟨some 2, .mv (.c (.int .i64 0)), none⟩]))
    (.seq (.block 0 (.seq (.keep [1] (.ops [⟨some 6, .fldA 1 (.t 1), none⟩, ⟨some 7, .ld (none) (.t 6), none⟩, ⟨some 8, .call 62 [(.t 7)], none⟩, ⟨some 9, .un .not (.t 8), none⟩, ⟨some 5, .mv (.t 9), none⟩]))
    (.cond (.t 5)
      (.seq (.keep [] (.ops [⟨some 2, .mv (.c (.int .i64 2)), none⟩]))
      .ret)
      (.seq (.keep [1] (.ops [⟨some 11, .fldA 2 (.t 1), none⟩, ⟨some 12, .ld (none) (.t 11), none⟩, ⟨some 13, .len (.t 12), none⟩, ⟨some 14, .bin .eql (.t 13) (.c (.int .i64 0)), none⟩, ⟨some 10, .mv (.t 14), none⟩]))
      (.cond (.t 10)
        (.seq (.keep [] (.ops [⟨some 2, .mv (.c (.int .i64 5)), none⟩]))
        .ret)
        (.seq (.keep [1] (.ops [⟨some 16, .fldA 2 (.t 1), none⟩, ⟨some 17, .ld (none) (.t 16), none⟩, ⟨some 18, .len (.t 17), none⟩, ⟨some 19, .bin .gtr (.t 18) (.c (.int .i64 12)), none⟩, ⟨some 15, .mv (.t 19), none⟩]))
        (.cond (.t 15)
          (.seq (.keep [] (.ops [⟨some 2, .mv (.c (.int .i64 6)), none⟩]))
          .ret)
          (.seq (.keep [1] (.ops [⟨some 21, .fldA 3 (.t 1), none⟩, ⟨some 22, .ld (none) (.t 21), none⟩, ⟨some 23, .len (.t 22), none⟩, ⟨some 24, .fldA 2 (.t 1), none⟩, ⟨some 25, .ld (none) (.t 24), none⟩, ⟨some 26, .len (.t 25), none⟩, ⟨some 27, .bin .neq (.t 23) (.t 26), none⟩, ⟨some 20, .mv (.t 27), none⟩]))
          (.cond (.t 20)
            (.seq (.keep [] (.ops [⟨some 2, .mv (.c (.int .i64 3)), none⟩]))
            .ret)
            .skip)))))))))
    (.seq (.seq (.keep [1] (.ops [⟨some 28, .fldA 2 (.t 1), none⟩, ⟨some 29, .ld (none) (.t 28), none⟩, ⟨some 30, .len (.t 29), none⟩, ⟨some 31, .mv (.c (.int .i64 0)), none⟩]))
    (.block 1 (.loop (.seq (.keep [1, 29, 30, 31] (.ops [⟨some 32, .bin .lss (.t 31) (.t 30), none⟩]))
    (.seq (.cond (.t 32)
      .skip
      (.exit 1))
    (.seq (.block 2 (.seq (.keep [1, 29, 30, 31] (.ops [⟨some 33, .mv (.t 31), none⟩, ⟨some 34, .ixA 2 (.t 29) (.t 31), none⟩, ⟨some 35, .ld (some 2) (.t 34), none⟩, ⟨some 4, .alloc [.int .u64 0, .int .u64 0], none⟩, ⟨some 3, .mv (.t 33), none⟩, ⟨none, .st 2 (.t 4) (.t 35), none⟩]))
    (.seq (.keep [1, 3, 4, 29, 30, 31] (.ops [⟨some 36, .fldA 1 (.t 4), none⟩, ⟨some 37, .ld (none) (.t 36), none⟩, ⟨some 38, .bin .lss (.t 37) (.c (.int .u64 1)), none⟩, ⟨some 39, .mv (.t 38), none⟩, ⟨some 40, .fldA 1 (.t 4), some (39, false)⟩, ⟨some 41, .ld (none) (.t 40), some (39, false)⟩, ⟨some 42, .bin .gtr (.t 41) (.c (.int .u64 1099511627776)), some (39, false)⟩, ⟨some 43, .pick (.t 39) (.c (.bool true)) (.t 42), none⟩, ⟨some 44, .mv (.t 43), none⟩, ⟨some 45, .fldA 3 (.t 1), some (44, false)⟩, ⟨some 46, .ld (none) (.t 45), some (44, false)⟩, ⟨some 47, .mv (.t 3), some (44, false)⟩, ⟨some 48, .ixA 1 (.t 46) (.t 47), some (44, false)⟩, ⟨some 49, .ld (none) (.t 48), some (44, false)⟩, ⟨some 50, .bin .lss (.t 49) (.c (.int .i64 0)), some (44, false)⟩, ⟨some 51, .pick (.t 44) (.c (.bool true)) (.t 50), none⟩, ⟨some 52, .mv (.t 51), none⟩, ⟨some 53, .fldA 3 (.t 1), some (52, false)⟩, ⟨some 54, .ld (none) (.t 53), some (52, false)⟩, ⟨some 55, .mv (.t 3), some (52, false)⟩, ⟨some 56, .ixA 1 (.t 54) (.t 55), some (52, false)⟩, ⟨some 57, .ld (none) (.t 56), some (52, false)⟩, ⟨some 58, .bin .geq (.t 57) (.c (.int .i64 12)), some (52, false)⟩, ⟨some 59, .pick (.t 52) (.c (.bool true)) (.t 58), none⟩]))
    (.cond (.t 59)
      (.seq (.keep [] (.ops [⟨some 2, .mv (.c (.int .i64 2)), none⟩]))
      .ret)
      .skip))))
    (.keep [1, 29, 30, 31] (.ops [⟨some 60, .bin .add (.t 31) (.c (.int .i64 1)), none⟩, ⟨some 31, .mv (.t 60), none⟩]))))))))
    (.seq (.block 3 (.seq (.keep [1] (.ops [⟨some 62, .fldA 5 (.t 1), none⟩, ⟨some 63, .ld (none) (.t 62), none⟩, ⟨some 64, .bin .neq (.t 63) (.c (.int .i64 0)), none⟩, ⟨some 65, .mv (.t 64), none⟩, ⟨some 66, .fldA 5 (.t 1), some (65, true)⟩, ⟨some 67, .ld (none) (.t 66), some (65, true)⟩, ⟨some 68, .bin .neq (.t 67) (.c (.int .i64 7)), some (65, true)⟩, ⟨some 69, .pick (.t 65) (.t 68) (.c (.bool false)), none⟩, ⟨some 70, .mv (.t 69), none⟩, ⟨some 71, .fldA 5 (.t 1), some (70, true)⟩, ⟨some 72, .ld (none) (.t 71), some (70, true)⟩, ⟨some 73, .bin .neq (.t 72) (.c (.int .i64 16)), some (70, true)⟩, ⟨some 74, .pick (.t 70) (.t 73) (.c (.bool false)), none⟩, ⟨some 61, .mv (.t 74), none⟩]))
    (.cond (.t 61)
      (.seq (.keep [] (.ops [⟨some 2, .mv (.c (.int .i64 11)), none⟩]))
      .ret)
      (.seq (.keep [1] (.ops [⟨some 76, .fldA 5 (.t 1), none⟩, ⟨some 77, .ld (none) (.t 76), none⟩, ⟨some 78, .bin .neq (.t 77) (.c (.int .i64 0)), none⟩, ⟨some 79, .mv (.t 78), none⟩, ⟨some 80, .fldA 4 (.t 1), some (79, true)⟩, ⟨some 81, .ld (none) (.t 80), some (79, true)⟩, ⟨some 82, .len (.t 81), some (79, true)⟩, ⟨some 83, .bin .gtr (.t 82) (.c (.int .i64 0)), some (79, true)⟩, ⟨some 84, .pick (.t 79) (.t 83) (.c (.bool false)), none⟩, ⟨some 75, .mv (.t 84), none⟩]))
      (.cond (.t 75)
        (.seq (.keep [] (.ops [⟨some 2, .mv (.c (.int .i64 3)), none⟩]))
        .ret)
        (.seq (.keep [1] (.ops [⟨some 86, .fldA 4 (.t 1), none⟩, ⟨some 87, .ld (none) (.t 86), none⟩, ⟨some 88, .len (.t 87), none⟩, ⟨some 89, .bin .gtr (.t 88) (.c (.int .i64 4)), none⟩, ⟨some 85, .mv (.t 89), none⟩]))
        (.cond (.t 85)
          (.seq (.keep [] (.ops [⟨some 2, .mv (.c (.int .i64 6)), none⟩]))
          .ret)
          (.seq (.keep [1] (.ops [⟨some 91, .fldA 6 (.t 1), none⟩, ⟨some 92, .ld (none) (.t 91), none⟩, ⟨some 93, .bin .neq (.t 92) (.c (.int .i64 0)), none⟩, ⟨some 90, .mv (.t 93), none⟩]))
          (.cond (.t 90)
            (.seq (.keep [] (.ops [⟨some 2, .mv (.c (.int .i64 3)), none⟩]))
            .ret)
            .skip)))))))))
    (.seq (.keep [] (.ops [⟨some 2, .mv (.c (.int .i64 0)), none⟩]))
    .ret))))), [.t 2], 94⟩
theorem eb58 : fB Try.prog 58 ec58 = true := by kernel_rfl

/-- partywall/match.notice -/
def ec59 : CF := ⟨(.seq (.keep [0] (.ops [⟨some 1, .box 7 (.t 0), none⟩, ⟨some 2, .mv (.c (.int .i64 0)), none⟩]))
    (.seq (.block 0 (.seq (.keep [1] (.ops [⟨some 4, .fldA 5 (.t 1), none⟩, ⟨some 5, .ld (none) (.t 4), none⟩, ⟨some 6, .bin .neq (.t 5) (.c (.int .i64 17)), none⟩, ⟨some 7, .mv (.t 6), none⟩, ⟨some 8, .fldA 5 (.t 1), some (7, true)⟩, ⟨some 9, .ld (none) (.t 8), some (7, true)⟩, ⟨some 10, .bin .neq (.t 9) (.c (.int .i64 18)), some (7, true)⟩, ⟨some 11, .pick (.t 7) (.t 10) (.c (.bool false)), none⟩, ⟨some 12, .mv (.t 11), none⟩, ⟨some 13, .fldA 5 (.t 1), some (12, true)⟩, ⟨some 14, .ld (none) (.t 13), some (12, true)⟩, ⟨some 15, .bin .neq (.t 14) (.c (.int .i64 19)), some (12, true)⟩, ⟨some 16, .pick (.t 12) (.t 15) (.c (.bool false)), none⟩, ⟨some 3, .mv (.t 16), none⟩]))
    (.cond (.t 3)
      (.seq (.keep [] (.ops [⟨some 2, .mv (.c (.int .i64 11)), none⟩]))
      .ret)
      (.seq (.keep [1] (.ops [⟨some 18, .fldA 5 (.t 1), none⟩, ⟨some 19, .ld (none) (.t 18), none⟩, ⟨some 20, .bin .eql (.t 19) (.c (.int .i64 19)), none⟩, ⟨some 21, .mv (.t 20), none⟩, ⟨some 22, .fldA 1 (.t 1), some (21, true)⟩, ⟨some 23, .ld (none) (.t 22), some (21, true)⟩, ⟨some 24, .bin .neq (.t 23) (.c (.int .i64 0)), some (21, true)⟩, ⟨some 25, .pick (.t 21) (.t 24) (.c (.bool false)), none⟩, ⟨some 26, .mv (.t 25), none⟩, ⟨some 27, .fldA 5 (.t 1), some (26, false)⟩, ⟨some 28, .ld (none) (.t 27), some (26, false)⟩, ⟨some 29, .bin .neq (.t 28) (.c (.int .i64 19)), some (26, false)⟩, ⟨some 30, .mv (.t 29), some (26, false)⟩, ⟨some 31, .fldA 1 (.t 1), some (30, true)⟩, ⟨some 32, .ld (none) (.t 31), some (30, true)⟩, ⟨some 33, .call 62 [(.t 32)], some (30, true)⟩, ⟨some 34, .un .not (.t 33), some (30, true)⟩, ⟨some 35, .pick (.t 30) (.t 34) (.c (.bool false)), some (26, false)⟩, ⟨some 36, .pick (.t 26) (.c (.bool true)) (.t 35), none⟩, ⟨some 17, .mv (.t 36), none⟩]))
      (.cond (.t 17)
        (.seq (.keep [] (.ops [⟨some 2, .mv (.c (.int .i64 2)), none⟩]))
        .ret)
        (.seq (.keep [1] (.ops [⟨some 38, .fldA 5 (.t 1), none⟩, ⟨some 39, .ld (none) (.t 38), none⟩, ⟨some 40, .bin .eql (.t 39) (.c (.int .i64 17)), none⟩, ⟨some 41, .mv (.t 40), none⟩, ⟨some 42, .fldA 6 (.t 1), some (41, true)⟩, ⟨some 43, .ld (none) (.t 42), some (41, true)⟩, ⟨some 44, .bin .neq (.t 43) (.c (.int .i64 0)), some (41, true)⟩, ⟨some 45, .pick (.t 41) (.t 44) (.c (.bool false)), none⟩, ⟨some 46, .mv (.t 45), none⟩, ⟨some 47, .fldA 5 (.t 1), some (46, false)⟩, ⟨some 48, .ld (none) (.t 47), some (46, false)⟩, ⟨some 49, .bin .neq (.t 48) (.c (.int .i64 17)), some (46, false)⟩, ⟨some 50, .mv (.t 49), some (46, false)⟩, ⟨some 51, .fldA 6 (.t 1), some (50, true)⟩, ⟨some 52, .ld (none) (.t 51), some (50, true)⟩, ⟨some 53, .call 62 [(.t 52)], some (50, true)⟩, ⟨some 54, .un .not (.t 53), some (50, true)⟩, ⟨some 55, .pick (.t 50) (.t 54) (.c (.bool false)), some (46, false)⟩, ⟨some 56, .pick (.t 46) (.c (.bool true)) (.t 55), none⟩, ⟨some 37, .mv (.t 56), none⟩]))
        (.cond (.t 37)
          (.seq (.keep [] (.ops [⟨some 2, .mv (.c (.int .i64 2)), none⟩]))
          .ret)
          (.seq (.keep [1] (.ops [⟨some 58, .fldA 2 (.t 1), none⟩, ⟨some 59, .ld (none) (.t 58), none⟩, ⟨some 60, .len (.t 59), none⟩, ⟨some 61, .fldA 3 (.t 1), none⟩, ⟨some 62, .ld (none) (.t 61), none⟩, ⟨some 63, .len (.t 62), none⟩, ⟨some 64, .bin .add (.t 60) (.t 63), none⟩, ⟨some 65, .fldA 4 (.t 1), none⟩, ⟨some 66, .ld (none) (.t 65), none⟩, ⟨some 67, .len (.t 66), none⟩, ⟨some 68, .bin .add (.t 64) (.t 67), none⟩, ⟨some 69, .bin .gtr (.t 68) (.c (.int .i64 0)), none⟩, ⟨some 57, .mv (.t 69), none⟩]))
          (.cond (.t 57)
            (.seq (.keep [] (.ops [⟨some 2, .mv (.c (.int .i64 3)), none⟩]))
            .ret)
            .skip)))))))))
    (.seq (.keep [] (.ops [⟨some 2, .mv (.c (.int .i64 0)), none⟩]))
    .ret))), [.t 2], 70⟩
theorem eb59 : fB Try.prog 59 ec59 = true := by kernel_rfl

/-- partywall/partywallref17.found -/
def ec60 : CF := ⟨(.seq (.keep [0] (.ops [⟨some 1, .box 7 (.t 0), none⟩, ⟨some 2, .mv (.c (.int .i64 0)), none⟩]))
    (.seq (.block 0 (.seq (.keep [1] (.ops [⟨some 5, .fldA 1 (.t 1), none⟩, ⟨some 6, .ld (none) (.t 5), none⟩, ⟨some 7, .call 63 [(.t 6)], none⟩, ⟨some 8, .un .not (.t 7), none⟩, ⟨some 4, .mv (.t 8), none⟩]))
    (.cond (.t 4)
      (.seq (.keep [] (.ops [⟨some 2, .mv (.c (.int .i64 2)), none⟩]))
      .ret)
      (.seq (.keep [1] (.ops [⟨some 10, .fldA 2 (.t 1), none⟩, ⟨some 11, .ld (none) (.t 10), none⟩, ⟨some 12, .len (.t 11), none⟩, ⟨some 13, .bin .eql (.t 12) (.c (.int .i64 0)), none⟩, ⟨some 9, .mv (.t 13), none⟩]))
      (.cond (.t 9)
        (.seq (.keep [] (.ops [⟨some 2, .mv (.c (.int .i64 5)), none⟩]))
        .ret)
        (.seq (.keep [1] (.ops [⟨some 15, .fldA 2 (.t 1), none⟩, ⟨some 16, .ld (none) (.t 15), none⟩, ⟨some 17, .len (.t 16), none⟩, ⟨some 18, .bin .gtr (.t 17) (.c (.int .i64 12)), none⟩, ⟨some 14, .mv (.t 18), none⟩]))
        (.cond (.t 14)
          (.seq (.keep [] (.ops [⟨some 2, .mv (.c (.int .i64 6)), none⟩]))
          .ret)
          (.seq (.keep [1] (.ops [⟨some 20, .fldA 3 (.t 1), none⟩, ⟨some 21, .ld (none) (.t 20), none⟩, ⟨some 22, .len (.t 21), none⟩, ⟨some 23, .fldA 2 (.t 1), none⟩, ⟨some 24, .ld (none) (.t 23), none⟩, ⟨some 25, .len (.t 24), none⟩, ⟨some 26, .bin .neq (.t 22) (.t 25), none⟩, ⟨some 19, .mv (.t 26), none⟩]))
          (.cond (.t 19)
            (.seq (.keep [] (.ops [⟨some 2, .mv (.c (.int .i64 3)), none⟩]))
            .ret)
            .skip)))))))))
    (.seq (.seq (.keep [1] (.ops [⟨some 3, .mv (.c (.int .i64 0)), none⟩]))
    (.block 1 (.loop (.seq (.seq (.keep [1, 3] (.ops [⟨some 27, .mv (.t 3), none⟩, ⟨some 28, .fldA 2 (.t 1), none⟩, ⟨some 29, .ld (none) (.t 28), none⟩, ⟨some 30, .len (.t 29), none⟩, ⟨some 31, .bin .lss (.t 27) (.t 30), none⟩]))
    (.cond (.t 31)
      .skip
      (.exit 1)))
    (.seq (.block 2 (.seq (.keep [1, 3] (.ops [⟨some 34, .fldA 2 (.t 1), none⟩, ⟨some 35, .ld (none) (.t 34), none⟩, ⟨some 36, .mv (.t 3), none⟩, ⟨some 37, .ixA 2 (.t 35) (.t 36), none⟩, ⟨some 38, .fldA 1 (.t 37), none⟩, ⟨some 39, .ld (none) (.t 38), none⟩, ⟨some 40, .bin .lss (.t 39) (.c (.int .u64 1)), none⟩, ⟨some 41, .mv (.t 40), none⟩, ⟨some 42, .fldA 2 (.t 1), some (41, false)⟩, ⟨some 43, .ld (none) (.t 42), some (41, false)⟩, ⟨some 44, .mv (.t 3), some (41, false)⟩, ⟨some 45, .ixA 2 (.t 43) (.t 44), some (41, false)⟩, ⟨some 46, .fldA 1 (.t 45), some (41, false)⟩, ⟨some 47, .ld (none) (.t 46), some (41, false)⟩, ⟨some 48, .bin .gtr (.t 47) (.c (.int .u64 1099511627776)), some (41, false)⟩, ⟨some 49, .pick (.t 41) (.c (.bool true)) (.t 48), none⟩, ⟨some 50, .mv (.t 49), none⟩, ⟨some 51, .fldA 3 (.t 1), some (50, false)⟩, ⟨some 52, .ld (none) (.t 51), some (50, false)⟩, ⟨some 53, .mv (.t 3), some (50, false)⟩, ⟨some 54, .ixA 1 (.t 52) (.t 53), some (50, false)⟩, ⟨some 55, .ld (none) (.t 54), some (50, false)⟩, ⟨some 56, .bin .lss (.t 55) (.c (.int .i64 0)), some (50, false)⟩, ⟨some 57, .pick (.t 50) (.c (.bool true)) (.t 56), none⟩, ⟨some 58, .mv (.t 57), none⟩, ⟨some 59, .fldA 3 (.t 1), some (58, false)⟩, ⟨some 60, .ld (none) (.t 59), some (58, false)⟩, ⟨some 61, .mv (.t 3), some (58, false)⟩, ⟨some 62, .ixA 1 (.t 60) (.t 61), some (58, false)⟩, ⟨some 63, .ld (none) (.t 62), some (58, false)⟩, ⟨some 64, .bin .geq (.t 63) (.c (.int .i64 12)), some (58, false)⟩, ⟨some 65, .pick (.t 58) (.c (.bool true)) (.t 64), none⟩]))
    (.cond (.t 65)
      (.seq (.keep [] (.ops [⟨some 2, .mv (.c (.int .i64 2)), none⟩]))
      .ret)
      .skip)))
    (.keep [1, 3] (.ops [⟨some 32, .mv (.t 3), none⟩, ⟨some 33, .bin .add (.t 32) (.c (.int .i64 1)), none⟩, ⟨some 3, .mv (.t 33), none⟩])))))))
    (.seq (.block 3 (.seq (.keep [1] (.ops [⟨some 67, .fldA 5 (.t 1), none⟩, ⟨some 68, .ld (none) (.t 67), none⟩, ⟨some 69, .bin .neq (.t 68) (.c (.int .i64 0)), none⟩, ⟨some 70, .mv (.t 69), none⟩, ⟨some 71, .fldA 5 (.t 1), some (70, true)⟩, ⟨some 72, .ld (none) (.t 71), some (70, true)⟩, ⟨some 73, .bin .neq (.t 72) (.c (.int .i64 7)), some (70, true)⟩, ⟨some 74, .pick (.t 70) (.t 73) (.c (.bool false)), none⟩, ⟨some 75, .mv (.t 74), none⟩, ⟨some 76, .fldA 5 (.t 1), some (75, true)⟩, ⟨some 77, .ld (none) (.t 76), some (75, true)⟩, ⟨some 78, .bin .neq (.t 77) (.c (.int .i64 16)), some (75, true)⟩, ⟨some 79, .pick (.t 75) (.t 78) (.c (.bool false)), none⟩, ⟨some 66, .mv (.t 79), none⟩]))
    (.cond (.t 66)
      (.seq (.keep [] (.ops [⟨some 2, .mv (.c (.int .i64 11)), none⟩]))
      .ret)
      (.seq (.keep [1] (.ops [⟨some 81, .fldA 5 (.t 1), none⟩, ⟨some 82, .ld (none) (.t 81), none⟩, ⟨some 83, .bin .neq (.t 82) (.c (.int .i64 0)), none⟩, ⟨some 84, .mv (.t 83), none⟩, ⟨some 85, .fldA 4 (.t 1), some (84, true)⟩, ⟨some 86, .ld (none) (.t 85), some (84, true)⟩, ⟨some 87, .len (.t 86), some (84, true)⟩, ⟨some 88, .bin .gtr (.t 87) (.c (.int .i64 0)), some (84, true)⟩, ⟨some 89, .pick (.t 84) (.t 88) (.c (.bool false)), none⟩, ⟨some 80, .mv (.t 89), none⟩]))
      (.cond (.t 80)
        (.seq (.keep [] (.ops [⟨some 2, .mv (.c (.int .i64 3)), none⟩]))
        .ret)
        (.seq (.keep [1] (.ops [⟨some 91, .fldA 4 (.t 1), none⟩, ⟨some 92, .ld (none) (.t 91), none⟩, ⟨some 93, .len (.t 92), none⟩, ⟨some 94, .bin .gtr (.t 93) (.c (.int .i64 4)), none⟩, ⟨some 90, .mv (.t 94), none⟩]))
        (.cond (.t 90)
          (.seq (.keep [] (.ops [⟨some 2, .mv (.c (.int .i64 6)), none⟩]))
          .ret)
          (.seq (.keep [1] (.ops [⟨some 96, .fldA 6 (.t 1), none⟩, ⟨some 97, .ld (none) (.t 96), none⟩, ⟨some 98, .bin .neq (.t 97) (.c (.int .i64 0)), none⟩, ⟨some 95, .mv (.t 98), none⟩]))
          (.cond (.t 95)
            (.seq (.keep [] (.ops [⟨some 2, .mv (.c (.int .i64 3)), none⟩]))
            .ret)
            .skip)))))))))
    (.seq (.keep [] (.ops [⟨some 2, .mv (.c (.int .i64 0)), none⟩]))
    .ret))))), [.t 2], 99⟩
theorem eb60 : fB Try.prog 60 ec60 = true := by kernel_rfl

/-- partywall/partywallref17.notice -/
def ec61 : CF := ⟨(.seq (.keep [0] (.ops [⟨some 1, .box 7 (.t 0), none⟩, ⟨some 2, .mv (.c (.int .i64 0)), none⟩]))
    (.seq (.block 0 (.seq (.keep [1] (.ops [⟨some 4, .fldA 5 (.t 1), none⟩, ⟨some 5, .ld (none) (.t 4), none⟩, ⟨some 6, .bin .neq (.t 5) (.c (.int .i64 17)), none⟩, ⟨some 7, .mv (.t 6), none⟩, ⟨some 8, .fldA 5 (.t 1), some (7, true)⟩, ⟨some 9, .ld (none) (.t 8), some (7, true)⟩, ⟨some 10, .bin .neq (.t 9) (.c (.int .i64 18)), some (7, true)⟩, ⟨some 11, .pick (.t 7) (.t 10) (.c (.bool false)), none⟩, ⟨some 12, .mv (.t 11), none⟩, ⟨some 13, .fldA 5 (.t 1), some (12, true)⟩, ⟨some 14, .ld (none) (.t 13), some (12, true)⟩, ⟨some 15, .bin .neq (.t 14) (.c (.int .i64 19)), some (12, true)⟩, ⟨some 16, .pick (.t 12) (.t 15) (.c (.bool false)), none⟩, ⟨some 3, .mv (.t 16), none⟩]))
    (.cond (.t 3)
      (.seq (.keep [] (.ops [⟨some 2, .mv (.c (.int .i64 11)), none⟩]))
      .ret)
      (.seq (.keep [1] (.ops [⟨some 18, .fldA 5 (.t 1), none⟩, ⟨some 19, .ld (none) (.t 18), none⟩, ⟨some 20, .bin .eql (.t 19) (.c (.int .i64 19)), none⟩, ⟨some 21, .mv (.t 20), none⟩, ⟨some 22, .fldA 1 (.t 1), some (21, true)⟩, ⟨some 23, .ld (none) (.t 22), some (21, true)⟩, ⟨some 24, .bin .neq (.t 23) (.c (.int .i64 0)), some (21, true)⟩, ⟨some 25, .pick (.t 21) (.t 24) (.c (.bool false)), none⟩, ⟨some 26, .mv (.t 25), none⟩, ⟨some 27, .fldA 5 (.t 1), some (26, false)⟩, ⟨some 28, .ld (none) (.t 27), some (26, false)⟩, ⟨some 29, .bin .neq (.t 28) (.c (.int .i64 19)), some (26, false)⟩, ⟨some 30, .mv (.t 29), some (26, false)⟩, ⟨some 31, .fldA 1 (.t 1), some (30, true)⟩, ⟨some 32, .ld (none) (.t 31), some (30, true)⟩, ⟨some 33, .call 63 [(.t 32)], some (30, true)⟩, ⟨some 34, .un .not (.t 33), some (30, true)⟩, ⟨some 35, .pick (.t 30) (.t 34) (.c (.bool false)), some (26, false)⟩, ⟨some 36, .pick (.t 26) (.c (.bool true)) (.t 35), none⟩, ⟨some 17, .mv (.t 36), none⟩]))
      (.cond (.t 17)
        (.seq (.keep [] (.ops [⟨some 2, .mv (.c (.int .i64 2)), none⟩]))
        .ret)
        (.seq (.keep [1] (.ops [⟨some 38, .fldA 5 (.t 1), none⟩, ⟨some 39, .ld (none) (.t 38), none⟩, ⟨some 40, .bin .eql (.t 39) (.c (.int .i64 17)), none⟩, ⟨some 41, .mv (.t 40), none⟩, ⟨some 42, .fldA 6 (.t 1), some (41, true)⟩, ⟨some 43, .ld (none) (.t 42), some (41, true)⟩, ⟨some 44, .bin .neq (.t 43) (.c (.int .i64 0)), some (41, true)⟩, ⟨some 45, .pick (.t 41) (.t 44) (.c (.bool false)), none⟩, ⟨some 46, .mv (.t 45), none⟩, ⟨some 47, .fldA 5 (.t 1), some (46, false)⟩, ⟨some 48, .ld (none) (.t 47), some (46, false)⟩, ⟨some 49, .bin .neq (.t 48) (.c (.int .i64 17)), some (46, false)⟩, ⟨some 50, .mv (.t 49), some (46, false)⟩, ⟨some 51, .fldA 6 (.t 1), some (50, true)⟩, ⟨some 52, .ld (none) (.t 51), some (50, true)⟩, ⟨some 53, .call 63 [(.t 52)], some (50, true)⟩, ⟨some 54, .un .not (.t 53), some (50, true)⟩, ⟨some 55, .pick (.t 50) (.t 54) (.c (.bool false)), some (46, false)⟩, ⟨some 56, .pick (.t 46) (.c (.bool true)) (.t 55), none⟩, ⟨some 37, .mv (.t 56), none⟩]))
        (.cond (.t 37)
          (.seq (.keep [] (.ops [⟨some 2, .mv (.c (.int .i64 2)), none⟩]))
          .ret)
          (.seq (.keep [1] (.ops [⟨some 58, .fldA 2 (.t 1), none⟩, ⟨some 59, .ld (none) (.t 58), none⟩, ⟨some 60, .len (.t 59), none⟩, ⟨some 61, .bin .gtr (.t 60) (.c (.int .i64 0)), none⟩, ⟨some 62, .mv (.t 61), none⟩, ⟨some 63, .fldA 3 (.t 1), some (62, false)⟩, ⟨some 64, .ld (none) (.t 63), some (62, false)⟩, ⟨some 65, .len (.t 64), some (62, false)⟩, ⟨some 66, .bin .gtr (.t 65) (.c (.int .i64 0)), some (62, false)⟩, ⟨some 67, .pick (.t 62) (.c (.bool true)) (.t 66), none⟩, ⟨some 68, .mv (.t 67), none⟩, ⟨some 69, .fldA 4 (.t 1), some (68, false)⟩, ⟨some 70, .ld (none) (.t 69), some (68, false)⟩, ⟨some 71, .len (.t 70), some (68, false)⟩, ⟨some 72, .bin .gtr (.t 71) (.c (.int .i64 0)), some (68, false)⟩, ⟨some 73, .pick (.t 68) (.c (.bool true)) (.t 72), none⟩, ⟨some 57, .mv (.t 73), none⟩]))
          (.cond (.t 57)
            (.seq (.keep [] (.ops [⟨some 2, .mv (.c (.int .i64 3)), none⟩]))
            .ret)
            .skip)))))))))
    (.seq (.keep [] (.ops [⟨some 2, .mv (.c (.int .i64 0)), none⟩]))
    .ret))), [.t 2], 74⟩
theorem eb61 : fB Try.prog 61 ec61 = true := by kernel_rfl

/-- partywall/match.counted -/
def ec62 : CF := ⟨(.seq (.keep [0] (.ops [⟨some 2, .mv (.c (.bool false)), none⟩]))
    (.seq (.keep [0] (.ops [⟨some 3, .mv (.t 0), none⟩, ⟨some 4, .bin .geq (.t 3) (.c (.int .i64 1)), none⟩, ⟨some 5, .mv (.t 4), none⟩, ⟨some 6, .mv (.t 0), some (5, true)⟩, ⟨some 7, .bin .leq (.t 6) (.c (.int .i64 1099511627776)), some (5, true)⟩, ⟨some 8, .pick (.t 5) (.t 7) (.c (.bool false)), none⟩, ⟨some 2, .mv (.t 8), none⟩]))
    .ret)), [.t 2], 9⟩
theorem eb62 : fB Try.prog 62 ec62 = true := by kernel_rfl

/-- partywall/partywallref17.count -/
def ec63 : CF := ⟨(.seq (.keep [0] (.ops [⟨some 2, .mv (.c (.bool false)), none⟩]))
    (.seq (.keep [0] (.ops [⟨some 3, .mv (.t 0), none⟩, ⟨some 4, .bin .geq (.t 3) (.c (.int .i64 1)), none⟩, ⟨some 5, .mv (.t 4), none⟩, ⟨some 6, .mv (.t 0), some (5, true)⟩, ⟨some 7, .bin .leq (.t 6) (.c (.int .i64 1099511627776)), some (5, true)⟩, ⟨some 8, .pick (.t 5) (.t 7) (.c (.bool false)), none⟩, ⟨some 2, .mv (.t 8), none⟩]))
    .ret)), [.t 2], 9⟩
theorem eb63 : fB Try.prog 63 ec63 = true := by kernel_rfl

def eT : List (Nat × CF) := [(3, ec3), (4, ec4), (5, ec5), (6, ec6), (7, ec7), (8, ec8), (9, ec9), (10, ec10), (11, ec11), (12, ec12), (13, ec13), (14, ec14), (15, ec15), (16, ec16), (17, ec17), (18, ec18), (19, ec19), (20, ec20), (21, ec21), (22, ec22), (23, ec23), (24, ec24), (25, ec25), (26, ec26), (27, ec27), (28, ec28), (29, ec29), (30, ec30), (31, ec31), (32, ec32), (33, ec33), (34, ec34), (35, ec35), (36, ec36), (37, ec37), (38, ec38), (39, ec39), (40, ec40), (41, ec41), (42, ec42), (43, ec43), (44, ec44), (45, ec45), (46, ec46), (47, ec47), (48, ec48), (49, ec49), (50, ec50), (51, ec51), (52, ec52), (53, ec53), (54, ec54), (55, ec55), (56, ec56), (57, ec57), (58, ec58), (59, ec59), (60, ec60), (61, ec61), (62, ec62), (63, ec63)]
theorem eT_ok : tabB Try.prog eT = true := tabB_cons eb3 (tabB_cons eb4 (tabB_cons eb5 (tabB_cons eb6 (tabB_cons eb7 (tabB_cons eb8 (tabB_cons eb9 (tabB_cons eb10 (tabB_cons eb11 (tabB_cons eb12 (tabB_cons eb13 (tabB_cons eb14 (tabB_cons eb15 (tabB_cons eb16 (tabB_cons eb17 (tabB_cons eb18 (tabB_cons eb19 (tabB_cons eb20 (tabB_cons eb21 (tabB_cons eb22 (tabB_cons eb23 (tabB_cons eb24 (tabB_cons eb25 (tabB_cons eb26 (tabB_cons eb27 (tabB_cons eb28 (tabB_cons eb29 (tabB_cons eb30 (tabB_cons eb31 (tabB_cons eb32 (tabB_cons eb33 (tabB_cons eb34 (tabB_cons eb35 (tabB_cons eb36 (tabB_cons eb37 (tabB_cons eb38 (tabB_cons eb39 (tabB_cons eb40 (tabB_cons eb41 (tabB_cons eb42 (tabB_cons eb43 (tabB_cons eb44 (tabB_cons eb45 (tabB_cons eb46 (tabB_cons eb47 (tabB_cons eb48 (tabB_cons eb49 (tabB_cons eb50 (tabB_cons eb51 (tabB_cons eb52 (tabB_cons eb53 (tabB_cons eb54 (tabB_cons eb55 (tabB_cons eb56 (tabB_cons eb57 (tabB_cons eb58 (tabB_cons eb59 (tabB_cons eb60 (tabB_cons eb61 (tabB_cons eb62 (tabB_cons eb63 (tabB_nil)))))))))))))))))))))))))))))))))))))))))))))))))))))))))))))
end Go.Proofs.Ytelmgkneacbneaa
