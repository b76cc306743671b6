/- Part 14 of the proof of RowAgain: an abstract semantics that is proved sound for the model, contracts of functions in it, and plain facts (C06 C06b RC0). No condition. -/
import Derived.Test.YtemddijemikleaaDoorKRowAgain13
import Derived.Test.YtemddijemikleaaDoorRows
set_option linter.all false
namespace Go.Proofs.YtemddijemikleaaDoor
open Go.Abs
set_option maxRecDepth 100000
/-- partywall/partywalllaw06.RowWrites -/
def c3 : CF := ⟨(.seq (.keep [0] (.ops [⟨some 2, .mv (.c (.bool false)), none⟩]))
    (.seq (.seq (.keep [0] (.ops [⟨some 8, .mv (.t 0), none⟩, ⟨some 9, .call 9 [(.t 8)], none⟩, ⟨some 10, .un .not (.t 9), none⟩]))
    (.cond (.t 10)
      (.seq (.keep [] (.ops [⟨some 11, .call 10 [], none⟩, ⟨some 2, .mv (.t 11), none⟩]))
      .ret)
      .skip))
    (.seq (.keep [0] (.ops [⟨some 12, .mv (.t 0), none⟩, ⟨some 13, .call 11 [(.t 12)], none⟩, ⟨some 3, .mv (.t 13), none⟩]))
    (.seq (.keep [0, 3] (.ops [⟨some 15, .mv (.t 3), none⟩, ⟨some 16, .call 12 [(.t 15)], none⟩, ⟨some 14, .mv (.t 16), none⟩, ⟨some 17, .ext (.t 14) 0, none⟩, ⟨some 18, .ext (.t 14) 1, none⟩, ⟨some 4, .mv (.t 17), none⟩, ⟨some 5, .mv (.t 18), none⟩]))
    (.seq (.keep [0, 3, 4, 5] (.ops [⟨some 20, .mv (.t 0), none⟩, ⟨some 21, .call 13 [(.t 20)], none⟩, ⟨some 19, .mv (.t 21), none⟩, ⟨some 22, .ext (.t 19) 0, none⟩, ⟨some 23, .ext (.t 19) 1, none⟩, ⟨some 6, .mv (.t 22), none⟩, ⟨some 7, .mv (.t 23), none⟩]))
    (.seq (.keep [0, 3, 4, 5, 6, 7] (.ops [⟨some 24, .mv (.t 4), none⟩, ⟨some 25, .mv (.t 6), none⟩, ⟨some 26, .bin .eql (.t 24) (.t 25), none⟩, ⟨some 27, .mv (.t 26), none⟩, ⟨some 28, .mv (.t 5), some (27, true)⟩, ⟨some 29, .mv (.t 7), some (27, true)⟩, ⟨some 30, .bin .eql (.t 28) (.t 29), some (27, true)⟩, ⟨some 31, .pick (.t 27) (.t 30) (.c (.bool false)), none⟩, ⟨some 32, .mv (.t 31), none⟩, ⟨some 33, .mv (.t 3), some (32, true)⟩, ⟨some 34, .mv (.t 0), some (32, true)⟩, ⟨some 35, .call 14 [(.t 33), (.t 34)], some (32, true)⟩, ⟨some 36, .pick (.t 32) (.t 35) (.c (.bool false)), none⟩, ⟨some 37, .mv (.t 36), none⟩, ⟨some 38, .call 10 [], some (37, true)⟩, ⟨some 39, .pick (.t 37) (.t 38) (.c (.bool false)), none⟩, ⟨some 2, .mv (.t 39), none⟩]))
    .ret)))))), [.t 2], 40⟩
theorem b3 : fB Tryd.prog 3 c3 = true := by kernel_rfl
/-- partywall/partywalllaw06.RowWords -/
def c4 : CF := ⟨(.seq (.keep [0, 1, 2, 3] (.ops [⟨some 4, .box 3 (.t 0), none⟩, ⟨some 8, .mv (.c (.bool false)), none⟩]))
    (.seq (.seq (.keep [1, 2, 3, 4] (.ops [⟨some 24, .fldA 1 (.t 4), none⟩, ⟨some 25, .ld (none) (.t 24), none⟩, ⟨some 26, .lenS (.t 25), none⟩, ⟨some 27, .bin .gtr (.t 26) (.c (.int .i64 300)), none⟩, ⟨some 28, .mv (.t 27), none⟩, ⟨some 29, .mv (.t 3), some (28, false)⟩, ⟨some 30, .len (.t 29), some (28, false)⟩, ⟨some 31, .bin .gtr (.t 30) (.c (.int .i64 20)), some (28, false)⟩, ⟨some 32, .pick (.t 28) (.c (.bool true)) (.t 31), none⟩]))
    (.cond (.t 32)
      (.seq (.keep [] (.ops [⟨some 33, .call 10 [], none⟩, ⟨some 8, .mv (.t 33), none⟩]))
      .ret)
      .skip))
    (.seq (.seq (.keep [1, 2, 3, 4] (.ops [⟨some 9, .mv (.c (.int .i64 0)), none⟩]))
    (.block 0 (.loop (.seq (.seq (.keep [1, 2, 3, 4, 9] (.ops [⟨some 34, .mv (.t 9), none⟩, ⟨some 35, .mv (.t 3), none⟩, ⟨some 36, .len (.t 35), none⟩, ⟨some 37, .bin .lss (.t 34) (.t 36), none⟩]))
    (.cond (.t 37)
      .skip
      (.exit 0)))
    (.seq (.block 1 (.seq (.keep [1, 2, 3, 4, 9] (.ops [⟨some 40, .mv (.t 3), none⟩, ⟨some 41, .mv (.t 9), none⟩, ⟨some 42, .ixA 1 (.t 40) (.t 41), none⟩, ⟨some 43, .ld (none) (.t 42), none⟩, ⟨some 44, .lenS (.t 43), none⟩, ⟨some 45, .bin .gtr (.t 44) (.c (.int .i64 60)), none⟩]))
    (.cond (.t 45)
      (.seq (.keep [] (.ops [⟨some 46, .call 10 [], none⟩, ⟨some 8, .mv (.t 46), none⟩]))
      .ret)
      .skip)))
    (.keep [1, 2, 3, 4, 9] (.ops [⟨some 38, .mv (.t 9), none⟩, ⟨some 39, .bin .add (.t 38) (.c (.int .i64 1)), none⟩, ⟨some 9, .mv (.t 39), none⟩])))))))
    (.seq (.keep [1, 2, 3, 4] (.ops [⟨some 48, .ld (some 3) (.t 4), none⟩, ⟨some 49, .call 15 [(.t 48)], none⟩, ⟨some 47, .mv (.t 49), none⟩, ⟨some 50, .ext (.t 47) 0, none⟩, ⟨some 51, .ext (.t 47) 1, none⟩, ⟨some 10, .mv (.t 50), none⟩, ⟨some 11, .mv (.t 51), none⟩]))
    (.seq (.keep [1, 2, 3, 4, 10, 11] (.ops [⟨some 53, .ld (some 3) (.t 4), none⟩, ⟨some 54, .call 16 [(.t 53)], none⟩, ⟨some 52, .mv (.t 54), none⟩, ⟨some 55, .ext (.t 52) 0, none⟩, ⟨some 56, .ext (.t 52) 1, none⟩, ⟨some 12, .mv (.t 55), none⟩, ⟨some 13, .mv (.t 56), none⟩]))
    (.seq (.seq (.keep [1, 2, 3, 4, 10, 11, 12, 13] (.ops [⟨some 57, .mv (.t 10), none⟩, ⟨some 58, .mv (.t 12), none⟩, ⟨some 59, .bin .neq (.t 57) (.t 58), none⟩, ⟨some 60, .mv (.t 59), none⟩, ⟨some 61, .mv (.t 11), some (60, false)⟩, ⟨some 62, .mv (.t 13), some (60, false)⟩, ⟨some 63, .bin .neq (.t 61) (.t 62), some (60, false)⟩, ⟨some 64, .pick (.t 60) (.c (.bool true)) (.t 63), none⟩]))
    (.cond (.t 64)
      (.seq (.keep [] (.ops [⟨some 8, .mv (.c (.bool false)), none⟩]))
      .ret)
      .skip))
    (.seq (.keep [1, 2, 3, 4] (.ops [⟨some 66, .ld (some 3) (.t 4), none⟩, ⟨some 67, .mv (.t 1), none⟩, ⟨some 68, .mv (.t 2), none⟩, ⟨some 69, .call 17 [(.t 66), (.t 67), (.t 68)], none⟩, ⟨some 65, .mv (.t 69), none⟩, ⟨some 70, .ext (.t 65) 0, none⟩, ⟨some 71, .ext (.t 65) 1, none⟩, ⟨some 14, .mv (.t 70), none⟩, ⟨some 11, .mv (.t 71), none⟩]))
    (.seq (.keep [1, 2, 3, 4, 11, 14] (.ops [⟨some 73, .ld (some 3) (.t 4), none⟩, ⟨some 74, .mv (.t 1), none⟩, ⟨some 75, .mv (.t 2), none⟩, ⟨some 76, .call 18 [(.t 73), (.t 74), (.t 75)], none⟩, ⟨some 72, .mv (.t 76), none⟩, ⟨some 77, .ext (.t 72) 0, none⟩, ⟨some 78, .ext (.t 72) 1, none⟩, ⟨some 15, .mv (.t 77), none⟩, ⟨some 13, .mv (.t 78), none⟩]))
    (.seq (.seq (.keep [3, 4, 11, 13, 14, 15] (.ops [⟨some 79, .mv (.t 14), none⟩, ⟨some 80, .mv (.t 15), none⟩, ⟨some 81, .bin .neq (.t 79) (.t 80), none⟩, ⟨some 82, .mv (.t 81), none⟩, ⟨some 83, .mv (.t 11), some (82, false)⟩, ⟨some 84, .mv (.t 13), some (82, false)⟩, ⟨some 85, .bin .neq (.t 83) (.t 84), some (82, false)⟩, ⟨some 86, .pick (.t 82) (.c (.bool true)) (.t 85), none⟩]))
    (.cond (.t 86)
      (.seq (.keep [] (.ops [⟨some 8, .mv (.c (.bool false)), none⟩]))
      .ret)
      .skip))
    (.seq (.keep [3, 4] (.ops [⟨some 88, .ld (some 3) (.t 4), none⟩, ⟨some 89, .mv (.t 3), none⟩, ⟨some 90, .call 19 [(.t 88), (.t 89)], none⟩, ⟨some 87, .mv (.t 90), none⟩, ⟨some 91, .ext (.t 87) 0, none⟩, ⟨some 92, .ext (.t 87) 1, none⟩, ⟨some 16, .mv (.t 91), none⟩, ⟨some 11, .mv (.t 92), none⟩]))
    (.seq (.keep [3, 4, 11, 16] (.ops [⟨some 94, .ld (some 3) (.t 4), none⟩, ⟨some 95, .mv (.t 3), none⟩, ⟨some 96, .call 20 [(.t 94), (.t 95)], none⟩, ⟨some 93, .mv (.t 96), none⟩, ⟨some 97, .ext (.t 93) 0, none⟩, ⟨some 98, .ext (.t 93) 1, none⟩, ⟨some 17, .mv (.t 97), none⟩, ⟨some 13, .mv (.t 98), none⟩]))
    (.seq (.keep [3, 4, 11, 13, 16, 17] (.ops [⟨some 100, .ld (some 3) (.t 4), none⟩, ⟨some 101, .call 21 [(.t 100)], none⟩, ⟨some 99, .mv (.t 101), none⟩, ⟨some 102, .ext (.t 99) 0, none⟩, ⟨some 103, .ext (.t 99) 1, none⟩, ⟨some 18, .mv (.t 102), none⟩, ⟨some 19, .mv (.t 103), none⟩]))
    (.seq (.keep [3, 4, 11, 13, 16, 17, 18, 19] (.ops [⟨some 105, .ld (some 3) (.t 4), none⟩, ⟨some 106, .call 22 [(.t 105)], none⟩, ⟨some 104, .mv (.t 106), none⟩, ⟨some 107, .ext (.t 104) 0, none⟩, ⟨some 108, .ext (.t 104) 1, none⟩, ⟨some 20, .mv (.t 107), none⟩, ⟨some 21, .mv (.t 108), none⟩]))
    (.seq (.keep [3, 11, 13, 16, 17, 18, 19, 20, 21] (.ops [⟨some 109, .mv (.t 3), none⟩, ⟨some 110, .call 23 [(.t 109)], none⟩, ⟨some 111, .mv (.t 3), none⟩, ⟨some 112, .call 24 [(.t 111)], none⟩, ⟨some 22, .alloc [.int .i64 0, .nils], none⟩, ⟨some 23, .alloc [.int .i64 0, .nils], none⟩, ⟨none, .st 2 (.t 22) (.t 110), none⟩, ⟨none, .st 2 (.t 23) (.t 112), none⟩]))
    (.seq (.keep [11, 13, 16, 17, 18, 19, 20, 21, 22, 23] (.ops [⟨some 113, .mv (.t 16), none⟩, ⟨some 114, .mv (.t 17), none⟩, ⟨some 115, .bin .eql (.t 113) (.t 114), none⟩, ⟨some 116, .mv (.t 115), none⟩, ⟨some 117, .mv (.t 11), some (116, true)⟩, ⟨some 118, .mv (.t 13), some (116, true)⟩, ⟨some 119, .bin .eql (.t 117) (.t 118), some (116, true)⟩, ⟨some 120, .pick (.t 116) (.t 119) (.c (.bool false)), none⟩, ⟨some 121, .mv (.t 120), none⟩, ⟨some 122, .mv (.t 18), some (121, true)⟩, ⟨some 123, .mv (.t 20), some (121, true)⟩, ⟨some 124, .bin .eql (.t 122) (.t 123), some (121, true)⟩, ⟨some 125, .pick (.t 121) (.t 124) (.c (.bool false)), none⟩, ⟨some 126, .mv (.t 125), none⟩, ⟨some 127, .mv (.t 19), some (126, true)⟩, ⟨some 128, .mv (.t 21), some (126, true)⟩, ⟨some 129, .bin .eql (.t 127) (.t 128), some (126, true)⟩, ⟨some 130, .pick (.t 126) (.t 129) (.c (.bool false)), none⟩, ⟨some 131, .mv (.t 130), none⟩, ⟨some 132, .ld (some 2) (.t 22), some (131, true)⟩, ⟨some 133, .mkSl 2 1 [.int .i64 0, .nils] [(0, 2, (.t 132))], some (131, true)⟩, ⟨some 134, .ld (some 2) (.t 23), some (131, true)⟩, ⟨some 135, .mkSl 2 1 [.int .i64 0, .nils] [(0, 2, (.t 134))], some (131, true)⟩, ⟨some 136, .call 14 [(.t 133), (.t 135)], some (131, true)⟩, ⟨some 137, .pick (.t 131) (.t 136) (.c (.bool false)), none⟩, ⟨some 138, .mv (.t 137), none⟩, ⟨some 139, .call 10 [], some (138, true)⟩, ⟨some 140, .pick (.t 138) (.t 139) (.c (.bool false)), none⟩, ⟨some 8, .mv (.t 140), none⟩]))
    .ret))))))))))))))), [.t 8], 141⟩
theorem b4 : fB Tryd.prog 4 c4 = true := by kernel_rfl
/-- partywall/partywalllaw06.RowKnown -/
def c5 : CF := ⟨(.seq (.keep [] (.ops [⟨some 0, .mv (.c (.bool false)), none⟩]))
    (.seq (.keep [] (.ops [⟨some 28, .call 25 [(.c (.str []))], none⟩, ⟨some 27, .mv (.t 28), none⟩, ⟨some 29, .ext (.t 27) 0, none⟩, ⟨some 30, .ext (.t 27) 1, none⟩, ⟨some 2, .alloc [.int .i64 0, .int .i64 0], none⟩, ⟨some 1, .mv (.t 29), none⟩, ⟨none, .st 2 (.t 2) (.t 30), none⟩]))
    (.seq (.keep [1, 2] (.ops [⟨some 32, .call 25 [(.c (.str [35, 32, 111, 110, 108, 121]))], none⟩, ⟨some 31, .mv (.t 32), none⟩, ⟨some 33, .ext (.t 31) 0, none⟩, ⟨some 34, .ext (.t 31) 1, none⟩, ⟨some 4, .alloc [.int .i64 0, .int .i64 0], none⟩, ⟨some 3, .mv (.t 33), none⟩, ⟨none, .st 2 (.t 4) (.t 34), none⟩]))
    (.seq (.keep [1, 2, 3, 4] (.ops [⟨some 35, .call 27 [(.c (.bool true)), (.c (.str [65, 34])), (.c (.int .i64 0))], none⟩, ⟨some 36, .call 26 [(.c (.str [34, 92, 120, 52, 49, 92, 34, 34])), (.t 35)], none⟩, ⟨some 37, .mv (.t 36), none⟩, ⟨some 38, .ld (some 2) (.t 2), some (37, true)⟩, ⟨some 39, .bld [.int .i64 0, .int .i64 0] [], some (37, true)⟩, ⟨some 40, .eqA false [0, 0] (.t 38) (.t 39), some (37, true)⟩, ⟨some 41, .pick (.t 37) (.t 40) (.c (.bool false)), none⟩, ⟨some 42, .mv (.t 41), none⟩, ⟨some 43, .mv (.t 1), some (42, true)⟩, ⟨some 44, .len (.t 43), some (42, true)⟩, ⟨some 45, .bin .eql (.t 44) (.c (.int .i64 0)), some (42, true)⟩, ⟨some 46, .pick (.t 42) (.t 45) (.c (.bool false)), none⟩, ⟨some 47, .mv (.t 46), none⟩, ⟨some 48, .ld (some 2) (.t 4), some (47, true)⟩, ⟨some 49, .bld [.int .i64 0, .int .i64 0] [], some (47, true)⟩, ⟨some 50, .eqA false [0, 0] (.t 48) (.t 49), some (47, true)⟩, ⟨some 51, .pick (.t 47) (.t 50) (.c (.bool false)), none⟩, ⟨some 52, .mv (.t 51), none⟩, ⟨some 53, .mv (.t 3), some (52, true)⟩, ⟨some 54, .len (.t 53), some (52, true)⟩, ⟨some 55, .bin .eql (.t 54) (.c (.int .i64 0)), some (52, true)⟩, ⟨some 56, .pick (.t 52) (.t 55) (.c (.bool false)), none⟩, ⟨some 57, .mv (.t 56), none⟩, ⟨some 58, .call 28 [(.c (.str [97, 34, 98]))], some (57, true)⟩, ⟨some 59, .pick (.t 57) (.t 58) (.c (.bool false)), none⟩, ⟨some 60, .mv (.t 59), none⟩, ⟨some 61, .call 28 [(.c (.str [34, 97, 34, 98]))], some (60, true)⟩, ⟨some 62, .pick (.t 60) (.t 61) (.c (.bool false)), none⟩, ⟨some 63, .mv (.t 62), none⟩, ⟨some 64, .call 28 [(.c (.str [34, 97]))], some (63, true)⟩, ⟨some 65, .pick (.t 63) (.t 64) (.c (.bool false)), none⟩, ⟨some 66, .mv (.t 65), none⟩, ⟨some 67, .call 28 [(.c (.str [97, 92, 98]))], some (66, true)⟩, ⟨some 68, .pick (.t 66) (.t 67) (.c (.bool false)), none⟩, ⟨some 69, .mv (.t 68), none⟩, ⟨some 70, .call 28 [(.c (.str [34, 92, 110, 34]))], some (69, true)⟩, ⟨some 71, .pick (.t 69) (.t 70) (.c (.bool false)), none⟩, ⟨some 5, .mv (.t 71), none⟩]))
    (.seq (.keep [5] (.ops [⟨some 73, .call 27 [(.c (.bool true)), (.c (.str [255])), (.c (.int .i64 0))], none⟩, ⟨some 74, .call 15 [(.t 73)], none⟩, ⟨some 72, .mv (.t 74), none⟩, ⟨some 75, .ext (.t 72) 0, none⟩, ⟨some 76, .ext (.t 72) 1, none⟩, ⟨some 6, .mv (.t 75), none⟩, ⟨some 7, .mv (.t 76), none⟩]))
    (.seq (.keep [5, 6, 7] (.ops [⟨some 78, .call 27 [(.c (.bool false)), (.c (.str [])), (.c (.int .i64 0))], none⟩, ⟨some 79, .call 15 [(.t 78)], none⟩, ⟨some 77, .mv (.t 79), none⟩, ⟨some 80, .ext (.t 77) 0, none⟩, ⟨some 81, .ext (.t 77) 1, none⟩, ⟨some 8, .mv (.t 80), none⟩, ⟨some 9, .mv (.t 81), none⟩]))
    (.seq (.keep [5, 6, 7, 9] (.ops [⟨some 82, .mv (.t 7), none⟩, ⟨some 83, .bin .eql (.t 82) (.c (.int .i64 0)), none⟩, ⟨some 84, .mv (.t 83), none⟩, ⟨some 85, .mv (.t 6), some (84, true)⟩, ⟨some 86, .bin .eql (.t 85) (.c (.str [34, 92, 120, 102, 102, 34])), some (84, true)⟩, ⟨some 87, .pick (.t 84) (.t 86) (.c (.bool false)), none⟩, ⟨some 88, .mv (.t 87), none⟩, ⟨some 89, .mv (.t 9), some (88, true)⟩, ⟨some 90, .bin .eql (.t 89) (.c (.int .i64 3)), some (88, true)⟩, ⟨some 91, .pick (.t 88) (.t 90) (.c (.bool false)), none⟩, ⟨some 92, .mv (.t 91), none⟩, ⟨some 93, .call 29 [(.c (.str [97, 35]))], some (92, true)⟩, ⟨some 94, .pick (.t 92) (.t 93) (.c (.bool false)), none⟩, ⟨some 95, .mv (.t 94), none⟩, ⟨some 96, .call 29 [(.c (.str [35, 97]))], some (95, true)⟩, ⟨some 97, .un .not (.t 96), some (95, true)⟩, ⟨some 98, .pick (.t 95) (.t 97) (.c (.bool false)), none⟩, ⟨some 10, .mv (.t 98), none⟩]))
    (.seq (.keep [5, 10] (.ops [⟨some 99, .call 27 [(.c (.bool false)), (.c (.str [48, 55])), (.c (.int .i64 0))], none⟩, ⟨some 100, .call 30 [(.t 99), (.c (.int .u64 0)), (.c (.int .u64 9))], none⟩, ⟨some 101, .bin .eql (.t 100) (.c (.int .i64 3)), none⟩, ⟨some 102, .mv (.t 101), none⟩, ⟨some 103, .call 27 [(.c (.bool false)), (.c (.str [49, 56, 52, 52, 54, 55, 52, 52, 48, 55, 51, 55, 48, 57, 53, 53, 49, 54, 49, 54])), (.c (.int .i64 0))], some (102, true)⟩, ⟨some 104, .call 30 [(.t 103), (.c (.int .u64 0)), (.c (.int .u64 18446744073709551615))], some (102, true)⟩, ⟨some 105, .bin .eql (.t 104) (.c (.int .i64 2)), some (102, true)⟩, ⟨some 106, .pick (.t 102) (.t 105) (.c (.bool false)), none⟩, ⟨some 107, .mv (.t 106), none⟩, ⟨some 108, .call 27 [(.c (.bool false)), (.c (.str [53])), (.c (.int .i64 0))], some (107, true)⟩, ⟨some 109, .call 30 [(.t 108), (.c (.int .u64 6)), (.c (.int .u64 9))], some (107, true)⟩, ⟨some 110, .bin .eql (.t 109) (.c (.int .i64 2)), some (107, true)⟩, ⟨some 111, .pick (.t 107) (.t 110) (.c (.bool false)), none⟩, ⟨some 112, .mv (.t 111), none⟩, ⟨some 113, .call 27 [(.c (.bool true)), (.c (.str [53])), (.c (.int .i64 0))], some (112, true)⟩, ⟨some 114, .call 30 [(.t 113), (.c (.int .u64 0)), (.c (.int .u64 9))], some (112, true)⟩, ⟨some 115, .bin .eql (.t 114) (.c (.int .i64 3)), some (112, true)⟩, ⟨some 116, .pick (.t 112) (.t 115) (.c (.bool false)), none⟩, ⟨some 11, .mv (.t 116), none⟩]))
    (.seq (.keep [5, 10, 11] (.ops [⟨some 118, .call 31 [(.c (.str [45, 53]))], none⟩, ⟨some 117, .mv (.t 118), none⟩, ⟨some 119, .ext (.t 117) 0, none⟩, ⟨some 120, .ext (.t 117) 1, none⟩, ⟨some 12, .mv (.t 119), none⟩, ⟨some 13, .mv (.t 120), none⟩]))
    (.seq (.keep [5, 10, 11, 12, 13] (.ops [⟨some 122, .call 31 [(.c (.str [45, 48]))], none⟩, ⟨some 121, .mv (.t 122), none⟩, ⟨some 123, .ext (.t 121) 0, none⟩, ⟨some 124, .ext (.t 121) 1, none⟩, ⟨some 14, .mv (.t 123), none⟩, ⟨some 15, .mv (.t 124), none⟩]))
    (.seq (.keep [5, 10, 11, 12, 13, 15] (.ops [⟨some 126, .call 31 [(.c (.str [45, 57, 50, 50, 51, 51, 55, 50, 48, 51, 54, 56, 53, 52, 55, 55, 53, 56, 48, 56]))], none⟩, ⟨some 125, .mv (.t 126), none⟩, ⟨some 127, .ext (.t 125) 0, none⟩, ⟨some 128, .ext (.t 125) 1, none⟩, ⟨some 16, .mv (.t 127), none⟩, ⟨some 17, .mv (.t 128), none⟩]))
    (.seq (.keep [5, 10, 11, 12, 13, 15, 16, 17] (.ops [⟨some 130, .call 31 [(.c (.str [57, 50, 50, 51, 51, 55, 50, 48, 51, 54, 56, 53, 52, 55, 55, 53, 56, 48, 56]))], none⟩, ⟨some 129, .mv (.t 130), none⟩, ⟨some 131, .ext (.t 129) 0, none⟩, ⟨some 132, .ext (.t 129) 1, none⟩, ⟨some 18, .mv (.t 131), none⟩, ⟨some 19, .mv (.t 132), none⟩]))
    (.seq (.keep [5, 10, 11, 12, 13, 15, 16, 17, 19] (.ops [⟨some 133, .mv (.t 12), none⟩, ⟨some 134, .bin .eql (.t 133) (.c (.int .i64 (-5))), none⟩, ⟨some 135, .mv (.t 134), none⟩, ⟨some 136, .mv (.t 13), some (135, true)⟩, ⟨some 137, .bin .eql (.t 136) (.c (.int .i64 0)), some (135, true)⟩, ⟨some 138, .pick (.t 135) (.t 137) (.c (.bool false)), none⟩, ⟨some 139, .mv (.t 138), none⟩, ⟨some 140, .mv (.t 15), some (139, true)⟩, ⟨some 141, .bin .eql (.t 140) (.c (.int .i64 3)), some (139, true)⟩, ⟨some 142, .pick (.t 139) (.t 141) (.c (.bool false)), none⟩, ⟨some 143, .mv (.t 142), none⟩, ⟨some 144, .mv (.t 16), some (143, true)⟩, ⟨some 145, .bin .eql (.t 144) (.c (.int .i64 (-9223372036854775808))), some (143, true)⟩, ⟨some 146, .pick (.t 143) (.t 145) (.c (.bool false)), none⟩, ⟨some 147, .mv (.t 146), none⟩, ⟨some 148, .mv (.t 17), some (147, true)⟩, ⟨some 149, .bin .eql (.t 148) (.c (.int .i64 0)), some (147, true)⟩, ⟨some 150, .pick (.t 147) (.t 149) (.c (.bool false)), none⟩, ⟨some 151, .mv (.t 150), none⟩, ⟨some 152, .mv (.t 19), some (151, true)⟩, ⟨some 153, .bin .eql (.t 152) (.c (.int .i64 2)), some (151, true)⟩, ⟨some 154, .pick (.t 151) (.t 153) (.c (.bool false)), none⟩, ⟨some 20, .mv (.t 154), none⟩]))
    (.seq (.keep [5, 10, 11, 20] (.ops [⟨some 156, .call 27 [(.c (.bool false)), (.c (.str [98])), (.c (.int .i64 0))], none⟩, ⟨some 157, .mkSl 1 3 [.str [], .str [], .str []] [(0, 1, (.c (.str [97]))), (1, 1, (.c (.str [98]))), (2, 1, (.c (.str [98])))], none⟩, ⟨some 158, .call 19 [(.t 156), (.t 157)], none⟩, ⟨some 155, .mv (.t 158), none⟩, ⟨some 159, .ext (.t 155) 0, none⟩, ⟨some 160, .ext (.t 155) 1, none⟩, ⟨some 21, .mv (.t 159), none⟩, ⟨some 22, .mv (.t 160), none⟩]))
    (.seq (.keep [5, 10, 11, 20, 21, 22] (.ops [⟨some 162, .call 27 [(.c (.bool false)), (.c (.str [99])), (.c (.int .i64 0))], none⟩, ⟨some 163, .mkSl 1 1 [.str []] [(0, 1, (.c (.str [97])))], none⟩, ⟨some 164, .call 19 [(.t 162), (.t 163)], none⟩, ⟨some 161, .mv (.t 164), none⟩, ⟨some 165, .ext (.t 161) 0, none⟩, ⟨some 166, .ext (.t 161) 1, none⟩, ⟨some 23, .mv (.t 165), none⟩, ⟨some 24, .mv (.t 166), none⟩]))
    (.seq (.keep [5, 10, 11, 20, 21, 22, 24] (.ops [⟨some 168, .call 27 [(.c (.bool true)), (.c (.str [97])), (.c (.int .i64 0))], none⟩, ⟨some 169, .mkSl 1 1 [.str []] [(0, 1, (.c (.str [97])))], none⟩, ⟨some 170, .call 19 [(.t 168), (.t 169)], none⟩, ⟨some 167, .mv (.t 170), none⟩, ⟨some 171, .ext (.t 167) 0, none⟩, ⟨some 172, .ext (.t 167) 1, none⟩, ⟨some 25, .mv (.t 171), none⟩, ⟨some 26, .mv (.t 172), none⟩]))
    (.seq (.keep [5, 10, 11, 20, 21, 22, 24, 26] (.ops [⟨some 173, .call 10 [], none⟩, ⟨some 174, .mv (.t 173), none⟩, ⟨some 175, .mv (.t 5), some (174, true)⟩, ⟨some 176, .pick (.t 174) (.t 175) (.c (.bool false)), none⟩, ⟨some 177, .mv (.t 176), none⟩, ⟨some 178, .mv (.t 10), some (177, true)⟩, ⟨some 179, .pick (.t 177) (.t 178) (.c (.bool false)), none⟩, ⟨some 180, .mv (.t 179), none⟩, ⟨some 181, .mv (.t 11), some (180, true)⟩, ⟨some 182, .pick (.t 180) (.t 181) (.c (.bool false)), none⟩, ⟨some 183, .mv (.t 182), none⟩, ⟨some 184, .mv (.t 20), some (183, true)⟩, ⟨some 185, .pick (.t 183) (.t 184) (.c (.bool false)), none⟩, ⟨some 186, .mv (.t 185), none⟩, ⟨some 187, .mv (.t 22), some (186, true)⟩, ⟨some 188, .bin .eql (.t 187) (.c (.int .i64 0)), some (186, true)⟩, ⟨some 189, .pick (.t 186) (.t 188) (.c (.bool false)), none⟩, ⟨some 190, .mv (.t 189), none⟩, ⟨some 191, .mv (.t 21), some (190, true)⟩, ⟨some 192, .bin .eql (.t 191) (.c (.int .i64 1)), some (190, true)⟩, ⟨some 193, .pick (.t 190) (.t 192) (.c (.bool false)), none⟩, ⟨some 194, .mv (.t 193), none⟩, ⟨some 195, .mv (.t 24), some (194, true)⟩, ⟨some 196, .bin .eql (.t 195) (.c (.int .i64 7)), some (194, true)⟩, ⟨some 197, .pick (.t 194) (.t 196) (.c (.bool false)), none⟩, ⟨some 198, .mv (.t 197), none⟩, ⟨some 199, .mv (.t 26), some (198, true)⟩, ⟨some 200, .bin .eql (.t 199) (.c (.int .i64 7)), some (198, true)⟩, ⟨some 201, .pick (.t 198) (.t 200) (.c (.bool false)), none⟩, ⟨some 0, .mv (.t 201), none⟩]))
    .ret))))))))))))))))), [.t 0], 202⟩
theorem b5 : fB Tryd.prog 5 c5 = true := by kernel_rfl
/-- partywall/partywalllaw06.RowAgain -/
def c7 : CF := ⟨(.seq (.keep [0, 1] (.ops [⟨some 4, .mv (.c (.bool false)), none⟩]))
    (.seq (.keep [0, 1] (.ops [⟨some 19, .call 5 [], none⟩, ⟨some 5, .mv (.t 19), none⟩]))
    (.seq (.seq (.keep [0, 1, 5] (.ops [⟨some 20, .mv (.t 0), none⟩, ⟨some 21, .lenS (.t 20), none⟩, ⟨some 22, .bin .gtr (.t 21) (.c (.int .i64 300)), none⟩, ⟨some 23, .mv (.t 22), none⟩, ⟨some 24, .mv (.t 1), some (23, false)⟩, ⟨some 25, .lenS (.t 24), some (23, false)⟩, ⟨some 26, .bin .gtr (.t 25) (.c (.int .i64 300)), some (23, false)⟩, ⟨some 27, .pick (.t 23) (.c (.bool true)) (.t 26), none⟩]))
    (.cond (.t 27)
      (.seq (.keep [5] (.ops [⟨some 28, .mv (.t 5), none⟩, ⟨some 4, .mv (.t 28), none⟩]))
      .ret)
      .skip))
    (.seq (.keep [0, 1, 5] (.ops [⟨some 30, .mv (.t 0), none⟩, ⟨some 31, .call 25 [(.t 30)], none⟩, ⟨some 29, .mv (.t 31), none⟩, ⟨some 32, .ext (.t 29) 0, none⟩, ⟨some 33, .ext (.t 29) 1, none⟩, ⟨some 7, .alloc [.int .i64 0, .int .i64 0], none⟩, ⟨some 6, .mv (.t 32), none⟩, ⟨none, .st 2 (.t 7) (.t 33), none⟩]))
    (.seq (.keep [0, 1, 5, 6, 7] (.ops [⟨some 35, .mv (.t 1), none⟩, ⟨some 36, .call 25 [(.t 35)], none⟩, ⟨some 34, .mv (.t 36), none⟩, ⟨some 37, .ext (.t 34) 0, none⟩, ⟨some 38, .ext (.t 34) 1, none⟩, ⟨some 9, .alloc [.int .i64 0, .int .i64 0], none⟩, ⟨some 8, .mv (.t 37), none⟩, ⟨none, .st 2 (.t 9) (.t 38), none⟩]))
    (.seq (.seq (.keep [0, 1, 5, 6, 7, 8, 9] (.ops [⟨some 39, .fldA 0 (.t 7), none⟩, ⟨some 40, .ld (none) (.t 39), none⟩, ⟨some 41, .bin .neq (.t 40) (.c (.int .i64 0)), none⟩, ⟨some 42, .mv (.t 41), none⟩, ⟨some 43, .fldA 0 (.t 9), some (42, false)⟩, ⟨some 44, .ld (none) (.t 43), some (42, false)⟩, ⟨some 45, .bin .neq (.t 44) (.c (.int .i64 0)), some (42, false)⟩, ⟨some 46, .pick (.t 42) (.c (.bool true)) (.t 45), none⟩]))
    (.cond (.t 46)
      (.seq (.keep [5] (.ops [⟨some 47, .mv (.t 5), none⟩, ⟨some 4, .mv (.t 47), none⟩]))
      .ret)
      .skip))
    (.seq (.keep [0, 1, 5, 6, 8] (.ops [⟨some 49, .mv (.t 6), none⟩, ⟨some 50, .call 12 [(.t 49)], none⟩, ⟨some 48, .mv (.t 50), none⟩, ⟨some 51, .ext (.t 48) 0, none⟩, ⟨some 52, .ext (.t 48) 1, none⟩, ⟨some 10, .mv (.t 51), none⟩, ⟨some 11, .mv (.t 52), none⟩]))
    (.seq (.keep [0, 1, 5, 6, 8, 10, 11] (.ops [⟨some 54, .mv (.t 10), none⟩, ⟨some 55, .call 25 [(.t 54)], none⟩, ⟨some 53, .mv (.t 55), none⟩, ⟨some 56, .ext (.t 53) 0, none⟩, ⟨some 57, .ext (.t 53) 1, none⟩, ⟨some 13, .alloc [.int .i64 0, .int .i64 0], none⟩, ⟨some 12, .mv (.t 56), none⟩, ⟨none, .st 2 (.t 13) (.t 57), none⟩]))
    (.seq (.keep [0, 1, 5, 6, 8, 11, 12, 13] (.ops [⟨some 59, .mv (.t 0), none⟩, ⟨some 60, .bin .add (.t 59) (.c (.str [10])), none⟩, ⟨some 61, .mv (.t 1), none⟩, ⟨some 62, .bin .add (.t 60) (.t 61), none⟩, ⟨some 63, .call 25 [(.t 62)], none⟩, ⟨some 58, .mv (.t 63), none⟩, ⟨some 64, .ext (.t 58) 0, none⟩, ⟨some 65, .ext (.t 58) 1, none⟩, ⟨some 15, .alloc [.int .i64 0, .int .i64 0], none⟩, ⟨some 14, .mv (.t 64), none⟩, ⟨none, .st 2 (.t 15) (.t 65), none⟩]))
    (.seq (.keep [0, 1, 5, 6, 8, 11, 12, 13, 14, 15] (.ops [⟨some 67, .mv (.t 0), none⟩, ⟨some 68, .bin .add (.c (.str [35, 32, 111, 110, 101, 10, 10, 32, 9])) (.t 67), none⟩, ⟨some 69, .bin .add (.t 68) (.c (.str [10, 32, 10, 35, 10])), none⟩, ⟨some 70, .mv (.t 1), none⟩, ⟨some 71, .bin .add (.t 69) (.t 70), none⟩, ⟨some 72, .bin .add (.t 71) (.c (.str [32, 35, 32, 116, 119, 111])), none⟩, ⟨some 73, .call 25 [(.t 72)], none⟩, ⟨some 66, .mv (.t 73), none⟩, ⟨some 74, .ext (.t 66) 0, none⟩, ⟨some 75, .ext (.t 66) 1, none⟩, ⟨some 17, .alloc [.int .i64 0, .int .i64 0], none⟩, ⟨some 16, .mv (.t 74), none⟩, ⟨none, .st 2 (.t 17) (.t 75), none⟩]))
    (.seq (.keep [5, 6, 8, 11, 12, 13, 14, 15, 16, 17] (.ops [⟨some 76, .mkSl 2 0 [] [], none⟩, ⟨some 77, .mv (.t 6), none⟩, ⟨some 78, .app true 43 2 32 (.t 76) (.t 77), none⟩, ⟨some 79, .mv (.t 8), none⟩, ⟨some 80, .app true 43 2 32 (.t 78) (.t 79), none⟩, ⟨some 18, .mv (.t 80), none⟩]))
    (.seq (.keep [5, 6, 11, 12, 13, 14, 15, 16, 17, 18] (.ops [⟨some 81, .mv (.t 5), none⟩, ⟨some 82, .mv (.t 81), none⟩, ⟨some 83, .mv (.t 11), some (82, true)⟩, ⟨some 84, .bin .eql (.t 83) (.c (.int .i64 4)), some (82, true)⟩, ⟨some 85, .mv (.t 84), some (82, true)⟩, ⟨some 86, .mv (.t 11), some (85, false)⟩, ⟨some 87, .bin .eql (.t 86) (.c (.int .i64 0)), some (85, false)⟩, ⟨some 88, .mv (.t 87), some (85, false)⟩, ⟨some 89, .ld (some 2) (.t 13), some (88, true)⟩, ⟨some 90, .bld [.int .i64 0, .int .i64 0] [], some (88, true)⟩, ⟨some 91, .eqA false [0, 0] (.t 89) (.t 90), some (88, true)⟩, ⟨some 92, .pick (.t 88) (.t 91) (.c (.bool false)), some (85, false)⟩, ⟨some 93, .mv (.t 92), some (85, false)⟩, ⟨some 94, .mv (.t 12), some (93, true)⟩, ⟨some 95, .mv (.t 6), some (93, true)⟩, ⟨some 96, .call 33 [(.t 94), (.t 95)], some (93, true)⟩, ⟨some 97, .pick (.t 93) (.t 96) (.c (.bool false)), some (85, false)⟩, ⟨some 98, .pick (.t 85) (.c (.bool true)) (.t 97), some (82, true)⟩, ⟨some 99, .pick (.t 82) (.t 98) (.c (.bool false)), none⟩, ⟨some 100, .mv (.t 99), none⟩, ⟨some 101, .ld (some 2) (.t 15), some (100, true)⟩, ⟨some 102, .bld [.int .i64 0, .int .i64 0] [], some (100, true)⟩, ⟨some 103, .eqA false [0, 0] (.t 101) (.t 102), some (100, true)⟩, ⟨some 104, .pick (.t 100) (.t 103) (.c (.bool false)), none⟩, ⟨some 105, .mv (.t 104), none⟩, ⟨some 106, .mv (.t 14), some (105, true)⟩, ⟨some 107, .mv (.t 18), some (105, true)⟩, ⟨some 108, .call 33 [(.t 106), (.t 107)], some (105, true)⟩, ⟨some 109, .pick (.t 105) (.t 108) (.c (.bool false)), none⟩, ⟨some 110, .mv (.t 109), none⟩, ⟨some 111, .ld (some 2) (.t 17), some (110, true)⟩, ⟨some 112, .bld [.int .i64 0, .int .i64 0] [], some (110, true)⟩, ⟨some 113, .eqA false [0, 0] (.t 111) (.t 112), some (110, true)⟩, ⟨some 114, .pick (.t 110) (.t 113) (.c (.bool false)), none⟩, ⟨some 115, .mv (.t 114), none⟩, ⟨some 116, .mv (.t 16), some (115, true)⟩, ⟨some 117, .mv (.t 18), some (115, true)⟩, ⟨some 118, .call 33 [(.t 116), (.t 117)], some (115, true)⟩, ⟨some 119, .pick (.t 115) (.t 118) (.c (.bool false)), none⟩, ⟨some 4, .mv (.t 119), none⟩]))
    .ret)))))))))))), [.t 4], 120⟩
theorem b7 : fB Tryd.prog 7 c7 = true := by kernel_rfl
/-- partywall/partywalllaw06.RowBytes -/
def c8 : CF := ⟨(.seq (.keep [0, 1] (.ops [⟨some 4, .mv (.c (.bool false)), none⟩]))
    (.seq (.keep [0, 1] (.ops [⟨some 14, .call 5 [], none⟩, ⟨some 5, .mv (.t 14), none⟩]))
    (.seq (.seq (.keep [0, 1, 5] (.ops [⟨some 15, .mv (.t 0), none⟩, ⟨some 16, .lenS (.t 15), none⟩, ⟨some 17, .bin .gtr (.t 16) (.c (.int .i64 200)), none⟩]))
    (.cond (.t 17)
      (.seq (.keep [5] (.ops [⟨some 18, .mv (.t 5), none⟩, ⟨some 4, .mv (.t 18), none⟩]))
      .ret)
      .skip))
    (.seq (.keep [0, 1, 5] (.ops [⟨some 20, .mv (.t 0), none⟩, ⟨some 21, .call 27 [(.c (.bool true)), (.t 20), (.c (.int .i64 0))], none⟩, ⟨some 22, .call 15 [(.t 21)], none⟩, ⟨some 19, .mv (.t 22), none⟩, ⟨some 23, .ext (.t 19) 0, none⟩, ⟨some 24, .ext (.t 19) 1, none⟩, ⟨some 6, .mv (.t 23), none⟩, ⟨some 7, .mv (.t 24), none⟩]))
    (.seq (.seq (.keep [0, 1, 5, 6, 7] (.ops [⟨some 25, .mv (.t 7), none⟩, ⟨some 26, .bin .neq (.t 25) (.c (.int .i64 0)), none⟩, ⟨some 27, .mv (.t 26), none⟩, ⟨some 28, .mv (.t 6), some (27, false)⟩, ⟨some 29, .mv (.t 0), some (27, false)⟩, ⟨some 30, .call 27 [(.c (.bool true)), (.t 29), (.c (.int .i64 0))], some (27, false)⟩, ⟨some 31, .call 26 [(.t 28), (.t 30)], some (27, false)⟩, ⟨some 32, .un .not (.t 31), some (27, false)⟩, ⟨some 33, .pick (.t 27) (.c (.bool true)) (.t 32), none⟩, ⟨some 34, .mv (.t 33), none⟩, ⟨some 35, .mv (.t 0), some (34, false)⟩, ⟨some 36, .call 29 [(.t 35)], some (34, false)⟩, ⟨some 37, .mv (.t 36), some (34, false)⟩, ⟨some 38, .mv (.t 0), some (37, true)⟩, ⟨some 39, .mv (.t 0), some (37, true)⟩, ⟨some 40, .call 27 [(.c (.bool false)), (.t 39), (.c (.int .i64 0))], some (37, true)⟩, ⟨some 41, .call 26 [(.t 38), (.t 40)], some (37, true)⟩, ⟨some 42, .un .not (.t 41), some (37, true)⟩, ⟨some 43, .pick (.t 37) (.t 42) (.c (.bool false)), some (34, false)⟩, ⟨some 44, .pick (.t 34) (.c (.bool true)) (.t 43), none⟩]))
    (.cond (.t 44)
      (.seq (.keep [] (.ops [⟨some 4, .mv (.c (.bool false)), none⟩]))
      .ret)
      .skip))
    (.seq (.keep [1, 5] (.ops [⟨some 45, .mv (.t 1), none⟩, ⟨some 46, .cnv .u64 (.t 45), none⟩, ⟨some 8, .mv (.t 46), none⟩, ⟨some 9, .mv (.c (.str [])), none⟩]))
    (.seq (.seq (.keep [1, 5, 8, 9] (.ops [⟨some 47, .mv (.t 1), none⟩, ⟨some 48, .bin .lss (.t 47) (.c (.int .i64 0)), none⟩]))
    (.cond (.t 48)
      (.keep [1, 5, 8, 9] (.ops [⟨some 49, .mv (.t 8), none⟩, ⟨some 50, .un .neg (.t 49), none⟩, ⟨some 8, .mv (.t 50), none⟩]))
      .skip))
    (.seq (.block 0 (.loop (.seq (.seq (.keep [1, 5, 8, 9] (.ops [⟨some 51, .mv (.t 8), none⟩, ⟨some 52, .bin .gtr (.t 51) (.c (.int .u64 0)), none⟩, ⟨some 53, .mv (.t 52), none⟩, ⟨some 54, .mv (.t 9), some (53, false)⟩, ⟨some 55, .bin .eql (.t 54) (.c (.str [])), some (53, false)⟩, ⟨some 56, .pick (.t 53) (.c (.bool true)) (.t 55), none⟩]))
    (.cond (.t 56)
      .skip
      (.exit 0)))
    (.block 1 (.seq (.keep [1, 5, 8, 9] (.ops [⟨some 57, .mv (.t 8), none⟩, ⟨some 58, .bin .rem (.t 57) (.c (.int .u64 10)), none⟩, ⟨some 59, .bin .add (.c (.int .u64 48)) (.t 58), none⟩, ⟨some 60, .cnv .u8 (.t 59), none⟩, ⟨some 61, .mkSl 1 1 [.int .u8 0] [(0, 1, (.t 60))], none⟩, ⟨some 62, .b2s (.t 61), none⟩, ⟨some 63, .mv (.t 9), none⟩, ⟨some 64, .bin .add (.t 62) (.t 63), none⟩, ⟨some 9, .mv (.t 64), none⟩]))
    (.keep [1, 5, 8, 9] (.ops [⟨some 65, .mv (.t 8), none⟩, ⟨some 66, .bin .quo (.t 65) (.c (.int .u64 10)), none⟩, ⟨some 8, .mv (.t 66), none⟩])))))))
    (.seq (.seq (.keep [1, 5, 9] (.ops [⟨some 67, .mv (.t 1), none⟩, ⟨some 68, .bin .lss (.t 67) (.c (.int .i64 0)), none⟩]))
    (.cond (.t 68)
      (.keep [1, 5, 9] (.ops [⟨some 69, .mv (.t 9), none⟩, ⟨some 70, .bin .add (.c (.str [45])) (.t 69), none⟩, ⟨some 9, .mv (.t 70), none⟩]))
      .skip))
    (.seq (.keep [1, 5, 9] (.ops [⟨some 72, .mv (.t 9), none⟩, ⟨some 73, .call 31 [(.t 72)], none⟩, ⟨some 71, .mv (.t 73), none⟩, ⟨some 74, .ext (.t 71) 0, none⟩, ⟨some 75, .ext (.t 71) 1, none⟩, ⟨some 10, .mv (.t 74), none⟩, ⟨some 11, .mv (.t 75), none⟩]))
    (.seq (.keep [1, 5, 9, 10, 11] (.ops [⟨some 77, .mv (.t 9), none⟩, ⟨some 78, .call 27 [(.c (.bool false)), (.t 77), (.c (.int .i64 0))], none⟩, ⟨some 79, .call 17 [(.t 78), (.c (.int .u64 0)), (.c (.int .u64 18446744073709551615))], none⟩, ⟨some 76, .mv (.t 79), none⟩, ⟨some 80, .ext (.t 76) 0, none⟩, ⟨some 81, .ext (.t 76) 1, none⟩, ⟨some 12, .mv (.t 80), none⟩, ⟨some 13, .mv (.t 81), none⟩]))
    (.seq (.keep [1, 5, 10, 11, 12, 13] (.ops [⟨some 82, .mv (.t 5), none⟩, ⟨some 83, .mv (.t 82), none⟩, ⟨some 84, .mv (.t 11), some (83, true)⟩, ⟨some 85, .bin .eql (.t 84) (.c (.int .i64 0)), some (83, true)⟩, ⟨some 86, .pick (.t 83) (.t 85) (.c (.bool false)), none⟩, ⟨some 87, .mv (.t 86), none⟩, ⟨some 88, .mv (.t 10), some (87, true)⟩, ⟨some 89, .mv (.t 1), some (87, true)⟩, ⟨some 90, .bin .eql (.t 88) (.t 89), some (87, true)⟩, ⟨some 91, .pick (.t 87) (.t 90) (.c (.bool false)), none⟩, ⟨some 92, .mv (.t 91), none⟩, ⟨some 93, .mv (.t 1), some (92, true)⟩, ⟨some 94, .bin .lss (.t 93) (.c (.int .i64 0)), some (92, true)⟩, ⟨some 95, .mv (.t 94), some (92, true)⟩, ⟨some 96, .mv (.t 13), some (95, true)⟩, ⟨some 97, .bin .eql (.t 96) (.c (.int .i64 3)), some (95, true)⟩, ⟨some 98, .pick (.t 95) (.t 97) (.c (.bool false)), some (92, true)⟩, ⟨some 99, .mv (.t 98), some (92, true)⟩, ⟨some 100, .mv (.t 1), some (99, false)⟩, ⟨some 101, .bin .geq (.t 100) (.c (.int .i64 0)), some (99, false)⟩, ⟨some 102, .mv (.t 101), some (99, false)⟩, ⟨some 103, .mv (.t 13), some (102, true)⟩, ⟨some 104, .bin .eql (.t 103) (.c (.int .i64 0)), some (102, true)⟩, ⟨some 105, .pick (.t 102) (.t 104) (.c (.bool false)), some (99, false)⟩, ⟨some 106, .mv (.t 105), some (99, false)⟩, ⟨some 107, .mv (.t 12), some (106, true)⟩, ⟨some 108, .mv (.t 1), some (106, true)⟩, ⟨some 109, .cnv .u64 (.t 108), some (106, true)⟩, ⟨some 110, .bin .eql (.t 107) (.t 109), some (106, true)⟩, ⟨some 111, .pick (.t 106) (.t 110) (.c (.bool false)), some (99, false)⟩, ⟨some 112, .pick (.t 99) (.c (.bool true)) (.t 111), some (92, true)⟩, ⟨some 113, .pick (.t 92) (.t 112) (.c (.bool false)), none⟩, ⟨some 4, .mv (.t 113), none⟩]))
    .ret)))))))))))), [.t 4], 114⟩
theorem b8 : fB Tryd.prog 8 c8 = true := by kernel_rfl
/-- partywall/partywalllaw06.awake -/
def c10 : CF := ⟨(.seq (.keep [] (.ops [⟨some 0, .mv (.c (.bool false)), none⟩]))
    (.seq (.keep [] (.ops [⟨some 7, .call 25 [(.c (.str [97, 32, 34, 98, 32, 99, 34, 32, 35, 32, 110, 111, 10, 32, 32, 120, 10]))], none⟩, ⟨some 6, .mv (.t 7), none⟩, ⟨some 8, .ext (.t 6) 0, none⟩, ⟨some 9, .ext (.t 6) 1, none⟩, ⟨some 2, .alloc [.int .i64 0, .int .i64 0], none⟩, ⟨some 1, .mv (.t 8), none⟩, ⟨none, .st 2 (.t 2) (.t 9), none⟩]))
    (.seq (.keep [1, 2] (.ops [⟨some 10, .call 27 [(.c (.bool false)), (.c (.str [97])), (.c (.int .i64 0))], none⟩, ⟨some 11, .call 27 [(.c (.bool true)), (.c (.str [98, 32, 99])), (.c (.int .i64 2))], none⟩, ⟨some 12, .mkSl 3 2 [.bool false, .str [], .int .i64 0, .bool false, .str [], .int .i64 0] [(0, 3, (.t 10)), (3, 3, (.t 11))], none⟩, ⟨some 13, .bld [.int .i64 0, .nils] [(0, 1, (.c (.int .i64 0))), (1, 1, (.t 12))], none⟩, ⟨some 14, .call 27 [(.c (.bool false)), (.c (.str [120])), (.c (.int .i64 15))], none⟩, ⟨some 15, .mkSl 3 1 [.bool false, .str [], .int .i64 0] [(0, 3, (.t 14))], none⟩, ⟨some 16, .bld [.int .i64 0, .nils] [(0, 1, (.c (.int .i64 13))), (1, 1, (.t 15))], none⟩, ⟨some 17, .mkSl 2 2 [.int .i64 0, .nils, .int .i64 0, .nils] [(0, 2, (.t 13)), (2, 2, (.t 16))], none⟩, ⟨some 3, .mv (.t 17), none⟩]))
    (.seq (.keep [1, 2, 3] (.ops [⟨some 19, .mkSl 1 2 [.str [], .str []] [(0, 1, (.c (.str [97]))), (1, 1, (.c (.str [98, 32, 99])))], none⟩, ⟨some 20, .call 23 [(.t 19)], none⟩, ⟨some 21, .mkSl 1 1 [.str []] [(0, 1, (.c (.str [55])))], none⟩, ⟨some 22, .call 23 [(.t 21)], none⟩, ⟨some 23, .mkSl 2 2 [.int .i64 0, .nils, .int .i64 0, .nils] [(0, 2, (.t 20)), (2, 2, (.t 22))], none⟩, ⟨some 24, .call 12 [(.t 23)], none⟩, ⟨some 18, .mv (.t 24), none⟩, ⟨some 25, .ext (.t 18) 0, none⟩, ⟨some 26, .ext (.t 18) 1, none⟩, ⟨some 4, .mv (.t 25), none⟩, ⟨some 5, .mv (.t 26), none⟩]))
    (.seq (.keep [1, 2, 3, 4, 5] (.ops [⟨some 27, .ld (some 2) (.t 2), none⟩, ⟨some 28, .bld [.int .i64 0, .int .i64 0] [], none⟩, ⟨some 29, .eqA false [0, 0] (.t 27) (.t 28), none⟩, ⟨some 30, .mv (.t 29), none⟩, ⟨some 31, .mv (.t 1), some (30, true)⟩, ⟨some 32, .mv (.t 3), some (30, true)⟩, ⟨some 33, .call 14 [(.t 31), (.t 32)], some (30, true)⟩, ⟨some 34, .pick (.t 30) (.t 33) (.c (.bool false)), none⟩, ⟨some 35, .mv (.t 34), none⟩, ⟨some 36, .mv (.t 5), some (35, true)⟩, ⟨some 37, .bin .eql (.t 36) (.c (.int .i64 0)), some (35, true)⟩, ⟨some 38, .pick (.t 35) (.t 37) (.c (.bool false)), none⟩, ⟨some 39, .mv (.t 38), none⟩, ⟨some 40, .mv (.t 4), some (39, true)⟩, ⟨some 41, .bin .eql (.t 40) (.c (.str [97, 32, 34, 98, 32, 99, 34, 10, 55, 10])), some (39, true)⟩, ⟨some 42, .pick (.t 39) (.t 41) (.c (.bool false)), none⟩, ⟨some 0, .mv (.t 42), none⟩]))
    .ret))))), [.t 0], 43⟩
theorem b10 : fB Tryd.prog 10 c10 = true := by kernel_rfl
/-- partywall/row.Text -/
def c12 : CF := ⟨(.seq (.keep [0] (.ops [⟨some 2, .mv (.c (.str [])), none⟩, ⟨some 3, .mv (.c (.int .i64 0)), none⟩]))
    (.seq (.keep [0] (.ops [⟨some 4, .allocT 63 [.nilp, .nils], none⟩]))
    (.seq (.seq (.keep [0, 4] (.ops [⟨some 13, .mv (.t 0), none⟩, ⟨some 14, .len (.t 13), none⟩, ⟨some 15, .mv (.c (.int .i64 0)), none⟩]))
    (.block 0 (.loop (.seq (.keep [4, 13, 14, 15] (.ops [⟨some 16, .bin .lss (.t 15) (.t 14), none⟩]))
    (.seq (.cond (.t 16)
      .skip
      (.exit 0))
    (.seq (.block 1 (.seq (.keep [4, 13, 14, 15] (.ops [⟨some 17, .ixA 2 (.t 13) (.t 15), none⟩, ⟨some 18, .ld (some 2) (.t 17), none⟩, ⟨some 6, .alloc [.int .i64 0, .nils], none⟩, ⟨none, .st 2 (.t 6) (.t 18), none⟩]))
    (.seq (.seq (.keep [4, 6, 13, 14, 15] (.ops [⟨some 19, .fldA 1 (.t 6), none⟩, ⟨some 20, .ld (none) (.t 19), none⟩, ⟨some 21, .len (.t 20), none⟩, ⟨some 22, .bin .eql (.t 21) (.c (.int .i64 0)), none⟩]))
    (.cond (.t 22)
      (.seq (.keep [] (.ops [⟨some 2, .mv (.c (.str [])), none⟩, ⟨some 3, .mv (.c (.int .i64 7)), none⟩]))
      .ret)
      .skip))
    (.seq (.keep [4, 6, 13, 14, 15] (.ops [⟨some 7, .mv (.c .nils), none⟩]))
    (.seq (.seq (.keep [4, 6, 7, 13, 14, 15] (.ops [⟨some 23, .fldA 1 (.t 6), none⟩, ⟨some 24, .ld (none) (.t 23), none⟩, ⟨some 25, .len (.t 24), none⟩, ⟨some 26, .mv (.c (.int .i64 0)), none⟩]))
    (.block 2 (.loop (.seq (.keep [4, 7, 13, 14, 15, 24, 25, 26] (.ops [⟨some 27, .bin .lss (.t 26) (.t 25), none⟩]))
    (.seq (.cond (.t 27)
      .skip
      (.exit 2))
    (.seq (.block 3 (.seq (.keep [4, 7, 13, 14, 15, 24, 25, 26] (.ops [⟨some 28, .ixA 3 (.t 24) (.t 26), none⟩, ⟨some 29, .ld (some 3) (.t 28), none⟩, ⟨some 9, .alloc [.bool false, .str [], .int .i64 0], none⟩, ⟨none, .st 3 (.t 9) (.t 29), none⟩]))
    (.seq (.keep [4, 7, 9, 13, 14, 15, 24, 25, 26] (.ops [⟨some 31, .ld (some 3) (.t 9), none⟩, ⟨some 32, .call 15 [(.t 31)], none⟩, ⟨some 30, .mv (.t 32), none⟩, ⟨some 33, .ext (.t 30) 0, none⟩, ⟨some 34, .ext (.t 30) 1, none⟩, ⟨some 10, .mv (.t 33), none⟩, ⟨some 11, .mv (.t 34), none⟩]))
    (.seq (.seq (.keep [4, 7, 10, 11, 13, 14, 15, 24, 25, 26] (.ops [⟨some 35, .mv (.t 11), none⟩, ⟨some 36, .bin .neq (.t 35) (.c (.int .i64 0)), none⟩]))
    (.cond (.t 36)
      (.seq (.keep [11] (.ops [⟨some 37, .mv (.t 11), none⟩, ⟨some 2, .mv (.c (.str [])), none⟩, ⟨some 3, .mv (.t 37), none⟩]))
      .ret)
      .skip))
    (.keep [4, 7, 10, 13, 14, 15, 24, 25, 26] (.ops [⟨some 38, .mv (.t 7), none⟩, ⟨some 39, .mv (.t 10), none⟩, ⟨some 40, .mkSl 1 1 [.str []] [(0, 1, (.t 39))], none⟩, ⟨some 41, .app true 9 1 16 (.t 38) (.t 40), none⟩, ⟨some 7, .mv (.t 41), none⟩]))))))
    (.keep [4, 7, 13, 14, 15, 24, 25, 26] (.ops [⟨some 42, .bin .add (.t 26) (.c (.int .i64 1)), none⟩, ⟨some 26, .mv (.t 42), none⟩]))))))))
    (.seq (.keep [4, 7, 13, 14, 15] (.ops [⟨some 43, .mv (.t 7), none⟩, ⟨some 44, .call 34 [(.t 43), (.c (.str [32]))], none⟩, ⟨some 12, .mv (.t 44), none⟩]))
    (.seq (.keep [4, 12, 13, 14, 15] (.ops [⟨some 45, .mv (.t 12), none⟩, ⟨some 46, .bin .add (.t 45) (.c (.str [10])), none⟩, ⟨some 47, .call 35 [(.t 4), (.t 46)], none⟩]))
    (.seq (.keep [4, 12, 13, 14, 15] (.ops [⟨some 48, .mv (.t 12), none⟩, ⟨some 49, .lenS (.t 48), none⟩, ⟨some 50, .bin .gtr (.t 49) (.c (.int .i64 1000)), none⟩, ⟨some 51, .mv (.t 50), none⟩, ⟨some 52, .call 36 [(.t 4)], some (51, false)⟩, ⟨some 53, .bin .gtr (.t 52) (.c (.int .i64 20000)), some (51, false)⟩, ⟨some 54, .pick (.t 51) (.c (.bool true)) (.t 53), none⟩]))
    (.cond (.t 54)
      (.seq (.keep [] (.ops [⟨some 2, .mv (.c (.str [])), none⟩, ⟨some 3, .mv (.c (.int .i64 4)), none⟩]))
      .ret)
      .skip)))))))))
    (.keep [4, 13, 14, 15] (.ops [⟨some 55, .bin .add (.t 15) (.c (.int .i64 1)), none⟩, ⟨some 15, .mv (.t 55), none⟩]))))))))
    (.seq (.keep [4] (.ops [⟨some 56, .call 37 [(.t 4)], none⟩, ⟨some 2, .mv (.t 56), none⟩, ⟨some 3, .mv (.c (.int .i64 0)), none⟩]))
    .ret)))), [.t 2, .t 3], 57⟩
theorem b12 : fB Tryd.prog 12 c12 = true := by kernel_rfl
/-- partywall/partywallkit.SameRows -/
def c14 : CF := ⟨(.seq (.keep [0, 1] (.ops [⟨some 4, .mv (.c (.bool false)), none⟩]))
    (.seq (.seq (.keep [0, 1] (.ops [⟨some 7, .mv (.t 0), none⟩, ⟨some 8, .len (.t 7), none⟩, ⟨some 9, .mv (.t 1), none⟩, ⟨some 10, .len (.t 9), none⟩, ⟨some 11, .bin .neq (.t 8) (.t 10), none⟩]))
    (.cond (.t 11)
      (.seq (.keep [] (.ops [⟨some 4, .mv (.c (.bool false)), none⟩]))
      .ret)
      .skip))
    (.seq (.seq (.keep [0, 1] (.ops [⟨some 5, .mv (.c (.int .i64 0)), none⟩]))
    (.block 0 (.loop (.seq (.seq (.keep [0, 1, 5] (.ops [⟨some 12, .mv (.t 5), none⟩, ⟨some 13, .mv (.t 0), none⟩, ⟨some 14, .len (.t 13), none⟩, ⟨some 15, .bin .lss (.t 12) (.t 14), none⟩]))
    (.cond (.t 15)
      .skip
      (.exit 0)))
    (.seq (.block 1 (.seq (.seq (.keep [0, 1, 5] (.drw [⟨some 18, .mv (.t 0), none⟩, ⟨some 19, .mv (.t 5), none⟩, ⟨some 20, .ixA 2 (.t 18) (.t 19), none⟩, ⟨some 21, .fldA 0 (.t 20), none⟩, ⟨some 22, .ld (none) (.t 21), none⟩, ⟨some 23, .mv (.t 1), none⟩, ⟨some 24, .mv (.t 5), none⟩, ⟨some 25, .ixA 2 (.t 23) (.t 24), none⟩, ⟨some 26, .fldA 0 (.t 25), none⟩, ⟨some 27, .ld (none) (.t 26), none⟩, ⟨some 28, .bin .neq (.t 22) (.t 27), none⟩, ⟨some 29, .mv (.t 28), none⟩, ⟨some 30, .mv (.t 0), some (29, false)⟩, ⟨some 31, .mv (.t 5), some (29, false)⟩, ⟨some 32, .ixA 2 (.t 30) (.t 31), some (29, false)⟩, ⟨some 33, .fldA 1 (.t 32), some (29, false)⟩, ⟨some 34, .ld (none) (.t 33), some (29, false)⟩, ⟨some 35, .len (.t 34), some (29, false)⟩, ⟨some 36, .mv (.t 1), some (29, false)⟩, ⟨some 37, .mv (.t 5), some (29, false)⟩, ⟨some 38, .ixA 2 (.t 36) (.t 37), some (29, false)⟩, ⟨some 39, .fldA 1 (.t 38), some (29, false)⟩, ⟨some 40, .ld (none) (.t 39), some (29, false)⟩, ⟨some 41, .len (.t 40), some (29, false)⟩, ⟨some 42, .bin .neq (.t 35) (.t 41), some (29, false)⟩, ⟨some 43, .pick (.t 29) (.c (.bool true)) (.t 42), none⟩] [0, 0, 0, 0, 1, 0, 0, 0, 0, 1, 0, 0, 0, 0, 0, 0, 1, 0, 0, 0, 0, 0, 1, 0, 0, 0]))
    (.cond (.t 43)
      (.seq (.keep [] (.ops [⟨some 4, .mv (.c (.bool false)), none⟩]))
      .ret)
      .skip))
    (.seq (.keep [0, 1, 5] (.ops [⟨some 6, .mv (.c (.int .i64 0)), none⟩]))
    (.block 2 (.loop (.seq (.seq (.keep [0, 1, 5, 6] (.ops [⟨some 44, .mv (.t 6), none⟩, ⟨some 45, .mv (.t 0), none⟩, ⟨some 46, .mv (.t 5), none⟩, ⟨some 47, .ixA 2 (.t 45) (.t 46), none⟩, ⟨some 48, .fldA 1 (.t 47), none⟩, ⟨some 49, .ld (none) (.t 48), none⟩, ⟨some 50, .len (.t 49), none⟩, ⟨some 51, .bin .lss (.t 44) (.t 50), none⟩]))
    (.cond (.t 51)
      .skip
      (.exit 2)))
    (.seq (.block 3 (.seq (.keep [0, 1, 5, 6] (.drw [⟨some 54, .mv (.t 0), none⟩, ⟨some 55, .mv (.t 5), none⟩, ⟨some 56, .ixA 2 (.t 54) (.t 55), none⟩, ⟨some 57, .fldA 1 (.t 56), none⟩, ⟨some 58, .ld (none) (.t 57), none⟩, ⟨some 59, .mv (.t 6), none⟩, ⟨some 60, .ixA 3 (.t 58) (.t 59), none⟩, ⟨some 61, .ld (some 3) (.t 60), none⟩, ⟨some 62, .mv (.t 1), none⟩, ⟨some 63, .mv (.t 5), none⟩, ⟨some 64, .ixA 2 (.t 62) (.t 63), none⟩, ⟨some 65, .fldA 1 (.t 64), none⟩, ⟨some 66, .ld (none) (.t 65), none⟩, ⟨some 67, .mv (.t 6), none⟩, ⟨some 68, .ixA 3 (.t 66) (.t 67), none⟩, ⟨some 69, .ld (some 3) (.t 68), none⟩, ⟨some 70, .eqA true [2, 1, 0] (.t 61) (.t 69), none⟩] [0, 0, 0, 0, 1, 0, 0, 1, 0, 0, 0, 0, 1, 0, 0, 1, 0]))
    (.cond (.t 70)
      (.seq (.keep [] (.ops [⟨some 4, .mv (.c (.bool false)), none⟩]))
      .ret)
      .skip)))
    (.keep [0, 1, 5, 6] (.ops [⟨some 52, .mv (.t 6), none⟩, ⟨some 53, .bin .add (.t 52) (.c (.int .i64 1)), none⟩, ⟨some 6, .mv (.t 53), none⟩])))))))))
    (.keep [0, 1, 5] (.ops [⟨some 16, .mv (.t 5), none⟩, ⟨some 17, .bin .add (.t 16) (.c (.int .i64 1)), none⟩, ⟨some 5, .mv (.t 17), none⟩])))))))
    (.seq (.keep [] (.ops [⟨some 4, .mv (.c (.bool true)), none⟩]))
    .ret)))), [.t 4], 71⟩
theorem b14 : fB Tryd.prog 14 c14 = true := by kernel_rfl
/-- partywall/row.Word -/
def c15 : CF := ⟨(.seq (.keep [0] (.ops [⟨some 1, .box 3 (.t 0), none⟩, ⟨some 2, .mv (.c (.str [])), none⟩, ⟨some 3, .mv (.c (.int .i64 0)), none⟩]))
    (.seq (.seq (.keep [1] (.ops [⟨some 7, .fldA 0 (.t 1), none⟩, ⟨some 8, .ld (none) (.t 7), none⟩, ⟨some 9, .un .not (.t 8), none⟩]))
    (.cond (.t 9)
      (.seq (.seq (.keep [1] (.ops [⟨some 10, .fldA 1 (.t 1), none⟩, ⟨some 11, .ld (none) (.t 10), none⟩, ⟨some 12, .call 29 [(.t 11)], none⟩, ⟨some 13, .un .not (.t 12), none⟩]))
      (.cond (.t 13)
        (.seq (.keep [] (.ops [⟨some 2, .mv (.c (.str [])), none⟩, ⟨some 3, .mv (.c (.int .i64 3)), none⟩]))
        .ret)
        .skip))
      (.seq (.keep [1] (.ops [⟨some 14, .fldA 1 (.t 1), none⟩, ⟨some 15, .ld (none) (.t 14), none⟩, ⟨some 2, .mv (.t 15), none⟩, ⟨some 3, .mv (.c (.int .i64 0)), none⟩]))
      .ret))
      .skip))
    (.seq (.keep [1] (.ops [⟨some 4, .allocT 63 [.nilp, .nils], none⟩]))
    (.seq (.keep [1, 4] (.ops [⟨some 16, .call 39 [(.t 4), (.c (.int .u8 34))], none⟩]))
    (.seq (.seq (.keep [1, 4] (.ops [⟨some 17, .fldA 1 (.t 1), none⟩, ⟨some 18, .ld (none) (.t 17), none⟩, ⟨some 19, .s2b (.t 18), none⟩, ⟨some 20, .len (.t 19), none⟩, ⟨some 21, .mv (.c (.int .i64 0)), none⟩]))
    (.block 0 (.loop (.seq (.keep [4, 19, 20, 21] (.ops [⟨some 22, .bin .lss (.t 21) (.t 20), none⟩]))
    (.seq (.cond (.t 22)
      .skip
      (.exit 0))
    (.seq (.block 1 (.seq (.keep [4, 19, 20, 21] (.ops [⟨some 23, .ixA 1 (.t 19) (.t 21), none⟩, ⟨some 24, .ld (none) (.t 23), none⟩, ⟨some 6, .mv (.t 24), none⟩]))
    (.block 2 (.seq (.keep [4, 6, 19, 20, 21] (.ops [⟨some 41, .mv (.t 6), none⟩, ⟨some 42, .call 40 [(.t 41)], none⟩, ⟨some 40, .mv (.t 42), none⟩]))
    (.cond (.t 40)
      (.keep [4, 6, 19, 20, 21] (.ops [⟨some 43, .mv (.t 6), none⟩, ⟨some 44, .call 39 [(.t 4), (.t 43)], none⟩]))
      (.seq (.keep [4, 6, 19, 20, 21] (.ops [⟨some 46, .mv (.t 6), none⟩, ⟨some 47, .bin .eql (.t 46) (.c (.int .u8 34)), none⟩, ⟨some 48, .mv (.t 47), none⟩, ⟨some 49, .mv (.t 6), some (48, false)⟩, ⟨some 50, .bin .eql (.t 49) (.c (.int .u8 92)), some (48, false)⟩, ⟨some 51, .pick (.t 48) (.c (.bool true)) (.t 50), none⟩, ⟨some 45, .mv (.t 51), none⟩]))
      (.cond (.t 45)
        (.seq (.keep [4, 6, 19, 20, 21] (.ops [⟨some 52, .call 39 [(.t 4), (.c (.int .u8 92))], none⟩]))
        (.keep [4, 6, 19, 20, 21] (.ops [⟨some 53, .mv (.t 6), none⟩, ⟨some 54, .call 39 [(.t 4), (.t 53)], none⟩])))
        (.keep [4, 6, 19, 20, 21] (.drw [⟨some 25, .mv (.t 6), none⟩, ⟨some 26, .bin .shr (.t 25) (.c (.int .u64 4)), none⟩, ⟨some 27, .mv (.t 6), none⟩, ⟨some 28, .bin .shr (.t 27) (.c (.int .u64 4)), none⟩, ⟨some 29, .bin .add (.t 28) (.c (.int .u8 1)), none⟩, ⟨some 30, .slcS (.c (.str [48, 49, 50, 51, 52, 53, 54, 55, 56, 57, 97, 98, 99, 100, 101, 102])) (some (.t 26)) (some (.t 29)), none⟩, ⟨some 31, .bin .add (.c (.str [92, 120])) (.t 30), none⟩, ⟨some 32, .mv (.t 6), none⟩, ⟨some 33, .bin .and (.t 32) (.c (.int .u8 15)), none⟩, ⟨some 34, .mv (.t 6), none⟩, ⟨some 35, .bin .and (.t 34) (.c (.int .u8 15)), none⟩, ⟨some 36, .bin .add (.t 35) (.c (.int .u8 1)), none⟩, ⟨some 37, .slcS (.c (.str [48, 49, 50, 51, 52, 53, 54, 55, 56, 57, 97, 98, 99, 100, 101, 102])) (some (.t 33)) (some (.t 36)), none⟩, ⟨some 38, .bin .add (.t 31) (.t 37), none⟩, ⟨some 39, .call 35 [(.t 4), (.t 38)], none⟩] [0, 0, 0, 0, 0, 0, 0, 0, 0, 0, 0, 0, 0, 0, 2])))))))))
    (.keep [4, 19, 20, 21] (.ops [⟨some 55, .bin .add (.t 21) (.c (.int .i64 1)), none⟩, ⟨some 21, .mv (.t 55), none⟩]))))))))
    (.seq (.keep [4] (.ops [⟨some 56, .call 39 [(.t 4), (.c (.int .u8 34))], none⟩]))
    (.seq (.keep [4] (.ops [⟨some 57, .call 37 [(.t 4)], none⟩, ⟨some 2, .mv (.t 57), none⟩, ⟨some 3, .mv (.c (.int .i64 0)), none⟩]))
    .ret))))))), [.t 2, .t 3], 58⟩
theorem b15 : fB Tryd.prog 15 c15 = true := by kernel_rfl
/-- partywall/row.Number -/
def c17 : CF := ⟨(.seq (.keep [0, 1, 2] (.ops [⟨some 3, .box 3 (.t 0), none⟩, ⟨some 6, .mv (.c (.int .u64 0)), none⟩, ⟨some 7, .mv (.c (.int .i64 0)), none⟩]))
    (.seq (.keep [1, 2, 3] (.ops [⟨some 12, .fldA 1 (.t 3), none⟩, ⟨some 13, .ld (none) (.t 12), none⟩, ⟨some 14, .call 43 [(.t 13)], none⟩, ⟨some 11, .mv (.t 14), none⟩, ⟨some 15, .ext (.t 11) 0, none⟩, ⟨some 16, .ext (.t 11) 1, none⟩, ⟨some 17, .ext (.t 11) 2, none⟩, ⟨some 8, .mv (.t 15), none⟩, ⟨some 9, .mv (.t 16), none⟩, ⟨some 10, .mv (.t 17), none⟩]))
    (.seq (.block 0 (.seq (.keep [1, 2, 3, 8, 9, 10] (.ops [⟨some 19, .mv (.t 10), none⟩, ⟨some 20, .un .not (.t 19), none⟩, ⟨some 21, .mv (.t 20), none⟩, ⟨some 22, .fldA 0 (.t 3), some (21, false)⟩, ⟨some 23, .ld (none) (.t 22), some (21, false)⟩, ⟨some 24, .pick (.t 21) (.c (.bool true)) (.t 23), none⟩, ⟨some 18, .mv (.t 24), none⟩]))
    (.cond (.t 18)
      (.seq (.keep [] (.ops [⟨some 6, .mv (.c (.int .u64 0)), none⟩, ⟨some 7, .mv (.c (.int .i64 3)), none⟩]))
      .ret)
      (.seq (.keep [1, 2, 8, 9] (.ops [⟨some 26, .mv (.t 9), none⟩, ⟨some 27, .mv (.t 26), none⟩, ⟨some 28, .mv (.t 8), some (27, false)⟩, ⟨some 29, .mv (.t 1), some (27, false)⟩, ⟨some 30, .bin .lss (.t 28) (.t 29), some (27, false)⟩, ⟨some 31, .pick (.t 27) (.c (.bool true)) (.t 30), none⟩, ⟨some 32, .mv (.t 31), none⟩, ⟨some 33, .mv (.t 8), some (32, false)⟩, ⟨some 34, .mv (.t 2), some (32, false)⟩, ⟨some 35, .bin .gtr (.t 33) (.t 34), some (32, false)⟩, ⟨some 36, .pick (.t 32) (.c (.bool true)) (.t 35), none⟩, ⟨some 25, .mv (.t 36), none⟩]))
      (.cond (.t 25)
        (.seq (.keep [] (.ops [⟨some 6, .mv (.c (.int .u64 0)), none⟩, ⟨some 7, .mv (.c (.int .i64 2)), none⟩]))
        .ret)
        .skip)))))
    (.seq (.keep [8] (.ops [⟨some 37, .mv (.t 8), none⟩, ⟨some 6, .mv (.t 37), none⟩, ⟨some 7, .mv (.c (.int .i64 0)), none⟩]))
    .ret)))), [.t 6, .t 7], 38⟩
theorem b17 : fB Tryd.prog 17 c17 = true := by kernel_rfl
/-- partywall/row.Which -/
def c19 : CF := ⟨(.seq (.keep [0, 1] (.ops [⟨some 2, .box 3 (.t 0), none⟩, ⟨some 4, .mv (.c (.int .i64 0)), none⟩, ⟨some 5, .mv (.c (.int .i64 0)), none⟩]))
    (.seq (.seq (.keep [1, 2] (.ops [⟨some 8, .mv (.t 1), none⟩, ⟨some 9, .len (.t 8), none⟩, ⟨some 10, .mv (.c (.int .i64 0)), none⟩]))
    (.block 0 (.loop (.seq (.keep [2, 8, 9, 10] (.ops [⟨some 11, .bin .lss (.t 10) (.t 9), none⟩]))
    (.seq (.cond (.t 11)
      .skip
      (.exit 0))
    (.seq (.block 1 (.seq (.keep [2, 8, 9, 10] (.ops [⟨some 12, .mv (.t 10), none⟩, ⟨some 13, .ixA 1 (.t 8) (.t 10), none⟩, ⟨some 14, .ld (none) (.t 13), none⟩, ⟨some 6, .mv (.t 12), none⟩, ⟨some 7, .mv (.t 14), none⟩]))
    (.seq (.keep [2, 6, 7, 8, 9, 10] (.ops [⟨some 15, .fldA 0 (.t 2), none⟩, ⟨some 16, .ld (none) (.t 15), none⟩, ⟨some 17, .un .not (.t 16), none⟩, ⟨some 18, .mv (.t 17), none⟩, ⟨some 19, .mv (.t 7), some (18, true)⟩, ⟨some 20, .fldA 1 (.t 2), some (18, true)⟩, ⟨some 21, .ld (none) (.t 20), some (18, true)⟩, ⟨some 22, .bin .eql (.t 19) (.t 21), some (18, true)⟩, ⟨some 23, .pick (.t 18) (.t 22) (.c (.bool false)), none⟩]))
    (.cond (.t 23)
      (.seq (.keep [6] (.ops [⟨some 24, .mv (.t 6), none⟩, ⟨some 4, .mv (.t 24), none⟩, ⟨some 5, .mv (.c (.int .i64 0)), none⟩]))
      .ret)
      .skip))))
    (.keep [2, 8, 9, 10] (.ops [⟨some 25, .bin .add (.t 10) (.c (.int .i64 1)), none⟩, ⟨some 10, .mv (.t 25), none⟩]))))))))
    (.seq (.keep [] (.ops [⟨some 4, .mv (.c (.int .i64 0)), none⟩, ⟨some 5, .mv (.c (.int .i64 7)), none⟩]))
    .ret))), [.t 4, .t 5], 26⟩
theorem b19 : fB Tryd.prog 19 c19 = true := by kernel_rfl
/-- partywall/row.Signed -/
def c21 : CF := ⟨(.seq (.keep [0] (.ops [⟨some 1, .box 3 (.t 0), none⟩, ⟨some 2, .mv (.c (.int .i64 0)), none⟩, ⟨some 3, .mv (.c (.int .i64 0)), none⟩]))
    (.seq (.keep [1] (.ops [⟨some 10, .fldA 1 (.t 1), none⟩, ⟨some 11, .ld (none) (.t 10), none⟩, ⟨some 12, .call 45 [(.t 11), (.c (.str [45]))], none⟩, ⟨some 9, .mv (.t 12), none⟩, ⟨some 13, .ext (.t 9) 0, none⟩, ⟨some 14, .ext (.t 9) 1, none⟩, ⟨some 4, .mv (.t 13), none⟩, ⟨some 5, .mv (.t 14), none⟩]))
    (.seq (.keep [1, 4, 5] (.ops [⟨some 16, .mv (.t 4), none⟩, ⟨some 17, .call 43 [(.t 16)], none⟩, ⟨some 15, .mv (.t 17), none⟩, ⟨some 18, .ext (.t 15) 0, none⟩, ⟨some 19, .ext (.t 15) 1, none⟩, ⟨some 20, .ext (.t 15) 2, none⟩, ⟨some 6, .mv (.t 18), none⟩, ⟨some 7, .mv (.t 19), none⟩, ⟨some 8, .mv (.t 20), none⟩]))
    (.seq (.block 0 (.seq (.keep [1, 5, 6, 7, 8] (.ops [⟨some 22, .mv (.t 8), none⟩, ⟨some 23, .un .not (.t 22), none⟩, ⟨some 24, .mv (.t 23), none⟩, ⟨some 25, .fldA 0 (.t 1), some (24, false)⟩, ⟨some 26, .ld (none) (.t 25), some (24, false)⟩, ⟨some 27, .pick (.t 24) (.c (.bool true)) (.t 26), none⟩, ⟨some 28, .mv (.t 27), none⟩, ⟨some 29, .mv (.t 5), some (28, false)⟩, ⟨some 30, .mv (.t 29), some (28, false)⟩, ⟨some 31, .mv (.t 6), some (30, true)⟩, ⟨some 32, .bin .eql (.t 31) (.c (.int .u64 0)), some (30, true)⟩, ⟨some 33, .pick (.t 30) (.t 32) (.c (.bool false)), some (28, false)⟩, ⟨some 34, .mv (.t 33), some (28, false)⟩, ⟨some 35, .mv (.t 7), some (34, true)⟩, ⟨some 36, .un .not (.t 35), some (34, true)⟩, ⟨some 37, .pick (.t 34) (.t 36) (.c (.bool false)), some (28, false)⟩, ⟨some 38, .pick (.t 28) (.c (.bool true)) (.t 37), none⟩, ⟨some 21, .mv (.t 38), none⟩]))
    (.cond (.t 21)
      (.seq (.keep [] (.ops [⟨some 2, .mv (.c (.int .i64 0)), none⟩, ⟨some 3, .mv (.c (.int .i64 3)), none⟩]))
      .ret)
      (.seq (.keep [5, 6, 7] (.ops [⟨some 40, .mv (.t 7), none⟩, ⟨some 41, .mv (.t 40), none⟩, ⟨some 42, .mv (.t 6), some (41, false)⟩, ⟨some 43, .bin .gtr (.t 42) (.c (.int .u64 9223372036854775808)), some (41, false)⟩, ⟨some 44, .pick (.t 41) (.c (.bool true)) (.t 43), none⟩, ⟨some 45, .mv (.t 44), none⟩, ⟨some 46, .mv (.t 6), some (45, false)⟩, ⟨some 47, .bin .eql (.t 46) (.c (.int .u64 9223372036854775808)), some (45, false)⟩, ⟨some 48, .mv (.t 47), some (45, false)⟩, ⟨some 49, .mv (.t 5), some (48, true)⟩, ⟨some 50, .un .not (.t 49), some (48, true)⟩, ⟨some 51, .pick (.t 48) (.t 50) (.c (.bool false)), some (45, false)⟩, ⟨some 52, .pick (.t 45) (.c (.bool true)) (.t 51), none⟩, ⟨some 39, .mv (.t 52), none⟩]))
      (.cond (.t 39)
        (.seq (.keep [] (.ops [⟨some 2, .mv (.c (.int .i64 0)), none⟩, ⟨some 3, .mv (.c (.int .i64 2)), none⟩]))
        .ret)
        (.seq (.keep [5, 6] (.ops [⟨some 54, .mv (.t 5), none⟩, ⟨some 53, .mv (.t 54), none⟩]))
        (.cond (.t 53)
          (.seq (.keep [6] (.ops [⟨some 55, .mv (.t 6), none⟩, ⟨some 56, .cnv .i64 (.t 55), none⟩, ⟨some 57, .un .neg (.t 56), none⟩, ⟨some 2, .mv (.t 57), none⟩, ⟨some 3, .mv (.c (.int .i64 0)), none⟩]))
          .ret)
          .skip)))))))
    (.seq (.keep [6] (.ops [⟨some 58, .mv (.t 6), none⟩, ⟨some 59, .cnv .i64 (.t 58), none⟩, ⟨some 2, .mv (.t 59), none⟩, ⟨some 3, .mv (.c (.int .i64 0)), none⟩]))
    .ret))))), [.t 2, .t 3], 60⟩
theorem b21 : fB Tryd.prog 21 c21 = true := by kernel_rfl
/-- partywall/row.Make -/
def c23 : CF := ⟨(.seq (.keep [0] (.ops [⟨some 2, .alloc [.int .i64 0, .nils], none⟩]))
    (.seq (.keep [0, 2] (.ops [⟨some 3, .alloc [.int .i64 0, .nils], none⟩]))
    (.seq (.seq (.keep [0, 2, 3] (.ops [⟨some 6, .mv (.t 0), none⟩, ⟨some 7, .len (.t 6), none⟩, ⟨some 8, .mv (.c (.int .i64 0)), none⟩]))
    (.block 0 (.loop (.seq (.keep [2, 3, 6, 7, 8] (.ops [⟨some 9, .bin .lss (.t 8) (.t 7), none⟩]))
    (.seq (.cond (.t 9)
      .skip
      (.exit 0))
    (.seq (.block 1 (.seq (.keep [2, 3, 6, 7, 8] (.ops [⟨some 10, .ixA 1 (.t 6) (.t 8), none⟩, ⟨some 11, .ld (none) (.t 10), none⟩, ⟨some 5, .mv (.t 11), none⟩]))
    (.keep [2, 3, 5, 6, 7, 8] (.drw [⟨some 12, .fldA 1 (.t 3), none⟩, ⟨some 13, .ld (none) (.t 12), none⟩, ⟨some 14, .mv (.t 5), none⟩, ⟨some 15, .call 29 [(.t 14)], none⟩, ⟨some 16, .un .not (.t 15), none⟩, ⟨some 17, .mv (.t 5), none⟩, ⟨some 18, .bld [.bool false, .str [], .int .i64 0] [(0, 1, (.t 16)), (1, 1, (.t 17))], none⟩, ⟨some 19, .mkSl 3 1 [.bool false, .str [], .int .i64 0] [(0, 3, (.t 18))], none⟩, ⟨some 20, .app true 31 3 32 (.t 13) (.t 19), none⟩, ⟨some 21, .fldA 1 (.t 3), none⟩, ⟨none, .st 1 (.t 21) (.t 20), none⟩] [0, 1, 0, 1, 0, 0, 0, 0, 4, 0, 2]))))
    (.keep [2, 3, 6, 7, 8] (.ops [⟨some 22, .bin .add (.t 8) (.c (.int .i64 1)), none⟩, ⟨some 8, .mv (.t 22), none⟩]))))))))
    (.seq (.keep [2, 3] (.ops [⟨some 23, .ld (some 2) (.t 3), none⟩, ⟨none, .st 2 (.t 2) (.t 23), none⟩]))
    .ret)))), [.cl 2 (some 2)], 24⟩
theorem b23 : fB Tryd.prog 23 c23 = true := by kernel_rfl
/-- partywall/partywalllaw06.single -/
def c26 : CF := ⟨(.seq (.keep [0, 1] (.ops [⟨some 3, .box 3 (.t 1), none⟩, ⟨some 4, .mv (.c (.bool false)), none⟩]))
    (.seq (.keep [0, 3] (.ops [⟨some 8, .mv (.t 0), none⟩, ⟨some 9, .call 25 [(.t 8)], none⟩, ⟨some 7, .mv (.t 9), none⟩, ⟨some 10, .ext (.t 7) 0, none⟩, ⟨some 11, .ext (.t 7) 1, none⟩, ⟨some 6, .alloc [.int .i64 0, .int .i64 0], none⟩, ⟨some 5, .mv (.t 10), none⟩, ⟨none, .st 2 (.t 6) (.t 11), none⟩]))
    (.seq (.keep [3, 5, 6] (.ops [⟨some 12, .ld (some 2) (.t 6), none⟩, ⟨some 13, .bld [.int .i64 0, .int .i64 0] [], none⟩, ⟨some 14, .eqA false [0, 0] (.t 12) (.t 13), none⟩, ⟨some 15, .mv (.t 14), none⟩, ⟨some 16, .mv (.t 5), some (15, true)⟩, ⟨some 17, .ld (some 3) (.t 3), some (15, true)⟩, ⟨some 18, .mkSl 3 1 [.bool false, .str [], .int .i64 0] [(0, 3, (.t 17))], some (15, true)⟩, ⟨some 19, .bld [.int .i64 0, .nils] [(1, 1, (.t 18))], some (15, true)⟩, ⟨some 20, .mkSl 2 1 [.int .i64 0, .nils] [(0, 2, (.t 19))], some (15, true)⟩, ⟨some 21, .call 14 [(.t 16), (.t 20)], some (15, true)⟩, ⟨some 22, .pick (.t 15) (.t 21) (.c (.bool false)), none⟩, ⟨some 4, .mv (.t 22), none⟩]))
    .ret))), [.t 4], 23⟩
theorem b26 : fB Tryd.prog 26 c26 = true := by kernel_rfl
/-- partywall/partywalllaw06.word -/
def c27 : CF := ⟨(.seq (.keep [0, 1, 2] (.ops [⟨some 6, .alloc [.bool false, .str [], .int .i64 0], none⟩]))
    (.seq (.keep [0, 1, 2, 6] (.ops [⟨some 7, .mv (.t 0), none⟩, ⟨some 8, .mv (.t 1), none⟩, ⟨some 9, .mv (.t 2), none⟩, ⟨some 10, .bld [.bool false, .str [], .int .i64 0] [(0, 1, (.t 7)), (1, 1, (.t 8)), (2, 1, (.t 9))], none⟩, ⟨none, .st 3 (.t 6) (.t 10), none⟩]))
    .ret)), [.cl 6 (some 3)], 11⟩
theorem b27 : fB Tryd.prog 27 c27 = true := by kernel_rfl
/-- partywall/partywalllaw06.fails -/
def c28 : CF := ⟨(.seq (.keep [0] (.ops [⟨some 2, .mv (.c (.bool false)), none⟩]))
    (.seq (.keep [0] (.ops [⟨some 6, .mv (.t 0), none⟩, ⟨some 7, .call 25 [(.t 6)], none⟩, ⟨some 5, .mv (.t 7), none⟩, ⟨some 8, .ext (.t 5) 0, none⟩, ⟨some 9, .ext (.t 5) 1, none⟩, ⟨some 4, .alloc [.int .i64 0, .int .i64 0], none⟩, ⟨some 3, .mv (.t 8), none⟩, ⟨none, .st 2 (.t 4) (.t 9), none⟩]))
    (.seq (.keep [3, 4] (.ops [⟨some 10, .mv (.t 3), none⟩, ⟨some 11, .len (.t 10), none⟩, ⟨some 12, .bin .eql (.t 11) (.c (.int .i64 0)), none⟩, ⟨some 13, .mv (.t 12), none⟩, ⟨some 14, .ld (some 2) (.t 4), some (13, true)⟩, ⟨some 15, .bld [.int .i64 0, .int .i64 0] [(0, 1, (.c (.int .i64 3)))], some (13, true)⟩, ⟨some 16, .eqA false [0, 0] (.t 14) (.t 15), some (13, true)⟩, ⟨some 17, .pick (.t 13) (.t 16) (.c (.bool false)), none⟩, ⟨some 2, .mv (.t 17), none⟩]))
    .ret))), [.t 2], 18⟩
theorem b28 : fB Tryd.prog 28 c28 = true := by kernel_rfl
/-- partywall/row.Bare -/
def c29 : CF := ⟨(.seq (.keep [0] (.ops [⟨some 2, .mv (.c (.bool false)), none⟩]))
    (.seq (.seq (.keep [0] (.ops [⟨some 5, .mv (.t 0), none⟩, ⟨some 6, .s2b (.t 5), none⟩, ⟨some 7, .len (.t 6), none⟩, ⟨some 8, .mv (.c (.int .i64 0)), none⟩]))
    (.block 0 (.loop (.seq (.keep [0, 6, 7, 8] (.ops [⟨some 9, .bin .lss (.t 8) (.t 7), none⟩]))
    (.seq (.cond (.t 9)
      .skip
      (.exit 0))
    (.seq (.block 1 (.seq (.keep [0, 6, 7, 8] (.ops [⟨some 10, .ixA 1 (.t 6) (.t 8), none⟩, ⟨some 11, .ld (none) (.t 10), none⟩, ⟨some 4, .mv (.t 11), none⟩]))
    (.seq (.keep [0, 4, 6, 7, 8] (.ops [⟨some 12, .mv (.t 4), none⟩, ⟨some 13, .call 49 [(.t 12)], none⟩, ⟨some 14, .un .not (.t 13), none⟩]))
    (.cond (.t 14)
      (.seq (.keep [] (.ops [⟨some 2, .mv (.c (.bool false)), none⟩]))
      .ret)
      .skip))))
    (.keep [0, 6, 7, 8] (.ops [⟨some 15, .bin .add (.t 8) (.c (.int .i64 1)), none⟩, ⟨some 8, .mv (.t 15), none⟩]))))))))
    (.seq (.keep [0] (.ops [⟨some 16, .mv (.t 0), none⟩, ⟨some 17, .bin .neq (.t 16) (.c (.str [])), none⟩, ⟨some 18, .mv (.t 17), none⟩, ⟨some 19, .mv (.t 0), some (18, true)⟩, ⟨some 20, .ixS (.t 19) (.c (.int .i64 0)), some (18, true)⟩, ⟨some 21, .bin .neq (.t 20) (.c (.int .u8 35)), some (18, true)⟩, ⟨some 22, .pick (.t 18) (.t 21) (.c (.bool false)), none⟩, ⟨some 2, .mv (.t 22), none⟩]))
    .ret))), [.t 2], 23⟩
theorem b29 : fB Tryd.prog 29 c29 = true := by kernel_rfl
/-- partywall/partywalllaw06.number -/
def c30 : CF := ⟨(.seq (.keep [0, 1, 2] (.ops [⟨some 3, .box 3 (.t 0), none⟩, ⟨some 6, .mv (.c (.int .i64 0)), none⟩]))
    (.seq (.keep [1, 2, 3] (.ops [⟨some 10, .ld (some 3) (.t 3), none⟩, ⟨some 11, .mv (.t 1), none⟩, ⟨some 12, .mv (.t 2), none⟩, ⟨some 13, .call 17 [(.t 10), (.t 11), (.t 12)], none⟩, ⟨some 9, .mv (.t 13), none⟩, ⟨some 14, .ext (.t 9) 0, none⟩, ⟨some 15, .ext (.t 9) 1, none⟩, ⟨some 7, .mv (.t 14), none⟩, ⟨some 8, .mv (.t 15), none⟩]))
    (.seq (.keep [8] (.ops [⟨some 16, .mv (.t 8), none⟩, ⟨some 6, .mv (.t 16), none⟩]))
    .ret))), [.t 6], 17⟩
theorem b30 : fB Tryd.prog 30 c30 = true := by kernel_rfl
/-- partywall/partywalllaw06.signed -/
def c31 : CF := ⟨(.seq (.keep [0] (.ops [⟨some 2, .mv (.c (.int .i64 0)), none⟩, ⟨some 3, .mv (.c (.int .i64 0)), none⟩]))
    (.seq (.keep [0] (.ops [⟨some 4, .mv (.t 0), none⟩, ⟨some 5, .call 27 [(.c (.bool false)), (.t 4), (.c (.int .i64 0))], none⟩, ⟨some 6, .call 21 [(.t 5)], none⟩, ⟨some 7, .ext (.t 6) 0, none⟩, ⟨some 8, .ext (.t 6) 1, none⟩, ⟨some 2, .mv (.t 7), none⟩, ⟨some 3, .mv (.t 8), none⟩]))
    .ret)), [.t 2, .t 3], 9⟩
theorem b31 : fB Tryd.prog 31 c31 = true := by kernel_rfl
/-- (*strings.Builder).WriteString -/
def c35 : CF := ⟨(.seq (.keep [0, 1] (.ops [⟨some 4, .mv (.c (.int .i64 0)), none⟩, ⟨some 5, .mv (.c .nili), none⟩]))
    (.seq (.keep [0, 1] (.ops [⟨some 6, .mv (.t 0), none⟩, ⟨some 7, .call 53 [(.t 6)], none⟩]))
    (.seq (.keep [0, 1] (.ops [⟨some 8, .mv (.t 0), none⟩, ⟨some 9, .mv (.t 0), none⟩, ⟨some 10, .nilc (.t 9), none⟩, ⟨some 11, .fldA 1 (.t 10), none⟩, ⟨some 12, .ld (none) (.t 11), none⟩, ⟨some 13, .mv (.t 1), none⟩, ⟨some 14, .appS 5 1 (.t 12) (.t 13), none⟩, ⟨some 15, .nilc (.t 8), none⟩, ⟨some 16, .fldA 1 (.t 15), none⟩, ⟨none, .st 1 (.t 16) (.t 14), none⟩]))
    (.seq (.keep [1] (.ops [⟨some 17, .mv (.t 1), none⟩, ⟨some 18, .lenS (.t 17), none⟩, ⟨some 4, .mv (.t 18), none⟩, ⟨some 5, .mv (.c .nili), none⟩]))
    .ret)))), [.t 4, .t 5], 19⟩
theorem b35 : fB Tryd.prog 35 c35 = true := by kernel_rfl
/-- (*strings.Builder).Len -/
def c36 : CF := ⟨(.seq (.keep [0] (.ops [⟨some 2, .mv (.c (.int .i64 0)), none⟩]))
    (.seq (.keep [0] (.ops [⟨some 3, .mv (.t 0), none⟩, ⟨some 4, .nilc (.t 3), none⟩, ⟨some 5, .fldA 1 (.t 4), none⟩, ⟨some 6, .ld (none) (.t 5), none⟩, ⟨some 7, .len (.t 6), none⟩, ⟨some 2, .mv (.t 7), none⟩]))
    .ret)), [.t 2], 8⟩
theorem b36 : fB Tryd.prog 36 c36 = true := by kernel_rfl
/-- (*strings.Builder).WriteByte -/
def c39 : CF := ⟨(.seq (.keep [0, 1] (.ops [⟨some 4, .mv (.c .nili), none⟩]))
    (.seq (.keep [0, 1] (.ops [⟨some 5, .mv (.t 0), none⟩, ⟨some 6, .call 53 [(.t 5)], none⟩]))
    (.seq (.keep [0, 1] (.ops [⟨some 7, .mv (.t 0), none⟩, ⟨some 8, .mv (.t 0), none⟩, ⟨some 9, .nilc (.t 8), none⟩, ⟨some 10, .fldA 1 (.t 9), none⟩, ⟨some 11, .ld (none) (.t 10), none⟩, ⟨some 12, .mv (.t 1), none⟩, ⟨some 13, .mkSl 1 1 [.int .u8 0] [(0, 1, (.t 12))], none⟩, ⟨some 14, .app true 5 1 1 (.t 11) (.t 13), none⟩, ⟨some 15, .nilc (.t 7), none⟩, ⟨some 16, .fldA 1 (.t 15), none⟩, ⟨none, .st 1 (.t 16) (.t 14), none⟩]))
    (.seq (.keep [] (.ops [⟨some 4, .mv (.c .nili), none⟩]))
    .ret)))), [.t 4], 17⟩
theorem b39 : fB Tryd.prog 39 c39 = true := by kernel_rfl
/-- partywall/row.plain -/
def c40 : CF := ⟨(.seq (.keep [0] (.ops [⟨some 2, .mv (.c (.bool false)), none⟩]))
    (.seq (.keep [0] (.ops [⟨some 3, .mv (.t 0), none⟩, ⟨some 4, .bin .geq (.t 3) (.c (.int .u8 32)), none⟩, ⟨some 5, .mv (.t 4), none⟩, ⟨some 6, .mv (.t 0), some (5, true)⟩, ⟨some 7, .bin .leq (.t 6) (.c (.int .u8 126)), some (5, true)⟩, ⟨some 8, .pick (.t 5) (.t 7) (.c (.bool false)), none⟩, ⟨some 9, .mv (.t 8), none⟩, ⟨some 10, .mv (.t 0), some (9, true)⟩, ⟨some 11, .bin .neq (.t 10) (.c (.int .u8 34)), some (9, true)⟩, ⟨some 12, .pick (.t 9) (.t 11) (.c (.bool false)), none⟩, ⟨some 13, .mv (.t 12), none⟩, ⟨some 14, .mv (.t 0), some (13, true)⟩, ⟨some 15, .bin .neq (.t 14) (.c (.int .u8 92)), some (13, true)⟩, ⟨some 16, .pick (.t 13) (.t 15) (.c (.bool false)), none⟩, ⟨some 2, .mv (.t 16), none⟩]))
    .ret)), [.t 2], 17⟩
theorem b40 : fB Tryd.prog 40 c40 = true := by kernel_rfl
/-- partywall/row.natural -/
def c43 : CF := ⟨(.seq (.keep [0] (.ops [⟨some 2, .mv (.c (.int .u64 0)), none⟩, ⟨some 3, .mv (.c (.bool false)), none⟩, ⟨some 4, .mv (.c (.bool false)), none⟩]))
    (.seq (.seq (.keep [0, 2, 3] (.ops [⟨some 8, .mv (.t 0), none⟩, ⟨some 9, .bin .eql (.t 8) (.c (.str [])), none⟩, ⟨some 10, .mv (.t 9), none⟩, ⟨some 11, .mv (.t 0), some (10, false)⟩, ⟨some 12, .lenS (.t 11), some (10, false)⟩, ⟨some 13, .bin .gtr (.t 12) (.c (.int .i64 20)), some (10, false)⟩, ⟨some 14, .pick (.t 10) (.c (.bool true)) (.t 13), none⟩, ⟨some 15, .mv (.t 14), none⟩, ⟨some 16, .mv (.t 0), some (15, false)⟩, ⟨some 17, .ixS (.t 16) (.c (.int .i64 0)), some (15, false)⟩, ⟨some 18, .bin .eql (.t 17) (.c (.int .u8 48)), some (15, false)⟩, ⟨some 19, .mv (.t 18), some (15, false)⟩, ⟨some 20, .mv (.t 0), some (19, true)⟩, ⟨some 21, .lenS (.t 20), some (19, true)⟩, ⟨some 22, .bin .gtr (.t 21) (.c (.int .i64 1)), some (19, true)⟩, ⟨some 23, .pick (.t 19) (.t 22) (.c (.bool false)), some (15, false)⟩, ⟨some 24, .pick (.t 15) (.c (.bool true)) (.t 23), none⟩]))
    (.cond (.t 24)
      (.seq (.keep [] (.ops [⟨some 2, .mv (.c (.int .u64 0)), none⟩, ⟨some 3, .mv (.c (.bool false)), none⟩, ⟨some 4, .mv (.c (.bool false)), none⟩]))
      .ret)
      .skip))
    (.seq (.seq (.keep [0, 2, 3] (.ops [⟨some 25, .mv (.t 0), none⟩, ⟨some 26, .s2b (.t 25), none⟩, ⟨some 27, .len (.t 26), none⟩, ⟨some 28, .mv (.c (.int .i64 0)), none⟩]))
    (.block 0 (.loop (.seq (.keep [2, 3, 26, 27, 28] (.ops [⟨some 29, .bin .lss (.t 28) (.t 27), none⟩]))
    (.seq (.cond (.t 29)
      .skip
      (.exit 0))
    (.seq (.block 1 (.seq (.keep [2, 3, 26, 27, 28] (.ops [⟨some 30, .ixA 1 (.t 26) (.t 28), none⟩, ⟨some 31, .ld (none) (.t 30), none⟩, ⟨some 6, .mv (.t 31), none⟩]))
    (.seq (.seq (.keep [2, 3, 6, 26, 27, 28] (.ops [⟨some 32, .mv (.t 6), none⟩, ⟨some 33, .bin .lss (.t 32) (.c (.int .u8 48)), none⟩, ⟨some 34, .mv (.t 33), none⟩, ⟨some 35, .mv (.t 6), some (34, false)⟩, ⟨some 36, .bin .gtr (.t 35) (.c (.int .u8 57)), some (34, false)⟩, ⟨some 37, .pick (.t 34) (.c (.bool true)) (.t 36), none⟩]))
    (.cond (.t 37)
      (.seq (.keep [] (.ops [⟨some 2, .mv (.c (.int .u64 0)), none⟩, ⟨some 3, .mv (.c (.bool false)), none⟩, ⟨some 4, .mv (.c (.bool false)), none⟩]))
      .ret)
      .skip))
    (.seq (.keep [2, 3, 6, 26, 27, 28] (.ops [⟨some 38, .mv (.t 2), none⟩, ⟨some 39, .bin .shl (.t 38) (.c (.int .u64 3)), none⟩, ⟨some 40, .mv (.t 2), none⟩, ⟨some 41, .bin .shl (.t 40) (.c (.int .u64 1)), none⟩, ⟨some 42, .bin .add (.t 39) (.t 41), none⟩, ⟨some 43, .mv (.t 6), none⟩, ⟨some 44, .bin .sub (.t 43) (.c (.int .u8 48)), none⟩, ⟨some 45, .cnv .u64 (.t 44), none⟩, ⟨some 46, .bin .add (.t 42) (.t 45), none⟩, ⟨some 7, .mv (.t 46), none⟩]))
    (.seq (.keep [2, 3, 7, 26, 27, 28] (.ops [⟨some 47, .mv (.t 3), none⟩, ⟨some 48, .mv (.t 47), none⟩, ⟨some 49, .mv (.t 2), some (48, false)⟩, ⟨some 50, .bin .gtr (.t 49) (.c (.int .u64 1844674407370955161)), some (48, false)⟩, ⟨some 51, .pick (.t 48) (.c (.bool true)) (.t 50), none⟩, ⟨some 52, .mv (.t 51), none⟩, ⟨some 53, .mv (.t 7), some (52, false)⟩, ⟨some 54, .mv (.t 2), some (52, false)⟩, ⟨some 55, .bin .shl (.t 54) (.c (.int .u64 3)), some (52, false)⟩, ⟨some 56, .mv (.t 2), some (52, false)⟩, ⟨some 57, .bin .shl (.t 56) (.c (.int .u64 1)), some (52, false)⟩, ⟨some 58, .bin .add (.t 55) (.t 57), some (52, false)⟩, ⟨some 59, .bin .lss (.t 53) (.t 58), some (52, false)⟩, ⟨some 60, .pick (.t 52) (.c (.bool true)) (.t 59), none⟩, ⟨some 3, .mv (.t 60), none⟩]))
    (.keep [3, 7, 26, 27, 28] (.ops [⟨some 61, .mv (.t 7), none⟩, ⟨some 2, .mv (.t 61), none⟩])))))))
    (.keep [2, 3, 26, 27, 28] (.ops [⟨some 62, .bin .add (.t 28) (.c (.int .i64 1)), none⟩, ⟨some 28, .mv (.t 62), none⟩]))))))))
    (.seq (.keep [2, 3] (.ops [⟨some 63, .mv (.t 2), none⟩, ⟨some 64, .mv (.t 3), none⟩, ⟨some 2, .mv (.t 63), none⟩, ⟨some 3, .mv (.t 64), none⟩, ⟨some 4, .mv (.c (.bool true)), none⟩]))
    .ret)))), [.t 2, .t 3, .t 4], 65⟩
theorem b43 : fB Tryd.prog 43 c43 = true := by kernel_rfl
/-- strings.CutPrefix -/
def c45 : CF := ⟨(.seq (.keep [0, 1] (.ops [⟨some 4, .mv (.c (.str [])), none⟩, ⟨some 5, .mv (.c (.bool false)), none⟩]))
    (.seq (.keep [0, 1] (.ops [⟨some 6, .mv (.t 0), none⟩, ⟨some 7, .mv (.t 1), none⟩, ⟨some 8, .call 55 [(.t 6), (.t 7)], none⟩, ⟨some 9, .ext (.t 8) 0, none⟩, ⟨some 10, .ext (.t 8) 1, none⟩, ⟨some 4, .mv (.t 9), none⟩, ⟨some 5, .mv (.t 10), none⟩]))
    .ret)), [.t 4, .t 5], 11⟩
theorem b45 : fB Tryd.prog 45 c45 = true := by kernel_rfl
/-- strings.SplitAfterSeq -/
def c46 : CF := ⟨(.seq (.keep [0, 1] (.ops [⟨some 4, .mv (.c .nilf), none⟩]))
    (.seq (.keep [0, 1] (.ops [⟨some 5, .mv (.t 0), none⟩, ⟨some 6, .mv (.t 1), none⟩, ⟨some 7, .mv (.t 1), none⟩, ⟨some 8, .lenS (.t 7), none⟩, ⟨some 9, .call 56 [(.t 5), (.t 6), (.t 8)], none⟩, ⟨some 4, .mv (.t 9), none⟩]))
    .ret)), [.t 4], 10⟩
theorem b46 : fB Tryd.prog 46 c46 = true := by kernel_rfl
/-- strings.TrimSuffix -/
def c47 : CF := ⟨(.seq (.keep [0, 1] (.ops [⟨some 4, .mv (.c (.str [])), none⟩]))
    (.seq (.keep [0, 1] (.ops [⟨some 5, .mv (.t 0), none⟩, ⟨some 6, .mv (.t 1), none⟩, ⟨some 7, .call 57 [(.t 5), (.t 6)], none⟩, ⟨some 4, .mv (.t 7), none⟩]))
    .ret)), [.t 4], 8⟩
theorem b47 : fB Tryd.prog 47 c47 = true := by kernel_rfl
/-- partywall/row.words -/
def c48 : CF := ⟨(.seq (.keep [0] (.ops [⟨some 2, .mv (.c .nils), none⟩, ⟨some 3, .mv (.c (.int .i64 0)), none⟩, ⟨some 4, .mv (.c (.bool false)), none⟩]))
    (.seq (.keep [0, 2] (.ops [⟨some 9, .mv (.t 0), none⟩, ⟨some 10, .bld [.str [], .int .i64 0] [(0, 1, (.t 9))], none⟩, ⟨some 11, .bld [.str [], .int .i64 0] [(0, 2, (.t 10))], none⟩, ⟨some 12, .box 2 (.t 11), none⟩, ⟨some 5, .mv (.t 12), none⟩]))
    (.seq (.seq (.keep [2, 5] (.ops [⟨some 13, .mv (.t 5), none⟩, ⟨some 14, .nilc (.t 13), none⟩, ⟨some 15, .fldA 0 (.t 14), none⟩, ⟨some 16, .call 58 [(.t 15)], none⟩]))
    (.block 0 (.loop (.seq (.seq (.keep [2, 5] (.ops [⟨some 17, .mv (.t 5), none⟩, ⟨some 18, .nilc (.t 17), none⟩, ⟨some 19, .fldA 0 (.t 18), none⟩, ⟨some 20, .call 59 [(.t 19)], none⟩, ⟨some 21, .mv (.t 20), none⟩, ⟨some 22, .mv (.t 5), some (21, true)⟩, ⟨some 23, .nilc (.t 22), some (21, true)⟩, ⟨some 24, .fldA 0 (.t 23), some (21, true)⟩, ⟨some 25, .call 60 [(.t 24)], some (21, true)⟩, ⟨some 26, .bin .neq (.t 25) (.c (.int .u8 35)), some (21, true)⟩, ⟨some 27, .pick (.t 21) (.t 26) (.c (.bool false)), none⟩]))
    (.cond (.t 27)
      .skip
      (.exit 0)))
    (.seq (.block 1 (.seq (.keep [2, 5] (.ops [⟨some 32, .mv (.t 5), none⟩, ⟨some 33, .nilc (.t 32), none⟩, ⟨some 34, .fldA 0 (.t 33), none⟩, ⟨some 35, .fldA 1 (.t 34), none⟩, ⟨some 36, .ld (none) (.t 35), none⟩, ⟨some 6, .mv (.t 36), none⟩]))
    (.seq (.keep [2, 5, 6] (.ops [⟨some 38, .mv (.t 5), none⟩, ⟨some 39, .call 61 [(.t 38)], none⟩, ⟨some 37, .mv (.t 39), none⟩, ⟨some 40, .ext (.t 37) 0, none⟩, ⟨some 41, .ext (.t 37) 1, none⟩, ⟨some 7, .alloc [.bool false, .str [], .int .i64 0], none⟩, ⟨none, .st 3 (.t 7) (.t 40), none⟩, ⟨some 8, .mv (.t 41), none⟩]))
    (.seq (.seq (.keep [2, 5, 6, 7, 8] (.ops [⟨some 42, .mv (.t 8), none⟩, ⟨some 43, .un .not (.t 42), none⟩]))
    (.cond (.t 43)
      (.seq (.keep [6] (.ops [⟨some 44, .mv (.t 6), none⟩, ⟨some 2, .mv (.c .nils), none⟩, ⟨some 3, .mv (.t 44), none⟩, ⟨some 4, .mv (.c (.bool false)), none⟩]))
      .ret)
      .skip))
    (.keep [2, 5, 7] (.ops [⟨some 45, .mv (.t 2), none⟩, ⟨some 46, .ld (some 3) (.t 7), none⟩, ⟨some 47, .mkSl 3 1 [.bool false, .str [], .int .i64 0] [(0, 3, (.t 46))], none⟩, ⟨some 48, .app true 31 3 32 (.t 45) (.t 47), none⟩, ⟨some 2, .mv (.t 48), none⟩]))))))
    (.keep [2, 5] (.ops [⟨some 28, .mv (.t 5), none⟩, ⟨some 29, .nilc (.t 28), none⟩, ⟨some 30, .fldA 0 (.t 29), none⟩, ⟨some 31, .call 58 [(.t 30)], none⟩])))))))
    (.seq (.keep [2] (.ops [⟨some 49, .mv (.t 2), none⟩, ⟨some 2, .mv (.t 49), none⟩, ⟨some 3, .mv (.c (.int .i64 0)), none⟩, ⟨some 4, .mv (.c (.bool true)), none⟩]))
    .ret)))), [.t 2, .t 3, .t 4], 50⟩
theorem b48 : fB Tryd.prog 48 c48 = true := by kernel_rfl
/-- partywall/row.bare -/
def c49 : CF := ⟨(.seq (.keep [0] (.ops [⟨some 2, .mv (.c (.bool false)), none⟩]))
    (.seq (.keep [0] (.ops [⟨some 3, .mv (.t 0), none⟩, ⟨some 4, .bin .neq (.t 3) (.c (.int .u8 32)), none⟩, ⟨some 5, .mv (.t 4), none⟩, ⟨some 6, .mv (.t 0), some (5, true)⟩, ⟨some 7, .call 40 [(.t 6)], some (5, true)⟩, ⟨some 8, .pick (.t 5) (.t 7) (.c (.bool false)), none⟩, ⟨some 2, .mv (.t 8), none⟩]))
    .ret)), [.t 2], 9⟩
theorem b49 : fB Tryd.prog 49 c49 = true := by kernel_rfl
/-- internal/stringslite.CutPrefix -/
def c55 : CF := ⟨(.seq (.keep [0, 1] (.ops [⟨some 4, .mv (.c (.str [])), none⟩, ⟨some 5, .mv (.c (.bool false)), none⟩]))
    (.seq (.seq (.keep [0, 1] (.ops [⟨some 6, .mv (.t 0), none⟩, ⟨some 7, .mv (.t 1), none⟩, ⟨some 8, .call 64 [(.t 6), (.t 7)], none⟩, ⟨some 9, .un .not (.t 8), none⟩]))
    (.cond (.t 9)
      (.seq (.keep [0] (.ops [⟨some 10, .mv (.t 0), none⟩, ⟨some 4, .mv (.t 10), none⟩, ⟨some 5, .mv (.c (.bool false)), none⟩]))
      .ret)
      .skip))
    (.seq (.keep [0, 1] (.ops [⟨some 11, .mv (.t 0), none⟩, ⟨some 12, .mv (.t 1), none⟩, ⟨some 13, .lenS (.t 12), none⟩, ⟨some 14, .slcS (.t 11) (some (.t 13)) none, none⟩, ⟨some 4, .mv (.t 14), none⟩, ⟨some 5, .mv (.c (.bool true)), none⟩]))
    .ret))), [.t 4, .t 5], 15⟩
theorem b55 : fB Tryd.prog 55 c55 = true := by kernel_rfl
/-- strings.splitSeq -/
def c56 : CF := ⟨(.seq (.keep [0, 1, 2] (.ops [⟨some 3, .box 1 (.t 0), none⟩, ⟨some 4, .box 1 (.t 1), none⟩, ⟨some 5, .box 1 (.t 2), none⟩, ⟨some 6, .mv (.c .nilf), none⟩]))
    (.seq (.keep [3, 4, 5] (.ops [⟨some 7, .mkF 65 [(.t 4), (.t 3), (.t 5)], none⟩, ⟨some 6, .mv (.t 7), none⟩]))
    .ret)), [.t 6], 8⟩
theorem b56 : fB Tryd.prog 56 c56 = true := by kernel_rfl
/-- internal/stringslite.TrimSuffix -/
def c57 : CF := ⟨(.seq (.keep [0, 1] (.ops [⟨some 4, .mv (.c (.str [])), none⟩]))
    (.seq (.seq (.keep [0, 1] (.ops [⟨some 5, .mv (.t 0), none⟩, ⟨some 6, .mv (.t 1), none⟩, ⟨some 7, .call 68 [(.t 5), (.t 6)], none⟩]))
    (.cond (.t 7)
      (.seq (.keep [0, 1] (.ops [⟨some 8, .mv (.t 0), none⟩, ⟨some 9, .mv (.t 0), none⟩, ⟨some 10, .lenS (.t 9), none⟩, ⟨some 11, .mv (.t 1), none⟩, ⟨some 12, .lenS (.t 11), none⟩, ⟨some 13, .bin .sub (.t 10) (.t 12), none⟩, ⟨some 14, .slcS (.t 8) none (some (.t 13)), none⟩, ⟨some 4, .mv (.t 14), none⟩]))
      .ret)
      .skip))
    (.seq (.keep [0] (.ops [⟨some 15, .mv (.t 0), none⟩, ⟨some 4, .mv (.t 15), none⟩]))
    .ret))), [.t 4], 16⟩
theorem b57 : fB Tryd.prog 57 c57 = true := by kernel_rfl
/-- (*partywall/row.cursor).skip -/
def c58 : CF := ⟨(.block 0 (.loop (.seq (.seq (.keep [0] (.ops [⟨some 2, .mv (.t 0), none⟩, ⟨some 3, .call 59 [(.t 2)], none⟩, ⟨some 4, .mv (.t 3), none⟩, ⟨some 5, .mv (.t 0), some (4, true)⟩, ⟨some 6, .call 60 [(.t 5)], some (4, true)⟩, ⟨some 7, .call 69 [(.t 6)], some (4, true)⟩, ⟨some 8, .pick (.t 4) (.t 7) (.c (.bool false)), none⟩]))
    (.cond (.t 8)
      .skip
      (.exit 0)))
    (.block 1 (.keep [0] (.ops [⟨some 9, .mv (.t 0), none⟩, ⟨some 10, .nilc (.t 9), none⟩, ⟨some 11, .fldA 1 (.t 10), none⟩, ⟨some 12, .ld (none) (.t 11), none⟩, ⟨some 13, .bin .add (.t 12) (.c (.int .i64 1)), none⟩, ⟨some 14, .nilc (.t 9), none⟩, ⟨some 15, .fldA 1 (.t 14), none⟩, ⟨none, .st 1 (.t 15) (.t 13), none⟩])))))), [], 16⟩
theorem b58 : fB Tryd.prog 58 c58 = true := by kernel_rfl
/-- (*partywall/row.cursor).left -/
def c59 : CF := ⟨(.seq (.keep [0] (.ops [⟨some 2, .mv (.c (.bool false)), none⟩]))
    (.seq (.keep [0] (.drw [⟨some 3, .mv (.t 0), none⟩, ⟨some 4, .nilc (.t 3), none⟩, ⟨some 5, .fldA 1 (.t 4), none⟩, ⟨some 6, .ld (none) (.t 5), none⟩, ⟨some 7, .mv (.t 0), none⟩, ⟨some 8, .nilc (.t 7), none⟩, ⟨some 9, .fldA 0 (.t 8), none⟩, ⟨some 10, .ld (none) (.t 9), none⟩, ⟨some 11, .lenS (.t 10), none⟩, ⟨some 12, .bin .lss (.t 6) (.t 11), none⟩, ⟨some 2, .mv (.t 12), none⟩] [0, 0, 0, 1, 0, 0, 0, 1, 0, 0, 0]))
    .ret)), [.t 2], 13⟩
theorem b59 : fB Tryd.prog 59 c59 = true := by kernel_rfl
/-- (*partywall/row.cursor).peek -/
def c60 : CF := ⟨(.seq (.keep [0] (.ops [⟨some 2, .mv (.c (.int .u8 0)), none⟩]))
    (.seq (.keep [0] (.drw [⟨some 3, .mv (.t 0), none⟩, ⟨some 4, .nilc (.t 3), none⟩, ⟨some 5, .fldA 0 (.t 4), none⟩, ⟨some 6, .ld (none) (.t 5), none⟩, ⟨some 7, .mv (.t 0), none⟩, ⟨some 8, .nilc (.t 7), none⟩, ⟨some 9, .fldA 1 (.t 8), none⟩, ⟨some 10, .ld (none) (.t 9), none⟩, ⟨some 11, .ixS (.t 6) (.t 10), none⟩, ⟨some 2, .mv (.t 11), none⟩] [0, 0, 0, 1, 0, 0, 0, 1, 0, 0]))
    .ret)), [.t 2], 12⟩
theorem b60 : fB Tryd.prog 60 c60 = true := by kernel_rfl
/-- (*partywall/row.reader).word -/
def c61 : CF := ⟨(.seq (.keep [0] (.ops [⟨some 2, .alloc [.bool false, .str [], .int .i64 0], none⟩, ⟨some 3, .mv (.c (.bool false)), none⟩]))
    (.seq (.keep [0, 2] (.ops [⟨some 4, .mv (.t 0), none⟩, ⟨some 5, .nilc (.t 4), none⟩, ⟨some 6, .fldA 0 (.t 5), none⟩, ⟨some 7, .fldA 1 (.t 6), none⟩, ⟨some 8, .ld (none) (.t 7), none⟩, ⟨some 9, .fldA 2 (.t 2), none⟩, ⟨none, .st 1 (.t 9) (.t 8), none⟩]))
    (.seq (.seq (.keep [0, 2] (.ops [⟨some 10, .mv (.t 0), none⟩, ⟨some 11, .nilc (.t 10), none⟩, ⟨some 12, .fldA 0 (.t 11), none⟩, ⟨some 13, .call 60 [(.t 12)], none⟩, ⟨some 14, .bin .eql (.t 13) (.c (.int .u8 34)), none⟩]))
    (.cond (.t 14)
      (.seq (.keep [0, 2] (.ops [⟨some 15, .mv (.t 0), none⟩, ⟨some 16, .nilc (.t 15), none⟩, ⟨some 17, .fldA 0 (.t 16), none⟩, ⟨some 18, .fldA 1 (.t 17), none⟩, ⟨some 19, .ld (none) (.t 18), none⟩, ⟨some 20, .bin .add (.t 19) (.c (.int .i64 1)), none⟩, ⟨some 21, .nilc (.t 15), none⟩, ⟨some 22, .fldA 0 (.t 21), none⟩, ⟨some 23, .fldA 1 (.t 22), none⟩, ⟨none, .st 1 (.t 23) (.t 20), none⟩]))
      (.seq (.keep [0, 2] (.ops [⟨some 24, .fldA 0 (.t 2), none⟩, ⟨none, .st 1 (.t 24) (.c (.bool true)), none⟩]))
      (.keep [0, 2] (.ops [⟨some 26, .mv (.t 0), none⟩, ⟨some 27, .call 70 [(.t 26)], none⟩, ⟨some 25, .mv (.t 27), none⟩, ⟨some 28, .ext (.t 25) 0, none⟩, ⟨some 29, .ext (.t 25) 1, none⟩, ⟨some 30, .fldA 1 (.t 2), none⟩, ⟨none, .st 1 (.t 30) (.t 28), none⟩, ⟨some 3, .mv (.t 29), none⟩]))))
      (.seq (.block 0 (.loop (.seq (.seq (.keep [0, 2] (.ops [⟨some 31, .mv (.t 0), none⟩, ⟨some 32, .nilc (.t 31), none⟩, ⟨some 33, .fldA 0 (.t 32), none⟩, ⟨some 34, .call 59 [(.t 33)], none⟩, ⟨some 35, .mv (.t 34), none⟩, ⟨some 36, .mv (.t 0), some (35, true)⟩, ⟨some 37, .nilc (.t 36), some (35, true)⟩, ⟨some 38, .fldA 0 (.t 37), some (35, true)⟩, ⟨some 39, .call 60 [(.t 38)], some (35, true)⟩, ⟨some 40, .call 49 [(.t 39)], some (35, true)⟩, ⟨some 41, .pick (.t 35) (.t 40) (.c (.bool false)), none⟩]))
      (.cond (.t 41)
        .skip
        (.exit 0)))
      (.block 1 (.keep [0, 2] (.ops [⟨some 42, .mv (.t 0), none⟩, ⟨some 43, .nilc (.t 42), none⟩, ⟨some 44, .fldA 0 (.t 43), none⟩, ⟨some 45, .fldA 1 (.t 44), none⟩, ⟨some 46, .ld (none) (.t 45), none⟩, ⟨some 47, .bin .add (.t 46) (.c (.int .i64 1)), none⟩, ⟨some 48, .nilc (.t 42), none⟩, ⟨some 49, .fldA 0 (.t 48), none⟩, ⟨some 50, .fldA 1 (.t 49), none⟩, ⟨none, .st 1 (.t 50) (.t 47), none⟩]))))))
      (.seq (.keep [0, 2] (.drw [⟨some 51, .mv (.t 0), none⟩, ⟨some 52, .nilc (.t 51), none⟩, ⟨some 53, .fldA 0 (.t 52), none⟩, ⟨some 54, .fldA 0 (.t 53), none⟩, ⟨some 55, .ld (none) (.t 54), none⟩, ⟨some 56, .fldA 2 (.t 2), none⟩, ⟨some 57, .ld (none) (.t 56), none⟩, ⟨some 58, .mv (.t 0), none⟩, ⟨some 59, .nilc (.t 58), none⟩, ⟨some 60, .fldA 0 (.t 59), none⟩, ⟨some 61, .fldA 1 (.t 60), none⟩, ⟨some 62, .ld (none) (.t 61), none⟩, ⟨some 63, .slcS (.t 55) (some (.t 57)) (some (.t 62)), none⟩, ⟨some 64, .fldA 1 (.t 2), none⟩, ⟨none, .st 1 (.t 64) (.t 63), none⟩] [0, 0, 0, 0, 1, 0, 1, 0, 0, 0, 0, 1, 0, 0, 2]))
      (.keep [0, 2] (.ops [⟨some 65, .fldA 1 (.t 2), none⟩, ⟨some 66, .ld (none) (.t 65), none⟩, ⟨some 67, .bin .neq (.t 66) (.c (.str [])), none⟩, ⟨some 3, .mv (.t 67), none⟩]))))))
    (.seq (.keep [0, 2, 3] (.drw [⟨some 68, .ld (some 3) (.t 2), none⟩, ⟨some 69, .mv (.t 3), none⟩, ⟨some 70, .mv (.t 69), none⟩, ⟨some 71, .mv (.t 0), some (70, true)⟩, ⟨some 72, .nilc (.t 71), some (70, true)⟩, ⟨some 73, .fldA 0 (.t 72), some (70, true)⟩, ⟨some 74, .call 59 [(.t 73)], some (70, true)⟩, ⟨some 75, .un .not (.t 74), some (70, true)⟩, ⟨some 76, .mv (.t 75), some (70, true)⟩, ⟨some 77, .mv (.t 0), some (76, false)⟩, ⟨some 78, .nilc (.t 77), some (76, false)⟩, ⟨some 79, .fldA 0 (.t 78), some (76, false)⟩, ⟨some 80, .call 60 [(.t 79)], some (76, false)⟩, ⟨some 81, .call 69 [(.t 80)], some (76, false)⟩, ⟨some 82, .pick (.t 76) (.c (.bool true)) (.t 81), some (70, true)⟩, ⟨some 83, .pick (.t 70) (.t 82) (.c (.bool false)), none⟩, ⟨none, .st 3 (.t 2) (.t 68), none⟩, ⟨some 3, .mv (.t 83), none⟩] [1, 0, 0, 0, 0, 0, 1, 0, 0, 0, 0, 0, 1, 1, 0, 0, 2, 0]))
    .ret)))), [.cl 2 (some 3), .t 3], 84⟩
theorem b61 : fB Tryd.prog 61 c61 = true := by kernel_rfl
/-- internal/stringslite.HasPrefix -/
def c64 : CF := ⟨(.seq (.keep [0, 1] (.ops [⟨some 4, .mv (.c (.bool false)), none⟩]))
    (.seq (.keep [0, 1] (.ops [⟨some 5, .mv (.t 0), none⟩, ⟨some 6, .lenS (.t 5), none⟩, ⟨some 7, .mv (.t 1), none⟩, ⟨some 8, .lenS (.t 7), none⟩, ⟨some 9, .bin .geq (.t 6) (.t 8), none⟩, ⟨some 10, .mv (.t 9), none⟩, ⟨some 11, .mv (.t 0), some (10, true)⟩, ⟨some 12, .mv (.t 1), some (10, true)⟩, ⟨some 13, .lenS (.t 12), some (10, true)⟩, ⟨some 14, .slcS (.t 11) none (some (.t 13)), some (10, true)⟩, ⟨some 15, .mv (.t 1), some (10, true)⟩, ⟨some 16, .bin .eql (.t 14) (.t 15), some (10, true)⟩, ⟨some 17, .pick (.t 10) (.t 16) (.c (.bool false)), none⟩, ⟨some 4, .mv (.t 17), none⟩]))
    .ret)), [.t 4], 18⟩
theorem b64 : fB Tryd.prog 64 c64 = true := by kernel_rfl
/-- strings.splitSeq$1 -/
def c65 : CF := ⟨(.seq (.seq (.keep [0, 1, 2, 3] (.ops [⟨some 9, .ld (none) (.t 1), none⟩, ⟨some 10, .lenS (.t 9), none⟩, ⟨some 11, .bin .eql (.t 10) (.c (.int .i64 0)), none⟩]))
    (.cond (.t 11)
      (.seq (.block 0 (.loop (.seq (.seq (.keep [0, 2] (.ops [⟨some 12, .ld (none) (.t 2), none⟩, ⟨some 13, .lenS (.t 12), none⟩, ⟨some 14, .bin .gtr (.t 13) (.c (.int .i64 0)), none⟩]))
      (.cond (.t 14)
        .skip
        (.exit 0)))
      (.block 1 (.seq (.keep [0, 2] (.ops [⟨some 16, .ld (none) (.t 2), none⟩, ⟨some 17, .call 66 [(.t 16)], none⟩, ⟨some 15, .mv (.t 17), none⟩, ⟨some 18, .ext (.t 15) 0, none⟩, ⟨some 19, .ext (.t 15) 1, none⟩, ⟨some 5, .mv (.t 18), none⟩, ⟨some 6, .mv (.t 19), none⟩]))
      (.seq (.seq (.keep [0, 2, 6] (.ops [⟨some 20, .mv (.t 0), none⟩, ⟨some 21, .ld (none) (.t 2), none⟩, ⟨some 22, .mv (.t 6), none⟩, ⟨some 23, .slcS (.t 21) none (some (.t 22)), none⟩, ⟨some 24, .callv (.t 20) [(.t 23)], none⟩, ⟨some 25, .un .not (.t 24), none⟩]))
      (.cond (.t 25)
        .ret
        .skip))
      (.keep [0, 2, 6] (.ops [⟨some 26, .ld (none) (.t 2), none⟩, ⟨some 27, .mv (.t 6), none⟩, ⟨some 28, .slcS (.t 26) (some (.t 27)) none, none⟩, ⟨none, .st 1 (.t 2) (.t 28), none⟩]))))))))
      .ret)
      .skip))
    (.seq (.block 2 (.loop (.block 3 (.seq (.keep [0, 1, 2, 3] (.ops [⟨some 29, .ld (none) (.t 2), none⟩, ⟨some 30, .ld (none) (.t 1), none⟩, ⟨some 31, .call 67 [(.t 29), (.t 30)], none⟩, ⟨some 7, .mv (.t 31), none⟩]))
    (.seq (.seq (.keep [0, 1, 2, 3, 7] (.ops [⟨some 32, .mv (.t 7), none⟩, ⟨some 33, .bin .lss (.t 32) (.c (.int .i64 0)), none⟩]))
    (.cond (.t 33)
      (.exit 2)
      .skip))
    (.seq (.keep [0, 1, 2, 3, 7] (.ops [⟨some 34, .ld (none) (.t 2), none⟩, ⟨some 35, .mv (.t 7), none⟩, ⟨some 36, .ld (none) (.t 3), none⟩, ⟨some 37, .bin .add (.t 35) (.t 36), none⟩, ⟨some 38, .slcS (.t 34) none (some (.t 37)), none⟩, ⟨some 8, .mv (.t 38), none⟩]))
    (.seq (.seq (.keep [0, 1, 2, 3, 7, 8] (.ops [⟨some 39, .mv (.t 0), none⟩, ⟨some 40, .mv (.t 8), none⟩, ⟨some 41, .callv (.t 39) [(.t 40)], none⟩, ⟨some 42, .un .not (.t 41), none⟩]))
    (.cond (.t 42)
      .ret
      .skip))
    (.keep [0, 1, 2, 3, 7] (.ops [⟨some 43, .ld (none) (.t 2), none⟩, ⟨some 44, .mv (.t 7), none⟩, ⟨some 45, .ld (none) (.t 1), none⟩, ⟨some 46, .lenS (.t 45), none⟩, ⟨some 47, .bin .add (.t 44) (.t 46), none⟩, ⟨some 48, .slcS (.t 43) (some (.t 47)) none, none⟩, ⟨none, .st 1 (.t 2) (.t 48), none⟩])))))))))
    (.keep [0, 2] (.ops [⟨some 49, .mv (.t 0), none⟩, ⟨some 50, .ld (none) (.t 2), none⟩, ⟨some 51, .callv (.t 49) [(.t 50)], none⟩])))), [], 52⟩
theorem b65 : fB Tryd.prog 65 c65 = true := by kernel_rfl
/-- internal/stringslite.HasSuffix -/
def c68 : CF := ⟨(.seq (.keep [0, 1] (.ops [⟨some 4, .mv (.c (.bool false)), none⟩]))
    (.seq (.keep [0, 1] (.ops [⟨some 5, .mv (.t 0), none⟩, ⟨some 6, .lenS (.t 5), none⟩, ⟨some 7, .mv (.t 1), none⟩, ⟨some 8, .lenS (.t 7), none⟩, ⟨some 9, .bin .geq (.t 6) (.t 8), none⟩, ⟨some 10, .mv (.t 9), none⟩, ⟨some 11, .mv (.t 0), some (10, true)⟩, ⟨some 12, .mv (.t 0), some (10, true)⟩, ⟨some 13, .lenS (.t 12), some (10, true)⟩, ⟨some 14, .mv (.t 1), some (10, true)⟩, ⟨some 15, .lenS (.t 14), some (10, true)⟩, ⟨some 16, .bin .sub (.t 13) (.t 15), some (10, true)⟩, ⟨some 17, .slcS (.t 11) (some (.t 16)) none, some (10, true)⟩, ⟨some 18, .mv (.t 1), some (10, true)⟩, ⟨some 19, .bin .eql (.t 17) (.t 18), some (10, true)⟩, ⟨some 20, .pick (.t 10) (.t 19) (.c (.bool false)), none⟩, ⟨some 4, .mv (.t 20), none⟩]))
    .ret)), [.t 4], 21⟩
theorem b68 : fB Tryd.prog 68 c68 = true := by kernel_rfl
/-- partywall/row.blank -/
def c69 : CF := ⟨(.seq (.keep [0] (.ops [⟨some 2, .mv (.c (.bool false)), none⟩]))
    (.seq (.keep [0] (.ops [⟨some 3, .mv (.t 0), none⟩, ⟨some 4, .bin .eql (.t 3) (.c (.int .u8 32)), none⟩, ⟨some 5, .mv (.t 4), none⟩, ⟨some 6, .mv (.t 0), some (5, false)⟩, ⟨some 7, .bin .eql (.t 6) (.c (.int .u8 9)), some (5, false)⟩, ⟨some 8, .pick (.t 5) (.c (.bool true)) (.t 7), none⟩, ⟨some 2, .mv (.t 8), none⟩]))
    .ret)), [.t 2], 9⟩
theorem b69 : fB Tryd.prog 69 c69 = true := by kernel_rfl
/-- (*partywall/row.reader).quoted -/
def c70 : CF := ⟨(.seq (.keep [0] (.ops [⟨some 2, .mv (.c (.str [])), none⟩, ⟨some 3, .mv (.c (.bool false)), none⟩]))
    (.seq (.keep [0] (.ops [⟨some 4, .allocT 63 [.nilp, .nils], none⟩]))
    (.seq (.block 0 (.loop (.seq (.seq (.keep [0, 4] (.ops [⟨some 8, .mv (.t 0), none⟩, ⟨some 9, .nilc (.t 8), none⟩, ⟨some 10, .fldA 0 (.t 9), none⟩, ⟨some 11, .call 59 [(.t 10)], none⟩]))
    (.cond (.t 11)
      .skip
      (.exit 0)))
    (.block 1 (.seq (.keep [0, 4] (.ops [⟨some 12, .mv (.t 0), none⟩, ⟨some 13, .nilc (.t 12), none⟩, ⟨some 14, .fldA 0 (.t 13), none⟩, ⟨some 15, .call 74 [(.t 14)], none⟩, ⟨some 5, .mv (.t 15), none⟩]))
    (.seq (.block 2 (.seq (.keep [0, 4, 5] (.ops [⟨some 17, .mv (.t 5), none⟩, ⟨some 18, .bin .eql (.t 17) (.c (.int .u8 34)), none⟩, ⟨some 16, .mv (.t 18), none⟩]))
    (.cond (.t 16)
      (.seq (.keep [4] (.ops [⟨some 19, .call 37 [(.t 4)], none⟩, ⟨some 2, .mv (.t 19), none⟩, ⟨some 3, .mv (.c (.bool true)), none⟩]))
      .ret)
      (.seq (.keep [0, 4, 5] (.ops [⟨some 21, .mv (.t 5), none⟩, ⟨some 22, .bin .eql (.t 21) (.c (.int .u8 92)), none⟩, ⟨some 20, .mv (.t 22), none⟩]))
      (.cond (.t 20)
        (.seq (.keep [0, 4] (.ops [⟨some 24, .mv (.t 0), none⟩, ⟨some 25, .call 75 [(.t 24)], none⟩, ⟨some 23, .mv (.t 25), none⟩, ⟨some 26, .ext (.t 23) 0, none⟩, ⟨some 27, .ext (.t 23) 1, none⟩, ⟨some 6, .mv (.t 26), none⟩, ⟨some 7, .mv (.t 27), none⟩]))
        (.seq (.seq (.keep [0, 4, 6, 7] (.ops [⟨some 28, .mv (.t 7), none⟩, ⟨some 29, .un .not (.t 28), none⟩]))
        (.cond (.t 29)
          (.seq (.keep [] (.ops [⟨some 2, .mv (.c (.str [])), none⟩, ⟨some 3, .mv (.c (.bool false)), none⟩]))
          .ret)
          .skip))
        (.keep [0, 4, 6] (.ops [⟨some 30, .mv (.t 6), none⟩, ⟨some 5, .mv (.t 30), none⟩]))))
        (.seq (.keep [0, 4, 5] (.ops [⟨some 32, .mv (.t 5), none⟩, ⟨some 33, .call 40 [(.t 32)], none⟩, ⟨some 34, .un .not (.t 33), none⟩, ⟨some 31, .mv (.t 34), none⟩]))
        (.cond (.t 31)
          (.seq (.keep [] (.ops [⟨some 2, .mv (.c (.str [])), none⟩, ⟨some 3, .mv (.c (.bool false)), none⟩]))
          .ret)
          .skip)))))))
    (.keep [0, 4, 5] (.ops [⟨some 35, .mv (.t 5), none⟩, ⟨some 36, .call 39 [(.t 4), (.t 35)], none⟩]))))))))
    (.seq (.keep [] (.ops [⟨some 2, .mv (.c (.str [])), none⟩, ⟨some 3, .mv (.c (.bool false)), none⟩]))
    .ret)))), [.t 2, .t 3], 37⟩
theorem b70 : fB Tryd.prog 70 c70 = true := by kernel_rfl
/-- (*partywall/row.cursor).next -/
def c74 : CF := ⟨(.seq (.keep [0] (.ops [⟨some 2, .mv (.c (.int .u8 0)), none⟩]))
    (.seq (.keep [0] (.ops [⟨some 3, .mv (.t 0), none⟩, ⟨some 4, .nilc (.t 3), none⟩, ⟨some 5, .fldA 1 (.t 4), none⟩, ⟨some 6, .ld (none) (.t 5), none⟩, ⟨some 7, .bin .add (.t 6) (.c (.int .i64 1)), none⟩, ⟨some 8, .nilc (.t 3), none⟩, ⟨some 9, .fldA 1 (.t 8), none⟩, ⟨none, .st 1 (.t 9) (.t 7), none⟩]))
    (.seq (.keep [0] (.drw [⟨some 10, .mv (.t 0), none⟩, ⟨some 11, .nilc (.t 10), none⟩, ⟨some 12, .fldA 0 (.t 11), none⟩, ⟨some 13, .ld (none) (.t 12), none⟩, ⟨some 14, .mv (.t 0), none⟩, ⟨some 15, .nilc (.t 14), none⟩, ⟨some 16, .fldA 1 (.t 15), none⟩, ⟨some 17, .ld (none) (.t 16), none⟩, ⟨some 18, .bin .sub (.t 17) (.c (.int .i64 1)), none⟩, ⟨some 19, .ixS (.t 13) (.t 18), none⟩, ⟨some 2, .mv (.t 19), none⟩] [0, 0, 0, 1, 0, 0, 0, 1, 0, 0, 0]))
    .ret))), [.t 2], 20⟩
theorem b74 : fB Tryd.prog 74 c74 = true := by kernel_rfl
/-- (*partywall/row.reader).escaped -/
def c75 : CF := ⟨(.seq (.keep [0] (.ops [⟨some 2, .mv (.c (.int .u8 0)), none⟩, ⟨some 3, .mv (.c (.bool false)), none⟩]))
    (.seq (.seq (.keep [0] (.ops [⟨some 5, .mv (.t 0), none⟩, ⟨some 6, .nilc (.t 5), none⟩, ⟨some 7, .fldA 0 (.t 6), none⟩, ⟨some 8, .call 59 [(.t 7)], none⟩, ⟨some 9, .un .not (.t 8), none⟩]))
    (.cond (.t 9)
      (.seq (.keep [] (.ops [⟨some 2, .mv (.c (.int .u8 0)), none⟩, ⟨some 3, .mv (.c (.bool false)), none⟩]))
      .ret)
      .skip))
    (.seq (.keep [0] (.ops [⟨some 10, .mv (.t 0), none⟩, ⟨some 11, .nilc (.t 10), none⟩, ⟨some 12, .fldA 0 (.t 11), none⟩, ⟨some 13, .call 74 [(.t 12)], none⟩, ⟨some 4, .mv (.t 13), none⟩]))
    (.seq (.keep [0, 4] (.ops [⟨some 14, .mv (.t 4), none⟩]))
    (.block 0 (.seq (.keep [0, 4, 14] (.ops [⟨some 23, .bin .eql (.t 14) (.c (.int .u8 120)), none⟩, ⟨some 22, .mv (.t 23), none⟩]))
    (.cond (.t 22)
      (.seq (.keep [0] (.ops [⟨some 24, .mv (.t 0), none⟩, ⟨some 25, .call 80 [(.t 24)], none⟩, ⟨some 26, .ext (.t 25) 0, none⟩, ⟨some 27, .ext (.t 25) 1, none⟩, ⟨some 2, .mv (.t 26), none⟩, ⟨some 3, .mv (.t 27), none⟩]))
      .ret)
      (.seq (.keep [4] (.ops [⟨some 15, .mv (.t 4), none⟩, ⟨some 16, .mv (.t 4), none⟩, ⟨some 17, .bin .eql (.t 16) (.c (.int .u8 34)), none⟩, ⟨some 18, .mv (.t 17), none⟩, ⟨some 19, .mv (.t 4), some (18, false)⟩, ⟨some 20, .bin .eql (.t 19) (.c (.int .u8 92)), some (18, false)⟩, ⟨some 21, .pick (.t 18) (.c (.bool true)) (.t 20), none⟩, ⟨some 2, .mv (.t 15), none⟩, ⟨some 3, .mv (.t 21), none⟩]))
      .ret)))))))), [.t 2, .t 3], 28⟩
theorem b75 : fB Tryd.prog 75 c75 = true := by kernel_rfl
/-- (*partywall/row.reader).pair -/
def c80 : CF := ⟨(.seq (.keep [0] (.ops [⟨some 2, .mv (.c (.int .u8 0)), none⟩, ⟨some 3, .mv (.c (.bool false)), none⟩]))
    (.seq (.seq (.keep [0] (.drw [⟨some 6, .mv (.t 0), none⟩, ⟨some 7, .nilc (.t 6), none⟩, ⟨some 8, .fldA 0 (.t 7), none⟩, ⟨some 9, .fldA 0 (.t 8), none⟩, ⟨some 10, .ld (none) (.t 9), none⟩, ⟨some 11, .lenS (.t 10), none⟩, ⟨some 12, .mv (.t 0), none⟩, ⟨some 13, .nilc (.t 12), none⟩, ⟨some 14, .fldA 0 (.t 13), none⟩, ⟨some 15, .fldA 1 (.t 14), none⟩, ⟨some 16, .ld (none) (.t 15), none⟩, ⟨some 17, .bin .sub (.t 11) (.t 16), none⟩, ⟨some 18, .bin .lss (.t 17) (.c (.int .i64 2)), none⟩] [0, 0, 0, 0, 1, 0, 0, 0, 0, 0, 1, 0, 0]))
    (.cond (.t 18)
      (.seq (.keep [] (.ops [⟨some 2, .mv (.c (.int .u8 0)), none⟩, ⟨some 3, .mv (.c (.bool false)), none⟩]))
      .ret)
      .skip))
    (.seq (.keep [0] (.drw [⟨some 19, .mv (.t 0), none⟩, ⟨some 20, .nilc (.t 19), none⟩, ⟨some 21, .fldA 0 (.t 20), none⟩, ⟨some 22, .call 74 [(.t 21)], none⟩, ⟨some 23, .call 83 [(.t 22)], none⟩, ⟨some 24, .mv (.t 0), none⟩, ⟨some 25, .nilc (.t 24), none⟩, ⟨some 26, .fldA 0 (.t 25), none⟩, ⟨some 27, .call 74 [(.t 26)], none⟩, ⟨some 28, .call 83 [(.t 27)], none⟩, ⟨some 4, .mv (.t 23), none⟩, ⟨some 5, .mv (.t 28), none⟩] [0, 0, 0, 2, 1, 0, 0, 0, 2, 1, 0, 0]))
    (.seq (.keep [4, 5] (.ops [⟨some 29, .mv (.t 4), none⟩, ⟨some 30, .bin .shl (.t 29) (.c (.int .u64 4)), none⟩, ⟨some 31, .mv (.t 5), none⟩, ⟨some 32, .bin .and (.t 31) (.c (.int .u8 15)), none⟩, ⟨some 33, .bin .or (.t 30) (.t 32), none⟩, ⟨some 34, .mv (.t 4), none⟩, ⟨some 35, .bin .lss (.t 34) (.c (.int .u8 16)), none⟩, ⟨some 36, .mv (.t 35), none⟩, ⟨some 37, .mv (.t 5), some (36, true)⟩, ⟨some 38, .bin .lss (.t 37) (.c (.int .u8 16)), some (36, true)⟩, ⟨some 39, .pick (.t 36) (.t 38) (.c (.bool false)), none⟩, ⟨some 2, .mv (.t 33), none⟩, ⟨some 3, .mv (.t 39), none⟩]))
    .ret)))), [.t 2, .t 3], 40⟩
theorem b80 : fB Tryd.prog 80 c80 = true := by kernel_rfl
/-- partywall/row.digit -/
def c83 : CF := ⟨(.seq (.keep [0] (.ops [⟨some 2, .mv (.c (.int .u8 0)), none⟩]))
    (.seq (.block 0 (.seq (.keep [0] (.ops [⟨some 4, .mv (.t 0), none⟩, ⟨some 5, .bin .geq (.t 4) (.c (.int .u8 48)), none⟩, ⟨some 6, .mv (.t 5), none⟩, ⟨some 7, .mv (.t 0), some (6, true)⟩, ⟨some 8, .bin .leq (.t 7) (.c (.int .u8 57)), some (6, true)⟩, ⟨some 9, .pick (.t 6) (.t 8) (.c (.bool false)), none⟩, ⟨some 3, .mv (.t 9), none⟩]))
    (.cond (.t 3)
      (.seq (.keep [0] (.ops [⟨some 10, .mv (.t 0), none⟩, ⟨some 11, .bin .sub (.t 10) (.c (.int .u8 48)), none⟩, ⟨some 2, .mv (.t 11), none⟩]))
      .ret)
      (.seq (.keep [0] (.ops [⟨some 13, .mv (.t 0), none⟩, ⟨some 14, .bin .or (.t 13) (.c (.int .u8 32)), none⟩, ⟨some 15, .bin .geq (.t 14) (.c (.int .u8 97)), none⟩, ⟨some 16, .mv (.t 15), none⟩, ⟨some 17, .mv (.t 0), some (16, true)⟩, ⟨some 18, .bin .or (.t 17) (.c (.int .u8 32)), some (16, true)⟩, ⟨some 19, .bin .leq (.t 18) (.c (.int .u8 102)), some (16, true)⟩, ⟨some 20, .pick (.t 16) (.t 19) (.c (.bool false)), none⟩, ⟨some 12, .mv (.t 20), none⟩]))
      (.cond (.t 12)
        (.seq (.keep [0] (.ops [⟨some 21, .mv (.t 0), none⟩, ⟨some 22, .bin .or (.t 21) (.c (.int .u8 32)), none⟩, ⟨some 23, .bin .sub (.t 22) (.c (.int .u8 97)), none⟩, ⟨some 24, .bin .add (.t 23) (.c (.int .u8 10)), none⟩, ⟨some 2, .mv (.t 24), none⟩]))
        .ret)
        .skip)))))
    (.seq (.keep [] (.ops [⟨some 2, .mv (.c (.int .u8 16)), none⟩]))
    .ret))), [.t 2], 25⟩
theorem b83 : fB Tryd.prog 83 c83 = true := by kernel_rfl
/-- partywall/row.Rows -/
def c25 : CF := ⟨(.seq (.keep [0] (.ops [⟨some 2, .alloc [.nils], none⟩, ⟨some 3, .alloc [.int .i64 0, .int .i64 0], none⟩]))
    (.seq (.seq (.keep [0, 2, 3] (.ops [⟨some 12, .mv (.t 0), none⟩, ⟨some 13, .lenS (.t 12), none⟩, ⟨some 14, .bin .gtr (.t 13) (.c (.int .i64 20000)), none⟩]))
    (.cond (.t 14)
      (.seq (.keep [2, 3] (.ops [⟨some 15, .bld [.int .i64 0, .int .i64 0] [(0, 1, (.c (.int .i64 4))), (1, 1, (.c (.int .i64 20000)))], none⟩, ⟨none, .st 1 (.t 2) (.c .nils), none⟩, ⟨none, .st 2 (.t 3) (.t 15), none⟩]))
      .ret)
      .skip))
    (.seq (.keep [0, 2, 3] (.ops [⟨some 4, .alloc [.nils], none⟩]))
    (.seq (.keep [0, 2, 3, 4] (.ops [⟨some 5, .alloc [.int .i64 0], none⟩, ⟨none, .st 1 (.t 5) (.c (.int .i64 0)), none⟩]))
    (.seq (.seq (.keep [0, 2, 3, 4, 5] (.ops [⟨some 16, .mv (.t 0), none⟩, ⟨some 17, .call 46 [(.t 16), (.c (.str [10]))], none⟩]))
    (.block 0 (.rfun (.t 17) [18]
      (.keep [2, 3, 4, 5, 18] (.ops [⟨some 6, .mv (.t 18), none⟩]))
      (.block 1 (.seq (.keep [2, 3, 4, 5, 6] (.ops [⟨some 19, .ld (none) (.t 5), none⟩, ⟨some 7, .mv (.t 19), none⟩]))
      (.seq (.keep [2, 3, 4, 5, 6, 7] (.ops [⟨some 20, .ld (none) (.t 5), none⟩, ⟨some 21, .mv (.t 6), none⟩, ⟨some 22, .lenS (.t 21), none⟩, ⟨some 23, .bin .add (.t 20) (.t 22), none⟩, ⟨none, .st 1 (.t 5) (.t 23), none⟩]))
      (.seq (.keep [2, 3, 4, 6, 7] (.ops [⟨some 24, .mv (.t 6), none⟩, ⟨some 25, .call 47 [(.t 24), (.c (.str [10]))], none⟩, ⟨some 6, .mv (.t 25), none⟩]))
      (.seq (.seq (.keep [2, 3, 4, 6, 7] (.ops [⟨some 26, .mv (.t 6), none⟩, ⟨some 27, .lenS (.t 26), none⟩, ⟨some 28, .bin .gtr (.t 27) (.c (.int .i64 1000)), none⟩]))
      (.cond (.t 28)
        (.seq (.keep [2, 3, 7] (.ops [⟨some 29, .mv (.t 7), none⟩, ⟨some 30, .bld [.int .i64 0, .int .i64 0] [(0, 1, (.c (.int .i64 4))), (1, 1, (.t 29))], none⟩, ⟨none, .st 1 (.t 2) (.c .nils), none⟩, ⟨none, .st 2 (.t 3) (.t 30), none⟩]))
        .ret)
        .skip))
      (.seq (.keep [2, 3, 4, 6, 7] (.ops [⟨some 32, .mv (.t 6), none⟩, ⟨some 33, .call 48 [(.t 32)], none⟩, ⟨some 31, .mv (.t 33), none⟩, ⟨some 34, .ext (.t 31) 0, none⟩, ⟨some 35, .ext (.t 31) 1, none⟩, ⟨some 36, .ext (.t 31) 2, none⟩, ⟨some 8, .mv (.t 34), none⟩, ⟨some 9, .mv (.t 35), none⟩, ⟨some 10, .mv (.t 36), none⟩]))
      (.seq (.seq (.keep [2, 3, 4, 7, 8, 9, 10] (.ops [⟨some 37, .mv (.t 10), none⟩, ⟨some 38, .un .not (.t 37), none⟩]))
      (.cond (.t 38)
        (.seq (.keep [2, 3, 7, 9] (.ops [⟨some 39, .mv (.t 7), none⟩, ⟨some 40, .mv (.t 9), none⟩, ⟨some 41, .bin .add (.t 39) (.t 40), none⟩, ⟨some 42, .bld [.int .i64 0, .int .i64 0] [(0, 1, (.c (.int .i64 3))), (1, 1, (.t 41))], none⟩, ⟨none, .st 1 (.t 2) (.c .nils), none⟩, ⟨none, .st 2 (.t 3) (.t 42), none⟩]))
        .ret)
        .skip))
      (.seq (.seq (.keep [4, 7, 8] (.ops [⟨some 43, .mv (.t 8), none⟩, ⟨some 44, .lenP (.t 43), none⟩, ⟨some 45, .mv (.c (.int .i64 0)), none⟩]))
      (.block 2 (.loop (.seq (.keep [4, 7, 8, 44, 45] (.ops [⟨some 46, .bin .lss (.t 45) (.t 44), none⟩]))
      (.seq (.cond (.t 46)
        .skip
        (.exit 2))
      (.seq (.block 3 (.seq (.keep [4, 7, 8, 44, 45] (.ops [⟨some 47, .mv (.t 45), none⟩, ⟨some 11, .mv (.t 47), none⟩]))
      (.keep [4, 7, 8, 11, 44, 45] (.ops [⟨some 48, .mv (.t 8), none⟩, ⟨some 49, .mv (.t 11), none⟩, ⟨some 50, .ixQ 3 (.t 48) (.t 49), none⟩, ⟨some 51, .fldA 2 (.t 50), none⟩, ⟨some 52, .ld (none) (.t 51), none⟩, ⟨some 53, .mv (.t 7), none⟩, ⟨some 54, .bin .add (.t 52) (.t 53), none⟩, ⟨some 55, .ixQ 3 (.t 48) (.t 49), none⟩, ⟨some 56, .fldA 2 (.t 55), none⟩, ⟨none, .st 1 (.t 56) (.t 54), none⟩]))))
      (.keep [4, 7, 8, 44, 45] (.ops [⟨some 57, .bin .add (.t 45) (.c (.int .i64 1)), none⟩, ⟨some 45, .mv (.t 57), none⟩]))))))))
      (.frz 8 3 (.seq (.keep [4, 7, 8] (.ops [⟨some 58, .mv (.t 8), none⟩, ⟨some 59, .len (.t 58), none⟩, ⟨some 60, .bin .gtr (.t 59) (.c (.int .i64 0)), none⟩]))
      (.cond (.t 60)
        (.keep [4, 7, 8] (.ops [⟨some 61, .ld (none) (.t 4), none⟩, ⟨some 62, .mv (.t 7), none⟩, ⟨some 63, .mv (.t 8), none⟩, ⟨some 64, .bld [.int .i64 0, .nils] [(0, 1, (.t 62)), (1, 1, (.t 63))], none⟩, ⟨some 65, .mkSl 2 1 [.int .i64 0, .nils] [(0, 2, (.t 64))], none⟩, ⟨some 66, .app true 43 2 32 (.t 61) (.t 65), none⟩, ⟨none, .st 1 (.t 4) (.t 66), none⟩]))
        .skip))))))))))))))
    (.seq (.keep [2, 3, 4] (.ops [⟨some 67, .ld (none) (.t 4), none⟩, ⟨some 68, .bld [.int .i64 0, .int .i64 0] [], none⟩, ⟨none, .st 1 (.t 2) (.t 67), none⟩, ⟨none, .st 2 (.t 3) (.t 68), none⟩]))
    .ret)))))), [.cl 2 (none), .cl 3 (some 2)], 69⟩
theorem b25 : fB Tryd.prog 25 c25 = true := by kernel_rfl
end Go.Proofs.YtemddijemikleaaDoor
namespace Go.Proofs.YtemddijemikleaaDoor
open Go.Abs
set_option maxRecDepth 100000
/-- partywall/partywalllaw06.same -/
def c33 : CF := ⟨(.seq (.keep [0, 1] (.ops [⟨some 4, .mv (.c (.bool false)), none⟩]))
    (.seq (.seq (.keep [0, 1] (.ops [⟨some 9, .mv (.t 0), none⟩, ⟨some 10, .len (.t 9), none⟩, ⟨some 11, .mv (.t 1), none⟩, ⟨some 12, .len (.t 11), none⟩, ⟨some 13, .bin .neq (.t 10) (.t 12), none⟩]))
    (.cond (.t 13)
      (.seq (.keep [] (.ops [⟨some 4, .mv (.c (.bool false)), none⟩]))
      .ret)
      .skip))
    (.seq (.seq (.keep [0, 1] (.ops [⟨some 5, .mv (.c (.int .i64 0)), none⟩]))
    (.block 0 (.loop (.seq (.seq (.keep [0, 1, 5] (.ops [⟨some 14, .mv (.t 5), none⟩, ⟨some 15, .mv (.t 0), none⟩, ⟨some 16, .len (.t 15), none⟩, ⟨some 17, .bin .lss (.t 14) (.t 16), none⟩]))
    (.cond (.t 17)
      .skip
      (.exit 0)))
    (.seq (.block 1 (.seq (.seq (.keep [0, 1, 5] (.drw [⟨some 20, .mv (.t 0), none⟩, ⟨some 21, .mv (.t 5), none⟩, ⟨some 22, .ixA 2 (.t 20) (.t 21), none⟩, ⟨some 23, .fldA 1 (.t 22), none⟩, ⟨some 24, .ld (none) (.t 23), none⟩, ⟨some 25, .len (.t 24), none⟩, ⟨some 26, .mv (.t 1), none⟩, ⟨some 27, .mv (.t 5), none⟩, ⟨some 28, .ixA 2 (.t 26) (.t 27), none⟩, ⟨some 29, .fldA 1 (.t 28), none⟩, ⟨some 30, .ld (none) (.t 29), none⟩, ⟨some 31, .len (.t 30), none⟩, ⟨some 32, .bin .neq (.t 25) (.t 31), none⟩] [0, 0, 0, 0, 1, 0, 0, 0, 0, 0, 1, 0, 0]))
    (.cond (.t 32)
      (.seq (.keep [] (.ops [⟨some 4, .mv (.c (.bool false)), none⟩]))
      .ret)
      .skip))
    (.seq (.keep [0, 1, 5] (.ops [⟨some 6, .mv (.c (.int .i64 0)), none⟩]))
    (.block 2 (.loop (.seq (.seq (.keep [0, 1, 5, 6] (.ops [⟨some 33, .mv (.t 6), none⟩, ⟨some 34, .mv (.t 0), none⟩, ⟨some 35, .mv (.t 5), none⟩, ⟨some 36, .ixA 2 (.t 34) (.t 35), none⟩, ⟨some 37, .fldA 1 (.t 36), none⟩, ⟨some 38, .ld (none) (.t 37), none⟩, ⟨some 39, .len (.t 38), none⟩, ⟨some 40, .bin .lss (.t 33) (.t 39), none⟩]))
    (.cond (.t 40)
      .skip
      (.exit 2)))
    (.seq (.block 3 (.seq (.keep [0, 1, 5, 6] (.inv [⟨some 43, .mv (.t 0), none⟩, ⟨some 44, .mv (.t 5), none⟩, ⟨some 45, .ixA 2 (.t 43) (.t 44), none⟩, ⟨some 46, .fldA 1 (.t 45), none⟩, ⟨some 47, .ld (none) (.t 46), none⟩, ⟨some 48, .mv (.t 6), none⟩, ⟨some 49, .ixA 3 (.t 47) (.t 48), none⟩, ⟨some 50, .ld (some 3) (.t 49), none⟩, ⟨some 51, .mv (.t 1), none⟩, ⟨some 52, .mv (.t 5), none⟩, ⟨some 53, .ixA 2 (.t 51) (.t 52), none⟩, ⟨some 54, .fldA 1 (.t 53), none⟩, ⟨some 55, .ld (none) (.t 54), none⟩, ⟨some 56, .mv (.t 6), none⟩, ⟨some 57, .ixA 3 (.t 55) (.t 56), none⟩, ⟨some 58, .ld (some 3) (.t 57), none⟩, ⟨some 7, .alloc [.bool false, .str [], .int .i64 0], none⟩, ⟨some 8, .alloc [.bool false, .str [], .int .i64 0], none⟩, ⟨none, .st 3 (.t 7) (.t 50), none⟩, ⟨none, .st 3 (.t 8) (.t 58), none⟩] [[], [], [0, 1], [2], [3], [], [4, 5], [6], [], [], [8, 9], [10], [11], [], [12, 13], [14], [], [], [16, 7, 0, 1, 2, 3, 4, 5, 6, 7, 16, 17], [17, 15, 18, 0, 1, 2, 3, 4, 5, 6, 7, 8, 9, 10, 11, 12, 13, 14, 15, 16, 17, 18]]))
    (.seq (.keep [0, 1, 5, 6, 7, 8] (.ops [⟨some 59, .fldA 0 (.t 7), none⟩, ⟨some 60, .ld (none) (.t 59), none⟩, ⟨some 61, .fldA 0 (.t 8), none⟩, ⟨some 62, .ld (none) (.t 61), none⟩, ⟨some 63, .eqb true (.t 60) (.t 62), none⟩, ⟨some 64, .mv (.t 63), none⟩, ⟨some 65, .fldA 1 (.t 7), some (64, false)⟩, ⟨some 66, .ld (none) (.t 65), some (64, false)⟩, ⟨some 67, .fldA 1 (.t 8), some (64, false)⟩, ⟨some 68, .ld (none) (.t 67), some (64, false)⟩, ⟨some 69, .bin .neq (.t 66) (.t 68), some (64, false)⟩, ⟨some 70, .pick (.t 64) (.c (.bool true)) (.t 69), none⟩]))
    (.cond (.t 70)
      (.seq (.keep [] (.ops [⟨some 4, .mv (.c (.bool false)), none⟩]))
      .ret)
      .skip))))
    (.keep [0, 1, 5, 6] (.ops [⟨some 41, .mv (.t 6), none⟩, ⟨some 42, .bin .add (.t 41) (.c (.int .i64 1)), none⟩, ⟨some 6, .mv (.t 42), none⟩])))))))))
    (.keep [0, 1, 5] (.ops [⟨some 18, .mv (.t 5), none⟩, ⟨some 19, .bin .add (.t 18) (.c (.int .i64 1)), none⟩, ⟨some 5, .mv (.t 19), none⟩])))))))
    (.seq (.keep [] (.ops [⟨some 4, .mv (.c (.bool true)), none⟩]))
    .ret)))), [.t 4], 71⟩
theorem b33 : fB Tryd.prog 33 c33 = true := by kernel_rfl
end Go.Proofs.YtemddijemikleaaDoor
namespace Go.Proofs.YtemddijemikleaaDoor
open Go.Abs
set_option linter.all false
set_option maxRecDepth 100000
def smOps : List CI := [⟨some 43, .mv (.t 0), none⟩, ⟨some 44, .mv (.t 5), none⟩, ⟨some 45, .ixA 2 (.t 43) (.t 44), none⟩, ⟨some 46, .fldA 1 (.t 45), none⟩, ⟨some 47, .ld (none) (.t 46), none⟩, ⟨some 48, .mv (.t 6), none⟩, ⟨some 49, .ixA 3 (.t 47) (.t 48), none⟩, ⟨some 50, .ld (some 3) (.t 49), none⟩, ⟨some 51, .mv (.t 1), none⟩, ⟨some 52, .mv (.t 5), none⟩, ⟨some 53, .ixA 2 (.t 51) (.t 52), none⟩, ⟨some 54, .fldA 1 (.t 53), none⟩, ⟨some 55, .ld (none) (.t 54), none⟩, ⟨some 56, .mv (.t 6), none⟩, ⟨some 57, .ixA 3 (.t 55) (.t 56), none⟩, ⟨some 58, .ld (some 3) (.t 57), none⟩, ⟨some 7, .alloc [.bool false, .str [], .int .i64 0], none⟩, ⟨some 8, .alloc [.bool false, .str [], .int .i64 0], none⟩, ⟨none, .st 3 (.t 7) (.t 50), none⟩, ⟨none, .st 3 (.t 8) (.t 58), none⟩]
def smDps : List (List Nat) := [[], [], [0, 1], [2], [3], [], [4, 5], [6], [], [], [8, 9], [10], [11], [], [12, 13], [14], [], [], [16, 7, 0, 1, 2, 3, 4, 5, 6, 7, 16, 17], [17, 15, 18, 0, 1, 2, 3, 4, 5, 6, 7, 8, 9, 10, 11, 12, 13, 14, 15, 16, 17, 18]]
def smZ : List AV := [.bool false, .str [], .int .i64 0]
/-- The values of the region's slots 43 .. 58. -/
def smV (cs ds wsC vsC : List AV) (N n : Nat) (k i : Int) (a b : AV) (x y : List AV) : List AV :=
  [.sl false N cs, .int .i64 k, .el [a, .sl false n wsC], .el [.sl false n wsC], .sl false n wsC, .int .i64 i, .el x, .agg x,
   .sl false N ds, .int .i64 k, .el [b, .sl false n vsC], .el [.sl false n vsC], .sl false n vsC, .int .i64 i, .el y, .agg y]
structure SmI (σ : St) (vals : List AV) (A B : AV) (k i : Int) (x y : List AV) (D : Nat → Bool) (fr : Fr) (σ' : St) : Prop where
  s0 : slot 0 fr = A
  s1 : slot 1 fr = B
  s5 : slot 5 fr = .int .i64 k
  s6 : slot 6 fr = .int .i64 i
  tab : ∀ j v, vals[j]? = some v → D j = true → slot (43 + j) fr = v
  le : St.le σ σ'
  b7 : D 16 = true → ∃ β, slot 7 fr = .ptr β 0 ∧ σ'.box β = some (bif D 18 then x else smZ) ∧ σ.box β = none
  b8 : D 17 = true → ∃ β, slot 8 fr = .ptr β 0 ∧ σ'.box β = some (bif D 19 then y else smZ) ∧ σ.box β = none
  ne : D 16 = true → D 17 = true → slot 7 fr ≠ slot 8 fr
  d18 : D 18 = true → D 16 = true
  d19 : D 19 = true → D 17 = true
theorem smI_pure {σ : St} {vals : List AV} {A B : AV} {k i : Int} {x y : List AV} {D : Nat → Bool} {fr : Fr} {σ' : St} (h : SmI σ vals A B k i x y D fr σ') {j : Nat} {v : AV} (hj : j < 16) (hv : vals[j]? = some v) : SmI σ vals A B k i x y (fun m => D m || Nat.beq m j) ((43 + j, v) :: fr) σ' := by
  have e : ∀ t, t ≠ 43 + j → slot t ((43 + j, v) :: fr) = slot t fr := fun t ht => by simp only [slot, if_neg ht]
  have f : ∀ m, m ≠ j → (D m || Nat.beq m j) = D m := fun m hm => by
    have : Nat.beq m j = false := by rw [← Bool.not_eq_true]; exact fun e => hm (Nat.eq_of_beq_eq_true e)
    rw [this, Bool.or_false]
  refine ⟨?_, ?_, ?_, ?_, fun m w hw hm => ?_, h.le, ?_, ?_, ?_, ?_, ?_⟩
  · rw [e 0 (by omega)]; exact h.s0
  · rw [e 1 (by omega)]; exact h.s1
  · rw [e 5 (by omega)]; exact h.s5
  · rw [e 6 (by omega)]; exact h.s6
  · by_cases hmj : m = j
    · subst hmj
      rw [hv] at hw; cases hw
      simp only [slot, if_true]
    · rw [f m hmj] at hm
      rw [e (43 + m) (by omega)]
      exact h.tab m w hw hm
  · rw [f 16 (by omega), f 18 (by omega), e 7 (by omega)]; exact h.b7
  · rw [f 17 (by omega), f 19 (by omega), e 8 (by omega)]; exact h.b8
  · rw [f 16 (by omega), f 17 (by omega), e 7 (by omega), e 8 (by omega)]; exact h.ne
  · rw [f 16 (by omega), f 18 (by omega)]; exact h.d18
  · rw [f 17 (by omega), f 19 (by omega)]; exact h.d19
theorem box_upd (σ : St) (β γ : Nat) (c : List AV) : (σ.setBox β c).box γ = if γ = β then some c else σ.box γ := rfl
theorem none_of_le {σ σ' : St} (h : St.le σ σ') {β : Nat} (hn : σ'.box β = none) : σ.box β = none := by
  cases hc : σ.box β with
  | none => rfl
  | some c => have := h.1 β c hc; rw [hn] at this; cases this
theorem keepD {D : Nat → Bool} {j m : Nat} (h : m ≠ j) : (D m || Nat.beq m j) = D m := by
  have : Nat.beq m j = false := by rw [← Bool.not_eq_true]; exact fun e => h (Nat.eq_of_beq_eq_true e)
  rw [this, Bool.or_false]
theorem newD {D : Nat → Bool} {j : Nat} : (D j || Nat.beq j j) = true := by
  rw [show Nat.beq j j = true from Nat.beq_refl j, Bool.or_true]
theorem smI_a7 {σ : St} {vals : List AV} {A B : AV} {k i : Int} {x y : List AV} {D : Nat → Bool} {fr : Fr} {σ' : St} (hv : vals.length = 16) (h : SmI σ vals A B k i x y D fr σ') (hD : D 16 = false) {β : Nat} (hβ : σ'.box β = none) : SmI σ vals A B k i x y (fun m => D m || Nat.beq m 16) ((7, .ptr β 0) :: fr) (σ'.setBox β smZ) := by
  have e : ∀ t, t ≠ 7 → slot t ((7, .ptr β 0) :: fr) = slot t fr := fun t ht => by simp only [slot, if_neg ht]
  have e7 : slot 7 ((7, .ptr β 0) :: fr) = .ptr β 0 := by simp only [slot, if_true]
  have h18 : D 18 = false := by
    cases hd : D 18 with
    | false => rfl
    | true => have := h.d18 hd; rw [hD] at this; cases this
  have hn := none_of_le h.le hβ
  have oth : D 17 = true → ∃ γ, slot 8 fr = .ptr γ 0 ∧ (σ'.setBox β smZ).box γ = some (bif D 19 then y else smZ) ∧ σ.box γ = none ∧ γ ≠ β := fun h17 => by
    obtain ⟨γ, g1, g2, g3⟩ := h.b8 h17
    have hg : γ ≠ β := by rintro rfl; rw [hβ] at g2; cases g2
    exact ⟨γ, g1, by rw [box_upd, if_neg hg]; exact g2, g3, hg⟩
  have main : ∃ γ, slot 7 ((7, .ptr β 0) :: fr) = .ptr γ 0 ∧ (σ'.setBox β smZ).box γ = some (bif D 18 then x else smZ) ∧ σ.box γ = none :=
    ⟨β, e7, by rw [h18, box_upd, if_pos rfl]; rfl, hn⟩
  have hne : D 17 = true → AV.ptr β 0 ≠ slot 8 fr := fun h17 e => by
    obtain ⟨γ, g1, _, _, g4⟩ := oth h17
    rw [g1] at e; cases e; exact g4 rfl
  refine ⟨?_, ?_, ?_, ?_, fun m w hw hm => ?_, St.le_setBox h.le hn, ?_, ?_, ?_, ?_, ?_⟩
  · rw [e 0 (by omega)]; exact h.s0
  · rw [e 1 (by omega)]; exact h.s1
  · rw [e 5 (by omega)]; exact h.s5
  · rw [e 6 (by omega)]; exact h.s6
  · have hml : m < 16 := by rw [← hv]; exact (List.getElem?_eq_some_iff.1 hw).1
    rw [keepD (by omega)] at hm
    rw [e (43 + m) (by omega)]
    exact h.tab m w hw hm
  · rw [keepD (show 18 ≠ 16 by omega)]; exact fun _ => main
  · rw [keepD (show 17 ≠ 16 by omega), keepD (show 19 ≠ 16 by omega), e 8 (by omega)]
    intro h17
    obtain ⟨γ, g1, g2, g3, _⟩ := oth h17
    exact ⟨γ, g1, g2, g3⟩
  · rw [keepD (show 17 ≠ 16 by omega), e 8 (by omega), e7]
    exact fun _ h17 => hne h17
  · intro _; exact newD
  · rw [keepD (show 19 ≠ 16 by omega), keepD (show 17 ≠ 16 by omega)]; exact h.d19
theorem smI_a8 {σ : St} {vals : List AV} {A B : AV} {k i : Int} {x y : List AV} {D : Nat → Bool} {fr : Fr} {σ' : St} (hv : vals.length = 16) (h : SmI σ vals A B k i x y D fr σ') (hD : D 17 = false) {β : Nat} (hβ : σ'.box β = none) : SmI σ vals A B k i x y (fun m => D m || Nat.beq m 17) ((8, .ptr β 0) :: fr) (σ'.setBox β smZ) := by
  have e : ∀ t, t ≠ 8 → slot t ((8, .ptr β 0) :: fr) = slot t fr := fun t ht => by simp only [slot, if_neg ht]
  have e7 : slot 8 ((8, .ptr β 0) :: fr) = .ptr β 0 := by simp only [slot, if_true]
  have h18 : D 19 = false := by
    cases hd : D 19 with
    | false => rfl
    | true => have := h.d19 hd; rw [hD] at this; cases this
  have hn := none_of_le h.le hβ
  have oth : D 16 = true → ∃ γ, slot 7 fr = .ptr γ 0 ∧ (σ'.setBox β smZ).box γ = some (bif D 18 then x else smZ) ∧ σ.box γ = none ∧ γ ≠ β := fun h17 => by
    obtain ⟨γ, g1, g2, g3⟩ := h.b7 h17
    have hg : γ ≠ β := by rintro rfl; rw [hβ] at g2; cases g2
    exact ⟨γ, g1, by rw [box_upd, if_neg hg]; exact g2, g3, hg⟩
  have main : ∃ γ, slot 8 ((8, .ptr β 0) :: fr) = .ptr γ 0 ∧ (σ'.setBox β smZ).box γ = some (bif D 19 then y else smZ) ∧ σ.box γ = none :=
    ⟨β, e7, by rw [h18, box_upd, if_pos rfl]; rfl, hn⟩
  have hne : D 16 = true → AV.ptr β 0 ≠ slot 7 fr := fun h17 e => by
    obtain ⟨γ, g1, _, _, g4⟩ := oth h17
    rw [g1] at e; cases e; exact g4 rfl
  refine ⟨?_, ?_, ?_, ?_, fun m w hw hm => ?_, St.le_setBox h.le hn, ?_, ?_, ?_, ?_, ?_⟩
  · rw [e 0 (by omega)]; exact h.s0
  · rw [e 1 (by omega)]; exact h.s1
  · rw [e 5 (by omega)]; exact h.s5
  · rw [e 6 (by omega)]; exact h.s6
  · have hml : m < 16 := by rw [← hv]; exact (List.getElem?_eq_some_iff.1 hw).1
    rw [keepD (by omega)] at hm
    rw [e (43 + m) (by omega)]
    exact h.tab m w hw hm
  · rw [keepD (show 16 ≠ 17 by omega), keepD (show 18 ≠ 17 by omega), e 7 (by omega)]
    intro h17
    obtain ⟨γ, g1, g2, g3, _⟩ := oth h17
    exact ⟨γ, g1, g2, g3⟩
  · rw [keepD (show 19 ≠ 17 by omega)]; exact fun _ => main
  · rw [keepD (show 16 ≠ 17 by omega), e 7 (by omega), e7]
    exact fun h17 _ => (hne h17).symm
  · rw [keepD (show 18 ≠ 17 by omega), keepD (show 16 ≠ 17 by omega)]; exact h.d18
  · intro _; exact newD
theorem smI_s7 {σ : St} {vals : List AV} {A B : AV} {k i : Int} {x y : List AV} {D : Nat → Bool} {fr : Fr} {σ' : St} (hv : vals.length = 16) (h : SmI σ vals A B k i x y D fr σ') (h16 : D 16 = true) {β : Nat} (hs : slot 7 fr = .ptr β 0) (hn : σ.box β = none) : SmI σ vals A B k i x y (fun m => D m || Nat.beq m 18) fr (σ'.setBox β x) := by
  refine ⟨h.s0, h.s1, h.s5, h.s6, fun m w hw hm => ?_, St.le_setBox h.le hn, ?_, ?_, ?_, ?_, ?_⟩
  · have hml : m < 16 := by rw [← hv]; exact (List.getElem?_eq_some_iff.1 hw).1
    rw [keepD (by omega)] at hm
    exact h.tab m w hw hm
  · intro _
    refine ⟨β, hs, ?_, hn⟩
    rw [newD, box_upd, if_pos rfl]; rfl
  · rw [keepD (show 17 ≠ 18 by omega), keepD (show 19 ≠ 18 by omega)]
    intro h17
    obtain ⟨γ, g1, g2, g3⟩ := h.b8 h17
    have hg : γ ≠ β := by
      rintro rfl
      exact h.ne h16 h17 (hs.trans g1.symm)
    exact ⟨γ, g1, by rw [box_upd, if_neg hg]; exact g2, g3⟩
  · rw [keepD (show 16 ≠ 18 by omega), keepD (show 17 ≠ 18 by omega)]; exact h.ne
  · intro _; rw [keepD (show 16 ≠ 18 by omega)]; exact h16
  · rw [keepD (show 19 ≠ 18 by omega), keepD (show 17 ≠ 18 by omega)]; exact h.d19
theorem smI_s8 {σ : St} {vals : List AV} {A B : AV} {k i : Int} {x y : List AV} {D : Nat → Bool} {fr : Fr} {σ' : St} (hv : vals.length = 16) (h : SmI σ vals A B k i x y D fr σ') (h16 : D 17 = true) {β : Nat} (hs : slot 8 fr = .ptr β 0) (hn : σ.box β = none) : SmI σ vals A B k i x y (fun m => D m || Nat.beq m 19) fr (σ'.setBox β y) := by
  refine ⟨h.s0, h.s1, h.s5, h.s6, fun m w hw hm => ?_, St.le_setBox h.le hn, ?_, ?_, ?_, ?_, ?_⟩
  · have hml : m < 16 := by rw [← hv]; exact (List.getElem?_eq_some_iff.1 hw).1
    rw [keepD (by omega)] at hm
    exact h.tab m w hw hm
  · rw [keepD (show 16 ≠ 19 by omega), keepD (show 18 ≠ 19 by omega)]
    intro h17
    obtain ⟨γ, g1, g2, g3⟩ := h.b7 h17
    have hg : γ ≠ β := by
      rintro rfl
      exact h.ne h17 h16 (g1.trans hs.symm)
    exact ⟨γ, g1, by rw [box_upd, if_neg hg]; exact g2, g3⟩
  · intro _
    refine ⟨β, hs, ?_, hn⟩
    rw [newD, box_upd, if_pos rfl]; rfl
  · rw [keepD (show 16 ≠ 19 by omega), keepD (show 17 ≠ 19 by omega)]; exact h.ne
  · rw [keepD (show 18 ≠ 19 by omega), keepD (show 16 ≠ 19 by omega)]; exact h.d18
  · intro _; rw [keepD (show 17 ≠ 19 by omega)]; exact h16
set_option maxHeartbeats 4000000 in
theorem same_inv {P : Program} {cs ds wsC vsC : List AV} {N n k i : Nat} {a b : AV} {q1 q2 : Bool} {t1 t2 : List UInt8} {c1 c2 : Int} {σ : St} {K : Fr → St → Prop} {h : Hold (smOps, [(0, AV.sl false N cs), (1, AV.sl false N ds), (5, AV.int .i64 k), (6, AV.int .i64 i)], σ, K)}
    (hk : k < N) (hc : k * 2 + 2 ≤ cs.length) (hd : k * 2 + 2 ≤ ds.length) (hi : i < n) (hw : i * 3 + 3 ≤ wsC.length) (hv : i * 3 + 3 ≤ vsC.length)
    (g1 : (cs.drop (k * 2)).take 2 = [a, .sl false n wsC]) (g2 : (ds.drop (k * 2)).take 2 = [b, .sl false n vsC])
    (g3 : (wsC.drop (i * 3)).take 3 = [.bool q1, .str t1, .int .i64 c1]) (g4 : (vsC.drop (i * 3)).take 3 = [.bool q2, .str t2, .int .i64 c2])
    (hK : ∀ fr σ' β γ, slot 0 fr = .sl false N cs → slot 1 fr = .sl false N ds → slot 5 fr = .int .i64 k → slot 6 fr = .int .i64 i → slot 7 fr = .ptr β 0 → slot 8 fr = .ptr γ 0 → σ'.box β = some [.bool q1, .str t1, .int .i64 c1] → σ'.box γ = some [.bool q2, .str t2, .int .i64 c2] → St.le σ σ' → K fr σ') :
    invV P smOps smDps [(0, .sl false N cs), (1, .sl false N ds), (5, .int .i64 k), (6, .int .i64 i)] σ K h := by
  obtain ⟨vals, hvals⟩ : ∃ vals, vals = smV cs ds wsC vsC N n k i a b [.bool q1, .str t1, .int .i64 c1] [.bool q2, .str t2, .int .i64 c2] := ⟨_, rfl⟩
  have hl : vals.length = 16 := by rw [hvals]; rfl
  refine ⟨SmI σ vals (.sl false N cs) (.sl false N ds) k i [.bool q1, .str t1, .int .i64 c1] [.bool q2, .str t2, .int .i64 c2], ⟨rfl, rfl, rfl, rfl, fun _ _ _ h => (by cases h), St.le_refl _, (fun h => by cases h), (fun h => by cases h), (fun h => by cases h), (fun h => by cases h), (fun h => by cases h)⟩, ?_, ?_⟩
  · intro D j ins hj hD hdep fr σ' hI
    have tb : ∀ m w, vals[m]? = some w → D m = true → slot (43 + m) fr = w := hI.tab
    rw [hvals] at tb
    have hjl : j < 20 := (List.getElem?_eq_some_iff.1 hj).1
    have ik : (intOfA (.int .i64 (k : Int))).toNat = k := rfl
    have ii : (intOfA (.int .i64 (i : Int))).toNat = i := rfl
    match j, hjl with
    | 0, _ =>
      cases hj
      have st := smI_pure hI (j := 0) (by omega) (by rw [hvals]; rfl)
      simp only [aOps, aOp, putF, ev, ps, pf, slv, pcells, hI.s0]
      exact ⟨trivial, st⟩
    | 1, _ =>
      cases hj
      have st := smI_pure hI (j := 1) (by omega) (by rw [hvals]; rfl)
      simp only [aOps, aOp, putF, ev, ps, pf, slv, pcells, hI.s5]
      exact ⟨trivial, st⟩
    | 2, _ =>
      cases hj
      simp only [smDps, List.getD_cons_succ, List.getD_cons_zero, List.all_cons, List.all_nil, Bool.and_true, Bool.and_eq_true] at hdep
      have f1 : slot 43 fr = _ := tb 0 _ rfl hdep.1
      have f2 : slot 44 fr = _ := tb 1 _ rfl hdep.2
      have st := smI_pure hI (j := 2) (by omega) (by rw [hvals]; rfl)
      simp only [aOps, aOp, putF, ev, ps, pf, slv, pcells, f1, f2]
      rw [ik, g1]
      exact ⟨⟨trivial, Int.natCast_nonneg k, Int.ofNat_lt.2 hk, hc⟩, st⟩
    | 3, _ =>
      cases hj
      simp only [smDps, List.getD_cons_succ, List.getD_cons_zero, List.all_cons, List.all_nil, Bool.and_true, Bool.and_eq_true] at hdep
      have f1 : slot 45 fr = _ := tb 2 _ rfl hdep
      have st := smI_pure hI (j := 3) (by omega) (by rw [hvals]; rfl)
      simp only [aOps, aOp, putF, ev, ps, pf, slv, pcells, f1]
      exact ⟨by simp, st⟩
    | 4, _ =>
      cases hj
      simp only [smDps, List.getD_cons_succ, List.getD_cons_zero, List.all_cons, List.all_nil, Bool.and_true, Bool.and_eq_true] at hdep
      have f1 : slot 46 fr = _ := tb 3 _ rfl hdep
      have st := smI_pure hI (j := 4) (by omega) (by rw [hvals]; rfl)
      simp only [aOps, aOp, putF, ev, ps, pf, slv, pcells, f1]
      exact ⟨by simp [ldS, AV.one], st⟩
    | 5, _ =>
      cases hj
      have st := smI_pure hI (j := 5) (by omega) (by rw [hvals]; rfl)
      simp only [aOps, aOp, putF, ev, ps, pf, slv, pcells, hI.s6]
      exact ⟨trivial, st⟩
    | 6, _ =>
      cases hj
      simp only [smDps, List.getD_cons_succ, List.getD_cons_zero, List.all_cons, List.all_nil, Bool.and_true, Bool.and_eq_true] at hdep
      have f1 : slot 47 fr = _ := tb 4 _ rfl hdep.1
      have f2 : slot 48 fr = _ := tb 5 _ rfl hdep.2
      have st := smI_pure hI (j := 6) (by omega) (by rw [hvals]; rfl)
      simp only [aOps, aOp, putF, ev, ps, pf, slv, pcells, f1, f2]
      rw [ii, g3]
      exact ⟨⟨trivial, Int.natCast_nonneg i, Int.ofNat_lt.2 hi, hw⟩, st⟩
    | 7, _ =>
      cases hj
      simp only [smDps, List.getD_cons_succ, List.getD_cons_zero, List.all_cons, List.all_nil, Bool.and_true, Bool.and_eq_true] at hdep
      have f1 : slot 49 fr = _ := tb 6 _ rfl hdep
      have st := smI_pure hI (j := 7) (by omega) (by rw [hvals]; rfl)
      simp only [aOps, aOp, putF, ev, ps, pf, slv, pcells, f1]
      exact ⟨by simp [ldS, AV.one], st⟩
    | 8, _ =>
      cases hj
      have st := smI_pure hI (j := 8) (by omega) (by rw [hvals]; rfl)
      simp only [aOps, aOp, putF, ev, ps, pf, slv, pcells, hI.s1]
      exact ⟨trivial, st⟩
    | 9, _ =>
      cases hj
      have st := smI_pure hI (j := 9) (by omega) (by rw [hvals]; rfl)
      simp only [aOps, aOp, putF, ev, ps, pf, slv, pcells, hI.s5]
      exact ⟨trivial, st⟩
    | 10, _ =>
      cases hj
      simp only [smDps, List.getD_cons_succ, List.getD_cons_zero, List.all_cons, List.all_nil, Bool.and_true, Bool.and_eq_true] at hdep
      have f1 : slot 51 fr = _ := tb 8 _ rfl hdep.1
      have f2 : slot 52 fr = _ := tb 9 _ rfl hdep.2
      have st := smI_pure hI (j := 10) (by omega) (by rw [hvals]; rfl)
      simp only [aOps, aOp, putF, ev, ps, pf, slv, pcells, f1, f2]
      rw [ik, g2]
      exact ⟨⟨trivial, Int.natCast_nonneg k, Int.ofNat_lt.2 hk, hd⟩, st⟩
    | 11, _ =>
      cases hj
      simp only [smDps, List.getD_cons_succ, List.getD_cons_zero, List.all_cons, List.all_nil, Bool.and_true, Bool.and_eq_true] at hdep
      have f1 : slot 53 fr = _ := tb 10 _ rfl hdep
      have st := smI_pure hI (j := 11) (by omega) (by rw [hvals]; rfl)
      simp only [aOps, aOp, putF, ev, ps, pf, slv, pcells, f1]
      exact ⟨by simp, st⟩
    | 12, _ =>
      cases hj
      simp only [smDps, List.getD_cons_succ, List.getD_cons_zero, List.all_cons, List.all_nil, Bool.and_true, Bool.and_eq_true] at hdep
      have f1 : slot 54 fr = _ := tb 11 _ rfl hdep
      have st := smI_pure hI (j := 12) (by omega) (by rw [hvals]; rfl)
      simp only [aOps, aOp, putF, ev, ps, pf, slv, pcells, f1]
      exact ⟨by simp [ldS, AV.one], st⟩
    | 13, _ =>
      cases hj
      have st := smI_pure hI (j := 13) (by omega) (by rw [hvals]; rfl)
      simp only [aOps, aOp, putF, ev, ps, pf, slv, pcells, hI.s6]
      exact ⟨trivial, st⟩
    | 14, _ =>
      cases hj
      simp only [smDps, List.getD_cons_succ, List.getD_cons_zero, List.all_cons, List.all_nil, Bool.and_true, Bool.and_eq_true] at hdep
      have f1 : slot 55 fr = _ := tb 12 _ rfl hdep.1
      have f2 : slot 56 fr = _ := tb 13 _ rfl hdep.2
      have st := smI_pure hI (j := 14) (by omega) (by rw [hvals]; rfl)
      simp only [aOps, aOp, putF, ev, ps, pf, slv, pcells, f1, f2]
      rw [ii, g4]
      exact ⟨⟨trivial, Int.natCast_nonneg i, Int.ofNat_lt.2 hi, hv⟩, st⟩
    | 15, _ =>
      cases hj
      simp only [smDps, List.getD_cons_succ, List.getD_cons_zero, List.all_cons, List.all_nil, Bool.and_true, Bool.and_eq_true] at hdep
      have f1 : slot 57 fr = _ := tb 14 _ rfl hdep
      have st := smI_pure hI (j := 15) (by omega) (by rw [hvals]; rfl)
      simp only [aOps, aOp, putF, ev, ps, pf, slv, pcells, f1]
      exact ⟨by simp [ldS, AV.one], st⟩
    | 16, _ =>
      cases hj
      exact fun β hβ => smI_a7 hl hI hD hβ
    | 17, _ =>
      cases hj
      exact fun β hβ => smI_a8 hl hI hD hβ
    | 18, _ =>
      cases hj
      have h16 : D 16 = true := List.all_eq_true.1 hdep 16 (by decide)
      have f1 : slot 50 fr = _ := tb 7 _ rfl (List.all_eq_true.1 hdep 7 (by decide))
      obtain ⟨β, e1, e2, e3⟩ := hI.b7 h16
      rw [hD] at e2
      have st := smI_s7 hl hI h16 e1 e3
      simp only [aOps, aOp, putF, ev, e1, e2, f1, cond_false]
      exact ⟨rfl, rfl, by decide, st⟩
    | 19, _ =>
      cases hj
      have h17 : D 17 = true := List.all_eq_true.1 hdep 17 (by decide)
      have f1 : slot 58 fr = _ := tb 15 _ rfl (List.all_eq_true.1 hdep 15 (by decide))
      obtain ⟨β, e1, e2, e3⟩ := hI.b8 h17
      rw [hD] at e2
      have st := smI_s8 hl hI h17 e1 e3
      simp only [aOps, aOp, putF, ev, e1, e2, f1, cond_false]
      exact ⟨rfl, rfl, by decide, st⟩
  · intro D fr σ' hend hI
    have h0 : D 0 = true := (hend 0 (by decide)).resolve_right (by simp [smDps])
    have h1 : D 1 = true := (hend 1 (by decide)).resolve_right (by simp [smDps])
    have h2 : D 2 = true := (hend 2 (by decide)).resolve_right (by simp [smDps, h0, h1])
    have h3 : D 3 = true := (hend 3 (by decide)).resolve_right (by simp [smDps, h2])
    have h4 : D 4 = true := (hend 4 (by decide)).resolve_right (by simp [smDps, h3])
    have h5 : D 5 = true := (hend 5 (by decide)).resolve_right (by simp [smDps])
    have h6 : D 6 = true := (hend 6 (by decide)).resolve_right (by simp [smDps, h4, h5])
    have h7 : D 7 = true := (hend 7 (by decide)).resolve_right (by simp [smDps, h6])
    have h8 : D 8 = true := (hend 8 (by decide)).resolve_right (by simp [smDps])
    have h9 : D 9 = true := (hend 9 (by decide)).resolve_right (by simp [smDps])
    have h10 : D 10 = true := (hend 10 (by decide)).resolve_right (by simp [smDps, h8, h9])
    have h11 : D 11 = true := (hend 11 (by decide)).resolve_right (by simp [smDps, h10])
    have h12 : D 12 = true := (hend 12 (by decide)).resolve_right (by simp [smDps, h11])
    have h13 : D 13 = true := (hend 13 (by decide)).resolve_right (by simp [smDps])
    have h14 : D 14 = true := (hend 14 (by decide)).resolve_right (by simp [smDps, h12, h13])
    have h15 : D 15 = true := (hend 15 (by decide)).resolve_right (by simp [smDps, h14])
    have h16 : D 16 = true := (hend 16 (by decide)).resolve_right (by simp [smDps])
    have h17 : D 17 = true := (hend 17 (by decide)).resolve_right (by simp [smDps])
    have h18 : D 18 = true := (hend 18 (by decide)).resolve_right (by simp [smDps, h0, h1, h2, h3, h4, h5, h6, h7, h16, h17])
    have h19 : D 19 = true := (hend 19 (by decide)).resolve_right (by simp [smDps, h0, h1, h2, h3, h4, h5, h6, h7, h8, h9, h10, h11, h12, h13, h14, h15, h16, h17, h18])
    obtain ⟨β, e1, e2, _⟩ := hI.b7 h16
    obtain ⟨γ, e3, e4, _⟩ := hI.b8 h17
    rw [h18] at e2
    rw [h19] at e4
    exact hK fr σ' β γ hI.s0 hI.s1 hI.s5 hI.s6 e1 e3 e2 e4 hI.le
end Go.Proofs.YtemddijemikleaaDoor
