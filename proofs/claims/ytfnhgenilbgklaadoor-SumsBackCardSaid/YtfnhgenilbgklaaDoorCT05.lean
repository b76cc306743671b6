import Derived.Test.YtfnhgenilbgklaaDoorRows
import Derived.Test.YtfnhgenilbgklaaDoorAbs18
namespace Go.Proofs.YtfnhgenilbgklaaDoor
open Go.Abs
set_option maxRecDepth 100000

/-- partywall/partywalllaw05.SumsLists -/
def ec3 : CF := ⟨(.seq (.keep [0] (.ops [⟨some 2, .mv (.c (.bool false)), none⟩]))
    (.seq (.seq (.keep [0] (.ops [⟨some 13, .mv (.t 0), none⟩, ⟨some 14, .len (.t 13), none⟩, ⟨some 15, .bin .gtr (.t 14) (.c (.int .i64 100)), none⟩]))
    (.cond (.t 15)
      (.seq (.keep [] (.ops [⟨some 16, .call 11 [], none⟩, ⟨some 2, .mv (.t 16), none⟩]))
      .ret)
      .skip))
    (.seq (.keep [0] (.ops [⟨some 17, .mkSl 1 0 [] [], none⟩, ⟨some 18, .mv (.t 0), none⟩, ⟨some 19, .app true 2 1 8 (.t 17) (.t 18), none⟩, ⟨some 3, .mv (.t 19), none⟩]))
    (.seq (.keep [0, 3] (.ops [⟨some 21, .mv (.t 3), none⟩, ⟨some 22, .call 12 [(.t 21)], none⟩, ⟨some 20, .mv (.t 22), none⟩, ⟨some 23, .ext (.t 20) 0, none⟩, ⟨some 24, .ext (.t 20) 1, none⟩, ⟨some 4, .mv (.t 23), none⟩, ⟨some 5, .mv (.t 24), none⟩]))
    (.seq (.keep [0, 3, 4, 5] (.ops [⟨some 26, .mv (.t 0), none⟩, ⟨some 27, .call 13 [(.t 26)], none⟩, ⟨some 25, .mv (.t 27), none⟩, ⟨some 28, .ext (.t 25) 0, none⟩, ⟨some 29, .ext (.t 25) 1, none⟩, ⟨some 6, .mv (.t 28), none⟩, ⟨some 7, .mv (.t 29), none⟩]))
    (.seq (.keep [0, 3, 4, 5, 6, 7] (.ops [⟨some 31, .mv (.t 3), none⟩, ⟨some 32, .call 14 [(.t 31)], none⟩, ⟨some 30, .mv (.t 32), none⟩, ⟨some 33, .ext (.t 30) 0, none⟩, ⟨some 34, .ext (.t 30) 1, none⟩, ⟨some 8, .mv (.t 33), none⟩, ⟨some 9, .mv (.t 34), none⟩]))
    (.seq (.keep [0, 3, 4, 5, 6, 7, 8, 9] (.ops [⟨some 36, .mv (.t 0), none⟩, ⟨some 37, .call 15 [(.t 36)], none⟩, ⟨some 35, .mv (.t 37), none⟩, ⟨some 38, .ext (.t 35) 0, none⟩, ⟨some 39, .ext (.t 35) 1, none⟩, ⟨some 10, .mv (.t 38), none⟩, ⟨some 11, .mv (.t 39), none⟩]))
    (.seq (.seq (.keep [0, 3, 4, 5, 6, 7, 8, 9, 10, 11] (.ops [⟨some 40, .mv (.t 4), none⟩, ⟨some 41, .mv (.t 6), none⟩, ⟨some 42, .bin .neq (.t 40) (.t 41), none⟩, ⟨some 43, .mv (.t 42), none⟩, ⟨some 44, .mv (.t 5), some (43, false)⟩, ⟨some 45, .mv (.t 7), some (43, false)⟩, ⟨some 46, .bin .neq (.t 44) (.t 45), some (43, false)⟩, ⟨some 47, .pick (.t 43) (.c (.bool true)) (.t 46), none⟩, ⟨some 48, .mv (.t 47), none⟩, ⟨some 49, .mv (.t 9), some (48, false)⟩, ⟨some 50, .mv (.t 11), some (48, false)⟩, ⟨some 51, .bin .neq (.t 49) (.t 50), some (48, false)⟩, ⟨some 52, .pick (.t 48) (.c (.bool true)) (.t 51), none⟩, ⟨some 53, .mv (.t 52), none⟩, ⟨some 54, .mv (.t 8), some (53, false)⟩, ⟨some 55, .len (.t 54), some (53, false)⟩, ⟨some 56, .mv (.t 10), some (53, false)⟩, ⟨some 57, .len (.t 56), some (53, false)⟩, ⟨some 58, .bin .neq (.t 55) (.t 57), some (53, false)⟩, ⟨some 59, .pick (.t 53) (.c (.bool true)) (.t 58), none⟩]))
    (.cond (.t 59)
      (.seq (.keep [] (.ops [⟨some 2, .mv (.c (.bool false)), none⟩]))
      .ret)
      .skip))
    (.seq (.seq (.keep [0, 3, 8, 10] (.ops [⟨some 12, .mv (.c (.int .i64 0)), none⟩]))
    (.block 0 (.loop (.seq (.seq (.keep [0, 3, 8, 10, 12] (.ops [⟨some 60, .mv (.t 12), none⟩, ⟨some 61, .mv (.t 0), none⟩, ⟨some 62, .len (.t 61), none⟩, ⟨some 63, .bin .lss (.t 60) (.t 62), none⟩]))
    (.cond (.t 63)
      .skip
      (.exit 0)))
    (.seq (.block 1 (.seq (.keep [0, 3, 8, 10, 12] (.drw [⟨some 66, .mv (.t 3), none⟩, ⟨some 67, .mv (.t 12), none⟩, ⟨some 68, .ixA 1 (.t 66) (.t 67), none⟩, ⟨some 69, .ld (none) (.t 68), none⟩, ⟨some 70, .mv (.t 0), none⟩, ⟨some 71, .mv (.t 12), none⟩, ⟨some 72, .ixA 1 (.t 70) (.t 71), none⟩, ⟨some 73, .ld (none) (.t 72), none⟩, ⟨some 74, .bin .neq (.t 69) (.t 73), none⟩, ⟨some 75, .mv (.t 74), none⟩, ⟨some 76, .mv (.t 12), some (75, false)⟩, ⟨some 77, .mv (.t 8), some (75, false)⟩, ⟨some 78, .len (.t 77), some (75, false)⟩, ⟨some 79, .bin .lss (.t 76) (.t 78), some (75, false)⟩, ⟨some 80, .mv (.t 79), some (75, false)⟩, ⟨some 81, .mv (.t 8), some (80, true)⟩, ⟨some 82, .mv (.t 12), some (80, true)⟩, ⟨some 83, .ixA 1 (.t 81) (.t 82), some (80, true)⟩, ⟨some 84, .ld (none) (.t 83), some (80, true)⟩, ⟨some 85, .mv (.t 10), some (80, true)⟩, ⟨some 86, .mv (.t 12), some (80, true)⟩, ⟨some 87, .ixA 1 (.t 85) (.t 86), some (80, true)⟩, ⟨some 88, .ld (none) (.t 87), some (80, true)⟩, ⟨some 89, .bin .neq (.t 84) (.t 88), some (80, true)⟩, ⟨some 90, .pick (.t 80) (.t 89) (.c (.bool false)), some (75, false)⟩, ⟨some 91, .pick (.t 75) (.c (.bool true)) (.t 90), none⟩] [0, 0, 0, 1, 0, 0, 0, 1, 0, 0, 0, 0, 0, 0, 0, 0, 0, 0, 1, 0, 0, 0, 1, 0, 0, 0]))
    (.cond (.t 91)
      (.seq (.keep [] (.ops [⟨some 2, .mv (.c (.bool false)), none⟩]))
      .ret)
      .skip)))
    (.keep [0, 3, 8, 10, 12] (.ops [⟨some 64, .mv (.t 12), none⟩, ⟨some 65, .bin .add (.t 64) (.c (.int .i64 1)), none⟩, ⟨some 12, .mv (.t 65), none⟩])))))))
    (.seq (.keep [] (.ops [⟨some 92, .call 11 [], none⟩, ⟨some 2, .mv (.t 92), none⟩]))
    .ret)))))))))), [.t 2], 93⟩
theorem eb3 : fB Tryd.prog 3 ec3 = true := by kernel_rfl

/-- partywall/partywalllaw05.SumsTexts -/
def ec4 : CF := ⟨(.seq (.keep [0, 1, 2] (.ops [⟨some 6, .mv (.c (.bool false)), none⟩]))
    (.seq (.seq (.keep [0, 1, 2] (.ops [⟨some 15, .mv (.t 1), none⟩, ⟨some 16, .lenS (.t 15), none⟩, ⟨some 17, .bin .gtr (.t 16) (.c (.int .i64 100)), none⟩]))
    (.cond (.t 17)
      (.seq (.keep [] (.ops [⟨some 18, .call 11 [], none⟩, ⟨some 6, .mv (.t 18), none⟩]))
      .ret)
      .skip))
    (.seq (.keep [0, 1, 2] (.ops [⟨some 20, .mv (.t 1), none⟩, ⟨some 21, .call 16 [(.t 20)], none⟩, ⟨some 19, .mv (.t 21), none⟩, ⟨some 22, .ext (.t 19) 0, none⟩, ⟨some 23, .ext (.t 19) 1, none⟩, ⟨some 7, .mv (.t 22), none⟩, ⟨some 8, .mv (.t 23), none⟩]))
    (.seq (.keep [0, 1, 2, 7, 8] (.ops [⟨some 25, .mv (.t 1), none⟩, ⟨some 26, .call 17 [(.t 25)], none⟩, ⟨some 24, .mv (.t 26), none⟩, ⟨some 27, .ext (.t 24) 0, none⟩, ⟨some 28, .ext (.t 24) 1, none⟩, ⟨some 9, .mv (.t 27), none⟩, ⟨some 10, .mv (.t 28), none⟩]))
    (.seq (.keep [0, 1, 2, 7, 8, 9, 10] (.ops [⟨some 30, .mv (.t 1), none⟩, ⟨some 31, .mv (.t 2), none⟩, ⟨some 32, .call 18 [(.t 30), (.t 31)], none⟩, ⟨some 29, .mv (.t 32), none⟩, ⟨some 33, .ext (.t 29) 0, none⟩, ⟨some 34, .ext (.t 29) 1, none⟩, ⟨some 11, .mv (.t 33), none⟩, ⟨some 12, .mv (.t 34), none⟩]))
    (.seq (.keep [0, 1, 2, 7, 8, 9, 10, 11, 12] (.ops [⟨some 36, .mv (.t 1), none⟩, ⟨some 37, .mv (.t 2), none⟩, ⟨some 38, .call 19 [(.t 36), (.t 37)], none⟩, ⟨some 35, .mv (.t 38), none⟩, ⟨some 39, .ext (.t 35) 0, none⟩, ⟨some 40, .ext (.t 35) 1, none⟩, ⟨some 13, .mv (.t 39), none⟩, ⟨some 14, .mv (.t 40), none⟩]))
    (.seq (.keep [0, 7, 8, 9, 10, 11, 12, 13, 14] (.ops [⟨some 41, .mv (.t 0), none⟩, ⟨some 42, .call 20 [(.t 41)], none⟩, ⟨some 43, .mv (.t 0), none⟩, ⟨some 44, .call 21 [(.t 43)], none⟩, ⟨some 45, .bin .eql (.t 42) (.t 44), none⟩, ⟨some 46, .mv (.t 45), none⟩, ⟨some 47, .mv (.t 7), some (46, true)⟩, ⟨some 48, .mv (.t 9), some (46, true)⟩, ⟨some 49, .bin .eql (.t 47) (.t 48), some (46, true)⟩, ⟨some 50, .pick (.t 46) (.t 49) (.c (.bool false)), none⟩, ⟨some 51, .mv (.t 50), none⟩, ⟨some 52, .mv (.t 8), some (51, true)⟩, ⟨some 53, .mv (.t 10), some (51, true)⟩, ⟨some 54, .bin .eql (.t 52) (.t 53), some (51, true)⟩, ⟨some 55, .pick (.t 51) (.t 54) (.c (.bool false)), none⟩, ⟨some 56, .mv (.t 55), none⟩, ⟨some 57, .mv (.t 11), some (56, true)⟩, ⟨some 58, .mv (.t 13), some (56, true)⟩, ⟨some 59, .bin .eql (.t 57) (.t 58), some (56, true)⟩, ⟨some 60, .pick (.t 56) (.t 59) (.c (.bool false)), none⟩, ⟨some 61, .mv (.t 60), none⟩, ⟨some 62, .mv (.t 12), some (61, true)⟩, ⟨some 63, .mv (.t 14), some (61, true)⟩, ⟨some 64, .bin .eql (.t 62) (.t 63), some (61, true)⟩, ⟨some 65, .pick (.t 61) (.t 64) (.c (.bool false)), none⟩, ⟨some 66, .mv (.t 65), none⟩, ⟨some 67, .call 11 [], some (66, true)⟩, ⟨some 68, .pick (.t 66) (.t 67) (.c (.bool false)), none⟩, ⟨some 6, .mv (.t 68), none⟩]))
    .ret))))))), [.t 6], 69⟩
theorem eb4 : fB Tryd.prog 4 ec4 = true := by kernel_rfl

/-- partywall/partywalllaw05.SumsTwo -/
def ec5 : CF := ⟨(.seq (.keep [0, 1, 2] (.ops [⟨some 6, .mv (.c (.bool false)), none⟩]))
    (.seq (.keep [0, 1, 2] (.ops [⟨some 22, .mv (.t 0), none⟩, ⟨some 23, .mv (.t 1), none⟩, ⟨some 24, .call 22 [(.t 22), (.t 23)], none⟩, ⟨some 21, .mv (.t 24), none⟩, ⟨some 25, .ext (.t 21) 0, none⟩, ⟨some 26, .ext (.t 21) 1, none⟩, ⟨some 7, .mv (.t 25), none⟩, ⟨some 8, .mv (.t 26), none⟩]))
    (.seq (.keep [0, 1, 2, 7, 8] (.ops [⟨some 28, .mv (.t 0), none⟩, ⟨some 29, .mv (.t 1), none⟩, ⟨some 30, .call 23 [(.t 28), (.t 29)], none⟩, ⟨some 27, .mv (.t 30), none⟩, ⟨some 31, .ext (.t 27) 0, none⟩, ⟨some 32, .ext (.t 27) 1, none⟩, ⟨some 9, .mv (.t 31), none⟩, ⟨some 10, .mv (.t 32), none⟩]))
    (.seq (.seq (.keep [0, 1, 2, 7, 8, 9, 10] (.ops [⟨some 33, .mv (.t 7), none⟩, ⟨some 34, .mv (.t 9), none⟩, ⟨some 35, .bin .neq (.t 33) (.t 34), none⟩, ⟨some 36, .mv (.t 35), none⟩, ⟨some 37, .mv (.t 8), some (36, false)⟩, ⟨some 38, .mv (.t 10), some (36, false)⟩, ⟨some 39, .bin .neq (.t 37) (.t 38), some (36, false)⟩, ⟨some 40, .pick (.t 36) (.c (.bool true)) (.t 39), none⟩]))
    (.cond (.t 40)
      (.seq (.keep [] (.ops [⟨some 6, .mv (.c (.bool false)), none⟩]))
      .ret)
      .skip))
    (.seq (.keep [0, 1, 2] (.ops [⟨some 42, .mv (.t 0), none⟩, ⟨some 43, .mv (.t 1), none⟩, ⟨some 44, .call 24 [(.t 42), (.t 43)], none⟩, ⟨some 41, .mv (.t 44), none⟩, ⟨some 45, .ext (.t 41) 0, none⟩, ⟨some 46, .ext (.t 41) 1, none⟩, ⟨some 7, .mv (.t 45), none⟩, ⟨some 8, .mv (.t 46), none⟩]))
    (.seq (.keep [0, 1, 2, 7, 8] (.ops [⟨some 48, .mv (.t 0), none⟩, ⟨some 49, .mv (.t 1), none⟩, ⟨some 50, .call 25 [(.t 48), (.t 49)], none⟩, ⟨some 47, .mv (.t 50), none⟩, ⟨some 51, .ext (.t 47) 0, none⟩, ⟨some 52, .ext (.t 47) 1, none⟩, ⟨some 9, .mv (.t 51), none⟩, ⟨some 10, .mv (.t 52), none⟩]))
    (.seq (.seq (.keep [0, 1, 2, 7, 8, 9, 10] (.ops [⟨some 53, .mv (.t 7), none⟩, ⟨some 54, .mv (.t 9), none⟩, ⟨some 55, .bin .neq (.t 53) (.t 54), none⟩, ⟨some 56, .mv (.t 55), none⟩, ⟨some 57, .mv (.t 8), some (56, false)⟩, ⟨some 58, .mv (.t 10), some (56, false)⟩, ⟨some 59, .bin .neq (.t 57) (.t 58), some (56, false)⟩, ⟨some 60, .pick (.t 56) (.c (.bool true)) (.t 59), none⟩]))
    (.cond (.t 60)
      (.seq (.keep [] (.ops [⟨some 6, .mv (.c (.bool false)), none⟩]))
      .ret)
      .skip))
    (.seq (.keep [0, 1, 2] (.ops [⟨some 62, .mv (.t 0), none⟩, ⟨some 63, .mv (.t 1), none⟩, ⟨some 64, .call 26 [(.t 62), (.t 63)], none⟩, ⟨some 61, .mv (.t 64), none⟩, ⟨some 65, .ext (.t 61) 0, none⟩, ⟨some 66, .ext (.t 61) 1, none⟩, ⟨some 7, .mv (.t 65), none⟩, ⟨some 8, .mv (.t 66), none⟩]))
    (.seq (.keep [0, 1, 2, 7, 8] (.ops [⟨some 68, .mv (.t 0), none⟩, ⟨some 69, .mv (.t 1), none⟩, ⟨some 70, .call 27 [(.t 68), (.t 69)], none⟩, ⟨some 67, .mv (.t 70), none⟩, ⟨some 71, .ext (.t 67) 0, none⟩, ⟨some 72, .ext (.t 67) 1, none⟩, ⟨some 9, .mv (.t 71), none⟩, ⟨some 10, .mv (.t 72), none⟩]))
    (.seq (.keep [0, 2, 7, 8, 9, 10] (.ops [⟨some 74, .mv (.t 0), none⟩, ⟨some 75, .call 28 [(.t 74)], none⟩, ⟨some 73, .mv (.t 75), none⟩, ⟨some 76, .ext (.t 73) 0, none⟩, ⟨some 77, .ext (.t 73) 1, none⟩, ⟨some 11, .mv (.t 76), none⟩, ⟨some 12, .mv (.t 77), none⟩]))
    (.seq (.keep [0, 2, 7, 8, 9, 10, 11, 12] (.ops [⟨some 79, .mv (.t 0), none⟩, ⟨some 80, .call 29 [(.t 79)], none⟩, ⟨some 78, .mv (.t 80), none⟩, ⟨some 81, .ext (.t 78) 0, none⟩, ⟨some 82, .ext (.t 78) 1, none⟩, ⟨some 13, .mv (.t 81), none⟩, ⟨some 14, .mv (.t 82), none⟩]))
    (.seq (.keep [0, 2, 7, 8, 9, 10, 11, 12, 13, 14] (.ops [⟨some 84, .mv (.t 0), none⟩, ⟨some 85, .mv (.t 2), none⟩, ⟨some 86, .call 30 [(.t 84), (.t 85)], none⟩, ⟨some 83, .mv (.t 86), none⟩, ⟨some 87, .ext (.t 83) 0, none⟩, ⟨some 88, .ext (.t 83) 1, none⟩, ⟨some 89, .ext (.t 83) 2, none⟩, ⟨some 15, .mv (.t 87), none⟩, ⟨some 16, .mv (.t 88), none⟩, ⟨some 17, .mv (.t 89), none⟩]))
    (.seq (.keep [0, 2, 7, 8, 9, 10, 11, 12, 13, 14, 15, 16, 17] (.ops [⟨some 91, .mv (.t 0), none⟩, ⟨some 92, .mv (.t 2), none⟩, ⟨some 93, .call 31 [(.t 91), (.t 92)], none⟩, ⟨some 90, .mv (.t 93), none⟩, ⟨some 94, .ext (.t 90) 0, none⟩, ⟨some 95, .ext (.t 90) 1, none⟩, ⟨some 96, .ext (.t 90) 2, none⟩, ⟨some 18, .mv (.t 94), none⟩, ⟨some 19, .mv (.t 95), none⟩, ⟨some 20, .mv (.t 96), none⟩]))
    (.seq (.keep [7, 8, 9, 10, 11, 12, 13, 14, 15, 16, 17, 18, 19, 20] (.ops [⟨some 97, .mv (.t 7), none⟩, ⟨some 98, .mv (.t 9), none⟩, ⟨some 99, .bin .eql (.t 97) (.t 98), none⟩, ⟨some 100, .mv (.t 99), none⟩, ⟨some 101, .mv (.t 8), some (100, true)⟩, ⟨some 102, .mv (.t 10), some (100, true)⟩, ⟨some 103, .bin .eql (.t 101) (.t 102), some (100, true)⟩, ⟨some 104, .pick (.t 100) (.t 103) (.c (.bool false)), none⟩, ⟨some 105, .mv (.t 104), none⟩, ⟨some 106, .mv (.t 11), some (105, true)⟩, ⟨some 107, .mv (.t 13), some (105, true)⟩, ⟨some 108, .bin .eql (.t 106) (.t 107), some (105, true)⟩, ⟨some 109, .pick (.t 105) (.t 108) (.c (.bool false)), none⟩, ⟨some 110, .mv (.t 109), none⟩, ⟨some 111, .mv (.t 12), some (110, true)⟩, ⟨some 112, .mv (.t 14), some (110, true)⟩, ⟨some 113, .bin .eql (.t 111) (.t 112), some (110, true)⟩, ⟨some 114, .pick (.t 110) (.t 113) (.c (.bool false)), none⟩, ⟨some 115, .mv (.t 114), none⟩, ⟨some 116, .mv (.t 15), some (115, true)⟩, ⟨some 117, .mv (.t 18), some (115, true)⟩, ⟨some 118, .bin .eql (.t 116) (.t 117), some (115, true)⟩, ⟨some 119, .pick (.t 115) (.t 118) (.c (.bool false)), none⟩, ⟨some 120, .mv (.t 119), none⟩, ⟨some 121, .mv (.t 16), some (120, true)⟩, ⟨some 122, .mv (.t 19), some (120, true)⟩, ⟨some 123, .eqb false (.t 121) (.t 122), some (120, true)⟩, ⟨some 124, .pick (.t 120) (.t 123) (.c (.bool false)), none⟩, ⟨some 125, .mv (.t 124), none⟩, ⟨some 126, .mv (.t 17), some (125, true)⟩, ⟨some 127, .mv (.t 20), some (125, true)⟩, ⟨some 128, .bin .eql (.t 126) (.t 127), some (125, true)⟩, ⟨some 129, .pick (.t 125) (.t 128) (.c (.bool false)), none⟩, ⟨some 130, .mv (.t 129), none⟩, ⟨some 131, .call 11 [], some (130, true)⟩, ⟨some 132, .pick (.t 130) (.t 131) (.c (.bool false)), none⟩, ⟨some 6, .mv (.t 132), none⟩]))
    .ret)))))))))))))), [.t 6], 133⟩
theorem eb5 : fB Tryd.prog 5 ec5 = true := by kernel_rfl

/-- partywall/partywalllaw05.SumsCounts -/
def ec6 : CF := ⟨(.seq (.keep [0, 1, 2, 3, 4] (.ops [⟨some 10, .mv (.c (.bool false)), none⟩]))
    (.seq (.keep [0, 1, 2, 3, 4] (.ops [⟨some 24, .mv (.t 0), none⟩, ⟨some 25, .call 32 [(.t 24)], none⟩, ⟨some 23, .mv (.t 25), none⟩, ⟨some 26, .ext (.t 23) 0, none⟩, ⟨some 27, .ext (.t 23) 1, none⟩, ⟨some 11, .mv (.t 26), none⟩, ⟨some 12, .mv (.t 27), none⟩]))
    (.seq (.keep [0, 1, 2, 3, 4, 11, 12] (.ops [⟨some 29, .mv (.t 0), none⟩, ⟨some 30, .call 33 [(.t 29)], none⟩, ⟨some 28, .mv (.t 30), none⟩, ⟨some 31, .ext (.t 28) 0, none⟩, ⟨some 32, .ext (.t 28) 1, none⟩, ⟨some 13, .mv (.t 31), none⟩, ⟨some 14, .mv (.t 32), none⟩]))
    (.seq (.keep [0, 1, 2, 3, 4, 11, 12, 13, 14] (.ops [⟨some 34, .mv (.t 0), none⟩, ⟨some 35, .mv (.t 1), none⟩, ⟨some 36, .call 34 [(.t 34), (.t 35)], none⟩, ⟨some 33, .mv (.t 36), none⟩, ⟨some 37, .ext (.t 33) 0, none⟩, ⟨some 38, .ext (.t 33) 1, none⟩, ⟨some 15, .mv (.t 37), none⟩, ⟨some 16, .mv (.t 38), none⟩]))
    (.seq (.keep [0, 1, 2, 3, 4, 11, 12, 13, 14, 15, 16] (.ops [⟨some 40, .mv (.t 0), none⟩, ⟨some 41, .mv (.t 1), none⟩, ⟨some 42, .call 35 [(.t 40), (.t 41)], none⟩, ⟨some 39, .mv (.t 42), none⟩, ⟨some 43, .ext (.t 39) 0, none⟩, ⟨some 44, .ext (.t 39) 1, none⟩, ⟨some 17, .mv (.t 43), none⟩, ⟨some 18, .mv (.t 44), none⟩]))
    (.seq (.seq (.keep [2, 3, 4, 11, 12, 13, 14, 15, 16, 17, 18] (.ops [⟨some 45, .mv (.t 11), none⟩, ⟨some 46, .mv (.t 13), none⟩, ⟨some 47, .bin .neq (.t 45) (.t 46), none⟩, ⟨some 48, .mv (.t 47), none⟩, ⟨some 49, .mv (.t 12), some (48, false)⟩, ⟨some 50, .mv (.t 14), some (48, false)⟩, ⟨some 51, .bin .neq (.t 49) (.t 50), some (48, false)⟩, ⟨some 52, .pick (.t 48) (.c (.bool true)) (.t 51), none⟩, ⟨some 53, .mv (.t 52), none⟩, ⟨some 54, .mv (.t 15), some (53, false)⟩, ⟨some 55, .mv (.t 17), some (53, false)⟩, ⟨some 56, .bin .neq (.t 54) (.t 55), some (53, false)⟩, ⟨some 57, .pick (.t 53) (.c (.bool true)) (.t 56), none⟩, ⟨some 58, .mv (.t 57), none⟩, ⟨some 59, .mv (.t 16), some (58, false)⟩, ⟨some 60, .mv (.t 18), some (58, false)⟩, ⟨some 61, .bin .neq (.t 59) (.t 60), some (58, false)⟩, ⟨some 62, .pick (.t 58) (.c (.bool true)) (.t 61), none⟩]))
    (.cond (.t 62)
      (.seq (.keep [] (.ops [⟨some 10, .mv (.c (.bool false)), none⟩]))
      .ret)
      .skip))
    (.seq (.keep [2, 3, 4] (.ops [⟨some 64, .mv (.t 2), none⟩, ⟨some 65, .mv (.t 3), none⟩, ⟨some 66, .call 36 [(.t 64), (.t 65)], none⟩, ⟨some 63, .mv (.t 66), none⟩, ⟨some 67, .ext (.t 63) 0, none⟩, ⟨some 68, .ext (.t 63) 1, none⟩, ⟨some 19, .mv (.t 67), none⟩, ⟨some 12, .mv (.t 68), none⟩]))
    (.seq (.keep [2, 3, 4, 12, 19] (.ops [⟨some 70, .mv (.t 2), none⟩, ⟨some 71, .mv (.t 3), none⟩, ⟨some 72, .call 37 [(.t 70), (.t 71)], none⟩, ⟨some 69, .mv (.t 72), none⟩, ⟨some 73, .ext (.t 69) 0, none⟩, ⟨some 74, .ext (.t 69) 1, none⟩, ⟨some 20, .mv (.t 73), none⟩, ⟨some 14, .mv (.t 74), none⟩]))
    (.seq (.keep [2, 3, 4, 12, 14, 19, 20] (.ops [⟨some 76, .mv (.t 2), none⟩, ⟨some 77, .mv (.t 3), none⟩, ⟨some 78, .mv (.t 4), none⟩, ⟨some 79, .call 38 [(.t 76), (.t 77), (.t 78)], none⟩, ⟨some 75, .mv (.t 79), none⟩, ⟨some 80, .ext (.t 75) 0, none⟩, ⟨some 81, .ext (.t 75) 1, none⟩, ⟨some 21, .mv (.t 80), none⟩, ⟨some 16, .mv (.t 81), none⟩]))
    (.seq (.keep [2, 3, 4, 12, 14, 16, 19, 20, 21] (.ops [⟨some 83, .mv (.t 2), none⟩, ⟨some 84, .mv (.t 3), none⟩, ⟨some 85, .mv (.t 4), none⟩, ⟨some 86, .call 39 [(.t 83), (.t 84), (.t 85)], none⟩, ⟨some 82, .mv (.t 86), none⟩, ⟨some 87, .ext (.t 82) 0, none⟩, ⟨some 88, .ext (.t 82) 1, none⟩, ⟨some 22, .mv (.t 87), none⟩, ⟨some 18, .mv (.t 88), none⟩]))
    (.seq (.keep [12, 14, 16, 18, 19, 20, 21, 22] (.ops [⟨some 89, .mv (.t 19), none⟩, ⟨some 90, .mv (.t 20), none⟩, ⟨some 91, .bin .eql (.t 89) (.t 90), none⟩, ⟨some 92, .mv (.t 91), none⟩, ⟨some 93, .mv (.t 12), some (92, true)⟩, ⟨some 94, .mv (.t 14), some (92, true)⟩, ⟨some 95, .bin .eql (.t 93) (.t 94), some (92, true)⟩, ⟨some 96, .pick (.t 92) (.t 95) (.c (.bool false)), none⟩, ⟨some 97, .mv (.t 96), none⟩, ⟨some 98, .mv (.t 21), some (97, true)⟩, ⟨some 99, .mv (.t 22), some (97, true)⟩, ⟨some 100, .bin .eql (.t 98) (.t 99), some (97, true)⟩, ⟨some 101, .pick (.t 97) (.t 100) (.c (.bool false)), none⟩, ⟨some 102, .mv (.t 101), none⟩, ⟨some 103, .mv (.t 16), some (102, true)⟩, ⟨some 104, .mv (.t 18), some (102, true)⟩, ⟨some 105, .bin .eql (.t 103) (.t 104), some (102, true)⟩, ⟨some 106, .pick (.t 102) (.t 105) (.c (.bool false)), none⟩, ⟨some 107, .mv (.t 106), none⟩, ⟨some 108, .call 11 [], some (107, true)⟩, ⟨some 109, .pick (.t 107) (.t 108) (.c (.bool false)), none⟩, ⟨some 10, .mv (.t 109), none⟩]))
    .ret))))))))))), [.t 10], 110⟩
theorem eb6 : fB Tryd.prog 6 ec6 = true := by kernel_rfl

/-- partywall/partywalllaw05.SumsKnown -/
def ec7 : CF := ⟨(.seq (.keep [] (.ops [⟨some 0, .mv (.c (.bool false)), none⟩]))
    (.seq (.keep [] (.ops [⟨some 31, .call 28 [(.c (.int .i64 (-9223372036854775808)))], none⟩, ⟨some 30, .mv (.t 31), none⟩, ⟨some 32, .ext (.t 30) 0, none⟩, ⟨some 33, .ext (.t 30) 1, none⟩, ⟨some 1, .mv (.t 32), none⟩, ⟨some 2, .mv (.t 33), none⟩]))
    (.seq (.keep [2] (.ops [⟨some 35, .call 12 [(.c .nils)], none⟩, ⟨some 34, .mv (.t 35), none⟩, ⟨some 36, .ext (.t 34) 0, none⟩, ⟨some 37, .ext (.t 34) 1, none⟩, ⟨some 3, .mv (.t 36), none⟩, ⟨some 4, .mv (.t 37), none⟩]))
    (.seq (.keep [2, 3, 4] (.ops [⟨some 39, .mkSl 1 3 [.int .i64 0, .int .i64 0, .int .i64 0] [(0, 1, (.c (.int .i64 1))), (1, 1, (.c (.int .i64 2))), (2, 1, (.c (.int .i64 9223372036854775807)))], none⟩, ⟨some 40, .call 14 [(.t 39)], none⟩, ⟨some 38, .mv (.t 40), none⟩, ⟨some 41, .ext (.t 38) 0, none⟩, ⟨some 42, .ext (.t 38) 1, none⟩, ⟨some 5, .mv (.t 41), none⟩, ⟨some 6, .mv (.t 42), none⟩]))
    (.seq (.keep [2, 3, 4, 5, 6] (.ops [⟨some 44, .call 32 [(.c (.int .u64 1099511627776))], none⟩, ⟨some 43, .mv (.t 44), none⟩, ⟨some 45, .ext (.t 43) 0, none⟩, ⟨some 46, .ext (.t 43) 1, none⟩, ⟨some 7, .mv (.t 45), none⟩, ⟨some 8, .mv (.t 46), none⟩]))
    (.seq (.keep [2, 3, 4, 5, 6, 8] (.ops [⟨some 48, .call 32 [(.c (.int .u64 4))], none⟩, ⟨some 47, .mv (.t 48), none⟩, ⟨some 49, .ext (.t 47) 0, none⟩, ⟨some 50, .ext (.t 47) 1, none⟩, ⟨some 9, .mv (.t 49), none⟩, ⟨some 10, .mv (.t 50), none⟩]))
    (.seq (.keep [2, 3, 4, 5, 6, 8, 9, 10] (.ops [⟨some 52, .call 34 [(.c (.int .u64 1099511627776)), (.c (.int .u64 0))], none⟩, ⟨some 51, .mv (.t 52), none⟩, ⟨some 53, .ext (.t 51) 0, none⟩, ⟨some 54, .ext (.t 51) 1, none⟩, ⟨some 11, .mv (.t 53), none⟩, ⟨some 12, .mv (.t 54), none⟩]))
    (.seq (.keep [2, 3, 4, 5, 6, 8, 9, 10, 11, 12] (.ops [⟨some 56, .call 34 [(.c (.int .u64 1099511627776)), (.c (.int .u64 1))], none⟩, ⟨some 55, .mv (.t 56), none⟩, ⟨some 57, .ext (.t 55) 0, none⟩, ⟨some 58, .ext (.t 55) 1, none⟩, ⟨some 13, .mv (.t 57), none⟩, ⟨some 14, .mv (.t 58), none⟩]))
    (.seq (.keep [2, 3, 4, 5, 6, 8, 9, 10, 11, 12, 14] (.ops [⟨some 60, .call 36 [(.c (.int .i64 0)), (.c (.int .i64 9))], none⟩, ⟨some 59, .mv (.t 60), none⟩, ⟨some 61, .ext (.t 59) 0, none⟩, ⟨some 62, .ext (.t 59) 1, none⟩, ⟨some 15, .mv (.t 61), none⟩, ⟨some 16, .mv (.t 62), none⟩]))
    (.seq (.keep [2, 3, 4, 5, 6, 8, 9, 10, 11, 12, 14, 15, 16] (.ops [⟨some 64, .call 36 [(.c (.int .i64 1)), (.c (.int .i64 0))], none⟩, ⟨some 63, .mv (.t 64), none⟩, ⟨some 65, .ext (.t 63) 0, none⟩, ⟨some 66, .ext (.t 63) 1, none⟩, ⟨some 17, .mv (.t 65), none⟩, ⟨some 18, .mv (.t 66), none⟩]))
    (.seq (.keep [2, 3, 4, 5, 6, 8, 9, 10, 11, 12, 14, 15, 16, 18] (.ops [⟨some 68, .call 38 [(.c (.int .i64 8)), (.c (.int .i64 8)), (.c (.int .i64 50))], none⟩, ⟨some 67, .mv (.t 68), none⟩, ⟨some 69, .ext (.t 67) 0, none⟩, ⟨some 70, .ext (.t 67) 1, none⟩, ⟨some 19, .mv (.t 69), none⟩, ⟨some 20, .mv (.t 70), none⟩]))
    (.seq (.keep [2, 3, 4, 5, 6, 8, 9, 10, 11, 12, 14, 15, 16, 18, 19, 20] (.ops [⟨some 72, .call 38 [(.c (.int .i64 6)), (.c (.int .i64 8)), (.c (.int .i64 50))], none⟩, ⟨some 71, .mv (.t 72), none⟩, ⟨some 73, .ext (.t 71) 0, none⟩, ⟨some 74, .ext (.t 71) 1, none⟩, ⟨some 21, .mv (.t 73), none⟩, ⟨some 22, .mv (.t 74), none⟩]))
    (.seq (.keep [2, 3, 4, 5, 6, 8, 9, 10, 11, 12, 14, 15, 16, 18, 19, 20, 21, 22] (.ops [⟨some 76, .call 30 [(.c (.int .i64 5)), (.c (.int .i64 65))], none⟩, ⟨some 75, .mv (.t 76), none⟩, ⟨some 77, .ext (.t 75) 0, none⟩, ⟨some 78, .ext (.t 75) 1, none⟩, ⟨some 79, .ext (.t 75) 2, none⟩, ⟨some 23, .mv (.t 77), none⟩, ⟨some 24, .mv (.t 78), none⟩, ⟨some 25, .mv (.t 79), none⟩]))
    (.seq (.keep [2, 3, 4, 5, 6, 8, 9, 10, 11, 12, 14, 15, 16, 18, 19, 20, 21, 22, 25] (.ops [⟨some 80, .call 40 [(.c (.int .i64 0)), (.c (.int .i64 (-9223372036854775808))), (.c (.int .i64 0)), (.c (.int .i64 16))], none⟩, ⟨some 81, .mv (.t 80), none⟩, ⟨some 82, .call 40 [(.c (.int .i64 (-1))), (.c (.int .i64 (-9223372036854775808))), (.c (.int .i64 9223372036854775807)), (.c (.int .i64 0))], some (81, true)⟩, ⟨some 83, .pick (.t 81) (.t 82) (.c (.bool false)), none⟩, ⟨some 84, .mv (.t 83), none⟩, ⟨some 85, .call 41 [(.c (.int .i64 (-9223372036854775808))), (.c (.int .i64 (-1))), (.c (.int .i64 0)), (.c (.int .i64 16))], some (84, true)⟩, ⟨some 86, .pick (.t 84) (.t 85) (.c (.bool false)), none⟩, ⟨some 87, .mv (.t 86), none⟩, ⟨some 88, .mv (.t 2), some (87, true)⟩, ⟨some 89, .bin .eql (.t 88) (.c (.int .i64 16)), some (87, true)⟩, ⟨some 90, .pick (.t 87) (.t 89) (.c (.bool false)), none⟩, ⟨some 91, .mv (.t 90), none⟩, ⟨some 92, .mv (.t 4), some (91, true)⟩, ⟨some 93, .bin .eql (.t 92) (.c (.int .i64 0)), some (91, true)⟩, ⟨some 94, .pick (.t 91) (.t 93) (.c (.bool false)), none⟩, ⟨some 95, .mv (.t 94), none⟩, ⟨some 96, .mv (.t 3), some (95, true)⟩, ⟨some 97, .bin .eql (.t 96) (.c (.int .i64 0)), some (95, true)⟩, ⟨some 98, .pick (.t 95) (.t 97) (.c (.bool false)), none⟩, ⟨some 99, .mv (.t 98), none⟩, ⟨some 100, .mv (.t 6), some (99, true)⟩, ⟨some 101, .bin .eql (.t 100) (.c (.int .i64 16)), some (99, true)⟩, ⟨some 102, .pick (.t 99) (.t 101) (.c (.bool false)), none⟩, ⟨some 103, .mv (.t 102), none⟩, ⟨some 104, .mv (.t 5), some (103, true)⟩, ⟨some 105, .len (.t 104), some (103, true)⟩, ⟨some 106, .bin .eql (.t 105) (.c (.int .i64 2)), some (103, true)⟩, ⟨some 107, .pick (.t 103) (.t 106) (.c (.bool false)), none⟩, ⟨some 108, .mv (.t 107), none⟩, ⟨some 109, .mv (.t 5), some (108, true)⟩, ⟨some 110, .ixA 1 (.t 109) (.c (.int .i64 0)), some (108, true)⟩, ⟨some 111, .ld (none) (.t 110), some (108, true)⟩, ⟨some 112, .bin .eql (.t 111) (.c (.int .i64 1)), some (108, true)⟩, ⟨some 113, .pick (.t 108) (.t 112) (.c (.bool false)), none⟩, ⟨some 114, .mv (.t 113), none⟩, ⟨some 115, .mv (.t 5), some (114, true)⟩, ⟨some 116, .ixA 1 (.t 115) (.c (.int .i64 1)), some (114, true)⟩, ⟨some 117, .ld (none) (.t 116), some (114, true)⟩, ⟨some 118, .bin .eql (.t 117) (.c (.int .i64 3)), some (114, true)⟩, ⟨some 119, .pick (.t 114) (.t 118) (.c (.bool false)), none⟩, ⟨some 26, .mv (.t 119), none⟩]))
    (.seq (.keep [8, 9, 10, 11, 12, 14, 15, 16, 18, 19, 20, 21, 22, 25, 26] (.ops [⟨some 120, .mv (.t 8), none⟩, ⟨some 121, .bin .eql (.t 120) (.c (.int .i64 6)), none⟩, ⟨some 122, .mv (.t 121), none⟩, ⟨some 123, .mv (.t 10), some (122, true)⟩, ⟨some 124, .bin .eql (.t 123) (.c (.int .i64 0)), some (122, true)⟩, ⟨some 125, .pick (.t 122) (.t 124) (.c (.bool false)), none⟩, ⟨some 126, .mv (.t 125), none⟩, ⟨some 127, .mv (.t 9), some (126, true)⟩, ⟨some 128, .bin .eql (.t 127) (.c (.int .u64 5)), some (126, true)⟩, ⟨some 129, .pick (.t 126) (.t 128) (.c (.bool false)), none⟩, ⟨some 130, .mv (.t 129), none⟩, ⟨some 131, .mv (.t 12), some (130, true)⟩, ⟨some 132, .bin .eql (.t 131) (.c (.int .i64 0)), some (130, true)⟩, ⟨some 133, .pick (.t 130) (.t 132) (.c (.bool false)), none⟩, ⟨some 134, .mv (.t 133), none⟩, ⟨some 135, .mv (.t 11), some (134, true)⟩, ⟨some 136, .bin .eql (.t 135) (.c (.int .u64 1099511627776)), some (134, true)⟩, ⟨some 137, .pick (.t 134) (.t 136) (.c (.bool false)), none⟩, ⟨some 138, .mv (.t 137), none⟩, ⟨some 139, .mv (.t 14), some (138, true)⟩, ⟨some 140, .bin .eql (.t 139) (.c (.int .i64 6)), some (138, true)⟩, ⟨some 141, .pick (.t 138) (.t 140) (.c (.bool false)), none⟩, ⟨some 142, .mv (.t 141), none⟩, ⟨some 143, .mv (.t 16), some (142, true)⟩, ⟨some 144, .bin .eql (.t 143) (.c (.int .i64 0)), some (142, true)⟩, ⟨some 145, .pick (.t 142) (.t 144) (.c (.bool false)), none⟩, ⟨some 146, .mv (.t 145), none⟩, ⟨some 147, .mv (.t 15), some (146, true)⟩, ⟨some 148, .bin .eql (.t 147) (.c (.int .i64 0)), some (146, true)⟩, ⟨some 149, .pick (.t 146) (.t 148) (.c (.bool false)), none⟩, ⟨some 150, .mv (.t 149), none⟩, ⟨some 151, .mv (.t 18), some (150, true)⟩, ⟨some 152, .bin .eql (.t 151) (.c (.int .i64 2)), some (150, true)⟩, ⟨some 153, .pick (.t 150) (.t 152) (.c (.bool false)), none⟩, ⟨some 154, .mv (.t 153), none⟩, ⟨some 155, .mv (.t 20), some (154, true)⟩, ⟨some 156, .bin .eql (.t 155) (.c (.int .i64 0)), some (154, true)⟩, ⟨some 157, .pick (.t 154) (.t 156) (.c (.bool false)), none⟩, ⟨some 158, .mv (.t 157), none⟩, ⟨some 159, .mv (.t 19), some (158, true)⟩, ⟨some 160, .bin .eql (.t 159) (.c (.int .i64 50)), some (158, true)⟩, ⟨some 161, .pick (.t 158) (.t 160) (.c (.bool false)), none⟩, ⟨some 162, .mv (.t 161), none⟩, ⟨some 163, .mv (.t 22), some (162, true)⟩, ⟨some 164, .bin .eql (.t 163) (.c (.int .i64 0)), some (162, true)⟩, ⟨some 165, .pick (.t 162) (.t 164) (.c (.bool false)), none⟩, ⟨some 166, .mv (.t 165), none⟩, ⟨some 167, .mv (.t 21), some (166, true)⟩, ⟨some 168, .bin .eql (.t 167) (.c (.int .i64 48)), some (166, true)⟩, ⟨some 169, .pick (.t 166) (.t 168) (.c (.bool false)), none⟩, ⟨some 27, .mv (.t 169), none⟩]))
    (.seq (.keep [25, 26, 27] (.ops [⟨some 170, .call 42 [(.c (.str [45, 57, 50, 50, 51, 51, 55, 50, 48, 51, 54, 56, 53, 52, 55, 55, 53, 56, 48, 56])), (.c (.int .i64 (-9223372036854775808))), (.c (.int .i64 0))], none⟩, ⟨some 171, .mv (.t 170), none⟩, ⟨some 172, .call 42 [(.c (.str [57, 50, 50, 51, 51, 55, 50, 48, 51, 54, 56, 53, 52, 55, 55, 53, 56, 48, 56])), (.c (.int .i64 0)), (.c (.int .i64 2))], some (171, true)⟩, ⟨some 173, .pick (.t 171) (.t 172) (.c (.bool false)), none⟩, ⟨some 174, .mv (.t 173), none⟩, ⟨some 175, .call 42 [(.c (.str [45, 48])), (.c (.int .i64 0)), (.c (.int .i64 3))], some (174, true)⟩, ⟨some 176, .pick (.t 174) (.t 175) (.c (.bool false)), none⟩, ⟨some 177, .mv (.t 176), none⟩, ⟨some 178, .call 42 [(.c (.str [43, 49])), (.c (.int .i64 0)), (.c (.int .i64 3))], some (177, true)⟩, ⟨some 179, .pick (.t 177) (.t 178) (.c (.bool false)), none⟩, ⟨some 180, .mv (.t 179), none⟩, ⟨some 181, .call 42 [(.c (.str [])), (.c (.int .i64 0)), (.c (.int .i64 3))], some (180, true)⟩, ⟨some 182, .pick (.t 180) (.t 181) (.c (.bool false)), none⟩, ⟨some 28, .mv (.t 182), none⟩]))
    (.seq (.keep [25, 26, 27, 28] (.ops [⟨some 183, .call 43 [(.c (.str [54, 51])), (.c (.int .u64 63)), (.c (.int .u64 63)), (.c (.int .i64 0))], none⟩, ⟨some 184, .mv (.t 183), none⟩, ⟨some 185, .call 43 [(.c (.str [54, 52])), (.c (.int .u64 63)), (.c (.int .u64 0)), (.c (.int .i64 2))], some (184, true)⟩, ⟨some 186, .pick (.t 184) (.t 185) (.c (.bool false)), none⟩, ⟨some 187, .mv (.t 186), none⟩, ⟨some 188, .call 43 [(.c (.str [49, 56, 52, 52, 54, 55, 52, 52, 48, 55, 51, 55, 48, 57, 53, 53, 49, 54, 49, 53])), (.c (.int .u64 18446744073709551615)), (.c (.int .u64 18446744073709551615)), (.c (.int .i64 0))], some (187, true)⟩, ⟨some 189, .pick (.t 187) (.t 188) (.c (.bool false)), none⟩, ⟨some 190, .mv (.t 189), none⟩, ⟨some 191, .call 43 [(.c (.str [45, 49])), (.c (.int .u64 9)), (.c (.int .u64 0)), (.c (.int .i64 3))], some (190, true)⟩, ⟨some 192, .pick (.t 190) (.t 191) (.c (.bool false)), none⟩, ⟨some 193, .mv (.t 192), none⟩, ⟨some 194, .call 44 [(.c (.int .i64 255)), (.c (.int .i64 8)), (.c (.int .i64 (-1))), (.c (.bool false))], some (193, true)⟩, ⟨some 195, .pick (.t 193) (.t 194) (.c (.bool false)), none⟩, ⟨some 196, .mv (.t 195), none⟩, ⟨some 197, .call 44 [(.c (.int .i64 (-1))), (.c (.int .i64 1)), (.c (.int .i64 (-1))), (.c (.bool true))], some (196, true)⟩, ⟨some 198, .pick (.t 196) (.t 197) (.c (.bool false)), none⟩, ⟨some 199, .mv (.t 198), none⟩, ⟨some 200, .call 44 [(.c (.int .i64 128)), (.c (.int .i64 9)), (.c (.int .i64 128)), (.c (.bool true))], some (199, true)⟩, ⟨some 201, .pick (.t 199) (.t 200) (.c (.bool false)), none⟩, ⟨some 202, .mv (.t 201), none⟩, ⟨some 203, .mv (.t 25), some (202, true)⟩, ⟨some 204, .bin .eql (.t 203) (.c (.int .i64 2)), some (202, true)⟩, ⟨some 205, .pick (.t 202) (.t 204) (.c (.bool false)), none⟩, ⟨some 29, .mv (.t 205), none⟩]))
    (.seq (.keep [26, 27, 28, 29] (.ops [⟨some 206, .call 11 [], none⟩, ⟨some 207, .mv (.t 206), none⟩, ⟨some 208, .mv (.t 26), some (207, true)⟩, ⟨some 209, .pick (.t 207) (.t 208) (.c (.bool false)), none⟩, ⟨some 210, .mv (.t 209), none⟩, ⟨some 211, .mv (.t 27), some (210, true)⟩, ⟨some 212, .pick (.t 210) (.t 211) (.c (.bool false)), none⟩, ⟨some 213, .mv (.t 212), none⟩, ⟨some 214, .mv (.t 28), some (213, true)⟩, ⟨some 215, .pick (.t 213) (.t 214) (.c (.bool false)), none⟩, ⟨some 216, .mv (.t 215), none⟩, ⟨some 217, .mv (.t 29), some (216, true)⟩, ⟨some 218, .pick (.t 216) (.t 217) (.c (.bool false)), none⟩, ⟨some 0, .mv (.t 218), none⟩]))
    .ret)))))))))))))))))), [.t 0], 219⟩
theorem eb7 : fB Tryd.prog 7 ec7 = true := by kernel_rfl

/-- partywall/partywalllaw05.SumsUndo -/
def ec8 : CF := ⟨(.seq (.keep [0, 1] (.ops [⟨some 4, .mv (.c (.bool false)), none⟩]))
    (.seq (.keep [0, 1] (.ops [⟨some 22, .call 7 [], none⟩, ⟨some 5, .mv (.t 22), none⟩]))
    (.seq (.keep [0, 1, 5] (.ops [⟨some 24, .mv (.t 0), none⟩, ⟨some 25, .mv (.t 1), none⟩, ⟨some 26, .call 22 [(.t 24), (.t 25)], none⟩, ⟨some 23, .mv (.t 26), none⟩, ⟨some 27, .ext (.t 23) 0, none⟩, ⟨some 28, .ext (.t 23) 1, none⟩, ⟨some 6, .mv (.t 27), none⟩, ⟨some 7, .mv (.t 28), none⟩]))
    (.seq (.keep [0, 1, 5, 6, 7] (.ops [⟨some 30, .mv (.t 1), none⟩, ⟨some 31, .mv (.t 0), none⟩, ⟨some 32, .call 22 [(.t 30), (.t 31)], none⟩, ⟨some 29, .mv (.t 32), none⟩, ⟨some 33, .ext (.t 29) 0, none⟩, ⟨some 34, .ext (.t 29) 1, none⟩, ⟨some 8, .mv (.t 33), none⟩, ⟨some 9, .mv (.t 34), none⟩]))
    (.seq (.keep [0, 1, 5, 6, 7, 8, 9] (.ops [⟨some 36, .mv (.t 0), none⟩, ⟨some 37, .mv (.t 1), none⟩, ⟨some 38, .call 26 [(.t 36), (.t 37)], none⟩, ⟨some 35, .mv (.t 38), none⟩, ⟨some 39, .ext (.t 35) 0, none⟩, ⟨some 40, .ext (.t 35) 1, none⟩, ⟨some 10, .mv (.t 39), none⟩, ⟨some 11, .mv (.t 40), none⟩]))
    (.seq (.keep [0, 1, 5, 6, 7, 8, 9, 10, 11] (.ops [⟨some 42, .mv (.t 1), none⟩, ⟨some 43, .mv (.t 0), none⟩, ⟨some 44, .call 26 [(.t 42), (.t 43)], none⟩, ⟨some 41, .mv (.t 44), none⟩, ⟨some 45, .ext (.t 41) 0, none⟩, ⟨some 46, .ext (.t 41) 1, none⟩, ⟨some 12, .mv (.t 45), none⟩, ⟨some 13, .mv (.t 46), none⟩]))
    (.seq (.seq (.keep [0, 1, 5, 6, 7, 8, 9, 10, 11, 12, 13] (.ops [⟨some 47, .mv (.t 6), none⟩, ⟨some 48, .mv (.t 8), none⟩, ⟨some 49, .bin .neq (.t 47) (.t 48), none⟩, ⟨some 50, .mv (.t 49), none⟩, ⟨some 51, .mv (.t 7), some (50, false)⟩, ⟨some 52, .mv (.t 9), some (50, false)⟩, ⟨some 53, .bin .neq (.t 51) (.t 52), some (50, false)⟩, ⟨some 54, .pick (.t 50) (.c (.bool true)) (.t 53), none⟩, ⟨some 55, .mv (.t 54), none⟩, ⟨some 56, .mv (.t 10), some (55, false)⟩, ⟨some 57, .mv (.t 12), some (55, false)⟩, ⟨some 58, .bin .neq (.t 56) (.t 57), some (55, false)⟩, ⟨some 59, .pick (.t 55) (.c (.bool true)) (.t 58), none⟩, ⟨some 60, .mv (.t 59), none⟩, ⟨some 61, .mv (.t 11), some (60, false)⟩, ⟨some 62, .mv (.t 13), some (60, false)⟩, ⟨some 63, .bin .neq (.t 61) (.t 62), some (60, false)⟩, ⟨some 64, .pick (.t 60) (.c (.bool true)) (.t 63), none⟩, ⟨some 65, .mv (.t 64), none⟩, ⟨some 66, .mv (.t 7), some (65, false)⟩, ⟨some 67, .bin .neq (.t 66) (.c (.int .i64 0)), some (65, false)⟩, ⟨some 68, .mv (.t 67), some (65, false)⟩, ⟨some 69, .mv (.t 0), some (68, true)⟩, ⟨some 70, .bin .lss (.t 69) (.c (.int .i64 0)), some (68, true)⟩, ⟨some 71, .mv (.t 1), some (68, true)⟩, ⟨some 72, .bin .lss (.t 71) (.c (.int .i64 0)), some (68, true)⟩, ⟨some 73, .eqb true (.t 70) (.t 72), some (68, true)⟩, ⟨some 74, .pick (.t 68) (.t 73) (.c (.bool false)), some (65, false)⟩, ⟨some 75, .pick (.t 65) (.c (.bool true)) (.t 74), none⟩]))
    (.cond (.t 75)
      (.seq (.keep [] (.ops [⟨some 4, .mv (.c (.bool false)), none⟩]))
      .ret)
      .skip))
    (.seq (.seq (.keep [0, 1, 5, 6, 7] (.ops [⟨some 76, .mv (.t 7), none⟩, ⟨some 77, .bin .eql (.t 76) (.c (.int .i64 0)), none⟩]))
    (.cond (.t 77)
      (.seq (.keep [0, 1, 5, 6] (.ops [⟨some 79, .mv (.t 6), none⟩, ⟨some 80, .mv (.t 1), none⟩, ⟨some 81, .call 24 [(.t 79), (.t 80)], none⟩, ⟨some 78, .mv (.t 81), none⟩, ⟨some 82, .ext (.t 78) 0, none⟩, ⟨some 83, .ext (.t 78) 1, none⟩, ⟨some 14, .mv (.t 82), none⟩, ⟨some 15, .mv (.t 83), none⟩]))
      (.seq (.keep [0, 5, 14, 15] (.ops [⟨some 84, .mv (.t 15), none⟩, ⟨some 85, .bin .neq (.t 84) (.c (.int .i64 0)), none⟩, ⟨some 86, .mv (.t 85), none⟩, ⟨some 87, .mv (.t 14), some (86, false)⟩, ⟨some 88, .mv (.t 0), some (86, false)⟩, ⟨some 89, .bin .neq (.t 87) (.t 88), some (86, false)⟩, ⟨some 90, .pick (.t 86) (.c (.bool true)) (.t 89), none⟩]))
      (.cond (.t 90)
        (.seq (.keep [] (.ops [⟨some 4, .mv (.c (.bool false)), none⟩]))
        .ret)
        .skip)))
      .skip))
    (.seq (.keep [0, 5] (.ops [⟨some 92, .mv (.t 0), none⟩, ⟨some 93, .call 28 [(.t 92)], none⟩, ⟨some 91, .mv (.t 93), none⟩, ⟨some 94, .ext (.t 91) 0, none⟩, ⟨some 95, .ext (.t 91) 1, none⟩, ⟨some 16, .mv (.t 94), none⟩, ⟨some 17, .mv (.t 95), none⟩]))
    (.seq (.seq (.keep [0, 5, 16, 17] (.ops [⟨some 96, .mv (.t 17), none⟩, ⟨some 97, .bin .neq (.t 96) (.c (.int .i64 0)), none⟩]))
    (.cond (.t 97)
      (.seq (.keep [0, 5] (.ops [⟨some 98, .mv (.t 5), none⟩, ⟨some 99, .mv (.t 98), none⟩, ⟨some 100, .mv (.t 0), some (99, true)⟩, ⟨some 101, .bin .eql (.t 100) (.c (.int .i64 (-9223372036854775808))), some (99, true)⟩, ⟨some 102, .pick (.t 99) (.t 101) (.c (.bool false)), none⟩, ⟨some 4, .mv (.t 102), none⟩]))
      .ret)
      .skip))
    (.seq (.keep [0, 5, 16] (.ops [⟨some 104, .mv (.t 16), none⟩, ⟨some 105, .call 28 [(.t 104)], none⟩, ⟨some 103, .mv (.t 105), none⟩, ⟨some 106, .ext (.t 103) 0, none⟩, ⟨some 107, .ext (.t 103) 1, none⟩, ⟨some 18, .mv (.t 106), none⟩, ⟨some 19, .mv (.t 107), none⟩]))
    (.seq (.keep [0, 5, 16, 18, 19] (.ops [⟨some 109, .mv (.t 0), none⟩, ⟨some 110, .mv (.t 16), none⟩, ⟨some 111, .call 22 [(.t 109), (.t 110)], none⟩, ⟨some 108, .mv (.t 111), none⟩, ⟨some 112, .ext (.t 108) 0, none⟩, ⟨some 113, .ext (.t 108) 1, none⟩, ⟨some 20, .mv (.t 112), none⟩, ⟨some 21, .mv (.t 113), none⟩]))
    (.seq (.keep [0, 5, 18, 19, 20, 21] (.ops [⟨some 114, .mv (.t 5), none⟩, ⟨some 115, .mv (.t 114), none⟩, ⟨some 116, .mv (.t 19), some (115, true)⟩, ⟨some 117, .bin .eql (.t 116) (.c (.int .i64 0)), some (115, true)⟩, ⟨some 118, .pick (.t 115) (.t 117) (.c (.bool false)), none⟩, ⟨some 119, .mv (.t 118), none⟩, ⟨some 120, .mv (.t 18), some (119, true)⟩, ⟨some 121, .mv (.t 0), some (119, true)⟩, ⟨some 122, .bin .eql (.t 120) (.t 121), some (119, true)⟩, ⟨some 123, .pick (.t 119) (.t 122) (.c (.bool false)), none⟩, ⟨some 124, .mv (.t 123), none⟩, ⟨some 125, .mv (.t 21), some (124, true)⟩, ⟨some 126, .bin .eql (.t 125) (.c (.int .i64 0)), some (124, true)⟩, ⟨some 127, .pick (.t 124) (.t 126) (.c (.bool false)), none⟩, ⟨some 128, .mv (.t 127), none⟩, ⟨some 129, .mv (.t 20), some (128, true)⟩, ⟨some 130, .bin .eql (.t 129) (.c (.int .i64 0)), some (128, true)⟩, ⟨some 131, .pick (.t 128) (.t 130) (.c (.bool false)), none⟩, ⟨some 4, .mv (.t 131), none⟩]))
    .ret))))))))))))), [.t 4], 132⟩
theorem eb8 : fB Tryd.prog 8 ec8 = true := by kernel_rfl

/-- partywall/partywalllaw05.SumsPrefix -/
def ec9 : CF := ⟨(.seq (.keep [0, 1] (.ops [⟨some 4, .mv (.c (.bool false)), none⟩]))
    (.seq (.keep [0, 1] (.ops [⟨some 17, .call 7 [], none⟩, ⟨some 5, .mv (.t 17), none⟩]))
    (.seq (.seq (.keep [0, 1, 5] (.ops [⟨some 18, .mv (.t 0), none⟩, ⟨some 19, .len (.t 18), none⟩, ⟨some 20, .bin .gtr (.t 19) (.c (.int .i64 60)), none⟩]))
    (.cond (.t 20)
      (.seq (.keep [5] (.ops [⟨some 21, .mv (.t 5), none⟩, ⟨some 4, .mv (.t 21), none⟩]))
      .ret)
      .skip))
    (.seq (.keep [0, 1, 5] (.ops [⟨some 23, .mv (.t 0), none⟩, ⟨some 24, .call 12 [(.t 23)], none⟩, ⟨some 22, .mv (.t 24), none⟩, ⟨some 25, .ext (.t 22) 0, none⟩, ⟨some 26, .ext (.t 22) 1, none⟩, ⟨some 6, .mv (.t 25), none⟩, ⟨some 7, .mv (.t 26), none⟩]))
    (.seq (.keep [0, 1, 5, 6, 7] (.ops [⟨some 28, .mv (.t 0), none⟩, ⟨some 29, .call 14 [(.t 28)], none⟩, ⟨some 27, .mv (.t 29), none⟩, ⟨some 30, .ext (.t 27) 0, none⟩, ⟨some 31, .ext (.t 27) 1, none⟩, ⟨some 8, .mv (.t 30), none⟩, ⟨some 9, .mv (.t 31), none⟩]))
    (.seq (.seq (.keep [0, 1, 5, 6, 7, 8, 9] (.ops [⟨some 32, .mv (.t 7), none⟩, ⟨some 33, .mv (.t 9), none⟩, ⟨some 34, .bin .neq (.t 32) (.t 33), none⟩, ⟨some 35, .mv (.t 34), none⟩, ⟨some 36, .mv (.t 8), some (35, false)⟩, ⟨some 37, .len (.t 36), some (35, false)⟩, ⟨some 38, .mv (.t 0), some (35, false)⟩, ⟨some 39, .len (.t 38), some (35, false)⟩, ⟨some 40, .bin .gtr (.t 37) (.t 39), some (35, false)⟩, ⟨some 41, .pick (.t 35) (.c (.bool true)) (.t 40), none⟩, ⟨some 42, .mv (.t 41), none⟩, ⟨some 43, .mv (.t 7), some (42, false)⟩, ⟨some 44, .bin .eql (.t 43) (.c (.int .i64 0)), some (42, false)⟩, ⟨some 45, .mv (.t 44), some (42, false)⟩, ⟨some 46, .mv (.t 8), some (45, true)⟩, ⟨some 47, .len (.t 46), some (45, true)⟩, ⟨some 48, .mv (.t 0), some (45, true)⟩, ⟨some 49, .len (.t 48), some (45, true)⟩, ⟨some 50, .bin .neq (.t 47) (.t 49), some (45, true)⟩, ⟨some 51, .pick (.t 45) (.t 50) (.c (.bool false)), some (42, false)⟩, ⟨some 52, .pick (.t 42) (.c (.bool true)) (.t 51), none⟩, ⟨some 53, .mv (.t 52), none⟩, ⟨some 54, .mv (.t 7), some (53, false)⟩, ⟨some 55, .bin .neq (.t 54) (.c (.int .i64 0)), some (53, false)⟩, ⟨some 56, .mv (.t 55), some (53, false)⟩, ⟨some 57, .mv (.t 8), some (56, true)⟩, ⟨some 58, .len (.t 57), some (56, true)⟩, ⟨some 59, .mv (.t 0), some (56, true)⟩, ⟨some 60, .len (.t 59), some (56, true)⟩, ⟨some 61, .bin .eql (.t 58) (.t 60), some (56, true)⟩, ⟨some 62, .pick (.t 56) (.t 61) (.c (.bool false)), some (53, false)⟩, ⟨some 63, .pick (.t 53) (.c (.bool true)) (.t 62), none⟩]))
    (.cond (.t 63)
      (.seq (.keep [] (.ops [⟨some 4, .mv (.c (.bool false)), none⟩]))
      .ret)
      .skip))
    (.seq (.seq (.keep [0, 1, 5, 6, 7, 8] (.ops [⟨some 10, .mv (.c (.int .i64 0)), none⟩]))
    (.block 0 (.loop (.seq (.seq (.keep [0, 1, 5, 6, 7, 8, 10] (.ops [⟨some 64, .mv (.t 10), none⟩, ⟨some 65, .mv (.t 8), none⟩, ⟨some 66, .len (.t 65), none⟩, ⟨some 67, .bin .lss (.t 64) (.t 66), none⟩]))
    (.cond (.t 67)
      .skip
      (.exit 0)))
    (.seq (.block 1 (.seq (.keep [0, 1, 5, 6, 7, 8, 10] (.ops [⟨some 71, .mv (.t 0), none⟩, ⟨some 72, .mv (.t 10), none⟩, ⟨some 73, .bin .add (.t 72) (.c (.int .i64 1)), none⟩, ⟨some 74, .slc 1 (.t 71) none (some (.t 73)) none, none⟩, ⟨some 75, .call 12 [(.t 74)], none⟩, ⟨some 70, .mv (.t 75), none⟩, ⟨some 76, .ext (.t 70) 0, none⟩, ⟨some 77, .ext (.t 70) 1, none⟩, ⟨some 11, .mv (.t 76), none⟩, ⟨some 12, .mv (.t 77), none⟩]))
    (.seq (.keep [0, 1, 5, 6, 7, 8, 10, 11, 12] (.ops [⟨some 78, .mv (.t 12), none⟩, ⟨some 79, .bin .neq (.t 78) (.c (.int .i64 0)), none⟩, ⟨some 80, .mv (.t 79), none⟩, ⟨some 81, .mv (.t 11), some (80, false)⟩, ⟨some 82, .mv (.t 8), some (80, false)⟩, ⟨some 83, .mv (.t 10), some (80, false)⟩, ⟨some 84, .ixA 1 (.t 82) (.t 83), some (80, false)⟩, ⟨some 85, .ld (none) (.t 84), some (80, false)⟩, ⟨some 86, .bin .neq (.t 81) (.t 85), some (80, false)⟩, ⟨some 87, .pick (.t 80) (.c (.bool true)) (.t 86), none⟩]))
    (.cond (.t 87)
      (.seq (.keep [] (.ops [⟨some 4, .mv (.c (.bool false)), none⟩]))
      .ret)
      .skip))))
    (.keep [0, 1, 5, 6, 7, 8, 10] (.ops [⟨some 68, .mv (.t 10), none⟩, ⟨some 69, .bin .add (.t 68) (.c (.int .i64 1)), none⟩, ⟨some 10, .mv (.t 69), none⟩])))))))
    (.seq (.seq (.keep [0, 1, 5, 6, 7, 8] (.ops [⟨some 88, .mv (.t 7), none⟩, ⟨some 89, .bin .neq (.t 88) (.c (.int .i64 0)), none⟩]))
    (.cond (.t 89)
      (.seq (.keep [5] (.ops [⟨some 90, .mv (.t 5), none⟩, ⟨some 4, .mv (.t 90), none⟩]))
      .ret)
      .skip))
    (.seq (.keep [0, 1, 5, 6, 8] (.ops [⟨some 92, .mkSl 1 0 [] [], none⟩, ⟨some 93, .mv (.t 0), none⟩, ⟨some 94, .app true 2 1 8 (.t 92) (.t 93), none⟩, ⟨some 95, .mv (.t 1), none⟩, ⟨some 96, .mkSl 1 1 [.int .i64 0] [(0, 1, (.t 95))], none⟩, ⟨some 97, .app true 2 1 8 (.t 94) (.t 96), none⟩, ⟨some 98, .call 12 [(.t 97)], none⟩, ⟨some 91, .mv (.t 98), none⟩, ⟨some 99, .ext (.t 91) 0, none⟩, ⟨some 100, .ext (.t 91) 1, none⟩, ⟨some 13, .mv (.t 99), none⟩, ⟨some 14, .mv (.t 100), none⟩]))
    (.seq (.keep [0, 1, 5, 6, 8, 13, 14] (.ops [⟨some 102, .mv (.t 6), none⟩, ⟨some 103, .mv (.t 1), none⟩, ⟨some 104, .call 22 [(.t 102), (.t 103)], none⟩, ⟨some 101, .mv (.t 104), none⟩, ⟨some 105, .ext (.t 101) 0, none⟩, ⟨some 106, .ext (.t 101) 1, none⟩, ⟨some 15, .mv (.t 105), none⟩, ⟨some 16, .mv (.t 106), none⟩]))
    (.seq (.keep [0, 5, 6, 8, 13, 14, 15, 16] (.ops [⟨some 107, .mv (.t 5), none⟩, ⟨some 108, .mv (.t 107), none⟩, ⟨some 109, .mv (.t 13), some (108, true)⟩, ⟨some 110, .mv (.t 15), some (108, true)⟩, ⟨some 111, .bin .eql (.t 109) (.t 110), some (108, true)⟩, ⟨some 112, .pick (.t 108) (.t 111) (.c (.bool false)), none⟩, ⟨some 113, .mv (.t 112), none⟩, ⟨some 114, .mv (.t 14), some (113, true)⟩, ⟨some 115, .mv (.t 16), some (113, true)⟩, ⟨some 116, .bin .eql (.t 114) (.t 115), some (113, true)⟩, ⟨some 117, .pick (.t 113) (.t 116) (.c (.bool false)), none⟩, ⟨some 118, .mv (.t 117), none⟩, ⟨some 119, .mv (.t 0), some (118, true)⟩, ⟨some 120, .len (.t 119), some (118, true)⟩, ⟨some 121, .bin .eql (.t 120) (.c (.int .i64 0)), some (118, true)⟩, ⟨some 122, .mv (.t 121), some (118, true)⟩, ⟨some 123, .mv (.t 6), some (122, true)⟩, ⟨some 124, .bin .eql (.t 123) (.c (.int .i64 0)), some (122, true)⟩, ⟨some 125, .pick (.t 122) (.t 124) (.c (.bool false)), some (118, true)⟩, ⟨some 126, .mv (.t 125), some (118, true)⟩, ⟨some 127, .mv (.t 0), some (126, false)⟩, ⟨some 128, .len (.t 127), some (126, false)⟩, ⟨some 129, .bin .gtr (.t 128) (.c (.int .i64 0)), some (126, false)⟩, ⟨some 130, .mv (.t 129), some (126, false)⟩, ⟨some 131, .mv (.t 6), some (130, true)⟩, ⟨some 132, .mv (.t 8), some (130, true)⟩, ⟨some 133, .mv (.t 8), some (130, true)⟩, ⟨some 134, .len (.t 133), some (130, true)⟩, ⟨some 135, .bin .sub (.t 134) (.c (.int .i64 1)), some (130, true)⟩, ⟨some 136, .ixA 1 (.t 132) (.t 135), some (130, true)⟩, ⟨some 137, .ld (none) (.t 136), some (130, true)⟩, ⟨some 138, .bin .eql (.t 131) (.t 137), some (130, true)⟩, ⟨some 139, .pick (.t 130) (.t 138) (.c (.bool false)), some (126, false)⟩, ⟨some 140, .pick (.t 126) (.c (.bool true)) (.t 139), some (118, true)⟩, ⟨some 141, .pick (.t 118) (.t 140) (.c (.bool false)), none⟩, ⟨some 4, .mv (.t 141), none⟩]))
    .ret))))))))))), [.t 4], 142⟩
theorem eb9 : fB Tryd.prog 9 ec9 = true := by kernel_rfl

/-- partywall/partywalllaw05.SumsBack -/
def ec10 : CF := ⟨(.seq (.keep [0, 1, 2, 3, 4] (.ops [⟨some 10, .mv (.c (.bool false)), none⟩]))
    (.seq (.keep [0, 1, 2, 3, 4] (.ops [⟨some 24, .call 7 [], none⟩, ⟨some 11, .mv (.t 24), none⟩]))
    (.seq (.seq (.keep [0, 1, 2, 3, 4, 11] (.ops [⟨some 25, .mv (.t 1), none⟩, ⟨some 26, .lenS (.t 25), none⟩, ⟨some 27, .bin .gtr (.t 26) (.c (.int .i64 100)), none⟩]))
    (.cond (.t 27)
      (.seq (.keep [11] (.ops [⟨some 28, .mv (.t 11), none⟩, ⟨some 10, .mv (.t 28), none⟩]))
      .ret)
      .skip))
    (.seq (.keep [0, 1, 2, 3, 4, 11] (.ops [⟨some 30, .mv (.t 0), none⟩, ⟨some 31, .call 20 [(.t 30)], none⟩, ⟨some 32, .call 16 [(.t 31)], none⟩, ⟨some 29, .mv (.t 32), none⟩, ⟨some 33, .ext (.t 29) 0, none⟩, ⟨some 34, .ext (.t 29) 1, none⟩, ⟨some 12, .mv (.t 33), none⟩, ⟨some 13, .mv (.t 34), none⟩]))
    (.seq (.keep [0, 1, 2, 3, 4, 11, 12, 13] (.ops [⟨some 36, .mv (.t 1), none⟩, ⟨some 37, .call 16 [(.t 36)], none⟩, ⟨some 35, .mv (.t 37), none⟩, ⟨some 38, .ext (.t 35) 0, none⟩, ⟨some 39, .ext (.t 35) 1, none⟩, ⟨some 14, .mv (.t 38), none⟩, ⟨some 15, .mv (.t 39), none⟩]))
    (.seq (.seq (.keep [0, 1, 2, 3, 4, 11, 12, 13, 14, 15] (.ops [⟨some 40, .mv (.t 13), none⟩, ⟨some 41, .bin .neq (.t 40) (.c (.int .i64 0)), none⟩, ⟨some 42, .mv (.t 41), none⟩, ⟨some 43, .mv (.t 12), some (42, false)⟩, ⟨some 44, .mv (.t 0), some (42, false)⟩, ⟨some 45, .bin .neq (.t 43) (.t 44), some (42, false)⟩, ⟨some 46, .pick (.t 42) (.c (.bool true)) (.t 45), none⟩, ⟨some 47, .mv (.t 46), none⟩, ⟨some 48, .mv (.t 15), some (47, false)⟩, ⟨some 49, .bin .eql (.t 48) (.c (.int .i64 0)), some (47, false)⟩, ⟨some 50, .mv (.t 49), some (47, false)⟩, ⟨some 51, .mv (.t 14), some (50, true)⟩, ⟨some 52, .call 20 [(.t 51)], some (50, true)⟩, ⟨some 53, .mv (.t 1), some (50, true)⟩, ⟨some 54, .bin .neq (.t 52) (.t 53), some (50, true)⟩, ⟨some 55, .pick (.t 50) (.t 54) (.c (.bool false)), some (47, false)⟩, ⟨some 56, .pick (.t 47) (.c (.bool true)) (.t 55), none⟩]))
    (.cond (.t 56)
      (.seq (.keep [] (.ops [⟨some 10, .mv (.c (.bool false)), none⟩]))
      .ret)
      .skip))
    (.seq (.keep [0, 2, 3, 4, 11] (.ops [⟨some 57, .mv (.t 2), none⟩, ⟨some 58, .call 45 [(.t 57), (.c (.int .i64 64))], none⟩, ⟨some 59, .bin .add (.c (.int .i64 1)) (.t 58), none⟩, ⟨some 2, .mv (.t 59), none⟩]))
    (.seq (.keep [0, 2, 3, 4, 11] (.ops [⟨some 61, .mv (.t 0), none⟩, ⟨some 62, .mv (.t 2), none⟩, ⟨some 63, .call 30 [(.t 61), (.t 62)], none⟩, ⟨some 60, .mv (.t 63), none⟩, ⟨some 64, .ext (.t 60) 0, none⟩, ⟨some 65, .ext (.t 60) 1, none⟩, ⟨some 66, .ext (.t 60) 2, none⟩, ⟨some 16, .mv (.t 64), none⟩, ⟨some 17, .mv (.t 65), none⟩, ⟨some 18, .mv (.t 66), none⟩]))
    (.seq (.keep [0, 2, 3, 4, 11, 16, 17, 18] (.ops [⟨some 68, .mv (.t 16), none⟩, ⟨some 69, .mv (.t 2), none⟩, ⟨some 70, .call 30 [(.t 68), (.t 69)], none⟩, ⟨some 67, .mv (.t 70), none⟩, ⟨some 71, .ext (.t 67) 0, none⟩, ⟨some 72, .ext (.t 67) 1, none⟩, ⟨some 73, .ext (.t 67) 2, none⟩, ⟨some 19, .mv (.t 71), none⟩, ⟨some 20, .mv (.t 72), none⟩, ⟨some 21, .mv (.t 73), none⟩]))
    (.seq (.seq (.keep [0, 2, 3, 4, 11, 16, 17, 18, 19, 20, 21] (.ops [⟨some 74, .mv (.t 18), none⟩, ⟨some 75, .bin .neq (.t 74) (.c (.int .i64 0)), none⟩, ⟨some 76, .mv (.t 75), none⟩, ⟨some 77, .mv (.t 21), some (76, false)⟩, ⟨some 78, .bin .neq (.t 77) (.c (.int .i64 0)), some (76, false)⟩, ⟨some 79, .pick (.t 76) (.c (.bool true)) (.t 78), none⟩, ⟨some 80, .mv (.t 79), none⟩, ⟨some 81, .mv (.t 19), some (80, false)⟩, ⟨some 82, .mv (.t 16), some (80, false)⟩, ⟨some 83, .bin .neq (.t 81) (.t 82), some (80, false)⟩, ⟨some 84, .pick (.t 80) (.c (.bool true)) (.t 83), none⟩, ⟨some 85, .mv (.t 84), none⟩, ⟨some 86, .mv (.t 20), some (85, false)⟩, ⟨some 87, .un .not (.t 86), some (85, false)⟩, ⟨some 88, .pick (.t 85) (.c (.bool true)) (.t 87), none⟩, ⟨some 89, .mv (.t 88), none⟩, ⟨some 90, .mv (.t 17), some (89, false)⟩, ⟨some 91, .mv (.t 16), some (89, false)⟩, ⟨some 92, .mv (.t 0), some (89, false)⟩, ⟨some 93, .bin .eql (.t 91) (.t 92), some (89, false)⟩, ⟨some 94, .eqb true (.t 90) (.t 93), some (89, false)⟩, ⟨some 95, .pick (.t 89) (.c (.bool true)) (.t 94), none⟩, ⟨some 96, .mv (.t 95), none⟩, ⟨some 97, .mv (.t 2), some (96, false)⟩, ⟨some 98, .bin .eql (.t 97) (.c (.int .i64 64)), some (96, false)⟩, ⟨some 99, .mv (.t 98), some (96, false)⟩, ⟨some 100, .mv (.t 17), some (99, true)⟩, ⟨some 101, .un .not (.t 100), some (99, true)⟩, ⟨some 102, .pick (.t 99) (.t 101) (.c (.bool false)), some (96, false)⟩, ⟨some 103, .pick (.t 96) (.c (.bool true)) (.t 102), none⟩]))
    (.cond (.t 103)
      (.seq (.keep [] (.ops [⟨some 10, .mv (.c (.bool false)), none⟩]))
      .ret)
      .skip))
    (.seq (.keep [3, 4, 11] (.ops [⟨some 104, .mv (.t 3), none⟩, ⟨some 105, .call 45 [(.t 104), (.c (.int .i64 1099511627776))], none⟩, ⟨some 106, .mv (.t 4), none⟩, ⟨some 107, .call 45 [(.t 106), (.c (.int .i64 1048576))], none⟩, ⟨some 108, .bin .add (.c (.int .i64 1)) (.t 107), none⟩, ⟨some 3, .mv (.t 105), none⟩, ⟨some 4, .mv (.t 108), none⟩]))
    (.seq (.keep [3, 4, 11] (.ops [⟨some 110, .mv (.t 3), none⟩, ⟨some 111, .mv (.t 4), none⟩, ⟨some 112, .call 36 [(.t 110), (.t 111)], none⟩, ⟨some 109, .mv (.t 112), none⟩, ⟨some 113, .ext (.t 109) 0, none⟩, ⟨some 114, .ext (.t 109) 1, none⟩, ⟨some 22, .mv (.t 113), none⟩, ⟨some 23, .mv (.t 114), none⟩]))
    (.seq (.keep [3, 4, 11, 22, 23] (.ops [⟨some 115, .mv (.t 11), none⟩, ⟨some 116, .mv (.t 115), none⟩, ⟨some 117, .mv (.t 23), some (116, true)⟩, ⟨some 118, .bin .eql (.t 117) (.c (.int .i64 0)), some (116, true)⟩, ⟨some 119, .pick (.t 116) (.t 118) (.c (.bool false)), none⟩, ⟨some 120, .mv (.t 119), none⟩, ⟨some 121, .mv (.t 22), some (120, true)⟩, ⟨some 122, .bin .geq (.t 121) (.c (.int .i64 0)), some (120, true)⟩, ⟨some 123, .pick (.t 120) (.t 122) (.c (.bool false)), none⟩, ⟨some 124, .mv (.t 123), none⟩, ⟨some 125, .mv (.t 22), some (124, true)⟩, ⟨some 126, .mv (.t 3), some (124, true)⟩, ⟨some 127, .bin .leq (.t 125) (.t 126), some (124, true)⟩, ⟨some 128, .pick (.t 124) (.t 127) (.c (.bool false)), none⟩, ⟨some 129, .mv (.t 128), none⟩, ⟨some 130, .mv (.t 22), some (129, true)⟩, ⟨some 131, .mv (.t 4), some (129, true)⟩, ⟨some 132, .bin .mul (.t 130) (.t 131), some (129, true)⟩, ⟨some 133, .mv (.t 3), some (129, true)⟩, ⟨some 134, .bin .geq (.t 132) (.t 133), some (129, true)⟩, ⟨some 135, .pick (.t 129) (.t 134) (.c (.bool false)), none⟩, ⟨some 136, .mv (.t 135), none⟩, ⟨some 137, .mv (.t 22), some (136, true)⟩, ⟨some 138, .bin .eql (.t 137) (.c (.int .i64 0)), some (136, true)⟩, ⟨some 139, .mv (.t 138), some (136, true)⟩, ⟨some 140, .mv (.t 22), some (139, false)⟩, ⟨some 141, .bin .sub (.t 140) (.c (.int .i64 1)), some (139, false)⟩, ⟨some 142, .mv (.t 4), some (139, false)⟩, ⟨some 143, .bin .mul (.t 141) (.t 142), some (139, false)⟩, ⟨some 144, .mv (.t 3), some (139, false)⟩, ⟨some 145, .bin .lss (.t 143) (.t 144), some (139, false)⟩, ⟨some 146, .pick (.t 139) (.c (.bool true)) (.t 145), some (136, true)⟩, ⟨some 147, .pick (.t 136) (.t 146) (.c (.bool false)), none⟩, ⟨some 10, .mv (.t 147), none⟩]))
    .ret))))))))))))), [.t 10], 148⟩
theorem eb10 : fB Tryd.prog 10 ec10 = true := by kernel_rfl

/-- partywall/partywalllaw05.awake -/
def ec11 : CF := ⟨(.seq (.keep [] (.ops [⟨some 0, .mv (.c (.bool false)), none⟩]))
    (.seq (.keep [] (.ops [⟨some 6, .mkSl 1 3 [.int .i64 0, .int .i64 0, .int .i64 0] [(0, 1, (.c (.int .i64 9223372036854775807))), (1, 1, (.c (.int .i64 1))), (2, 1, (.c (.int .i64 (-1))))], none⟩, ⟨some 7, .call 12 [(.t 6)], none⟩, ⟨some 5, .mv (.t 7), none⟩, ⟨some 8, .ext (.t 5) 0, none⟩, ⟨some 9, .ext (.t 5) 1, none⟩, ⟨some 1, .mv (.t 8), none⟩, ⟨some 2, .mv (.t 9), none⟩]))
    (.seq (.keep [2] (.ops [⟨some 11, .call 36 [(.c (.int .i64 7)), (.c (.int .i64 2))], none⟩, ⟨some 10, .mv (.t 11), none⟩, ⟨some 12, .ext (.t 10) 0, none⟩, ⟨some 13, .ext (.t 10) 1, none⟩, ⟨some 3, .mv (.t 12), none⟩, ⟨some 4, .mv (.t 13), none⟩]))
    (.seq (.keep [2, 3, 4] (.ops [⟨some 14, .call 46 [(.c (.int .i64 9223372036854775807)), (.c (.int .i64 1)), (.c (.int .i64 0)), (.c (.int .i64 16))], none⟩, ⟨some 15, .mv (.t 14), none⟩, ⟨some 16, .call 46 [(.c (.int .i64 9223372036854775807)), (.c (.int .i64 (-9223372036854775808))), (.c (.int .i64 (-1))), (.c (.int .i64 0))], some (15, true)⟩, ⟨some 17, .pick (.t 15) (.t 16) (.c (.bool false)), none⟩, ⟨some 18, .mv (.t 17), none⟩, ⟨some 19, .call 41 [(.c (.int .i64 4294967296)), (.c (.int .i64 (-2147483648))), (.c (.int .i64 (-9223372036854775808))), (.c (.int .i64 0))], some (18, true)⟩, ⟨some 20, .pick (.t 18) (.t 19) (.c (.bool false)), none⟩, ⟨some 21, .mv (.t 20), none⟩, ⟨some 22, .mv (.t 2), some (21, true)⟩, ⟨some 23, .bin .eql (.t 22) (.c (.int .i64 16)), some (21, true)⟩, ⟨some 24, .pick (.t 21) (.t 23) (.c (.bool false)), none⟩, ⟨some 25, .mv (.t 24), none⟩, ⟨some 26, .mv (.t 4), some (25, true)⟩, ⟨some 27, .bin .eql (.t 26) (.c (.int .i64 0)), some (25, true)⟩, ⟨some 28, .pick (.t 25) (.t 27) (.c (.bool false)), none⟩, ⟨some 29, .mv (.t 28), none⟩, ⟨some 30, .mv (.t 3), some (29, true)⟩, ⟨some 31, .bin .eql (.t 30) (.c (.int .i64 4)), some (29, true)⟩, ⟨some 32, .pick (.t 29) (.t 31) (.c (.bool false)), none⟩, ⟨some 33, .mv (.t 32), none⟩, ⟨some 34, .call 42 [(.c (.str [48, 55])), (.c (.int .i64 0)), (.c (.int .i64 3))], some (33, true)⟩, ⟨some 35, .pick (.t 33) (.t 34) (.c (.bool false)), none⟩, ⟨some 36, .mv (.t 35), none⟩, ⟨some 37, .call 20 [(.c (.int .i64 (-9223372036854775808)))], some (36, true)⟩, ⟨some 38, .bin .eql (.t 37) (.c (.str [45, 57, 50, 50, 51, 51, 55, 50, 48, 51, 54, 56, 53, 52, 55, 55, 53, 56, 48, 56])), some (36, true)⟩, ⟨some 39, .pick (.t 36) (.t 38) (.c (.bool false)), none⟩, ⟨some 0, .mv (.t 39), none⟩]))
    .ret)))), [.t 0], 40⟩
theorem eb11 : fB Tryd.prog 11 ec11 = true := by kernel_rfl

/-- partywall/sums.Sum -/
def ec12 : CF := ⟨(.seq (.keep [0] (.ops [⟨some 2, .mv (.c (.int .i64 0)), none⟩, ⟨some 3, .mv (.c (.int .i64 0)), none⟩]))
    (.seq (.keep [0] (.ops [⟨some 7, .mv (.t 0), none⟩, ⟨some 8, .call 14 [(.t 7)], none⟩, ⟨some 6, .mv (.t 8), none⟩, ⟨some 9, .ext (.t 6) 0, none⟩, ⟨some 10, .ext (.t 6) 1, none⟩, ⟨some 4, .mv (.t 9), none⟩, ⟨some 5, .mv (.t 10), none⟩]))
    (.seq (.seq (.keep [4, 5] (.ops [⟨some 11, .mv (.t 5), none⟩, ⟨some 12, .bin .neq (.t 11) (.c (.int .i64 0)), none⟩, ⟨some 13, .mv (.t 12), none⟩, ⟨some 14, .mv (.t 4), some (13, false)⟩, ⟨some 15, .len (.t 14), some (13, false)⟩, ⟨some 16, .bin .eql (.t 15) (.c (.int .i64 0)), some (13, false)⟩, ⟨some 17, .pick (.t 13) (.c (.bool true)) (.t 16), none⟩]))
    (.cond (.t 17)
      (.seq (.keep [5] (.ops [⟨some 18, .mv (.t 5), none⟩, ⟨some 2, .mv (.c (.int .i64 0)), none⟩, ⟨some 3, .mv (.t 18), none⟩]))
      .ret)
      .skip))
    (.seq (.keep [4] (.ops [⟨some 19, .mv (.t 4), none⟩, ⟨some 20, .mv (.t 4), none⟩, ⟨some 21, .len (.t 20), none⟩, ⟨some 22, .bin .sub (.t 21) (.c (.int .i64 1)), none⟩, ⟨some 23, .ixA 1 (.t 19) (.t 22), none⟩, ⟨some 24, .ld (none) (.t 23), none⟩, ⟨some 2, .mv (.t 24), none⟩, ⟨some 3, .mv (.c (.int .i64 0)), none⟩]))
    .ret)))), [.t 2, .t 3], 25⟩
theorem eb12 : fB Tryd.prog 12 ec12 = true := by kernel_rfl

/-- partywall/partywallref05.Sum -/
def ec13 : CF := ⟨(.seq (.keep [0] (.ops [⟨some 2, .mv (.c (.int .i64 0)), none⟩, ⟨some 3, .mv (.c (.int .i64 0)), none⟩]))
    (.seq (.keep [0] (.ops [⟨some 7, .mv (.t 0), none⟩, ⟨some 8, .call 15 [(.t 7)], none⟩, ⟨some 6, .mv (.t 8), none⟩, ⟨some 9, .ext (.t 6) 0, none⟩, ⟨some 10, .ext (.t 6) 1, none⟩, ⟨some 4, .mv (.t 9), none⟩, ⟨some 5, .mv (.t 10), none⟩]))
    (.seq (.seq (.keep [0, 4, 5] (.ops [⟨some 11, .mv (.t 5), none⟩, ⟨some 12, .bin .neq (.t 11) (.c (.int .i64 0)), none⟩, ⟨some 13, .mv (.t 12), none⟩, ⟨some 14, .mv (.t 0), some (13, false)⟩, ⟨some 15, .len (.t 14), some (13, false)⟩, ⟨some 16, .bin .eql (.t 15) (.c (.int .i64 0)), some (13, false)⟩, ⟨some 17, .pick (.t 13) (.c (.bool true)) (.t 16), none⟩]))
    (.cond (.t 17)
      (.seq (.keep [5] (.ops [⟨some 18, .mv (.t 5), none⟩, ⟨some 2, .mv (.c (.int .i64 0)), none⟩, ⟨some 3, .mv (.t 18), none⟩]))
      .ret)
      .skip))
    (.seq (.keep [4] (.ops [⟨some 19, .mv (.t 4), none⟩, ⟨some 20, .mv (.t 4), none⟩, ⟨some 21, .len (.t 20), none⟩, ⟨some 22, .bin .sub (.t 21) (.c (.int .i64 1)), none⟩, ⟨some 23, .ixA 1 (.t 19) (.t 22), none⟩, ⟨some 24, .ld (none) (.t 23), none⟩, ⟨some 2, .mv (.t 24), none⟩, ⟨some 3, .mv (.c (.int .i64 0)), none⟩]))
    .ret)))), [.t 2, .t 3], 25⟩
theorem eb13 : fB Tryd.prog 13 ec13 = true := by kernel_rfl

/-- partywall/sums.Running -/
def ec14 : CF := ⟨(.seq (.keep [0] (.ops [⟨some 2, .mv (.c .nils), none⟩, ⟨some 3, .mv (.c (.int .i64 0)), none⟩]))
    (.seq (.keep [0, 2] (.ops [⟨some 4, .mv (.c (.int .i64 0)), none⟩]))
    (.seq (.seq (.keep [0, 2, 4] (.ops [⟨some 9, .mv (.t 0), none⟩, ⟨some 10, .len (.t 9), none⟩, ⟨some 11, .mv (.c (.int .i64 0)), none⟩]))
    (.block 0 (.loop (.seq (.keep [2, 4, 9, 10, 11] (.ops [⟨some 12, .bin .lss (.t 11) (.t 10), none⟩]))
    (.seq (.cond (.t 12)
      .skip
      (.exit 0))
    (.seq (.block 1 (.seq (.keep [2, 4, 9, 10, 11] (.ops [⟨some 13, .ixA 1 (.t 9) (.t 11), none⟩, ⟨some 14, .ld (none) (.t 13), none⟩, ⟨some 6, .mv (.t 14), none⟩]))
    (.seq (.keep [2, 4, 6, 9, 10, 11] (.ops [⟨some 16, .mv (.t 4), none⟩, ⟨some 17, .mv (.t 6), none⟩, ⟨some 18, .call 22 [(.t 16), (.t 17)], none⟩, ⟨some 15, .mv (.t 18), none⟩, ⟨some 19, .ext (.t 15) 0, none⟩, ⟨some 20, .ext (.t 15) 1, none⟩, ⟨some 7, .mv (.t 19), none⟩, ⟨some 8, .mv (.t 20), none⟩]))
    (.seq (.seq (.keep [2, 7, 8, 9, 10, 11] (.ops [⟨some 21, .mv (.t 8), none⟩, ⟨some 22, .bin .neq (.t 21) (.c (.int .i64 0)), none⟩]))
    (.cond (.t 22)
      (.seq (.keep [2, 8] (.ops [⟨some 23, .mv (.t 2), none⟩, ⟨some 24, .mv (.t 8), none⟩, ⟨some 2, .mv (.t 23), none⟩, ⟨some 3, .mv (.t 24), none⟩]))
      .ret)
      .skip))
    (.seq (.keep [2, 7, 9, 10, 11] (.ops [⟨some 25, .mv (.t 7), none⟩, ⟨some 4, .mv (.t 25), none⟩]))
    (.keep [2, 4, 9, 10, 11] (.ops [⟨some 26, .mv (.t 2), none⟩, ⟨some 27, .mv (.t 4), none⟩, ⟨some 28, .mkSl 1 1 [.int .i64 0] [(0, 1, (.t 27))], none⟩, ⟨some 29, .app true 2 1 8 (.t 26) (.t 28), none⟩, ⟨some 2, .mv (.t 29), none⟩])))))))
    (.keep [2, 4, 9, 10, 11] (.ops [⟨some 30, .bin .add (.t 11) (.c (.int .i64 1)), none⟩, ⟨some 11, .mv (.t 30), none⟩]))))))))
    (.seq (.keep [2] (.ops [⟨some 31, .mv (.t 2), none⟩, ⟨some 2, .mv (.t 31), none⟩, ⟨some 3, .mv (.c (.int .i64 0)), none⟩]))
    .ret)))), [.t 2, .t 3], 32⟩
theorem eb14 : fB Tryd.prog 14 ec14 = true := by kernel_rfl

/-- partywall/partywallref05.Running -/
def ec15 : CF := ⟨(.seq (.keep [0] (.ops [⟨some 2, .mv (.c .nils), none⟩, ⟨some 3, .mv (.c (.int .i64 0)), none⟩]))
    (.seq (.keep [0] (.ops [⟨some 4, .mv (.c .nils), none⟩]))
    (.seq (.keep [0, 4] (.ops [⟨some 5, .mv (.c (.int .i64 0)), none⟩]))
    (.seq (.seq (.keep [0, 4, 5] (.ops [⟨some 6, .mv (.c (.int .i64 0)), none⟩]))
    (.block 0 (.loop (.seq (.seq (.keep [0, 4, 5, 6] (.ops [⟨some 9, .mv (.t 6), none⟩, ⟨some 10, .mv (.t 0), none⟩, ⟨some 11, .len (.t 10), none⟩, ⟨some 12, .bin .lss (.t 9) (.t 11), none⟩]))
    (.cond (.t 12)
      .skip
      (.exit 0)))
    (.seq (.block 1 (.seq (.keep [0, 4, 5, 6] (.ops [⟨some 16, .mv (.t 5), none⟩, ⟨some 17, .mv (.t 0), none⟩, ⟨some 18, .mv (.t 6), none⟩, ⟨some 19, .ixA 1 (.t 17) (.t 18), none⟩, ⟨some 20, .ld (none) (.t 19), none⟩, ⟨some 21, .call 23 [(.t 16), (.t 20)], none⟩, ⟨some 15, .mv (.t 21), none⟩, ⟨some 22, .ext (.t 15) 0, none⟩, ⟨some 23, .ext (.t 15) 1, none⟩, ⟨some 7, .mv (.t 22), none⟩, ⟨some 8, .mv (.t 23), none⟩]))
    (.seq (.seq (.keep [0, 4, 6, 7, 8] (.ops [⟨some 24, .mv (.t 8), none⟩, ⟨some 25, .bin .neq (.t 24) (.c (.int .i64 0)), none⟩]))
    (.cond (.t 25)
      (.seq (.keep [4, 8] (.ops [⟨some 26, .mv (.t 4), none⟩, ⟨some 27, .mv (.t 8), none⟩, ⟨some 2, .mv (.t 26), none⟩, ⟨some 3, .mv (.t 27), none⟩]))
      .ret)
      .skip))
    (.seq (.keep [0, 4, 6, 7] (.ops [⟨some 28, .mv (.t 7), none⟩, ⟨some 5, .mv (.t 28), none⟩]))
    (.keep [0, 4, 5, 6] (.ops [⟨some 29, .mv (.t 4), none⟩, ⟨some 30, .mv (.t 5), none⟩, ⟨some 31, .mkSl 1 1 [.int .i64 0] [(0, 1, (.t 30))], none⟩, ⟨some 32, .app true 2 1 8 (.t 29) (.t 31), none⟩, ⟨some 4, .mv (.t 32), none⟩]))))))
    (.keep [0, 4, 5, 6] (.ops [⟨some 13, .mv (.t 6), none⟩, ⟨some 14, .bin .add (.t 13) (.c (.int .i64 1)), none⟩, ⟨some 6, .mv (.t 14), none⟩])))))))
    (.seq (.keep [4] (.ops [⟨some 33, .mv (.t 4), none⟩, ⟨some 2, .mv (.t 33), none⟩, ⟨some 3, .mv (.c (.int .i64 0)), none⟩]))
    .ret))))), [.t 2, .t 3], 34⟩
theorem eb15 : fB Tryd.prog 15 ec15 = true := by kernel_rfl

/-- partywall/sums.Int -/
def ec16 : CF := ⟨(.seq (.keep [0] (.ops [⟨some 2, .mv (.c (.int .i64 0)), none⟩, ⟨some 3, .mv (.c (.int .i64 0)), none⟩]))
    (.seq (.keep [0] (.ops [⟨some 9, .mv (.t 0), none⟩, ⟨some 10, .lenS (.t 9), none⟩, ⟨some 11, .bin .gtr (.t 10) (.c (.int .i64 0)), none⟩, ⟨some 12, .mv (.t 11), none⟩, ⟨some 13, .mv (.t 0), some (12, true)⟩, ⟨some 14, .ixS (.t 13) (.c (.int .i64 0)), some (12, true)⟩, ⟨some 15, .bin .eql (.t 14) (.c (.int .u8 45)), some (12, true)⟩, ⟨some 16, .pick (.t 12) (.t 15) (.c (.bool false)), none⟩, ⟨some 4, .mv (.t 16), none⟩]))
    (.seq (.keep [0, 4] (.ops [⟨some 17, .mv (.t 0), none⟩, ⟨some 5, .mv (.t 17), none⟩]))
    (.seq (.seq (.keep [0, 4, 5] (.ops [⟨some 18, .mv (.t 4), none⟩]))
    (.cond (.t 18)
      (.keep [0, 4] (.ops [⟨some 19, .mv (.t 0), none⟩, ⟨some 20, .slcS (.t 19) (some (.c (.int .i64 1))) none, none⟩, ⟨some 5, .mv (.t 20), none⟩]))
      .skip))
    (.seq (.keep [4, 5] (.ops [⟨some 22, .mv (.t 5), none⟩, ⟨some 23, .call 47 [(.t 22)], none⟩, ⟨some 21, .mv (.t 23), none⟩, ⟨some 24, .ext (.t 21) 0, none⟩, ⟨some 25, .ext (.t 21) 1, none⟩, ⟨some 26, .ext (.t 21) 2, none⟩, ⟨some 6, .mv (.t 24), none⟩, ⟨some 7, .mv (.t 25), none⟩, ⟨some 8, .mv (.t 26), none⟩]))
    (.seq (.block 0 (.seq (.keep [4, 5, 6, 7, 8] (.ops [⟨some 28, .mv (.t 8), none⟩, ⟨some 29, .un .not (.t 28), none⟩, ⟨some 30, .mv (.t 29), none⟩, ⟨some 31, .mv (.t 4), some (30, false)⟩, ⟨some 32, .mv (.t 31), some (30, false)⟩, ⟨some 33, .mv (.t 5), some (32, true)⟩, ⟨some 34, .bin .eql (.t 33) (.c (.str [48])), some (32, true)⟩, ⟨some 35, .pick (.t 32) (.t 34) (.c (.bool false)), some (30, false)⟩, ⟨some 36, .pick (.t 30) (.c (.bool true)) (.t 35), none⟩, ⟨some 27, .mv (.t 36), none⟩]))
    (.cond (.t 27)
      (.seq (.keep [] (.ops [⟨some 2, .mv (.c (.int .i64 0)), none⟩, ⟨some 3, .mv (.c (.int .i64 3)), none⟩]))
      .ret)
      (.seq (.keep [4, 6, 7] (.ops [⟨some 38, .mv (.t 7), none⟩, ⟨some 39, .mv (.t 38), none⟩, ⟨some 40, .mv (.t 6), some (39, false)⟩, ⟨some 41, .bin .gtr (.t 40) (.c (.int .u64 9223372036854775808)), some (39, false)⟩, ⟨some 42, .pick (.t 39) (.c (.bool true)) (.t 41), none⟩, ⟨some 43, .mv (.t 42), none⟩, ⟨some 44, .mv (.t 6), some (43, false)⟩, ⟨some 45, .bin .eql (.t 44) (.c (.int .u64 9223372036854775808)), some (43, false)⟩, ⟨some 46, .mv (.t 45), some (43, false)⟩, ⟨some 47, .mv (.t 4), some (46, true)⟩, ⟨some 48, .un .not (.t 47), some (46, true)⟩, ⟨some 49, .pick (.t 46) (.t 48) (.c (.bool false)), some (43, false)⟩, ⟨some 50, .pick (.t 43) (.c (.bool true)) (.t 49), none⟩, ⟨some 37, .mv (.t 50), none⟩]))
      (.cond (.t 37)
        (.seq (.keep [] (.ops [⟨some 2, .mv (.c (.int .i64 0)), none⟩, ⟨some 3, .mv (.c (.int .i64 2)), none⟩]))
        .ret)
        (.seq (.keep [4, 6] (.ops [⟨some 52, .mv (.t 4), none⟩, ⟨some 51, .mv (.t 52), none⟩]))
        (.cond (.t 51)
          (.seq (.keep [6] (.ops [⟨some 53, .mv (.t 6), none⟩, ⟨some 54, .un .neg (.t 53), none⟩, ⟨some 55, .cnv .i64 (.t 54), none⟩, ⟨some 2, .mv (.t 55), none⟩, ⟨some 3, .mv (.c (.int .i64 0)), none⟩]))
          .ret)
          .skip)))))))
    (.seq (.keep [6] (.ops [⟨some 56, .mv (.t 6), none⟩, ⟨some 57, .cnv .i64 (.t 56), none⟩, ⟨some 2, .mv (.t 57), none⟩, ⟨some 3, .mv (.c (.int .i64 0)), none⟩]))
    .ret))))))), [.t 2, .t 3], 58⟩
theorem eb16 : fB Tryd.prog 16 ec16 = true := by kernel_rfl

/-- partywall/partywallref05.Int -/
def ec17 : CF := ⟨(.seq (.keep [0] (.ops [⟨some 2, .mv (.c (.int .i64 0)), none⟩, ⟨some 3, .mv (.c (.int .i64 0)), none⟩]))
    (.seq (.keep [0] (.ops [⟨some 9, .mv (.t 0), none⟩, ⟨some 10, .bin .neq (.t 9) (.c (.str [])), none⟩, ⟨some 11, .mv (.t 10), none⟩, ⟨some 12, .mv (.t 0), some (11, true)⟩, ⟨some 13, .ixS (.t 12) (.c (.int .i64 0)), some (11, true)⟩, ⟨some 14, .bin .eql (.t 13) (.c (.int .u8 45)), some (11, true)⟩, ⟨some 15, .pick (.t 11) (.t 14) (.c (.bool false)), none⟩, ⟨some 4, .mv (.t 15), none⟩]))
    (.seq (.seq (.keep [0, 4] (.ops [⟨some 16, .mv (.t 4), none⟩]))
    (.cond (.t 16)
      (.keep [0, 4] (.ops [⟨some 17, .mv (.t 0), none⟩, ⟨some 18, .slcS (.t 17) (some (.c (.int .i64 1))) none, none⟩, ⟨some 0, .mv (.t 18), none⟩]))
      .skip))
    (.seq (.keep [0, 4] (.ops [⟨some 20, .mv (.t 0), none⟩, ⟨some 21, .call 48 [(.t 20)], none⟩, ⟨some 19, .mv (.t 21), none⟩, ⟨some 22, .ext (.t 19) 0, none⟩, ⟨some 23, .ext (.t 19) 1, none⟩, ⟨some 24, .ext (.t 19) 2, none⟩, ⟨some 5, .mv (.t 22), none⟩, ⟨some 6, .mv (.t 23), none⟩, ⟨some 7, .mv (.t 24), none⟩]))
    (.seq (.seq (.keep [4, 5, 6, 7] (.ops [⟨some 25, .mv (.t 7), none⟩, ⟨some 26, .bin .neq (.t 25) (.c (.int .i64 0)), none⟩, ⟨some 27, .mv (.t 26), none⟩, ⟨some 28, .mv (.t 4), some (27, false)⟩, ⟨some 29, .mv (.t 28), some (27, false)⟩, ⟨some 30, .mv (.t 5), some (29, true)⟩, ⟨some 31, .bin .eql (.t 30) (.c (.int .u64 0)), some (29, true)⟩, ⟨some 32, .pick (.t 29) (.t 31) (.c (.bool false)), some (27, false)⟩, ⟨some 33, .mv (.t 32), some (27, false)⟩, ⟨some 34, .mv (.t 6), some (33, true)⟩, ⟨some 35, .un .not (.t 34), some (33, true)⟩, ⟨some 36, .pick (.t 33) (.t 35) (.c (.bool false)), some (27, false)⟩, ⟨some 37, .pick (.t 27) (.c (.bool true)) (.t 36), none⟩]))
    (.cond (.t 37)
      (.seq (.keep [] (.ops [⟨some 2, .mv (.c (.int .i64 0)), none⟩, ⟨some 3, .mv (.c (.int .i64 3)), none⟩]))
      .ret)
      .skip))
    (.seq (.seq (.keep [4, 5, 6] (.ops [⟨some 38, .mv (.t 6), none⟩]))
    (.cond (.t 38)
      (.seq (.keep [] (.ops [⟨some 2, .mv (.c (.int .i64 0)), none⟩, ⟨some 3, .mv (.c (.int .i64 2)), none⟩]))
      .ret)
      .skip))
    (.seq (.keep [4, 5] (.ops [⟨some 40, .mv (.t 4), none⟩, ⟨some 41, .mv (.t 5), none⟩, ⟨some 42, .bld [.bool false, .int .u64 0, .int .u64 0] [(0, 1, (.t 40)), (2, 1, (.t 41))], none⟩, ⟨some 43, .call 49 [(.t 42)], none⟩, ⟨some 39, .mv (.t 43), none⟩, ⟨some 44, .ext (.t 39) 0, none⟩, ⟨some 45, .ext (.t 39) 1, none⟩, ⟨some 8, .mv (.t 44), none⟩, ⟨some 7, .mv (.t 45), none⟩]))
    (.seq (.seq (.keep [7, 8] (.ops [⟨some 46, .mv (.t 7), none⟩, ⟨some 47, .bin .neq (.t 46) (.c (.int .i64 0)), none⟩]))
    (.cond (.t 47)
      (.seq (.keep [] (.ops [⟨some 2, .mv (.c (.int .i64 0)), none⟩, ⟨some 3, .mv (.c (.int .i64 2)), none⟩]))
      .ret)
      .skip))
    (.seq (.keep [8] (.ops [⟨some 48, .mv (.t 8), none⟩, ⟨some 2, .mv (.t 48), none⟩, ⟨some 3, .mv (.c (.int .i64 0)), none⟩]))
    .ret))))))))), [.t 2, .t 3], 49⟩
theorem eb17 : fB Tryd.prog 17 ec17 = true := by kernel_rfl

/-- partywall/sums.Nat -/
def ec18 : CF := ⟨(.seq (.keep [0, 1] (.ops [⟨some 4, .mv (.c (.int .u64 0)), none⟩, ⟨some 5, .mv (.c (.int .i64 0)), none⟩]))
    (.seq (.keep [0, 1] (.ops [⟨some 10, .mv (.t 0), none⟩, ⟨some 11, .call 47 [(.t 10)], none⟩, ⟨some 9, .mv (.t 11), none⟩, ⟨some 12, .ext (.t 9) 0, none⟩, ⟨some 13, .ext (.t 9) 1, none⟩, ⟨some 14, .ext (.t 9) 2, none⟩, ⟨some 6, .mv (.t 12), none⟩, ⟨some 7, .mv (.t 13), none⟩, ⟨some 8, .mv (.t 14), none⟩]))
    (.seq (.block 0 (.seq (.keep [1, 6, 7, 8] (.ops [⟨some 16, .mv (.t 8), none⟩, ⟨some 17, .un .not (.t 16), none⟩, ⟨some 15, .mv (.t 17), none⟩]))
    (.cond (.t 15)
      (.seq (.keep [] (.ops [⟨some 4, .mv (.c (.int .u64 0)), none⟩, ⟨some 5, .mv (.c (.int .i64 3)), none⟩]))
      .ret)
      (.seq (.keep [1, 6, 7] (.ops [⟨some 19, .mv (.t 7), none⟩, ⟨some 20, .mv (.t 19), none⟩, ⟨some 21, .mv (.t 6), some (20, false)⟩, ⟨some 22, .mv (.t 1), some (20, false)⟩, ⟨some 23, .bin .gtr (.t 21) (.t 22), some (20, false)⟩, ⟨some 24, .pick (.t 20) (.c (.bool true)) (.t 23), none⟩, ⟨some 18, .mv (.t 24), none⟩]))
      (.cond (.t 18)
        (.seq (.keep [] (.ops [⟨some 4, .mv (.c (.int .u64 0)), none⟩, ⟨some 5, .mv (.c (.int .i64 2)), none⟩]))
        .ret)
        .skip)))))
    (.seq (.keep [6] (.ops [⟨some 25, .mv (.t 6), none⟩, ⟨some 4, .mv (.t 25), none⟩, ⟨some 5, .mv (.c (.int .i64 0)), none⟩]))
    .ret)))), [.t 4, .t 5], 26⟩
theorem eb18 : fB Tryd.prog 18 ec18 = true := by kernel_rfl

/-- partywall/partywallref05.Nat -/
def ec19 : CF := ⟨(.seq (.keep [0, 1] (.ops [⟨some 4, .mv (.c (.int .u64 0)), none⟩, ⟨some 5, .mv (.c (.int .i64 0)), none⟩]))
    (.seq (.keep [0, 1] (.ops [⟨some 10, .mv (.t 0), none⟩, ⟨some 11, .call 48 [(.t 10)], none⟩, ⟨some 9, .mv (.t 11), none⟩, ⟨some 12, .ext (.t 9) 0, none⟩, ⟨some 13, .ext (.t 9) 1, none⟩, ⟨some 14, .ext (.t 9) 2, none⟩, ⟨some 6, .mv (.t 12), none⟩, ⟨some 7, .mv (.t 13), none⟩, ⟨some 8, .mv (.t 14), none⟩]))
    (.seq (.block 0 (.seq (.keep [1, 6, 7, 8] (.ops [⟨some 16, .mv (.t 8), none⟩, ⟨some 17, .bin .neq (.t 16) (.c (.int .i64 0)), none⟩, ⟨some 15, .mv (.t 17), none⟩]))
    (.cond (.t 15)
      (.seq (.keep [8] (.ops [⟨some 18, .mv (.t 8), none⟩, ⟨some 4, .mv (.c (.int .u64 0)), none⟩, ⟨some 5, .mv (.t 18), none⟩]))
      .ret)
      (.seq (.keep [1, 6, 7] (.ops [⟨some 20, .mv (.t 7), none⟩, ⟨some 21, .mv (.t 20), none⟩, ⟨some 22, .mv (.t 6), some (21, false)⟩, ⟨some 23, .mv (.t 1), some (21, false)⟩, ⟨some 24, .bin .gtr (.t 22) (.t 23), some (21, false)⟩, ⟨some 25, .pick (.t 21) (.c (.bool true)) (.t 24), none⟩, ⟨some 19, .mv (.t 25), none⟩]))
      (.cond (.t 19)
        (.seq (.keep [] (.ops [⟨some 4, .mv (.c (.int .u64 0)), none⟩, ⟨some 5, .mv (.c (.int .i64 2)), none⟩]))
        .ret)
        .skip)))))
    (.seq (.keep [6] (.ops [⟨some 26, .mv (.t 6), none⟩, ⟨some 4, .mv (.t 26), none⟩, ⟨some 5, .mv (.c (.int .i64 0)), none⟩]))
    .ret)))), [.t 4, .t 5], 27⟩
theorem eb19 : fB Tryd.prog 19 ec19 = true := by kernel_rfl

/-- partywall/sums.Text -/
def ec20 : CF := ⟨(.seq (.keep [0] (.ops [⟨some 2, .mv (.c (.str [])), none⟩]))
    (.seq (.keep [0] (.ops [⟨some 3, .mv (.t 0), none⟩, ⟨some 4, .call 50 [(.t 3), (.c (.int .i64 10))], none⟩, ⟨some 2, .mv (.t 4), none⟩]))
    .ret)), [.t 2], 5⟩
theorem eb20 : fB Tryd.prog 20 ec20 = true := by kernel_rfl

/-- partywall/partywallref05.Text -/
def ec21 : CF := ⟨(.seq (.keep [0] (.ops [⟨some 2, .mv (.c (.str [])), none⟩]))
    (.seq (.seq (.keep [0] (.ops [⟨some 3, .mv (.t 0), none⟩, ⟨some 4, .bin .lss (.t 3) (.c (.int .i64 0)), none⟩]))
    (.cond (.t 4)
      (.seq (.keep [0] (.ops [⟨some 5, .mv (.t 0), none⟩, ⟨some 6, .call 52 [(.t 5)], none⟩, ⟨some 7, .call 51 [(.t 6)], none⟩, ⟨some 8, .bin .add (.c (.str [45])) (.t 7), none⟩, ⟨some 2, .mv (.t 8), none⟩]))
      .ret)
      .skip))
    (.seq (.keep [0] (.ops [⟨some 9, .mv (.t 0), none⟩, ⟨some 10, .call 52 [(.t 9)], none⟩, ⟨some 11, .call 51 [(.t 10)], none⟩, ⟨some 2, .mv (.t 11), none⟩]))
    .ret))), [.t 2], 12⟩
theorem eb21 : fB Tryd.prog 21 ec21 = true := by kernel_rfl

/-- partywall/sums.Add -/
def ec22 : CF := ⟨(.seq (.keep [0, 1] (.ops [⟨some 4, .mv (.c (.int .i64 0)), none⟩, ⟨some 5, .mv (.c (.int .i64 0)), none⟩]))
    (.seq (.keep [0, 1] (.ops [⟨some 7, .mv (.t 0), none⟩, ⟨some 8, .mv (.t 1), none⟩, ⟨some 9, .bin .add (.t 7) (.t 8), none⟩, ⟨some 6, .mv (.t 9), none⟩]))
    (.seq (.keep [0, 1, 6] (.ops [⟨some 10, .mv (.t 6), none⟩, ⟨some 11, .mv (.t 6), none⟩, ⟨some 12, .mv (.t 0), none⟩, ⟨some 13, .bin .gtr (.t 11) (.t 12), none⟩, ⟨some 14, .mv (.t 1), none⟩, ⟨some 15, .bin .gtr (.t 14) (.c (.int .i64 0)), none⟩, ⟨some 16, .eqb false (.t 13) (.t 15), none⟩, ⟨some 17, .mv (.t 16), none⟩, ⟨some 18, .mv (.t 1), some (17, false)⟩, ⟨some 19, .bin .eql (.t 18) (.c (.int .i64 0)), some (17, false)⟩, ⟨some 20, .pick (.t 17) (.c (.bool true)) (.t 19), none⟩, ⟨some 21, .call 53 [(.t 10), (.t 20)], none⟩, ⟨some 22, .ext (.t 21) 0, none⟩, ⟨some 23, .ext (.t 21) 1, none⟩, ⟨some 4, .mv (.t 22), none⟩, ⟨some 5, .mv (.t 23), none⟩]))
    .ret))), [.t 4, .t 5], 24⟩
theorem eb22 : fB Tryd.prog 22 ec22 = true := by kernel_rfl

/-- partywall/partywallref05.Add -/
def ec23 : CF := ⟨(.seq (.keep [0, 1] (.ops [⟨some 4, .mv (.c (.int .i64 0)), none⟩, ⟨some 5, .mv (.c (.int .i64 0)), none⟩]))
    (.seq (.keep [0, 1] (.ops [⟨some 6, .mv (.t 0), none⟩, ⟨some 7, .mv (.t 1), none⟩, ⟨some 8, .call 54 [(.t 6), (.t 7)], none⟩, ⟨some 9, .call 49 [(.t 8)], none⟩, ⟨some 10, .ext (.t 9) 0, none⟩, ⟨some 11, .ext (.t 9) 1, none⟩, ⟨some 4, .mv (.t 10), none⟩, ⟨some 5, .mv (.t 11), none⟩]))
    .ret)), [.t 4, .t 5], 12⟩
theorem eb23 : fB Tryd.prog 23 ec23 = true := by kernel_rfl

/-- partywall/sums.Sub -/
def ec24 : CF := ⟨(.seq (.keep [0, 1] (.ops [⟨some 4, .mv (.c (.int .i64 0)), none⟩, ⟨some 5, .mv (.c (.int .i64 0)), none⟩]))
    (.seq (.keep [0, 1] (.ops [⟨some 7, .mv (.t 0), none⟩, ⟨some 8, .mv (.t 1), none⟩, ⟨some 9, .bin .sub (.t 7) (.t 8), none⟩, ⟨some 6, .mv (.t 9), none⟩]))
    (.seq (.keep [0, 1, 6] (.ops [⟨some 10, .mv (.t 6), none⟩, ⟨some 11, .mv (.t 6), none⟩, ⟨some 12, .mv (.t 0), none⟩, ⟨some 13, .bin .lss (.t 11) (.t 12), none⟩, ⟨some 14, .mv (.t 1), none⟩, ⟨some 15, .bin .gtr (.t 14) (.c (.int .i64 0)), none⟩, ⟨some 16, .eqb false (.t 13) (.t 15), none⟩, ⟨some 17, .mv (.t 16), none⟩, ⟨some 18, .mv (.t 1), some (17, false)⟩, ⟨some 19, .bin .eql (.t 18) (.c (.int .i64 0)), some (17, false)⟩, ⟨some 20, .pick (.t 17) (.c (.bool true)) (.t 19), none⟩, ⟨some 21, .call 53 [(.t 10), (.t 20)], none⟩, ⟨some 22, .ext (.t 21) 0, none⟩, ⟨some 23, .ext (.t 21) 1, none⟩, ⟨some 4, .mv (.t 22), none⟩, ⟨some 5, .mv (.t 23), none⟩]))
    .ret))), [.t 4, .t 5], 24⟩
theorem eb24 : fB Tryd.prog 24 ec24 = true := by kernel_rfl

/-- partywall/partywallref05.Sub -/
def ec25 : CF := ⟨(.seq (.keep [0, 1] (.ops [⟨some 4, .mv (.c (.int .i64 0)), none⟩, ⟨some 5, .mv (.c (.int .i64 0)), none⟩]))
    (.seq (.seq (.keep [0, 1] (.ops [⟨some 6, .mv (.t 1), none⟩, ⟨some 7, .bin .neq (.t 6) (.c (.int .i64 (-9223372036854775808))), none⟩]))
    (.cond (.t 7)
      (.seq (.keep [0, 1] (.ops [⟨some 8, .mv (.t 0), none⟩, ⟨some 9, .mv (.t 1), none⟩, ⟨some 10, .un .neg (.t 9), none⟩, ⟨some 11, .call 23 [(.t 8), (.t 10)], none⟩, ⟨some 12, .ext (.t 11) 0, none⟩, ⟨some 13, .ext (.t 11) 1, none⟩, ⟨some 4, .mv (.t 12), none⟩, ⟨some 5, .mv (.t 13), none⟩]))
      .ret)
      .skip))
    (.seq (.seq (.keep [0] (.ops [⟨some 14, .mv (.t 0), none⟩, ⟨some 15, .bin .geq (.t 14) (.c (.int .i64 0)), none⟩]))
    (.cond (.t 15)
      (.seq (.keep [] (.ops [⟨some 4, .mv (.c (.int .i64 0)), none⟩, ⟨some 5, .mv (.c (.int .i64 16)), none⟩]))
      .ret)
      .skip))
    (.seq (.keep [0] (.ops [⟨some 16, .mv (.t 0), none⟩, ⟨some 17, .bin .sub (.t 16) (.c (.int .i64 (-9223372036854775808))), none⟩, ⟨some 4, .mv (.t 17), none⟩, ⟨some 5, .mv (.c (.int .i64 0)), none⟩]))
    .ret)))), [.t 4, .t 5], 18⟩
theorem eb25 : fB Tryd.prog 25 ec25 = true := by kernel_rfl

/-- partywall/sums.Mul -/
def ec26 : CF := ⟨(.seq (.keep [0, 1] (.ops [⟨some 4, .mv (.c (.int .i64 0)), none⟩, ⟨some 5, .mv (.c (.int .i64 0)), none⟩]))
    (.seq (.keep [0, 1] (.ops [⟨some 12, .mv (.t 0), none⟩, ⟨some 13, .call 56 [(.t 12)], none⟩, ⟨some 14, .mv (.t 1), none⟩, ⟨some 15, .call 56 [(.t 14)], none⟩, ⟨some 16, .call 55 [(.t 13), (.t 15)], none⟩, ⟨some 11, .mv (.t 16), none⟩, ⟨some 17, .ext (.t 11) 0, none⟩, ⟨some 18, .ext (.t 11) 1, none⟩, ⟨some 6, .mv (.t 17), none⟩, ⟨some 7, .mv (.t 18), none⟩]))
    (.seq (.keep [0, 1, 6, 7] (.ops [⟨some 19, .mv (.t 0), none⟩, ⟨some 20, .bin .lss (.t 19) (.c (.int .i64 0)), none⟩, ⟨some 21, .mv (.t 1), none⟩, ⟨some 22, .bin .lss (.t 21) (.c (.int .i64 0)), none⟩, ⟨some 23, .eqb true (.t 20) (.t 22), none⟩, ⟨some 8, .mv (.t 23), none⟩]))
    (.seq (.keep [6, 7, 8] (.ops [⟨some 9, .mv (.c (.int .u64 9223372036854775807)), none⟩]))
    (.seq (.seq (.keep [6, 7, 8, 9] (.ops [⟨some 24, .mv (.t 8), none⟩]))
    (.cond (.t 24)
      (.keep [6, 7, 8, 9] (.ops [⟨some 25, .mv (.t 9), none⟩, ⟨some 26, .bin .add (.t 25) (.c (.int .u64 1)), none⟩, ⟨some 9, .mv (.t 26), none⟩]))
      .skip))
    (.seq (.keep [6, 7, 8, 9] (.ops [⟨some 27, .mv (.t 7), none⟩, ⟨some 28, .cnv .i64 (.t 27), none⟩, ⟨some 10, .mv (.t 28), none⟩]))
    (.seq (.seq (.keep [6, 7, 8, 9, 10] (.ops [⟨some 29, .mv (.t 8), none⟩]))
    (.cond (.t 29)
      (.keep [6, 7, 9] (.ops [⟨some 30, .mv (.t 7), none⟩, ⟨some 31, .un .neg (.t 30), none⟩, ⟨some 32, .cnv .i64 (.t 31), none⟩, ⟨some 10, .mv (.t 32), none⟩]))
      .skip))
    (.seq (.keep [6, 7, 9, 10] (.ops [⟨some 33, .mv (.t 10), none⟩, ⟨some 34, .mv (.t 6), none⟩, ⟨some 35, .bin .eql (.t 34) (.c (.int .u64 0)), none⟩, ⟨some 36, .mv (.t 35), none⟩, ⟨some 37, .mv (.t 7), some (36, true)⟩, ⟨some 38, .mv (.t 9), some (36, true)⟩, ⟨some 39, .bin .leq (.t 37) (.t 38), some (36, true)⟩, ⟨some 40, .pick (.t 36) (.t 39) (.c (.bool false)), none⟩, ⟨some 41, .call 53 [(.t 33), (.t 40)], none⟩, ⟨some 42, .ext (.t 41) 0, none⟩, ⟨some 43, .ext (.t 41) 1, none⟩, ⟨some 4, .mv (.t 42), none⟩, ⟨some 5, .mv (.t 43), none⟩]))
    .ret)))))))), [.t 4, .t 5], 44⟩
theorem eb26 : fB Tryd.prog 26 ec26 = true := by kernel_rfl

/-- partywall/partywallref05.Mul -/
def ec27 : CF := ⟨(.seq (.keep [0, 1] (.ops [⟨some 4, .mv (.c (.int .i64 0)), none⟩, ⟨some 5, .mv (.c (.int .i64 0)), none⟩]))
    (.seq (.keep [0, 1] (.ops [⟨some 8, .mv (.t 0), none⟩, ⟨some 9, .call 52 [(.t 8)], none⟩, ⟨some 10, .mv (.t 1), none⟩, ⟨some 11, .call 52 [(.t 10)], none⟩, ⟨some 6, .mv (.t 9), none⟩, ⟨some 7, .mv (.t 11), none⟩]))
    (.seq (.seq (.keep [0, 1, 6, 7] (.ops [⟨some 12, .mv (.t 6), none⟩, ⟨some 13, .bin .neq (.t 12) (.c (.int .u64 0)), none⟩, ⟨some 14, .mv (.t 13), none⟩, ⟨some 15, .mv (.t 7), some (14, true)⟩, ⟨some 16, .mv (.t 6), some (14, true)⟩, ⟨some 17, .bin .quo (.c (.int .u64 9223372036854775808)) (.t 16), some (14, true)⟩, ⟨some 18, .bin .gtr (.t 15) (.t 17), some (14, true)⟩, ⟨some 19, .pick (.t 14) (.t 18) (.c (.bool false)), none⟩]))
    (.cond (.t 19)
      (.seq (.keep [] (.ops [⟨some 4, .mv (.c (.int .i64 0)), none⟩, ⟨some 5, .mv (.c (.int .i64 16)), none⟩]))
      .ret)
      .skip))
    (.seq (.keep [0, 1, 6, 7] (.ops [⟨some 20, .mv (.t 0), none⟩, ⟨some 21, .bin .lss (.t 20) (.c (.int .i64 0)), none⟩, ⟨some 22, .mv (.t 1), none⟩, ⟨some 23, .bin .lss (.t 22) (.c (.int .i64 0)), none⟩, ⟨some 24, .eqb true (.t 21) (.t 23), none⟩, ⟨some 25, .mv (.t 6), none⟩, ⟨some 26, .mv (.t 7), none⟩, ⟨some 27, .bin .mul (.t 25) (.t 26), none⟩, ⟨some 28, .bld [.bool false, .int .u64 0, .int .u64 0] [(0, 1, (.t 24)), (2, 1, (.t 27))], none⟩, ⟨some 29, .call 49 [(.t 28)], none⟩, ⟨some 30, .ext (.t 29) 0, none⟩, ⟨some 31, .ext (.t 29) 1, none⟩, ⟨some 4, .mv (.t 30), none⟩, ⟨some 5, .mv (.t 31), none⟩]))
    .ret)))), [.t 4, .t 5], 32⟩
theorem eb27 : fB Tryd.prog 27 ec27 = true := by kernel_rfl

/-- partywall/sums.Neg -/
def ec28 : CF := ⟨(.seq (.keep [0] (.ops [⟨some 2, .mv (.c (.int .i64 0)), none⟩, ⟨some 3, .mv (.c (.int .i64 0)), none⟩]))
    (.seq (.keep [0] (.ops [⟨some 4, .mv (.t 0), none⟩, ⟨some 5, .call 24 [(.c (.int .i64 0)), (.t 4)], none⟩, ⟨some 6, .ext (.t 5) 0, none⟩, ⟨some 7, .ext (.t 5) 1, none⟩, ⟨some 2, .mv (.t 6), none⟩, ⟨some 3, .mv (.t 7), none⟩]))
    .ret)), [.t 2, .t 3], 8⟩
theorem eb28 : fB Tryd.prog 28 ec28 = true := by kernel_rfl

/-- partywall/partywallref05.Neg -/
def ec29 : CF := ⟨(.seq (.keep [0] (.ops [⟨some 2, .mv (.c (.int .i64 0)), none⟩, ⟨some 3, .mv (.c (.int .i64 0)), none⟩]))
    (.seq (.keep [0] (.ops [⟨some 4, .mv (.t 0), none⟩, ⟨some 5, .bin .geq (.t 4) (.c (.int .i64 0)), none⟩, ⟨some 6, .mv (.t 0), none⟩, ⟨some 7, .call 52 [(.t 6)], none⟩, ⟨some 8, .bld [.bool false, .int .u64 0, .int .u64 0] [(0, 1, (.t 5)), (2, 1, (.t 7))], none⟩, ⟨some 9, .call 49 [(.t 8)], none⟩, ⟨some 10, .ext (.t 9) 0, none⟩, ⟨some 11, .ext (.t 9) 1, none⟩, ⟨some 2, .mv (.t 10), none⟩, ⟨some 3, .mv (.t 11), none⟩]))
    .ret)), [.t 2, .t 3], 12⟩
theorem eb29 : fB Tryd.prog 29 ec29 = true := by kernel_rfl

/-- partywall/sums.Cut -/
def ec30 : CF := ⟨(.seq (.keep [0, 1] (.ops [⟨some 4, .mv (.c (.int .i64 0)), none⟩, ⟨some 5, .mv (.c (.bool false)), none⟩, ⟨some 6, .mv (.c (.int .i64 0)), none⟩]))
    (.seq (.seq (.keep [0, 1] (.ops [⟨some 9, .mv (.t 1), none⟩, ⟨some 10, .bin .lss (.t 9) (.c (.int .i64 1)), none⟩, ⟨some 11, .mv (.t 10), none⟩, ⟨some 12, .mv (.t 1), some (11, false)⟩, ⟨some 13, .bin .gtr (.t 12) (.c (.int .i64 64)), some (11, false)⟩, ⟨some 14, .pick (.t 11) (.c (.bool true)) (.t 13), none⟩]))
    (.cond (.t 14)
      (.seq (.keep [] (.ops [⟨some 4, .mv (.c (.int .i64 0)), none⟩, ⟨some 5, .mv (.c (.bool false)), none⟩, ⟨some 6, .mv (.c (.int .i64 2)), none⟩]))
      .ret)
      .skip))
    (.seq (.keep [0, 1] (.ops [⟨some 15, .mv (.t 1), none⟩, ⟨some 16, .bin .sub (.c (.int .i64 64)) (.t 15), none⟩, ⟨some 17, .cnv .u64 (.t 16), none⟩, ⟨some 7, .mv (.t 17), none⟩]))
    (.seq (.keep [0, 7] (.ops [⟨some 18, .mv (.t 0), none⟩, ⟨some 19, .mv (.t 7), none⟩, ⟨some 20, .bin .shl (.t 18) (.t 19), none⟩, ⟨some 21, .mv (.t 7), none⟩, ⟨some 22, .bin .shr (.t 20) (.t 21), none⟩, ⟨some 8, .mv (.t 22), none⟩]))
    (.seq (.keep [0, 8] (.ops [⟨some 23, .mv (.t 8), none⟩, ⟨some 24, .mv (.t 8), none⟩, ⟨some 25, .mv (.t 0), none⟩, ⟨some 26, .bin .eql (.t 24) (.t 25), none⟩, ⟨some 4, .mv (.t 23), none⟩, ⟨some 5, .mv (.t 26), none⟩, ⟨some 6, .mv (.c (.int .i64 0)), none⟩]))
    .ret))))), [.t 4, .t 5, .t 6], 27⟩
theorem eb30 : fB Tryd.prog 30 ec30 = true := by kernel_rfl

/-- partywall/partywallref05.Cut -/
def ec31 : CF := ⟨(.seq (.keep [0, 1] (.ops [⟨some 4, .mv (.c (.int .i64 0)), none⟩, ⟨some 5, .mv (.c (.bool false)), none⟩, ⟨some 6, .mv (.c (.int .i64 0)), none⟩]))
    (.seq (.seq (.keep [0, 1] (.ops [⟨some 9, .mv (.t 1), none⟩, ⟨some 10, .bin .lss (.t 9) (.c (.int .i64 1)), none⟩, ⟨some 11, .mv (.t 10), none⟩, ⟨some 12, .mv (.t 1), some (11, false)⟩, ⟨some 13, .bin .gtr (.t 12) (.c (.int .i64 64)), some (11, false)⟩, ⟨some 14, .pick (.t 11) (.c (.bool true)) (.t 13), none⟩]))
    (.cond (.t 14)
      (.seq (.keep [] (.ops [⟨some 4, .mv (.c (.int .i64 0)), none⟩, ⟨some 5, .mv (.c (.bool false)), none⟩, ⟨some 6, .mv (.c (.int .i64 2)), none⟩]))
      .ret)
      .skip))
    (.seq (.keep [0, 1] (.ops [⟨some 15, .mv (.t 0), none⟩, ⟨some 16, .cnv .u64 (.t 15), none⟩, ⟨some 17, .mv (.t 1), none⟩, ⟨some 18, .bin .sub (.c (.int .i64 64)) (.t 17), none⟩, ⟨some 19, .cnv .u64 (.t 18), none⟩, ⟨some 20, .bin .shl (.t 16) (.t 19), none⟩, ⟨some 7, .mv (.t 20), none⟩]))
    (.seq (.keep [0, 1, 7] (.ops [⟨some 21, .mv (.t 7), none⟩, ⟨some 22, .cnv .i64 (.t 21), none⟩, ⟨some 23, .mv (.t 1), none⟩, ⟨some 24, .bin .sub (.c (.int .i64 64)) (.t 23), none⟩, ⟨some 25, .cnv .u64 (.t 24), none⟩, ⟨some 26, .bin .shr (.t 22) (.t 25), none⟩, ⟨some 8, .mv (.t 26), none⟩]))
    (.seq (.keep [0, 8] (.ops [⟨some 27, .mv (.t 8), none⟩, ⟨some 28, .mv (.t 8), none⟩, ⟨some 29, .mv (.t 0), none⟩, ⟨some 30, .bin .eql (.t 28) (.t 29), none⟩, ⟨some 4, .mv (.t 27), none⟩, ⟨some 5, .mv (.t 30), none⟩, ⟨some 6, .mv (.c (.int .i64 0)), none⟩]))
    .ret))))), [.t 4, .t 5, .t 6], 31⟩
theorem eb31 : fB Tryd.prog 31 ec31 = true := by kernel_rfl

/-- partywall/sums.Next -/
def ec32 : CF := ⟨(.seq (.keep [0] (.ops [⟨some 2, .mv (.c (.int .u64 0)), none⟩, ⟨some 3, .mv (.c (.int .i64 0)), none⟩]))
    (.seq (.keep [0] (.ops [⟨some 4, .mv (.t 0), none⟩, ⟨some 5, .call 34 [(.t 4), (.c (.int .u64 1))], none⟩, ⟨some 6, .ext (.t 5) 0, none⟩, ⟨some 7, .ext (.t 5) 1, none⟩, ⟨some 2, .mv (.t 6), none⟩, ⟨some 3, .mv (.t 7), none⟩]))
    .ret)), [.t 2, .t 3], 8⟩
theorem eb32 : fB Tryd.prog 32 ec32 = true := by kernel_rfl

/-- partywall/partywallref05.Next -/
def ec33 : CF := ⟨(.seq (.keep [0] (.ops [⟨some 2, .mv (.c (.int .u64 0)), none⟩, ⟨some 3, .mv (.c (.int .i64 0)), none⟩]))
    (.seq (.keep [0] (.ops [⟨some 4, .mv (.t 0), none⟩, ⟨some 5, .call 35 [(.t 4), (.c (.int .u64 1))], none⟩, ⟨some 6, .ext (.t 5) 0, none⟩, ⟨some 7, .ext (.t 5) 1, none⟩, ⟨some 2, .mv (.t 6), none⟩, ⟨some 3, .mv (.t 7), none⟩]))
    .ret)), [.t 2, .t 3], 8⟩
theorem eb33 : fB Tryd.prog 33 ec33 = true := by kernel_rfl

/-- partywall/sums.Plus -/
def ec34 : CF := ⟨(.seq (.keep [0, 1] (.ops [⟨some 4, .mv (.c (.int .u64 0)), none⟩, ⟨some 5, .mv (.c (.int .i64 0)), none⟩]))
    (.seq (.seq (.keep [0, 1] (.ops [⟨some 6, .mv (.t 0), none⟩, ⟨some 7, .mv (.t 1), none⟩, ⟨some 8, .mkSl 1 2 [.int .u64 0, .int .u64 0] [(0, 1, (.t 6)), (1, 1, (.t 7))], none⟩, ⟨some 9, .call 57 [(.c (.int .u64 0)), (.c (.int .u64 1099511627776)), (.t 8)], none⟩, ⟨some 10, .un .not (.t 9), none⟩, ⟨some 11, .mv (.t 10), none⟩, ⟨some 12, .mv (.t 0), some (11, false)⟩, ⟨some 13, .mv (.t 1), some (11, false)⟩, ⟨some 14, .bin .add (.t 12) (.t 13), some (11, false)⟩, ⟨some 15, .bin .gtr (.t 14) (.c (.int .u64 1099511627776)), some (11, false)⟩, ⟨some 16, .pick (.t 11) (.c (.bool true)) (.t 15), none⟩]))
    (.cond (.t 16)
      (.seq (.keep [] (.ops [⟨some 4, .mv (.c (.int .u64 0)), none⟩, ⟨some 5, .mv (.c (.int .i64 6)), none⟩]))
      .ret)
      .skip))
    (.seq (.keep [0, 1] (.ops [⟨some 17, .mv (.t 0), none⟩, ⟨some 18, .mv (.t 1), none⟩, ⟨some 19, .bin .add (.t 17) (.t 18), none⟩, ⟨some 4, .mv (.t 19), none⟩, ⟨some 5, .mv (.c (.int .i64 0)), none⟩]))
    .ret))), [.t 4, .t 5], 20⟩
theorem eb34 : fB Tryd.prog 34 ec34 = true := by kernel_rfl

/-- partywall/partywallref05.Plus -/
def ec35 : CF := ⟨(.seq (.keep [0, 1] (.ops [⟨some 4, .mv (.c (.int .u64 0)), none⟩, ⟨some 5, .mv (.c (.int .i64 0)), none⟩]))
    (.seq (.seq (.keep [0, 1] (.ops [⟨some 6, .mv (.t 0), none⟩, ⟨some 7, .bin .gtr (.t 6) (.c (.int .u64 1099511627776)), none⟩, ⟨some 8, .mv (.t 7), none⟩, ⟨some 9, .mv (.t 1), some (8, false)⟩, ⟨some 10, .bin .gtr (.t 9) (.c (.int .u64 1099511627776)), some (8, false)⟩, ⟨some 11, .pick (.t 8) (.c (.bool true)) (.t 10), none⟩, ⟨some 12, .mv (.t 11), none⟩, ⟨some 13, .mv (.t 0), some (12, false)⟩, ⟨some 14, .mv (.t 1), some (12, false)⟩, ⟨some 15, .bin .add (.t 13) (.t 14), some (12, false)⟩, ⟨some 16, .bin .gtr (.t 15) (.c (.int .u64 1099511627776)), some (12, false)⟩, ⟨some 17, .pick (.t 12) (.c (.bool true)) (.t 16), none⟩]))
    (.cond (.t 17)
      (.seq (.keep [] (.ops [⟨some 4, .mv (.c (.int .u64 0)), none⟩, ⟨some 5, .mv (.c (.int .i64 6)), none⟩]))
      .ret)
      .skip))
    (.seq (.keep [0, 1] (.ops [⟨some 18, .mv (.t 0), none⟩, ⟨some 19, .mv (.t 1), none⟩, ⟨some 20, .bin .add (.t 18) (.t 19), none⟩, ⟨some 4, .mv (.t 20), none⟩, ⟨some 5, .mv (.c (.int .i64 0)), none⟩]))
    .ret))), [.t 4, .t 5], 21⟩
theorem eb35 : fB Tryd.prog 35 ec35 = true := by kernel_rfl

/-- partywall/sums.Ceil -/
def ec36 : CF := ⟨(.seq (.keep [0, 1] (.ops [⟨some 4, .mv (.c (.int .i64 0)), none⟩, ⟨some 5, .mv (.c (.int .i64 0)), none⟩]))
    (.seq (.seq (.keep [0, 1] (.ops [⟨some 6, .mv (.t 0), none⟩, ⟨some 7, .mkSl 1 1 [.int .i64 0] [(0, 1, (.t 6))], none⟩, ⟨some 8, .call 58 [(.c (.int .i64 0)), (.t 7)], none⟩, ⟨some 9, .un .not (.t 8), none⟩, ⟨some 10, .mv (.t 9), none⟩, ⟨some 11, .mv (.t 1), some (10, false)⟩, ⟨some 12, .mkSl 1 1 [.int .i64 0] [(0, 1, (.t 11))], some (10, false)⟩, ⟨some 13, .call 58 [(.c (.int .i64 1)), (.t 12)], some (10, false)⟩, ⟨some 14, .un .not (.t 13), some (10, false)⟩, ⟨some 15, .pick (.t 10) (.c (.bool true)) (.t 14), none⟩]))
    (.cond (.t 15)
      (.seq (.keep [] (.ops [⟨some 4, .mv (.c (.int .i64 0)), none⟩, ⟨some 5, .mv (.c (.int .i64 2)), none⟩]))
      .ret)
      .skip))
    (.seq (.keep [0, 1] (.ops [⟨some 16, .mv (.t 0), none⟩, ⟨some 17, .mv (.t 1), none⟩, ⟨some 18, .bin .add (.t 16) (.t 17), none⟩, ⟨some 19, .bin .sub (.t 18) (.c (.int .i64 1)), none⟩, ⟨some 20, .mv (.t 1), none⟩, ⟨some 21, .bin .quo (.t 19) (.t 20), none⟩, ⟨some 4, .mv (.t 21), none⟩, ⟨some 5, .mv (.c (.int .i64 0)), none⟩]))
    .ret))), [.t 4, .t 5], 22⟩
theorem eb36 : fB Tryd.prog 36 ec36 = true := by kernel_rfl

/-- partywall/partywallref05.Ceil -/
def ec37 : CF := ⟨(.seq (.keep [0, 1] (.ops [⟨some 4, .mv (.c (.int .i64 0)), none⟩, ⟨some 5, .mv (.c (.int .i64 0)), none⟩]))
    (.seq (.seq (.keep [0, 1] (.ops [⟨some 6, .mv (.t 0), none⟩, ⟨some 7, .call 59 [(.t 6)], none⟩, ⟨some 8, .un .not (.t 7), none⟩, ⟨some 9, .mv (.t 8), none⟩, ⟨some 10, .mv (.t 1), some (9, false)⟩, ⟨some 11, .call 59 [(.t 10)], some (9, false)⟩, ⟨some 12, .un .not (.t 11), some (9, false)⟩, ⟨some 13, .pick (.t 9) (.c (.bool true)) (.t 12), none⟩, ⟨some 14, .mv (.t 13), none⟩, ⟨some 15, .mv (.t 1), some (14, false)⟩, ⟨some 16, .bin .eql (.t 15) (.c (.int .i64 0)), some (14, false)⟩, ⟨some 17, .pick (.t 14) (.c (.bool true)) (.t 16), none⟩]))
    (.cond (.t 17)
      (.seq (.keep [] (.ops [⟨some 4, .mv (.c (.int .i64 0)), none⟩, ⟨some 5, .mv (.c (.int .i64 2)), none⟩]))
      .ret)
      .skip))
    (.seq (.keep [0, 1] (.ops [⟨some 18, .mv (.t 0), none⟩, ⟨some 19, .mv (.t 1), none⟩, ⟨some 20, .bin .add (.t 18) (.t 19), none⟩, ⟨some 21, .bin .sub (.t 20) (.c (.int .i64 1)), none⟩, ⟨some 22, .mv (.t 1), none⟩, ⟨some 23, .bin .quo (.t 21) (.t 22), none⟩, ⟨some 4, .mv (.t 23), none⟩, ⟨some 5, .mv (.c (.int .i64 0)), none⟩]))
    .ret))), [.t 4, .t 5], 24⟩
theorem eb37 : fB Tryd.prog 37 ec37 = true := by kernel_rfl

/-- partywall/sums.Most -/
def ec38 : CF := ⟨(.seq (.keep [0, 1, 2] (.ops [⟨some 6, .mv (.c (.int .i64 0)), none⟩, ⟨some 7, .mv (.c (.int .i64 0)), none⟩]))
    (.seq (.seq (.keep [0, 1, 2] (.ops [⟨some 10, .mv (.t 0), none⟩, ⟨some 11, .mv (.t 1), none⟩, ⟨some 12, .mv (.t 2), none⟩, ⟨some 13, .mkSl 1 3 [.int .i64 0, .int .i64 0, .int .i64 0] [(0, 1, (.t 10)), (1, 1, (.t 11)), (2, 1, (.t 12))], none⟩, ⟨some 14, .call 58 [(.c (.int .i64 0)), (.t 13)], none⟩, ⟨some 15, .un .not (.t 14), none⟩]))
    (.cond (.t 15)
      (.seq (.keep [] (.ops [⟨some 6, .mv (.c (.int .i64 0)), none⟩, ⟨some 7, .mv (.c (.int .i64 2)), none⟩]))
      .ret)
      .skip))
    (.seq (.keep [0, 1, 2] (.ops [⟨some 17, .mv (.t 0), none⟩, ⟨some 18, .cnv .u64 (.t 17), none⟩, ⟨some 19, .mv (.t 1), none⟩, ⟨some 20, .cnv .u64 (.t 19), none⟩, ⟨some 21, .call 55 [(.t 18), (.t 20)], none⟩, ⟨some 16, .mv (.t 21), none⟩, ⟨some 22, .ext (.t 16) 0, none⟩, ⟨some 23, .ext (.t 16) 1, none⟩, ⟨some 8, .mv (.t 22), none⟩, ⟨some 9, .mv (.t 23), none⟩]))
    (.seq (.seq (.keep [2, 8, 9] (.ops [⟨some 24, .mv (.t 8), none⟩, ⟨some 25, .bin .neq (.t 24) (.c (.int .u64 0)), none⟩, ⟨some 26, .mv (.t 25), none⟩, ⟨some 27, .mv (.t 9), some (26, false)⟩, ⟨some 28, .mv (.t 2), some (26, false)⟩, ⟨some 29, .cnv .u64 (.t 28), some (26, false)⟩, ⟨some 30, .bin .gtr (.t 27) (.t 29), some (26, false)⟩, ⟨some 31, .pick (.t 26) (.c (.bool true)) (.t 30), none⟩]))
    (.cond (.t 31)
      (.seq (.keep [2] (.ops [⟨some 32, .mv (.t 2), none⟩, ⟨some 6, .mv (.t 32), none⟩, ⟨some 7, .mv (.c (.int .i64 0)), none⟩]))
      .ret)
      .skip))
    (.seq (.keep [9] (.ops [⟨some 33, .mv (.t 9), none⟩, ⟨some 34, .cnv .i64 (.t 33), none⟩, ⟨some 6, .mv (.t 34), none⟩, ⟨some 7, .mv (.c (.int .i64 0)), none⟩]))
    .ret))))), [.t 6, .t 7], 35⟩
theorem eb38 : fB Tryd.prog 38 ec38 = true := by kernel_rfl

/-- partywall/partywallref05.Most -/
def ec39 : CF := ⟨(.seq (.keep [0, 1, 2] (.ops [⟨some 6, .mv (.c (.int .i64 0)), none⟩, ⟨some 7, .mv (.c (.int .i64 0)), none⟩]))
    (.seq (.seq (.keep [0, 1, 2] (.ops [⟨some 8, .mv (.t 0), none⟩, ⟨some 9, .call 59 [(.t 8)], none⟩, ⟨some 10, .un .not (.t 9), none⟩, ⟨some 11, .mv (.t 10), none⟩, ⟨some 12, .mv (.t 1), some (11, false)⟩, ⟨some 13, .call 59 [(.t 12)], some (11, false)⟩, ⟨some 14, .un .not (.t 13), some (11, false)⟩, ⟨some 15, .pick (.t 11) (.c (.bool true)) (.t 14), none⟩, ⟨some 16, .mv (.t 15), none⟩, ⟨some 17, .mv (.t 2), some (16, false)⟩, ⟨some 18, .call 59 [(.t 17)], some (16, false)⟩, ⟨some 19, .un .not (.t 18), some (16, false)⟩, ⟨some 20, .pick (.t 16) (.c (.bool true)) (.t 19), none⟩]))
    (.cond (.t 20)
      (.seq (.keep [] (.ops [⟨some 6, .mv (.c (.int .i64 0)), none⟩, ⟨some 7, .mv (.c (.int .i64 2)), none⟩]))
      .ret)
      .skip))
    (.seq (.seq (.keep [0, 1, 2] (.ops [⟨some 21, .mv (.t 0), none⟩, ⟨some 22, .bin .neq (.t 21) (.c (.int .i64 0)), none⟩, ⟨some 23, .mv (.t 22), none⟩, ⟨some 24, .mv (.t 1), some (23, true)⟩, ⟨some 25, .mv (.t 2), some (23, true)⟩, ⟨some 26, .mv (.t 0), some (23, true)⟩, ⟨some 27, .bin .quo (.t 25) (.t 26), some (23, true)⟩, ⟨some 28, .bin .gtr (.t 24) (.t 27), some (23, true)⟩, ⟨some 29, .pick (.t 23) (.t 28) (.c (.bool false)), none⟩]))
    (.cond (.t 29)
      (.seq (.keep [2] (.ops [⟨some 30, .mv (.t 2), none⟩, ⟨some 6, .mv (.t 30), none⟩, ⟨some 7, .mv (.c (.int .i64 0)), none⟩]))
      .ret)
      .skip))
    (.seq (.keep [0, 1, 2] (.ops [⟨some 31, .mv (.t 0), none⟩, ⟨some 32, .mv (.t 1), none⟩, ⟨some 33, .bin .mul (.t 31) (.t 32), none⟩, ⟨some 34, .mv (.t 2), none⟩, ⟨some 35, .mm false (.t 33) (.t 34), none⟩, ⟨some 6, .mv (.t 35), none⟩, ⟨some 7, .mv (.c (.int .i64 0)), none⟩]))
    .ret)))), [.t 6, .t 7], 36⟩
theorem eb39 : fB Tryd.prog 39 ec39 = true := by kernel_rfl

/-- partywall/partywalllaw05.subs -/
def ec40 : CF := ⟨(.seq (.keep [0, 1, 2, 3] (.ops [⟨some 8, .mv (.c (.bool false)), none⟩]))
    (.seq (.keep [0, 1, 2, 3] (.ops [⟨some 12, .mv (.t 0), none⟩, ⟨some 13, .mv (.t 1), none⟩, ⟨some 14, .call 24 [(.t 12), (.t 13)], none⟩, ⟨some 11, .mv (.t 14), none⟩, ⟨some 15, .ext (.t 11) 0, none⟩, ⟨some 16, .ext (.t 11) 1, none⟩, ⟨some 9, .mv (.t 15), none⟩, ⟨some 10, .mv (.t 16), none⟩]))
    (.seq (.keep [2, 3, 9, 10] (.ops [⟨some 17, .mv (.t 9), none⟩, ⟨some 18, .mv (.t 2), none⟩, ⟨some 19, .bin .eql (.t 17) (.t 18), none⟩, ⟨some 20, .mv (.t 19), none⟩, ⟨some 21, .mv (.t 10), some (20, true)⟩, ⟨some 22, .mv (.t 3), some (20, true)⟩, ⟨some 23, .bin .eql (.t 21) (.t 22), some (20, true)⟩, ⟨some 24, .pick (.t 20) (.t 23) (.c (.bool false)), none⟩, ⟨some 8, .mv (.t 24), none⟩]))
    .ret))), [.t 8], 25⟩
theorem eb40 : fB Tryd.prog 40 ec40 = true := by kernel_rfl

/-- partywall/partywalllaw05.muls -/
def ec41 : CF := ⟨(.seq (.keep [0, 1, 2, 3] (.ops [⟨some 8, .mv (.c (.bool false)), none⟩]))
    (.seq (.keep [0, 1, 2, 3] (.ops [⟨some 12, .mv (.t 0), none⟩, ⟨some 13, .mv (.t 1), none⟩, ⟨some 14, .call 26 [(.t 12), (.t 13)], none⟩, ⟨some 11, .mv (.t 14), none⟩, ⟨some 15, .ext (.t 11) 0, none⟩, ⟨some 16, .ext (.t 11) 1, none⟩, ⟨some 9, .mv (.t 15), none⟩, ⟨some 10, .mv (.t 16), none⟩]))
    (.seq (.keep [2, 3, 9, 10] (.ops [⟨some 17, .mv (.t 9), none⟩, ⟨some 18, .mv (.t 2), none⟩, ⟨some 19, .bin .eql (.t 17) (.t 18), none⟩, ⟨some 20, .mv (.t 19), none⟩, ⟨some 21, .mv (.t 10), some (20, true)⟩, ⟨some 22, .mv (.t 3), some (20, true)⟩, ⟨some 23, .bin .eql (.t 21) (.t 22), some (20, true)⟩, ⟨some 24, .pick (.t 20) (.t 23) (.c (.bool false)), none⟩, ⟨some 8, .mv (.t 24), none⟩]))
    .ret))), [.t 8], 25⟩
theorem eb41 : fB Tryd.prog 41 ec41 = true := by kernel_rfl

/-- partywall/partywalllaw05.ints -/
def ec42 : CF := ⟨(.seq (.keep [0, 1, 2] (.ops [⟨some 6, .mv (.c (.bool false)), none⟩]))
    (.seq (.keep [0, 1, 2] (.ops [⟨some 10, .mv (.t 0), none⟩, ⟨some 11, .call 16 [(.t 10)], none⟩, ⟨some 9, .mv (.t 11), none⟩, ⟨some 12, .ext (.t 9) 0, none⟩, ⟨some 13, .ext (.t 9) 1, none⟩, ⟨some 7, .mv (.t 12), none⟩, ⟨some 8, .mv (.t 13), none⟩]))
    (.seq (.keep [1, 2, 7, 8] (.ops [⟨some 14, .mv (.t 7), none⟩, ⟨some 15, .mv (.t 1), none⟩, ⟨some 16, .bin .eql (.t 14) (.t 15), none⟩, ⟨some 17, .mv (.t 16), none⟩, ⟨some 18, .mv (.t 8), some (17, true)⟩, ⟨some 19, .mv (.t 2), some (17, true)⟩, ⟨some 20, .bin .eql (.t 18) (.t 19), some (17, true)⟩, ⟨some 21, .pick (.t 17) (.t 20) (.c (.bool false)), none⟩, ⟨some 6, .mv (.t 21), none⟩]))
    .ret))), [.t 6], 22⟩
theorem eb42 : fB Tryd.prog 42 ec42 = true := by kernel_rfl

/-- partywall/partywalllaw05.nats -/
def ec43 : CF := ⟨(.seq (.keep [0, 1, 2, 3] (.ops [⟨some 8, .mv (.c (.bool false)), none⟩]))
    (.seq (.keep [0, 1, 2, 3] (.ops [⟨some 12, .mv (.t 0), none⟩, ⟨some 13, .mv (.t 1), none⟩, ⟨some 14, .call 18 [(.t 12), (.t 13)], none⟩, ⟨some 11, .mv (.t 14), none⟩, ⟨some 15, .ext (.t 11) 0, none⟩, ⟨some 16, .ext (.t 11) 1, none⟩, ⟨some 9, .mv (.t 15), none⟩, ⟨some 10, .mv (.t 16), none⟩]))
    (.seq (.keep [2, 3, 9, 10] (.ops [⟨some 17, .mv (.t 9), none⟩, ⟨some 18, .mv (.t 2), none⟩, ⟨some 19, .bin .eql (.t 17) (.t 18), none⟩, ⟨some 20, .mv (.t 19), none⟩, ⟨some 21, .mv (.t 10), some (20, true)⟩, ⟨some 22, .mv (.t 3), some (20, true)⟩, ⟨some 23, .bin .eql (.t 21) (.t 22), some (20, true)⟩, ⟨some 24, .pick (.t 20) (.t 23) (.c (.bool false)), none⟩, ⟨some 8, .mv (.t 24), none⟩]))
    .ret))), [.t 8], 25⟩
theorem eb43 : fB Tryd.prog 43 ec43 = true := by kernel_rfl

/-- partywall/partywalllaw05.cuts -/
def ec44 : CF := ⟨(.seq (.keep [0, 1, 2, 3] (.ops [⟨some 8, .mv (.c (.bool false)), none⟩]))
    (.seq (.keep [0, 1, 2, 3] (.ops [⟨some 13, .mv (.t 0), none⟩, ⟨some 14, .mv (.t 1), none⟩, ⟨some 15, .call 30 [(.t 13), (.t 14)], none⟩, ⟨some 12, .mv (.t 15), none⟩, ⟨some 16, .ext (.t 12) 0, none⟩, ⟨some 17, .ext (.t 12) 1, none⟩, ⟨some 18, .ext (.t 12) 2, none⟩, ⟨some 9, .mv (.t 16), none⟩, ⟨some 10, .mv (.t 17), none⟩, ⟨some 11, .mv (.t 18), none⟩]))
    (.seq (.keep [2, 3, 9, 10, 11] (.ops [⟨some 19, .mv (.t 9), none⟩, ⟨some 20, .mv (.t 2), none⟩, ⟨some 21, .bin .eql (.t 19) (.t 20), none⟩, ⟨some 22, .mv (.t 21), none⟩, ⟨some 23, .mv (.t 10), some (22, true)⟩, ⟨some 24, .mv (.t 3), some (22, true)⟩, ⟨some 25, .eqb false (.t 23) (.t 24), some (22, true)⟩, ⟨some 26, .pick (.t 22) (.t 25) (.c (.bool false)), none⟩, ⟨some 27, .mv (.t 26), none⟩, ⟨some 28, .mv (.t 11), some (27, true)⟩, ⟨some 29, .bin .eql (.t 28) (.c (.int .i64 0)), some (27, true)⟩, ⟨some 30, .pick (.t 27) (.t 29) (.c (.bool false)), none⟩, ⟨some 8, .mv (.t 30), none⟩]))
    .ret))), [.t 8], 31⟩
theorem eb44 : fB Tryd.prog 44 ec44 = true := by kernel_rfl

/-- partywall/partywallkit.Mod -/
def ec45 : CF := ⟨(.seq (.keep [0, 1] (.ops [⟨some 4, .mv (.c (.int .i64 0)), none⟩]))
    (.seq (.seq (.keep [0, 1] (.ops [⟨some 5, .mv (.t 1), none⟩, ⟨some 6, .bin .lss (.t 5) (.c (.int .i64 1)), none⟩]))
    (.cond (.t 6)
      (.seq (.keep [] (.ops [⟨some 4, .mv (.c (.int .i64 0)), none⟩]))
      .ret)
      .skip))
    (.seq (.keep [0, 1] (.ops [⟨some 7, .mv (.t 0), none⟩, ⟨some 8, .mv (.t 1), none⟩, ⟨some 9, .bin .rem (.t 7) (.t 8), none⟩, ⟨some 0, .mv (.t 9), none⟩]))
    (.seq (.seq (.keep [0, 1] (.ops [⟨some 10, .mv (.t 0), none⟩, ⟨some 11, .bin .lss (.t 10) (.c (.int .i64 0)), none⟩]))
    (.cond (.t 11)
      (.keep [0, 1] (.ops [⟨some 12, .mv (.t 0), none⟩, ⟨some 13, .mv (.t 1), none⟩, ⟨some 14, .bin .add (.t 12) (.t 13), none⟩, ⟨some 0, .mv (.t 14), none⟩]))
      .skip))
    (.seq (.keep [0] (.ops [⟨some 15, .mv (.t 0), none⟩, ⟨some 4, .mv (.t 15), none⟩]))
    .ret))))), [.t 4], 16⟩
theorem eb45 : fB Tryd.prog 45 ec45 = true := by kernel_rfl

/-- partywall/partywalllaw05.adds -/
def ec46 : CF := ⟨(.seq (.keep [0, 1, 2, 3] (.ops [⟨some 8, .mv (.c (.bool false)), none⟩]))
    (.seq (.keep [0, 1, 2, 3] (.ops [⟨some 12, .mv (.t 0), none⟩, ⟨some 13, .mv (.t 1), none⟩, ⟨some 14, .call 22 [(.t 12), (.t 13)], none⟩, ⟨some 11, .mv (.t 14), none⟩, ⟨some 15, .ext (.t 11) 0, none⟩, ⟨some 16, .ext (.t 11) 1, none⟩, ⟨some 9, .mv (.t 15), none⟩, ⟨some 10, .mv (.t 16), none⟩]))
    (.seq (.keep [2, 3, 9, 10] (.ops [⟨some 17, .mv (.t 9), none⟩, ⟨some 18, .mv (.t 2), none⟩, ⟨some 19, .bin .eql (.t 17) (.t 18), none⟩, ⟨some 20, .mv (.t 19), none⟩, ⟨some 21, .mv (.t 10), some (20, true)⟩, ⟨some 22, .mv (.t 3), some (20, true)⟩, ⟨some 23, .bin .eql (.t 21) (.t 22), some (20, true)⟩, ⟨some 24, .pick (.t 20) (.t 23) (.c (.bool false)), none⟩, ⟨some 8, .mv (.t 24), none⟩]))
    .ret))), [.t 8], 25⟩
theorem eb46 : fB Tryd.prog 46 ec46 = true := by kernel_rfl

/-- partywall/sums.digits -/
def ec47 : CF := ⟨(.seq (.keep [0] (.ops [⟨some 2, .mv (.c (.int .u64 0)), none⟩, ⟨some 3, .mv (.c (.bool false)), none⟩, ⟨some 4, .mv (.c (.bool false)), none⟩]))
    (.seq (.seq (.keep [0, 2, 3] (.ops [⟨some 10, .mv (.t 0), none⟩, ⟨some 11, .bin .eql (.t 10) (.c (.str [])), none⟩, ⟨some 12, .mv (.t 11), none⟩, ⟨some 13, .mv (.t 0), some (12, false)⟩, ⟨some 14, .lenS (.t 13), some (12, false)⟩, ⟨some 15, .bin .gtr (.t 14) (.c (.int .i64 1)), some (12, false)⟩, ⟨some 16, .mv (.t 15), some (12, false)⟩, ⟨some 17, .mv (.t 0), some (16, true)⟩, ⟨some 18, .ixS (.t 17) (.c (.int .i64 0)), some (16, true)⟩, ⟨some 19, .bin .eql (.t 18) (.c (.int .u8 48)), some (16, true)⟩, ⟨some 20, .pick (.t 16) (.t 19) (.c (.bool false)), some (12, false)⟩, ⟨some 21, .pick (.t 12) (.c (.bool true)) (.t 20), none⟩]))
    (.cond (.t 21)
      (.seq (.keep [] (.ops [⟨some 2, .mv (.c (.int .u64 0)), none⟩, ⟨some 3, .mv (.c (.bool false)), none⟩, ⟨some 4, .mv (.c (.bool false)), none⟩]))
      .ret)
      .skip))
    (.seq (.seq (.keep [0, 2, 3] (.ops [⟨some 22, .mv (.t 0), none⟩, ⟨some 23, .lenS (.t 22), none⟩, ⟨some 24, .mv (.c (.int .i64 0)), none⟩]))
    (.block 0 (.loop (.seq (.keep [0, 2, 3, 23, 24] (.ops [⟨some 25, .bin .lss (.t 24) (.t 23), none⟩]))
    (.seq (.cond (.t 25)
      .skip
      (.exit 0))
    (.seq (.block 1 (.seq (.keep [0, 2, 3, 23, 24] (.ops [⟨some 26, .mv (.t 24), none⟩, ⟨some 5, .mv (.t 26), none⟩]))
    (.seq (.seq (.keep [0, 2, 3, 5, 23, 24] (.ops [⟨some 27, .mv (.t 0), none⟩, ⟨some 28, .mv (.t 5), none⟩, ⟨some 29, .ixS (.t 27) (.t 28), none⟩, ⟨some 30, .bin .lss (.t 29) (.c (.int .u8 48)), none⟩, ⟨some 31, .mv (.t 30), none⟩, ⟨some 32, .mv (.t 0), some (31, false)⟩, ⟨some 33, .mv (.t 5), some (31, false)⟩, ⟨some 34, .ixS (.t 32) (.t 33), some (31, false)⟩, ⟨some 35, .bin .gtr (.t 34) (.c (.int .u8 57)), some (31, false)⟩, ⟨some 36, .pick (.t 31) (.c (.bool true)) (.t 35), none⟩]))
    (.cond (.t 36)
      (.seq (.keep [] (.ops [⟨some 2, .mv (.c (.int .u64 0)), none⟩, ⟨some 3, .mv (.c (.bool false)), none⟩, ⟨some 4, .mv (.c (.bool false)), none⟩]))
      .ret)
      .skip))
    (.seq (.keep [0, 2, 3, 5, 23, 24] (.ops [⟨some 38, .mv (.t 2), none⟩, ⟨some 39, .call 55 [(.t 38), (.c (.int .u64 10))], none⟩, ⟨some 37, .mv (.t 39), none⟩, ⟨some 40, .ext (.t 37) 0, none⟩, ⟨some 41, .ext (.t 37) 1, none⟩, ⟨some 6, .mv (.t 40), none⟩, ⟨some 7, .mv (.t 41), none⟩]))
    (.seq (.keep [0, 3, 5, 6, 7, 23, 24] (.ops [⟨some 43, .mv (.t 7), none⟩, ⟨some 44, .mv (.t 0), none⟩, ⟨some 45, .mv (.t 5), none⟩, ⟨some 46, .ixS (.t 44) (.t 45), none⟩, ⟨some 47, .bin .sub (.t 46) (.c (.int .u8 48)), none⟩, ⟨some 48, .cnv .u64 (.t 47), none⟩, ⟨some 49, .call 60 [(.t 43), (.t 48), (.c (.int .u64 0))], none⟩, ⟨some 42, .mv (.t 49), none⟩, ⟨some 50, .ext (.t 42) 0, none⟩, ⟨some 51, .ext (.t 42) 1, none⟩, ⟨some 8, .mv (.t 50), none⟩, ⟨some 9, .mv (.t 51), none⟩]))
    (.seq (.keep [0, 3, 6, 8, 9, 23, 24] (.ops [⟨some 52, .mv (.t 3), none⟩, ⟨some 53, .mv (.t 52), none⟩, ⟨some 54, .mv (.t 6), some (53, false)⟩, ⟨some 55, .bin .neq (.t 54) (.c (.int .u64 0)), some (53, false)⟩, ⟨some 56, .pick (.t 53) (.c (.bool true)) (.t 55), none⟩, ⟨some 57, .mv (.t 56), none⟩, ⟨some 58, .mv (.t 9), some (57, false)⟩, ⟨some 59, .bin .neq (.t 58) (.c (.int .u64 0)), some (57, false)⟩, ⟨some 60, .pick (.t 57) (.c (.bool true)) (.t 59), none⟩, ⟨some 3, .mv (.t 60), none⟩]))
    (.keep [0, 3, 8, 23, 24] (.ops [⟨some 61, .mv (.t 8), none⟩, ⟨some 2, .mv (.t 61), none⟩]))))))))
    (.keep [0, 2, 3, 23, 24] (.ops [⟨some 62, .bin .add (.t 24) (.c (.int .i64 1)), none⟩, ⟨some 24, .mv (.t 62), none⟩]))))))))
    (.seq (.keep [2, 3] (.ops [⟨some 63, .mv (.t 2), none⟩, ⟨some 64, .mv (.t 3), none⟩, ⟨some 2, .mv (.t 63), none⟩, ⟨some 3, .mv (.t 64), none⟩, ⟨some 4, .mv (.c (.bool true)), none⟩]))
    .ret)))), [.t 2, .t 3, .t 4], 65⟩
theorem eb47 : fB Tryd.prog 47 ec47 = true := by kernel_rfl

/-- partywall/partywallref05.natural -/
def ec48 : CF := ⟨(.seq (.keep [0] (.ops [⟨some 2, .mv (.c (.int .u64 0)), none⟩, ⟨some 3, .mv (.c (.bool false)), none⟩, ⟨some 4, .mv (.c (.int .i64 0)), none⟩]))
    (.seq (.seq (.keep [0] (.ops [⟨some 9, .mv (.t 0), none⟩, ⟨some 10, .bin .eql (.t 9) (.c (.str [])), none⟩, ⟨some 11, .mv (.t 10), none⟩, ⟨some 12, .mv (.t 0), some (11, false)⟩, ⟨some 13, .lenS (.t 12), some (11, false)⟩, ⟨some 14, .bin .gtr (.t 13) (.c (.int .i64 1)), some (11, false)⟩, ⟨some 15, .mv (.t 14), some (11, false)⟩, ⟨some 16, .mv (.t 0), some (15, true)⟩, ⟨some 17, .ixS (.t 16) (.c (.int .i64 0)), some (15, true)⟩, ⟨some 18, .bin .eql (.t 17) (.c (.int .u8 48)), some (15, true)⟩, ⟨some 19, .pick (.t 15) (.t 18) (.c (.bool false)), some (11, false)⟩, ⟨some 20, .pick (.t 11) (.c (.bool true)) (.t 19), none⟩]))
    (.cond (.t 20)
      (.seq (.keep [] (.ops [⟨some 2, .mv (.c (.int .u64 0)), none⟩, ⟨some 3, .mv (.c (.bool false)), none⟩, ⟨some 4, .mv (.c (.int .i64 3)), none⟩]))
      .ret)
      .skip))
    (.seq (.keep [0] (.ops [⟨some 5, .mv (.c (.int .u64 0)), none⟩]))
    (.seq (.keep [0, 5] (.ops [⟨some 6, .mv (.c (.bool false)), none⟩]))
    (.seq (.seq (.keep [0, 5, 6] (.ops [⟨some 7, .mv (.c (.int .i64 0)), none⟩]))
    (.block 0 (.loop (.seq (.seq (.keep [0, 5, 6, 7] (.ops [⟨some 21, .mv (.t 7), none⟩, ⟨some 22, .mv (.t 0), none⟩, ⟨some 23, .lenS (.t 22), none⟩, ⟨some 24, .bin .lss (.t 21) (.t 23), none⟩]))
    (.cond (.t 24)
      .skip
      (.exit 0)))
    (.seq (.block 1 (.seq (.seq (.keep [0, 5, 6, 7] (.ops [⟨some 27, .mv (.t 0), none⟩, ⟨some 28, .mv (.t 7), none⟩, ⟨some 29, .ixS (.t 27) (.t 28), none⟩, ⟨some 30, .bin .lss (.t 29) (.c (.int .u8 48)), none⟩, ⟨some 31, .mv (.t 30), none⟩, ⟨some 32, .mv (.t 0), some (31, false)⟩, ⟨some 33, .mv (.t 7), some (31, false)⟩, ⟨some 34, .ixS (.t 32) (.t 33), some (31, false)⟩, ⟨some 35, .bin .gtr (.t 34) (.c (.int .u8 57)), some (31, false)⟩, ⟨some 36, .pick (.t 31) (.c (.bool true)) (.t 35), none⟩]))
    (.cond (.t 36)
      (.seq (.keep [] (.ops [⟨some 2, .mv (.c (.int .u64 0)), none⟩, ⟨some 3, .mv (.c (.bool false)), none⟩, ⟨some 4, .mv (.c (.int .i64 3)), none⟩]))
      .ret)
      .skip))
    (.seq (.keep [0, 5, 6, 7] (.ops [⟨some 37, .mv (.t 0), none⟩, ⟨some 38, .mv (.t 7), none⟩, ⟨some 39, .ixS (.t 37) (.t 38), none⟩, ⟨some 40, .bin .sub (.t 39) (.c (.int .u8 48)), none⟩, ⟨some 41, .cnv .u64 (.t 40), none⟩, ⟨some 8, .mv (.t 41), none⟩]))
    (.seq (.keep [0, 5, 6, 7, 8] (.ops [⟨some 42, .mv (.t 6), none⟩, ⟨some 43, .mv (.t 42), none⟩, ⟨some 44, .mv (.t 5), some (43, false)⟩, ⟨some 45, .mv (.t 8), some (43, false)⟩, ⟨some 46, .bin .sub (.c (.int .u64 18446744073709551615)) (.t 45), some (43, false)⟩, ⟨some 47, .bin .quo (.t 46) (.c (.int .u64 10)), some (43, false)⟩, ⟨some 48, .bin .gtr (.t 44) (.t 47), some (43, false)⟩, ⟨some 49, .pick (.t 43) (.c (.bool true)) (.t 48), none⟩, ⟨some 6, .mv (.t 49), none⟩]))
    (.keep [0, 5, 6, 7, 8] (.ops [⟨some 50, .mv (.t 5), none⟩, ⟨some 51, .bin .mul (.c (.int .u64 10)) (.t 50), none⟩, ⟨some 52, .mv (.t 8), none⟩, ⟨some 53, .bin .add (.t 51) (.t 52), none⟩, ⟨some 5, .mv (.t 53), none⟩]))))))
    (.keep [0, 5, 6, 7] (.ops [⟨some 25, .mv (.t 7), none⟩, ⟨some 26, .bin .add (.t 25) (.c (.int .i64 1)), none⟩, ⟨some 7, .mv (.t 26), none⟩])))))))
    (.seq (.keep [5, 6] (.ops [⟨some 54, .mv (.t 5), none⟩, ⟨some 55, .mv (.t 6), none⟩, ⟨some 2, .mv (.t 54), none⟩, ⟨some 3, .mv (.t 55), none⟩, ⟨some 4, .mv (.c (.int .i64 0)), none⟩]))
    .ret)))))), [.t 2, .t 3, .t 4], 56⟩
theorem eb48 : fB Tryd.prog 48 ec48 = true := by kernel_rfl

/-- partywall/partywallref05.narrow -/
def ec49 : CF := ⟨(.seq (.keep [0] (.ops [⟨some 1, .box 3 (.t 0), none⟩, ⟨some 2, .mv (.c (.int .i64 0)), none⟩, ⟨some 3, .mv (.c (.int .i64 0)), none⟩]))
    (.seq (.block 0 (.seq (.keep [1] (.ops [⟨some 5, .fldA 1 (.t 1), none⟩, ⟨some 6, .ld (none) (.t 5), none⟩, ⟨some 7, .bin .gtr (.t 6) (.c (.int .u64 0)), none⟩, ⟨some 8, .mv (.t 7), none⟩, ⟨some 9, .fldA 2 (.t 1), some (8, false)⟩, ⟨some 10, .ld (none) (.t 9), some (8, false)⟩, ⟨some 11, .bin .gtr (.t 10) (.c (.int .u64 9223372036854775808)), some (8, false)⟩, ⟨some 12, .pick (.t 8) (.c (.bool true)) (.t 11), none⟩, ⟨some 13, .mv (.t 12), none⟩, ⟨some 14, .fldA 2 (.t 1), some (13, false)⟩, ⟨some 15, .ld (none) (.t 14), some (13, false)⟩, ⟨some 16, .bin .eql (.t 15) (.c (.int .u64 9223372036854775808)), some (13, false)⟩, ⟨some 17, .mv (.t 16), some (13, false)⟩, ⟨some 18, .fldA 0 (.t 1), some (17, true)⟩, ⟨some 19, .ld (none) (.t 18), some (17, true)⟩, ⟨some 20, .un .not (.t 19), some (17, true)⟩, ⟨some 21, .pick (.t 17) (.t 20) (.c (.bool false)), some (13, false)⟩, ⟨some 22, .pick (.t 13) (.c (.bool true)) (.t 21), none⟩, ⟨some 4, .mv (.t 22), none⟩]))
    (.cond (.t 4)
      (.seq (.keep [] (.ops [⟨some 2, .mv (.c (.int .i64 0)), none⟩, ⟨some 3, .mv (.c (.int .i64 16)), none⟩]))
      .ret)
      (.seq (.keep [1] (.ops [⟨some 24, .fldA 0 (.t 1), none⟩, ⟨some 25, .ld (none) (.t 24), none⟩, ⟨some 26, .mv (.t 25), none⟩, ⟨some 27, .fldA 2 (.t 1), some (26, true)⟩, ⟨some 28, .ld (none) (.t 27), some (26, true)⟩, ⟨some 29, .bin .eql (.t 28) (.c (.int .u64 9223372036854775808)), some (26, true)⟩, ⟨some 30, .pick (.t 26) (.t 29) (.c (.bool false)), none⟩, ⟨some 23, .mv (.t 30), none⟩]))
      (.cond (.t 23)
        (.seq (.keep [] (.ops [⟨some 2, .mv (.c (.int .i64 (-9223372036854775808))), none⟩, ⟨some 3, .mv (.c (.int .i64 0)), none⟩]))
        .ret)
        (.seq (.keep [1] (.ops [⟨some 32, .fldA 0 (.t 1), none⟩, ⟨some 33, .ld (none) (.t 32), none⟩, ⟨some 31, .mv (.t 33), none⟩]))
        (.cond (.t 31)
          (.seq (.keep [1] (.ops [⟨some 34, .fldA 2 (.t 1), none⟩, ⟨some 35, .ld (none) (.t 34), none⟩, ⟨some 36, .cnv .i64 (.t 35), none⟩, ⟨some 37, .un .neg (.t 36), none⟩, ⟨some 2, .mv (.t 37), none⟩, ⟨some 3, .mv (.c (.int .i64 0)), none⟩]))
          .ret)
          .skip)))))))
    (.seq (.keep [1] (.ops [⟨some 38, .fldA 2 (.t 1), none⟩, ⟨some 39, .ld (none) (.t 38), none⟩, ⟨some 40, .cnv .i64 (.t 39), none⟩, ⟨some 2, .mv (.t 40), none⟩, ⟨some 3, .mv (.c (.int .i64 0)), none⟩]))
    .ret))), [.t 2, .t 3], 41⟩
theorem eb49 : fB Tryd.prog 49 ec49 = true := by kernel_rfl

/-- partywall/partywallref05.digits -/
def ec51 : CF := ⟨(.seq (.keep [0] (.ops [⟨some 2, .mv (.c (.str [])), none⟩]))
    (.seq (.keep [0] (.ops [⟨some 3, .mv (.c (.str [])), none⟩]))
    (.seq (.block 0 (.loop (.seq (.seq (.keep [0, 3] (.ops [⟨some 4, .mv (.t 0), none⟩, ⟨some 5, .bin .gtr (.t 4) (.c (.int .u64 0)), none⟩, ⟨some 6, .mv (.t 5), none⟩, ⟨some 7, .mv (.t 3), some (6, false)⟩, ⟨some 8, .bin .eql (.t 7) (.c (.str [])), some (6, false)⟩, ⟨some 9, .pick (.t 6) (.c (.bool true)) (.t 8), none⟩]))
    (.cond (.t 9)
      .skip
      (.exit 0)))
    (.block 1 (.seq (.keep [0, 3] (.ops [⟨some 10, .mv (.t 0), none⟩, ⟨some 11, .bin .rem (.t 10) (.c (.int .u64 10)), none⟩, ⟨some 12, .bin .add (.c (.int .u64 48)) (.t 11), none⟩, ⟨some 13, .cnv .u8 (.t 12), none⟩, ⟨some 14, .mkSl 1 1 [.int .u8 0] [(0, 1, (.t 13))], none⟩, ⟨some 15, .b2s (.t 14), none⟩, ⟨some 16, .mv (.t 3), none⟩, ⟨some 17, .bin .add (.t 15) (.t 16), none⟩, ⟨some 3, .mv (.t 17), none⟩]))
    (.keep [0, 3] (.ops [⟨some 18, .mv (.t 0), none⟩, ⟨some 19, .bin .quo (.t 18) (.c (.int .u64 10)), none⟩, ⟨some 0, .mv (.t 19), none⟩])))))))
    (.seq (.keep [3] (.ops [⟨some 20, .mv (.t 3), none⟩, ⟨some 2, .mv (.t 20), none⟩]))
    .ret)))), [.t 2], 21⟩
theorem eb51 : fB Tryd.prog 51 ec51 = true := by kernel_rfl

/-- partywall/partywallref05.size -/
def ec52 : CF := ⟨(.seq (.keep [0] (.ops [⟨some 2, .mv (.c (.int .u64 0)), none⟩]))
    (.seq (.seq (.keep [0] (.ops [⟨some 3, .mv (.t 0), none⟩, ⟨some 4, .bin .lss (.t 3) (.c (.int .i64 0)), none⟩]))
    (.cond (.t 4)
      (.seq (.keep [0] (.ops [⟨some 5, .mv (.t 0), none⟩, ⟨some 6, .bin .add (.t 5) (.c (.int .i64 1)), none⟩, ⟨some 7, .un .neg (.t 6), none⟩, ⟨some 8, .cnv .u64 (.t 7), none⟩, ⟨some 9, .bin .add (.t 8) (.c (.int .u64 1)), none⟩, ⟨some 2, .mv (.t 9), none⟩]))
      .ret)
      .skip))
    (.seq (.keep [0] (.ops [⟨some 10, .mv (.t 0), none⟩, ⟨some 11, .cnv .u64 (.t 10), none⟩, ⟨some 2, .mv (.t 11), none⟩]))
    .ret))), [.t 2], 12⟩
theorem eb52 : fB Tryd.prog 52 ec52 = true := by kernel_rfl

/-- partywall/sums.checked -/
def ec53 : CF := ⟨(.seq (.keep [0, 1] (.ops [⟨some 4, .mv (.c (.int .i64 0)), none⟩, ⟨some 5, .mv (.c (.int .i64 0)), none⟩]))
    (.seq (.seq (.keep [0, 1] (.ops [⟨some 6, .mv (.t 1), none⟩, ⟨some 7, .un .not (.t 6), none⟩]))
    (.cond (.t 7)
      (.seq (.keep [] (.ops [⟨some 4, .mv (.c (.int .i64 0)), none⟩, ⟨some 5, .mv (.c (.int .i64 16)), none⟩]))
      .ret)
      .skip))
    (.seq (.keep [0] (.ops [⟨some 8, .mv (.t 0), none⟩, ⟨some 4, .mv (.t 8), none⟩, ⟨some 5, .mv (.c (.int .i64 0)), none⟩]))
    .ret))), [.t 4, .t 5], 9⟩
theorem eb53 : fB Tryd.prog 53 ec53 = true := by kernel_rfl

/-- partywall/partywallref05.plus -/
def ec54 : CF := ⟨(.seq (.keep [0, 1] (.ops [⟨some 4, .alloc [.bool false, .int .u64 0, .int .u64 0], none⟩]))
    (.seq (.keep [0, 1, 4] (.ops [⟨some 9, .mv (.t 0), none⟩, ⟨some 10, .call 52 [(.t 9)], none⟩, ⟨some 11, .mv (.t 1), none⟩, ⟨some 12, .call 52 [(.t 11)], none⟩, ⟨some 5, .mv (.t 10), none⟩, ⟨some 6, .mv (.t 12), none⟩]))
    (.seq (.seq (.keep [0, 1, 4, 5, 6] (.ops [⟨some 13, .mv (.t 0), none⟩, ⟨some 14, .bin .lss (.t 13) (.c (.int .i64 0)), none⟩, ⟨some 15, .mv (.t 1), none⟩, ⟨some 16, .bin .lss (.t 15) (.c (.int .i64 0)), none⟩, ⟨some 17, .eqb false (.t 14) (.t 16), none⟩]))
    (.cond (.t 17)
      (.seq (.keep [0, 4, 5, 6] (.ops [⟨some 18, .mv (.t 5), none⟩, ⟨some 19, .mv (.t 6), none⟩, ⟨some 20, .bin .add (.t 18) (.t 19), none⟩, ⟨some 7, .mv (.t 20), none⟩]))
      (.seq (.keep [0, 4, 5, 7] (.ops [⟨some 8, .mv (.c (.int .u64 0)), none⟩]))
      (.seq (.seq (.keep [0, 4, 5, 7, 8] (.ops [⟨some 21, .mv (.t 7), none⟩, ⟨some 22, .mv (.t 5), none⟩, ⟨some 23, .bin .lss (.t 21) (.t 22), none⟩]))
      (.cond (.t 23)
        (.keep [0, 4, 7] (.ops [⟨some 8, .mv (.c (.int .u64 1)), none⟩]))
        .skip))
      (.seq (.keep [0, 4, 7, 8] (.ops [⟨some 24, .mv (.t 0), none⟩, ⟨some 25, .bin .lss (.t 24) (.c (.int .i64 0)), none⟩, ⟨some 26, .mv (.t 8), none⟩, ⟨some 27, .mv (.t 7), none⟩, ⟨some 28, .bld [.bool false, .int .u64 0, .int .u64 0] [(0, 1, (.t 25)), (1, 1, (.t 26)), (2, 1, (.t 27))], none⟩, ⟨none, .st 3 (.t 4) (.t 28), none⟩]))
      .ret))))
      .skip))
    (.seq (.seq (.keep [0, 1, 4, 5, 6] (.ops [⟨some 29, .mv (.t 5), none⟩, ⟨some 30, .mv (.t 6), none⟩, ⟨some 31, .bin .geq (.t 29) (.t 30), none⟩]))
    (.cond (.t 31)
      (.seq (.keep [0, 4, 5, 6] (.ops [⟨some 32, .mv (.t 0), none⟩, ⟨some 33, .bin .lss (.t 32) (.c (.int .i64 0)), none⟩, ⟨some 34, .mv (.t 5), none⟩, ⟨some 35, .mv (.t 6), none⟩, ⟨some 36, .bin .sub (.t 34) (.t 35), none⟩, ⟨some 37, .bld [.bool false, .int .u64 0, .int .u64 0] [(0, 1, (.t 33)), (2, 1, (.t 36))], none⟩, ⟨none, .st 3 (.t 4) (.t 37), none⟩]))
      .ret)
      .skip))
    (.seq (.keep [1, 4, 5, 6] (.ops [⟨some 38, .mv (.t 1), none⟩, ⟨some 39, .bin .lss (.t 38) (.c (.int .i64 0)), none⟩, ⟨some 40, .mv (.t 6), none⟩, ⟨some 41, .mv (.t 5), none⟩, ⟨some 42, .bin .sub (.t 40) (.t 41), none⟩, ⟨some 43, .bld [.bool false, .int .u64 0, .int .u64 0] [(0, 1, (.t 39)), (2, 1, (.t 42))], none⟩, ⟨none, .st 3 (.t 4) (.t 43), none⟩]))
    .ret))))), [.cl 4 (some 3)], 44⟩
theorem eb54 : fB Tryd.prog 54 ec54 = true := by kernel_rfl

/-- math/bits.Mul64 -/
def ec55 : CF := ⟨(.seq (.keep [0, 1] (.ops [⟨some 4, .mv (.c (.int .u64 0)), none⟩, ⟨some 5, .mv (.c (.int .u64 0)), none⟩]))
    (.seq (.keep [0, 1] (.ops [⟨some 14, .mv (.t 0), none⟩, ⟨some 15, .bin .and (.t 14) (.c (.int .u64 4294967295)), none⟩, ⟨some 6, .mv (.t 15), none⟩]))
    (.seq (.keep [0, 1, 6] (.ops [⟨some 16, .mv (.t 0), none⟩, ⟨some 17, .bin .shr (.t 16) (.c (.int .u64 32)), none⟩, ⟨some 7, .mv (.t 17), none⟩]))
    (.seq (.keep [0, 1, 6, 7] (.ops [⟨some 18, .mv (.t 1), none⟩, ⟨some 19, .bin .and (.t 18) (.c (.int .u64 4294967295)), none⟩, ⟨some 8, .mv (.t 19), none⟩]))
    (.seq (.keep [0, 1, 6, 7, 8] (.ops [⟨some 20, .mv (.t 1), none⟩, ⟨some 21, .bin .shr (.t 20) (.c (.int .u64 32)), none⟩, ⟨some 9, .mv (.t 21), none⟩]))
    (.seq (.keep [0, 1, 6, 7, 8, 9] (.ops [⟨some 22, .mv (.t 6), none⟩, ⟨some 23, .mv (.t 8), none⟩, ⟨some 24, .bin .mul (.t 22) (.t 23), none⟩, ⟨some 10, .mv (.t 24), none⟩]))
    (.seq (.keep [0, 1, 6, 7, 8, 9, 10] (.ops [⟨some 25, .mv (.t 7), none⟩, ⟨some 26, .mv (.t 8), none⟩, ⟨some 27, .bin .mul (.t 25) (.t 26), none⟩, ⟨some 28, .mv (.t 10), none⟩, ⟨some 29, .bin .shr (.t 28) (.c (.int .u64 32)), none⟩, ⟨some 30, .bin .add (.t 27) (.t 29), none⟩, ⟨some 11, .mv (.t 30), none⟩]))
    (.seq (.keep [0, 1, 6, 7, 9, 11] (.ops [⟨some 31, .mv (.t 11), none⟩, ⟨some 32, .bin .and (.t 31) (.c (.int .u64 4294967295)), none⟩, ⟨some 12, .mv (.t 32), none⟩]))
    (.seq (.keep [0, 1, 6, 7, 9, 11, 12] (.ops [⟨some 33, .mv (.t 11), none⟩, ⟨some 34, .bin .shr (.t 33) (.c (.int .u64 32)), none⟩, ⟨some 13, .mv (.t 34), none⟩]))
    (.seq (.keep [0, 1, 6, 7, 9, 12, 13] (.ops [⟨some 35, .mv (.t 12), none⟩, ⟨some 36, .mv (.t 6), none⟩, ⟨some 37, .mv (.t 9), none⟩, ⟨some 38, .bin .mul (.t 36) (.t 37), none⟩, ⟨some 39, .bin .add (.t 35) (.t 38), none⟩, ⟨some 12, .mv (.t 39), none⟩]))
    (.seq (.keep [0, 1, 7, 9, 12, 13] (.ops [⟨some 40, .mv (.t 7), none⟩, ⟨some 41, .mv (.t 9), none⟩, ⟨some 42, .bin .mul (.t 40) (.t 41), none⟩, ⟨some 43, .mv (.t 13), none⟩, ⟨some 44, .bin .add (.t 42) (.t 43), none⟩, ⟨some 45, .mv (.t 12), none⟩, ⟨some 46, .bin .shr (.t 45) (.c (.int .u64 32)), none⟩, ⟨some 47, .bin .add (.t 44) (.t 46), none⟩, ⟨some 4, .mv (.t 47), none⟩]))
    (.seq (.keep [0, 1, 4] (.ops [⟨some 48, .mv (.t 0), none⟩, ⟨some 49, .mv (.t 1), none⟩, ⟨some 50, .bin .mul (.t 48) (.t 49), none⟩, ⟨some 5, .mv (.t 50), none⟩]))
    .ret)))))))))))), [.t 4, .t 5], 51⟩
theorem eb55 : fB Tryd.prog 55 ec55 = true := by kernel_rfl

/-- partywall/sums.size -/
def ec56 : CF := ⟨(.seq (.keep [0] (.ops [⟨some 2, .mv (.c (.int .u64 0)), none⟩]))
    (.seq (.seq (.keep [0] (.ops [⟨some 3, .mv (.t 0), none⟩, ⟨some 4, .bin .lss (.t 3) (.c (.int .i64 0)), none⟩]))
    (.cond (.t 4)
      (.seq (.keep [0] (.ops [⟨some 5, .mv (.t 0), none⟩, ⟨some 6, .cnv .u64 (.t 5), none⟩, ⟨some 7, .un .neg (.t 6), none⟩, ⟨some 2, .mv (.t 7), none⟩]))
      .ret)
      .skip))
    (.seq (.keep [0] (.ops [⟨some 8, .mv (.t 0), none⟩, ⟨some 9, .cnv .u64 (.t 8), none⟩, ⟨some 2, .mv (.t 9), none⟩]))
    .ret))), [.t 2], 10⟩
theorem eb56 : fB Tryd.prog 56 ec56 = true := by kernel_rfl

/-- partywall/sums.within[uint64] -/
def ec57 : CF := ⟨(.seq (.keep [0, 1, 2] (.ops [⟨some 6, .mv (.c (.bool false)), none⟩]))
    (.scope (.seq (.keep [0, 1, 2] (.ops [⟨some 7, .mv (.c (.bool true)), none⟩]))
    (.seq .skip
    (.seq (.seq (.keep [0, 1, 2, 7] (.ops [⟨some 10, .mv (.t 2), none⟩, ⟨some 11, .len (.t 10), none⟩, ⟨some 12, .mv (.c (.int .i64 0)), none⟩]))
    (.block 0 (.loop (.seq (.keep [0, 1, 7, 10, 11, 12] (.ops [⟨some 13, .bin .lss (.t 12) (.t 11), none⟩]))
    (.seq (.cond (.t 13)
      .skip
      (.exit 0))
    (.seq (.block 1 (.seq (.keep [0, 1, 7, 10, 11, 12] (.ops [⟨some 14, .ixA 1 (.t 10) (.t 12), none⟩, ⟨some 15, .ld (none) (.t 14), none⟩, ⟨some 9, .mv (.t 15), none⟩]))
    (.block 2 (.seq (.seq (.keep [0, 1, 7, 9, 10, 11, 12] (.ops [⟨some 17, .mv (.t 9), none⟩, ⟨some 18, .mv (.t 0), none⟩, ⟨some 19, .bin .lss (.t 17) (.t 18), none⟩, ⟨some 16, .mv (.t 19), none⟩]))
    (.cond (.t 16)
      .skip
      (.keep [0, 1, 7, 9, 10, 11, 12] (.ops [⟨some 20, .mv (.t 9), none⟩, ⟨some 21, .mv (.t 1), none⟩, ⟨some 22, .bin .gtr (.t 20) (.t 21), none⟩, ⟨some 16, .mv (.t 22), none⟩]))))
    (.cond (.t 16)
      (.seq (.keep [] (.ops [⟨some 7, .mv (.c (.bool false)), none⟩]))
      (.exit 0))
      .skip)))))
    (.keep [0, 1, 7, 10, 11, 12] (.ops [⟨some 23, .bin .add (.t 12) (.c (.int .i64 1)), none⟩, ⟨some 12, .mv (.t 23), none⟩]))))))))
    (.seq (.keep [7] (.ops [⟨some 24, .mv (.t 7), none⟩, ⟨some 6, .mv (.t 24), none⟩]))
    .ret)))))), [.t 6], 25⟩
theorem eb57 : fB Tryd.prog 57 ec57 = true := by kernel_rfl

/-- partywall/sums.in -/
def ec58 : CF := ⟨(.seq (.keep [0, 1] (.ops [⟨some 4, .mv (.c (.bool false)), none⟩]))
    (.seq (.keep [0, 1] (.ops [⟨some 5, .mv (.t 0), none⟩, ⟨some 6, .mv (.t 1), none⟩, ⟨some 7, .call 62 [(.t 5), (.c (.int .i64 1099511627776)), (.t 6)], none⟩, ⟨some 4, .mv (.t 7), none⟩]))
    .ret)), [.t 4], 8⟩
theorem eb58 : fB Tryd.prog 58 ec58 = true := by kernel_rfl

/-- partywall/partywallref05.count -/
def ec59 : CF := ⟨(.seq (.keep [0] (.ops [⟨some 2, .mv (.c (.bool false)), none⟩]))
    (.seq (.keep [0] (.ops [⟨some 3, .mv (.t 0), none⟩, ⟨some 4, .bin .geq (.t 3) (.c (.int .i64 0)), none⟩, ⟨some 5, .mv (.t 4), none⟩, ⟨some 6, .mv (.t 0), some (5, true)⟩, ⟨some 7, .bin .leq (.t 6) (.c (.int .i64 1099511627776)), some (5, true)⟩, ⟨some 8, .pick (.t 5) (.t 7) (.c (.bool false)), none⟩, ⟨some 2, .mv (.t 8), none⟩]))
    .ret)), [.t 2], 9⟩
theorem eb59 : fB Tryd.prog 59 ec59 = true := by kernel_rfl

-- no body: math/bits.Add64
/-- partywall/sums.within[int] -/
def ec62 : CF := ⟨(.seq (.keep [0, 1, 2] (.ops [⟨some 6, .mv (.c (.bool false)), none⟩]))
    (.scope (.seq (.keep [0, 1, 2] (.ops [⟨some 7, .mv (.c (.bool true)), none⟩]))
    (.seq .skip
    (.seq (.seq (.keep [0, 1, 2, 7] (.ops [⟨some 10, .mv (.t 2), none⟩, ⟨some 11, .len (.t 10), none⟩, ⟨some 12, .mv (.c (.int .i64 0)), none⟩]))
    (.block 0 (.loop (.seq (.keep [0, 1, 7, 10, 11, 12] (.ops [⟨some 13, .bin .lss (.t 12) (.t 11), none⟩]))
    (.seq (.cond (.t 13)
      .skip
      (.exit 0))
    (.seq (.block 1 (.seq (.keep [0, 1, 7, 10, 11, 12] (.ops [⟨some 14, .ixA 1 (.t 10) (.t 12), none⟩, ⟨some 15, .ld (none) (.t 14), none⟩, ⟨some 9, .mv (.t 15), none⟩]))
    (.block 2 (.seq (.seq (.keep [0, 1, 7, 9, 10, 11, 12] (.ops [⟨some 17, .mv (.t 9), none⟩, ⟨some 18, .mv (.t 0), none⟩, ⟨some 19, .bin .lss (.t 17) (.t 18), none⟩, ⟨some 16, .mv (.t 19), none⟩]))
    (.cond (.t 16)
      .skip
      (.keep [0, 1, 7, 9, 10, 11, 12] (.ops [⟨some 20, .mv (.t 9), none⟩, ⟨some 21, .mv (.t 1), none⟩, ⟨some 22, .bin .gtr (.t 20) (.t 21), none⟩, ⟨some 16, .mv (.t 22), none⟩]))))
    (.cond (.t 16)
      (.seq (.keep [] (.ops [⟨some 7, .mv (.c (.bool false)), none⟩]))
      (.exit 0))
      .skip)))))
    (.keep [0, 1, 7, 10, 11, 12] (.ops [⟨some 23, .bin .add (.t 12) (.c (.int .i64 1)), none⟩, ⟨some 12, .mv (.t 23), none⟩]))))))))
    (.seq (.keep [7] (.ops [⟨some 24, .mv (.t 7), none⟩, ⟨some 6, .mv (.t 24), none⟩]))
    .ret)))))), [.t 6], 25⟩
theorem eb62 : fB Tryd.prog 62 ec62 = true := by kernel_rfl

def eT : List (Nat × CF) := [(3, ec3), (4, ec4), (5, ec5), (6, ec6), (7, ec7), (8, ec8), (9, ec9), (10, ec10), (11, ec11), (12, ec12), (13, ec13), (14, ec14), (15, ec15), (16, ec16), (17, ec17), (18, ec18), (19, ec19), (20, ec20), (21, ec21), (22, ec22), (23, ec23), (24, ec24), (25, ec25), (26, ec26), (27, ec27), (28, ec28), (29, ec29), (30, ec30), (31, ec31), (32, ec32), (33, ec33), (34, ec34), (35, ec35), (36, ec36), (37, ec37), (38, ec38), (39, ec39), (40, ec40), (41, ec41), (42, ec42), (43, ec43), (44, ec44), (45, ec45), (46, ec46), (47, ec47), (48, ec48), (49, ec49), (51, ec51), (52, ec52), (53, ec53), (54, ec54), (55, ec55), (56, ec56), (57, ec57), (58, ec58), (59, ec59), (62, ec62)]
theorem eT_ok : tabB Tryd.prog eT = true := tabB_cons eb3 (tabB_cons eb4 (tabB_cons eb5 (tabB_cons eb6 (tabB_cons eb7 (tabB_cons eb8 (tabB_cons eb9 (tabB_cons eb10 (tabB_cons eb11 (tabB_cons eb12 (tabB_cons eb13 (tabB_cons eb14 (tabB_cons eb15 (tabB_cons eb16 (tabB_cons eb17 (tabB_cons eb18 (tabB_cons eb19 (tabB_cons eb20 (tabB_cons eb21 (tabB_cons eb22 (tabB_cons eb23 (tabB_cons eb24 (tabB_cons eb25 (tabB_cons eb26 (tabB_cons eb27 (tabB_cons eb28 (tabB_cons eb29 (tabB_cons eb30 (tabB_cons eb31 (tabB_cons eb32 (tabB_cons eb33 (tabB_cons eb34 (tabB_cons eb35 (tabB_cons eb36 (tabB_cons eb37 (tabB_cons eb38 (tabB_cons eb39 (tabB_cons eb40 (tabB_cons eb41 (tabB_cons eb42 (tabB_cons eb43 (tabB_cons eb44 (tabB_cons eb45 (tabB_cons eb46 (tabB_cons eb47 (tabB_cons eb48 (tabB_cons eb49 (tabB_cons eb51 (tabB_cons eb52 (tabB_cons eb53 (tabB_cons eb54 (tabB_cons eb55 (tabB_cons eb56 (tabB_cons eb57 (tabB_cons eb58 (tabB_cons eb59 (tabB_cons eb62 (tabB_nil)))))))))))))))))))))))))))))))))))))))))))))))))))))))))
end Go.Proofs.YtfnhgenilbgklaaDoor
