import Derived.Test.YtfnhgenilbgklaaDoorRows
import Derived.Test.YtfnhgenilbgklaaDoorAbs18
namespace Go.Proofs.YtfnhgenilbgklaaDoor
open Go.Abs
set_option maxRecDepth 100000

/-- partywall/partywalllaw05.SumsPrefix -/
def tc9 : CF := ⟨(.seq (.keep [0, 1] (.ops [⟨some 4, .mv (.c (.bool false)), none⟩]))
    (.seq (.keep [0, 1] (.ops [⟨some 17, .call 7 [], none⟩, ⟨some 5, .mv (.t 17), none⟩]))
    (.seq (.seq (.keep [0, 1, 5] (.ops [⟨some 18, .mv (.t 0), none⟩, ⟨some 19, .len (.t 18), none⟩, ⟨some 20, .bin .gtr (.t 19) (.c (.int .i64 60)), none⟩]))
    (.cond (.t 20)
      (.seq (.keep [5] (.ops [⟨some 21, .mv (.t 5), none⟩, ⟨some 4, .mv (.t 21), none⟩]))
      .ret)
      .skip))
    (.seq (.keep [0, 1, 5] (.ops [⟨some 23, .mv (.t 0), none⟩, ⟨some 24, .call 12 [(.t 23)], none⟩, ⟨some 22, .mv (.t 24), none⟩, ⟨some 25, .ext (.t 22) 0, none⟩, ⟨some 26, .ext (.t 22) 1, none⟩, ⟨some 6, .mv (.t 25), none⟩, ⟨some 7, .mv (.t 26), none⟩]))
    (.seq (.keep [0, 1, 5, 6, 7] (.ops [⟨some 28, .mv (.t 0), none⟩, ⟨some 29, .call 14 [(.t 28)], none⟩, ⟨some 27, .mv (.t 29), none⟩, ⟨some 30, .ext (.t 27) 0, none⟩, ⟨some 31, .ext (.t 27) 1, none⟩, ⟨some 8, .mv (.t 30), none⟩, ⟨some 9, .mv (.t 31), none⟩]))
    (.seq (.seq (.keep [0, 1, 5, 6, 7, 8, 9] (.ops [⟨some 32, .mv (.t 7), none⟩, ⟨some 33, .mv (.t 9), none⟩, ⟨some 34, .bin .neq (.t 32) (.t 33), none⟩, ⟨some 35, .mv (.t 34), none⟩, ⟨some 36, .mv (.t 8), some (35, false)⟩, ⟨some 37, .len (.t 36), some (35, false)⟩, ⟨some 38, .mv (.t 0), some (35, false)⟩, ⟨some 39, .len (.t 38), some (35, false)⟩, ⟨some 40, .bin .gtr (.t 37) (.t 39), some (35, false)⟩, ⟨some 41, .pick (.t 35) (.c (.bool true)) (.t 40), none⟩, ⟨some 42, .mv (.t 41), none⟩, ⟨some 43, .mv (.t 7), some (42, false)⟩, ⟨some 44, .bin .eql (.t 43) (.c (.int .i64 0)), some (42, false)⟩, ⟨some 45, .mv (.t 44), some (42, false)⟩, ⟨some 46, .mv (.t 8), some (45, true)⟩, ⟨some 47, .len (.t 46), some (45, true)⟩, ⟨some 48, .mv (.t 0), some (45, true)⟩, ⟨some 49, .len (.t 48), some (45, true)⟩, ⟨some 50, .bin .neq (.t 47) (.t 49), some (45, true)⟩, ⟨some 51, .pick (.t 45) (.t 50) (.c (.bool false)), some (42, false)⟩, ⟨some 52, .pick (.t 42) (.c (.bool true)) (.t 51), none⟩, ⟨some 53, .mv (.t 52), none⟩, ⟨some 54, .mv (.t 7), some (53, false)⟩, ⟨some 55, .bin .neq (.t 54) (.c (.int .i64 0)), some (53, false)⟩, ⟨some 56, .mv (.t 55), some (53, false)⟩, ⟨some 57, .mv (.t 8), some (56, true)⟩, ⟨some 58, .len (.t 57), some (56, true)⟩, ⟨some 59, .mv (.t 0), some (56, true)⟩, ⟨some 60, .len (.t 59), some (56, true)⟩, ⟨some 61, .bin .eql (.t 58) (.t 60), some (56, true)⟩, ⟨some 62, .pick (.t 56) (.t 61) (.c (.bool false)), some (53, false)⟩, ⟨some 63, .pick (.t 53) (.c (.bool true)) (.t 62), none⟩]))
    (.cond (.t 63)
      (.seq (.keep [] (.ops [⟨some 4, .mv (.c (.bool false)), none⟩]))
      .ret)
      .skip))
    (.seq (.seq (.keep [0, 1, 5, 6, 7, 8] (.ops [⟨some 10, .mv (.c (.int .i64 0)), none⟩]))
    (.block 0 (.loop (.seq (.seq (.keep [0, 1, 5, 6, 7, 8, 10] (.ops [⟨some 64, .mv (.t 10), none⟩, ⟨some 65, .mv (.t 8), none⟩, ⟨some 66, .len (.t 65), none⟩, ⟨some 67, .bin .lss (.t 64) (.t 66), none⟩]))
    (.cond (.t 67)
      .skip
      (.exit 0)))
    (.seq (.block 1 (.seq (.keep [0, 1, 5, 6, 7, 8, 10] (.ops [⟨some 71, .mv (.t 0), none⟩, ⟨some 72, .mv (.t 10), none⟩, ⟨some 73, .bin .add (.t 72) (.c (.int .i64 1)), none⟩, ⟨some 74, .slc 1 (.t 71) none (some (.t 73)) none, none⟩, ⟨some 75, .call 12 [(.t 74)], none⟩, ⟨some 70, .mv (.t 75), none⟩, ⟨some 76, .ext (.t 70) 0, none⟩, ⟨some 77, .ext (.t 70) 1, none⟩, ⟨some 11, .mv (.t 76), none⟩, ⟨some 12, .mv (.t 77), none⟩]))
    (.seq (.keep [0, 1, 5, 6, 7, 8, 10, 11, 12] (.ops [⟨some 78, .mv (.t 12), none⟩, ⟨some 79, .bin .neq (.t 78) (.c (.int .i64 0)), none⟩, ⟨some 80, .mv (.t 79), none⟩, ⟨some 81, .mv (.t 11), some (80, false)⟩, ⟨some 82, .mv (.t 8), some (80, false)⟩, ⟨some 83, .mv (.t 10), some (80, false)⟩, ⟨some 84, .ixA 1 (.t 82) (.t 83), some (80, false)⟩, ⟨some 85, .ld (none) (.t 84), some (80, false)⟩, ⟨some 86, .bin .neq (.t 81) (.t 85), some (80, false)⟩, ⟨some 87, .pick (.t 80) (.c (.bool true)) (.t 86), none⟩]))
    (.cond (.t 87)
      (.seq (.keep [] (.ops [⟨some 4, .mv (.c (.bool false)), none⟩]))
      .ret)
      .skip))))
    (.keep [0, 1, 5, 6, 7, 8, 10] (.ops [⟨some 68, .mv (.t 10), none⟩, ⟨some 69, .bin .add (.t 68) (.c (.int .i64 1)), none⟩, ⟨some 10, .mv (.t 69), none⟩])))))))
    (.seq (.seq (.keep [0, 1, 5, 6, 7, 8] (.ops [⟨some 88, .mv (.t 7), none⟩, ⟨some 89, .bin .neq (.t 88) (.c (.int .i64 0)), none⟩]))
    (.cond (.t 89)
      (.seq (.keep [5] (.ops [⟨some 90, .mv (.t 5), none⟩, ⟨some 4, .mv (.t 90), none⟩]))
      .ret)
      .skip))
    (.seq (.keep [0, 1, 5, 6, 8] (.ops [⟨some 92, .mkSl 1 0 [] [], none⟩, ⟨some 93, .mv (.t 0), none⟩, ⟨some 94, .app true 2 1 8 (.t 92) (.t 93), none⟩, ⟨some 95, .mv (.t 1), none⟩, ⟨some 96, .mkSl 1 1 [.int .i64 0] [(0, 1, (.t 95))], none⟩, ⟨some 97, .app true 2 1 8 (.t 94) (.t 96), none⟩, ⟨some 98, .call 12 [(.t 97)], none⟩, ⟨some 91, .mv (.t 98), none⟩, ⟨some 99, .ext (.t 91) 0, none⟩, ⟨some 100, .ext (.t 91) 1, none⟩, ⟨some 13, .mv (.t 99), none⟩, ⟨some 14, .mv (.t 100), none⟩]))
    (.seq (.keep [0, 1, 5, 6, 8, 13, 14] (.ops [⟨some 102, .mv (.t 6), none⟩, ⟨some 103, .mv (.t 1), none⟩, ⟨some 104, .call 22 [(.t 102), (.t 103)], none⟩, ⟨some 101, .mv (.t 104), none⟩, ⟨some 105, .ext (.t 101) 0, none⟩, ⟨some 106, .ext (.t 101) 1, none⟩, ⟨some 15, .mv (.t 105), none⟩, ⟨some 16, .mv (.t 106), none⟩]))
    (.seq (.keep [0, 5, 6, 8, 13, 14, 15, 16] (.ops [⟨some 107, .mv (.t 5), none⟩, ⟨some 108, .mv (.t 107), none⟩, ⟨some 109, .mv (.t 13), some (108, true)⟩, ⟨some 110, .mv (.t 15), some (108, true)⟩, ⟨some 111, .bin .eql (.t 109) (.t 110), some (108, true)⟩, ⟨some 112, .pick (.t 108) (.t 111) (.c (.bool false)), none⟩, ⟨some 113, .mv (.t 112), none⟩, ⟨some 114, .mv (.t 14), some (113, true)⟩, ⟨some 115, .mv (.t 16), some (113, true)⟩, ⟨some 116, .bin .eql (.t 114) (.t 115), some (113, true)⟩, ⟨some 117, .pick (.t 113) (.t 116) (.c (.bool false)), none⟩, ⟨some 118, .mv (.t 117), none⟩, ⟨some 119, .mv (.t 0), some (118, true)⟩, ⟨some 120, .len (.t 119), some (118, true)⟩, ⟨some 121, .bin .eql (.t 120) (.c (.int .i64 0)), some (118, true)⟩, ⟨some 122, .mv (.t 121), some (118, true)⟩, ⟨some 123, .mv (.t 6), some (122, true)⟩, ⟨some 124, .bin .eql (.t 123) (.c (.int .i64 0)), some (122, true)⟩, ⟨some 125, .pick (.t 122) (.t 124) (.c (.bool false)), some (118, true)⟩, ⟨some 126, .mv (.t 125), some (118, true)⟩, ⟨some 127, .mv (.t 0), some (126, false)⟩, ⟨some 128, .len (.t 127), some (126, false)⟩, ⟨some 129, .bin .gtr (.t 128) (.c (.int .i64 0)), some (126, false)⟩, ⟨some 130, .mv (.t 129), some (126, false)⟩, ⟨some 131, .mv (.t 6), some (130, true)⟩, ⟨some 132, .mv (.t 8), some (130, true)⟩, ⟨some 133, .mv (.t 8), some (130, true)⟩, ⟨some 134, .len (.t 133), some (130, true)⟩, ⟨some 135, .bin .sub (.t 134) (.c (.int .i64 1)), some (130, true)⟩, ⟨some 136, .ixA 1 (.t 132) (.t 135), some (130, true)⟩, ⟨some 137, .ld (none) (.t 136), some (130, true)⟩, ⟨some 138, .bin .eql (.t 131) (.t 137), some (130, true)⟩, ⟨some 139, .pick (.t 130) (.t 138) (.c (.bool false)), some (126, false)⟩, ⟨some 140, .pick (.t 126) (.c (.bool true)) (.t 139), some (118, true)⟩, ⟨some 141, .pick (.t 118) (.t 140) (.c (.bool false)), none⟩, ⟨some 4, .mv (.t 141), none⟩]))
    .ret))))))))))), [.t 4], 142⟩
theorem tb9 : fB Tryd.prog 9 tc9 = true := by kernel_rfl

end Go.Proofs.YtfnhgenilbgklaaDoor
