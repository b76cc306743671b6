import Derived.Test.YthdeocddilacnaaDoorRows
import Derived.Test.YthdeocddilacnaaDoorAbs23
namespace Go.Proofs.YthdeocddilacnaaDoor
open Go.Abs
set_option maxRecDepth 100000

/-- partywall/partywalllaw01.LabelReads -/
def c3 : CF := ⟨(.seq (.keep [0] (.ops [⟨some 2, .mv (.c (.bool false)), none⟩]))
    (.seq (.seq (.keep [0] (.ops [⟨some 13, .mv (.t 0), none⟩, ⟨some 14, .lenS (.t 13), none⟩, ⟨some 15, .bin .gtr (.t 14) (.c (.int .i64 300)), none⟩]))
    (.cond (.t 15)
      (.seq (.keep [] (.ops [⟨some 16, .call 10 [], none⟩, ⟨some 2, .mv (.t 16), none⟩]))
      .ret)
      .skip))
    (.seq (.keep [0] (.ops [⟨some 18, .mv (.t 0), none⟩, ⟨some 19, .call 11 [(.t 18)], none⟩, ⟨some 17, .mv (.t 19), none⟩, ⟨some 20, .ext (.t 17) 0, none⟩, ⟨some 21, .ext (.t 17) 1, none⟩, ⟨some 4, .alloc [.int .i64 0, .int .i64 0], none⟩, ⟨some 3, .mv (.t 20), none⟩, ⟨none, .st 2 (.t 4) (.t 21), none⟩]))
    (.seq (.keep [0, 3, 4] (.ops [⟨some 23, .mv (.t 0), none⟩, ⟨some 24, .call 12 [(.t 23)], none⟩, ⟨some 22, .mv (.t 24), none⟩, ⟨some 25, .ext (.t 22) 0, none⟩, ⟨some 26, .ext (.t 22) 1, none⟩, ⟨some 6, .alloc [.int .i64 0, .int .i64 0], none⟩, ⟨some 5, .mv (.t 25), none⟩, ⟨none, .st 2 (.t 6) (.t 26), none⟩]))
    (.seq (.keep [0, 3, 4, 5, 6] (.ops [⟨some 28, .mv (.t 0), none⟩, ⟨some 29, .call 13 [(.t 28)], none⟩, ⟨some 27, .mv (.t 29), none⟩, ⟨some 30, .ext (.t 27) 0, none⟩, ⟨some 31, .ext (.t 27) 1, none⟩, ⟨some 32, .ext (.t 27) 2, none⟩, ⟨some 9, .alloc [.int .i64 0, .int .i64 0], none⟩, ⟨some 7, .mv (.t 30), none⟩, ⟨some 8, .mv (.t 31), none⟩, ⟨none, .st 2 (.t 9) (.t 32), none⟩]))
    (.seq (.keep [0, 3, 4, 5, 6, 7, 8, 9] (.ops [⟨some 34, .mv (.t 0), none⟩, ⟨some 35, .call 14 [(.t 34)], none⟩, ⟨some 33, .mv (.t 35), none⟩, ⟨some 36, .ext (.t 33) 0, none⟩, ⟨some 37, .ext (.t 33) 1, none⟩, ⟨some 38, .ext (.t 33) 2, none⟩, ⟨some 12, .alloc [.int .i64 0, .int .i64 0], none⟩, ⟨some 10, .mv (.t 36), none⟩, ⟨some 11, .mv (.t 37), none⟩, ⟨none, .st 2 (.t 12) (.t 38), none⟩]))
    (.seq (.keep [3, 4, 5, 6, 7, 8, 9, 10, 11, 12] (.ops [⟨some 39, .mv (.t 3), none⟩, ⟨some 40, .mv (.t 5), none⟩, ⟨some 41, .bin .eql (.t 39) (.t 40), none⟩, ⟨some 42, .mv (.t 41), none⟩, ⟨some 43, .ld (some 2) (.t 4), some (42, true)⟩, ⟨some 44, .ld (some 2) (.t 6), some (42, true)⟩, ⟨some 45, .eqA false [0, 0] (.t 43) (.t 44), some (42, true)⟩, ⟨some 46, .pick (.t 42) (.t 45) (.c (.bool false)), none⟩, ⟨some 47, .mv (.t 46), none⟩, ⟨some 48, .mv (.t 7), some (47, true)⟩, ⟨some 49, .mv (.t 10), some (47, true)⟩, ⟨some 50, .bin .eql (.t 48) (.t 49), some (47, true)⟩, ⟨some 51, .pick (.t 47) (.t 50) (.c (.bool false)), none⟩, ⟨some 52, .mv (.t 51), none⟩, ⟨some 53, .mv (.t 8), some (52, true)⟩, ⟨some 54, .mv (.t 11), some (52, true)⟩, ⟨some 55, .bin .eql (.t 53) (.t 54), some (52, true)⟩, ⟨some 56, .pick (.t 52) (.t 55) (.c (.bool false)), none⟩, ⟨some 57, .mv (.t 56), none⟩, ⟨some 58, .ld (some 2) (.t 9), some (57, true)⟩, ⟨some 59, .ld (some 2) (.t 12), some (57, true)⟩, ⟨some 60, .eqA false [0, 0] (.t 58) (.t 59), some (57, true)⟩, ⟨some 61, .pick (.t 57) (.t 60) (.c (.bool false)), none⟩, ⟨some 62, .mv (.t 61), none⟩, ⟨some 63, .call 10 [], some (62, true)⟩, ⟨some 64, .pick (.t 62) (.t 63) (.c (.bool false)), none⟩, ⟨some 2, .mv (.t 64), none⟩]))
    .ret))))))), [.t 2], 65⟩
theorem b3 : fB Tryd.prog 3 c3 = true := by kernel_rfl

/-- partywall/partywalllaw01.LabelJoins -/
def c4 : CF := ⟨(.seq (.keep [0, 1] (.ops [⟨some 4, .mv (.c (.bool false)), none⟩]))
    (.seq (.seq (.keep [0, 1] (.ops [⟨some 11, .mv (.t 0), none⟩, ⟨some 12, .len (.t 11), none⟩, ⟨some 13, .bin .gtr (.t 12) (.c (.int .i64 100)), none⟩, ⟨some 14, .mv (.t 13), none⟩, ⟨some 15, .mv (.t 1), some (14, false)⟩, ⟨some 16, .lenS (.t 15), some (14, false)⟩, ⟨some 17, .bin .gtr (.t 16) (.c (.int .i64 40)), some (14, false)⟩, ⟨some 18, .pick (.t 14) (.c (.bool true)) (.t 17), none⟩]))
    (.cond (.t 18)
      (.seq (.keep [] (.ops [⟨some 19, .call 10 [], none⟩, ⟨some 4, .mv (.t 19), none⟩]))
      .ret)
      .skip))
    (.seq (.keep [0, 1] (.ops [⟨some 20, .mkSl 1 0 [] [], none⟩, ⟨some 21, .mv (.t 0), none⟩, ⟨some 22, .app false 23 1 8 (.t 20) (.t 21), none⟩, ⟨some 5, .mv (.t 22), none⟩]))
    (.seq (.keep [0, 1, 5] (.ops [⟨some 24, .mv (.t 1), none⟩, ⟨some 25, .call 15 [(.t 24)], none⟩, ⟨some 23, .mv (.t 25), none⟩, ⟨some 26, .ext (.t 23) 0, none⟩, ⟨some 27, .ext (.t 23) 1, none⟩, ⟨some 6, .mv (.t 26), none⟩, ⟨some 7, .mv (.t 27), none⟩]))
    (.seq (.keep [0, 1, 5, 6, 7] (.ops [⟨some 29, .mv (.t 1), none⟩, ⟨some 30, .call 16 [(.t 29)], none⟩, ⟨some 28, .mv (.t 30), none⟩, ⟨some 31, .ext (.t 28) 0, none⟩, ⟨some 32, .ext (.t 28) 1, none⟩, ⟨some 8, .mv (.t 31), none⟩, ⟨some 9, .mv (.t 32), none⟩]))
    (.seq (.seq (.keep [0, 5, 6, 7, 8, 9] (.ops [⟨some 33, .mv (.t 5), none⟩, ⟨some 34, .call 17 [(.t 33)], none⟩, ⟨some 35, .mv (.t 0), none⟩, ⟨some 36, .call 18 [(.t 35)], none⟩, ⟨some 37, .bin .neq (.t 34) (.t 36), none⟩, ⟨some 38, .mv (.t 37), none⟩, ⟨some 39, .mv (.t 5), some (38, false)⟩, ⟨some 40, .call 19 [(.t 39)], some (38, false)⟩, ⟨some 41, .mv (.t 0), some (38, false)⟩, ⟨some 42, .call 20 [(.t 41)], some (38, false)⟩, ⟨some 43, .bin .neq (.t 40) (.t 42), some (38, false)⟩, ⟨some 44, .pick (.t 38) (.c (.bool true)) (.t 43), none⟩, ⟨some 45, .mv (.t 44), none⟩, ⟨some 46, .mv (.t 6), some (45, false)⟩, ⟨some 47, .mv (.t 8), some (45, false)⟩, ⟨some 48, .bin .neq (.t 46) (.t 47), some (45, false)⟩, ⟨some 49, .pick (.t 45) (.c (.bool true)) (.t 48), none⟩, ⟨some 50, .mv (.t 49), none⟩, ⟨some 51, .mv (.t 7), some (50, false)⟩, ⟨some 52, .mv (.t 9), some (50, false)⟩, ⟨some 53, .bin .neq (.t 51) (.t 52), some (50, false)⟩, ⟨some 54, .pick (.t 50) (.c (.bool true)) (.t 53), none⟩]))
    (.cond (.t 54)
      (.seq (.keep [] (.ops [⟨some 4, .mv (.c (.bool false)), none⟩]))
      .ret)
      .skip))
    (.seq (.seq (.keep [0, 5] (.ops [⟨some 10, .mv (.c (.int .i64 0)), none⟩]))
    (.block 0 (.loop (.seq (.seq (.keep [0, 5, 10] (.ops [⟨some 55, .mv (.t 10), none⟩, ⟨some 56, .mv (.t 0), none⟩, ⟨some 57, .len (.t 56), none⟩, ⟨some 58, .bin .lss (.t 55) (.t 57), none⟩]))
    (.cond (.t 58)
      .skip
      (.exit 0)))
    (.seq (.block 1 (.seq (.keep [0, 5, 10] (.drw [⟨some 61, .mv (.t 5), none⟩, ⟨some 62, .mv (.t 10), none⟩, ⟨some 63, .ixA 1 (.t 61) (.t 62), none⟩, ⟨some 64, .ld (none) (.t 63), none⟩, ⟨some 65, .mv (.t 0), none⟩, ⟨some 66, .mv (.t 10), none⟩, ⟨some 67, .ixA 1 (.t 65) (.t 66), none⟩, ⟨some 68, .ld (none) (.t 67), none⟩, ⟨some 69, .bin .neq (.t 64) (.t 68), none⟩, ⟨some 70, .mv (.t 69), none⟩, ⟨some 71, .mv (.t 0), some (70, false)⟩, ⟨some 72, .mv (.t 10), some (70, false)⟩, ⟨some 73, .ixA 1 (.t 71) (.t 72), some (70, false)⟩, ⟨some 74, .ld (none) (.t 73), some (70, false)⟩, ⟨some 75, .call 21 [(.t 74)], some (70, false)⟩, ⟨some 76, .mv (.t 0), some (70, false)⟩, ⟨some 77, .mv (.t 10), some (70, false)⟩, ⟨some 78, .ixA 1 (.t 76) (.t 77), some (70, false)⟩, ⟨some 79, .ld (none) (.t 78), some (70, false)⟩, ⟨some 80, .call 22 [(.t 79)], some (70, false)⟩, ⟨some 81, .bin .neq (.t 75) (.t 80), some (70, false)⟩, ⟨some 82, .pick (.t 70) (.c (.bool true)) (.t 81), none⟩, ⟨some 83, .mv (.t 82), none⟩, ⟨some 84, .mv (.t 0), some (83, false)⟩, ⟨some 85, .mv (.t 10), some (83, false)⟩, ⟨some 86, .ixA 1 (.t 84) (.t 85), some (83, false)⟩, ⟨some 87, .ld (none) (.t 86), some (83, false)⟩, ⟨some 88, .call 23 [(.t 87)], some (83, false)⟩, ⟨some 89, .mv (.t 0), some (83, false)⟩, ⟨some 90, .mv (.t 10), some (83, false)⟩, ⟨some 91, .ixA 1 (.t 89) (.t 90), some (83, false)⟩, ⟨some 92, .ld (none) (.t 91), some (83, false)⟩, ⟨some 93, .call 24 [(.t 92)], some (83, false)⟩, ⟨some 94, .bin .neq (.t 88) (.t 93), some (83, false)⟩, ⟨some 95, .pick (.t 83) (.c (.bool true)) (.t 94), none⟩] [0, 0, 0, 1, 0, 0, 0, 1, 0, 0, 0, 0, 0, 1, 1, 0, 0, 0, 1, 1, 0, 0, 0, 0, 0, 0, 1, 1, 0, 0, 0, 1, 1, 0, 0]))
    (.cond (.t 95)
      (.seq (.keep [] (.ops [⟨some 4, .mv (.c (.bool false)), none⟩]))
      .ret)
      .skip)))
    (.keep [0, 5, 10] (.ops [⟨some 59, .mv (.t 10), none⟩, ⟨some 60, .bin .add (.t 59) (.c (.int .i64 1)), none⟩, ⟨some 10, .mv (.t 60), none⟩])))))))
    (.seq (.keep [] (.ops [⟨some 96, .call 10 [], none⟩, ⟨some 4, .mv (.t 96), none⟩]))
    .ret)))))))), [.t 4], 97⟩
theorem b4 : fB Tryd.prog 4 c4 = true := by kernel_rfl

/-- partywall/partywalllaw01.LabelSets -/
def c5 : CF := ⟨(.seq (.keep [0, 1, 2, 3] (.ops [⟨some 8, .mv (.c (.bool false)), none⟩]))
    (.seq (.seq (.keep [0, 1, 2, 3] (.ops [⟨some 22, .mv (.t 3), none⟩, ⟨some 23, .len (.t 22), none⟩, ⟨some 24, .bin .gtr (.t 23) (.c (.int .i64 100)), none⟩]))
    (.cond (.t 24)
      (.seq (.keep [] (.ops [⟨some 25, .call 10 [], none⟩, ⟨some 8, .mv (.t 25), none⟩]))
      .ret)
      .skip))
    (.seq (.keep [0, 1, 2, 3] (.ops [⟨some 26, .mv (.t 3), none⟩, ⟨some 27, .call 25 [(.t 26)], none⟩, ⟨some 9, .mv (.t 27), none⟩]))
    (.seq (.keep [0, 1, 2, 3, 9] (.ops [⟨some 29, .mv (.t 9), none⟩, ⟨some 30, .call 26 [(.t 29)], none⟩, ⟨some 28, .mv (.t 30), none⟩, ⟨some 31, .ext (.t 28) 0, none⟩, ⟨some 32, .ext (.t 28) 1, none⟩, ⟨some 10, .mv (.t 31), none⟩, ⟨some 11, .mv (.t 32), none⟩]))
    (.seq (.keep [0, 1, 2, 3, 9, 10, 11] (.ops [⟨some 34, .mv (.t 3), none⟩, ⟨some 35, .call 27 [(.t 34)], none⟩, ⟨some 33, .mv (.t 35), none⟩, ⟨some 36, .ext (.t 33) 0, none⟩, ⟨some 37, .ext (.t 33) 1, none⟩, ⟨some 12, .mv (.t 36), none⟩, ⟨some 13, .mv (.t 37), none⟩]))
    (.seq (.keep [0, 1, 2, 3, 9, 10, 11, 12, 13] (.ops [⟨some 39, .mv (.t 0), none⟩, ⟨some 40, .mv (.t 2), none⟩, ⟨some 41, .call 28 [(.t 39), (.t 40)], none⟩, ⟨some 38, .mv (.t 41), none⟩, ⟨some 42, .ext (.t 38) 0, none⟩, ⟨some 43, .ext (.t 38) 1, none⟩, ⟨some 14, .mv (.t 42), none⟩, ⟨some 15, .mv (.t 43), none⟩]))
    (.seq (.keep [0, 1, 2, 3, 9, 10, 11, 12, 13, 14, 15] (.ops [⟨some 45, .mv (.t 0), none⟩, ⟨some 46, .mv (.t 2), none⟩, ⟨some 47, .call 29 [(.t 45), (.t 46)], none⟩, ⟨some 44, .mv (.t 47), none⟩, ⟨some 48, .ext (.t 44) 0, none⟩, ⟨some 49, .ext (.t 44) 1, none⟩, ⟨some 16, .mv (.t 48), none⟩, ⟨some 17, .mv (.t 49), none⟩]))
    (.seq (.keep [0, 1, 3, 9, 10, 11, 12, 13, 14, 15, 16, 17] (.ops [⟨some 51, .mv (.t 0), none⟩, ⟨some 52, .call 30 [(.t 51)], none⟩, ⟨some 50, .mv (.t 52), none⟩, ⟨some 53, .ext (.t 50) 0, none⟩, ⟨some 54, .ext (.t 50) 1, none⟩, ⟨some 18, .mv (.t 53), none⟩, ⟨some 19, .mv (.t 54), none⟩]))
    (.seq (.keep [0, 1, 3, 9, 10, 11, 12, 13, 14, 15, 16, 17, 18, 19] (.ops [⟨some 56, .mv (.t 0), none⟩, ⟨some 57, .call 31 [(.t 56)], none⟩, ⟨some 55, .mv (.t 57), none⟩, ⟨some 58, .ext (.t 55) 0, none⟩, ⟨some 59, .ext (.t 55) 1, none⟩, ⟨some 20, .mv (.t 58), none⟩, ⟨some 21, .mv (.t 59), none⟩]))
    (.seq (.seq (.keep [0, 1, 3, 9, 10, 11, 12, 13, 14, 15, 16, 17, 18, 19, 20, 21] (.ops [⟨some 60, .mv (.t 10), none⟩, ⟨some 61, .mv (.t 12), none⟩, ⟨some 62, .bin .neq (.t 60) (.t 61), none⟩, ⟨some 63, .mv (.t 62), none⟩, ⟨some 64, .mv (.t 11), some (63, false)⟩, ⟨some 65, .mv (.t 13), some (63, false)⟩, ⟨some 66, .bin .neq (.t 64) (.t 65), some (63, false)⟩, ⟨some 67, .pick (.t 63) (.c (.bool true)) (.t 66), none⟩, ⟨some 68, .mv (.t 67), none⟩, ⟨some 69, .mv (.t 14), some (68, false)⟩, ⟨some 70, .mv (.t 16), some (68, false)⟩, ⟨some 71, .eqb true (.t 69) (.t 70), some (68, false)⟩, ⟨some 72, .pick (.t 68) (.c (.bool true)) (.t 71), none⟩, ⟨some 73, .mv (.t 72), none⟩, ⟨some 74, .mv (.t 15), some (73, false)⟩, ⟨some 75, .mv (.t 17), some (73, false)⟩, ⟨some 76, .bin .neq (.t 74) (.t 75), some (73, false)⟩, ⟨some 77, .pick (.t 73) (.c (.bool true)) (.t 76), none⟩, ⟨some 78, .mv (.t 77), none⟩, ⟨some 79, .mv (.t 18), some (78, false)⟩, ⟨some 80, .mv (.t 20), some (78, false)⟩, ⟨some 81, .bin .neq (.t 79) (.t 80), some (78, false)⟩, ⟨some 82, .pick (.t 78) (.c (.bool true)) (.t 81), none⟩, ⟨some 83, .mv (.t 82), none⟩, ⟨some 84, .mv (.t 19), some (83, false)⟩, ⟨some 85, .mv (.t 21), some (83, false)⟩, ⟨some 86, .bin .neq (.t 84) (.t 85), some (83, false)⟩, ⟨some 87, .pick (.t 83) (.c (.bool true)) (.t 86), none⟩]))
    (.cond (.t 87)
      (.seq (.keep [] (.ops [⟨some 8, .mv (.c (.bool false)), none⟩]))
      .ret)
      .skip))
    (.seq (.keep [0, 1, 3, 9] (.ops [⟨some 88, .mv (.t 0), none⟩, ⟨some 89, .call 33 [(.t 88)], none⟩, ⟨some 90, .mv (.t 0), none⟩, ⟨some 91, .call 34 [(.t 90)], none⟩, ⟨some 92, .call 32 [(.t 89), (.t 91)], none⟩, ⟨some 93, .mv (.t 92), none⟩, ⟨some 94, .mv (.t 0), some (93, true)⟩, ⟨some 95, .call 35 [(.t 94)], some (93, true)⟩, ⟨some 96, .mv (.t 0), some (93, true)⟩, ⟨some 97, .call 36 [(.t 96)], some (93, true)⟩, ⟨some 98, .bin .eql (.t 95) (.t 97), some (93, true)⟩, ⟨some 99, .pick (.t 93) (.t 98) (.c (.bool false)), none⟩, ⟨some 100, .mv (.t 99), none⟩, ⟨some 101, .mv (.t 0), some (100, true)⟩, ⟨some 102, .mv (.t 1), some (100, true)⟩, ⟨some 103, .call 37 [(.t 101), (.t 102)], some (100, true)⟩, ⟨some 104, .mv (.t 0), some (100, true)⟩, ⟨some 105, .mv (.t 1), some (100, true)⟩, ⟨some 106, .call 38 [(.t 104), (.t 105)], some (100, true)⟩, ⟨some 107, .eqb false (.t 103) (.t 106), some (100, true)⟩, ⟨some 108, .pick (.t 100) (.t 107) (.c (.bool false)), none⟩, ⟨some 109, .mv (.t 108), none⟩, ⟨some 110, .mv (.t 0), some (109, true)⟩, ⟨some 111, .mv (.t 1), some (109, true)⟩, ⟨some 112, .call 39 [(.t 110), (.t 111)], some (109, true)⟩, ⟨some 113, .mv (.t 0), some (109, true)⟩, ⟨some 114, .mv (.t 1), some (109, true)⟩, ⟨some 115, .call 40 [(.t 113), (.t 114)], some (109, true)⟩, ⟨some 116, .eqb false (.t 112) (.t 115), some (109, true)⟩, ⟨some 117, .pick (.t 109) (.t 116) (.c (.bool false)), none⟩, ⟨some 118, .mv (.t 117), none⟩, ⟨some 119, .mv (.t 0), some (118, true)⟩, ⟨some 120, .mv (.t 1), some (118, true)⟩, ⟨some 121, .call 41 [(.t 119), (.t 120)], some (118, true)⟩, ⟨some 122, .mv (.t 0), some (118, true)⟩, ⟨some 123, .mv (.t 1), some (118, true)⟩, ⟨some 124, .call 42 [(.t 122), (.t 123)], some (118, true)⟩, ⟨some 125, .bin .eql (.t 121) (.t 124), some (118, true)⟩, ⟨some 126, .pick (.t 118) (.t 125) (.c (.bool false)), none⟩, ⟨some 127, .mv (.t 126), none⟩, ⟨some 128, .mv (.t 9), some (127, true)⟩, ⟨some 129, .mv (.t 3), some (127, true)⟩, ⟨some 130, .call 32 [(.t 128), (.t 129)], some (127, true)⟩, ⟨some 131, .pick (.t 127) (.t 130) (.c (.bool false)), none⟩, ⟨some 132, .mv (.t 131), none⟩, ⟨some 133, .call 10 [], some (132, true)⟩, ⟨some 134, .pick (.t 132) (.t 133) (.c (.bool false)), none⟩, ⟨some 8, .mv (.t 134), none⟩]))
    .ret))))))))))), [.t 8], 135⟩
theorem b5 : fB Tryd.prog 5 c5 = true := by kernel_rfl

/-- partywall/partywalllaw01.LabelKnown -/
def c6 : CF := ⟨(.seq (.keep [] (.ops [⟨some 0, .mv (.c (.bool false)), none⟩]))
    (.seq (.keep [] (.ops [⟨some 31, .call 26 [(.c .nils)], none⟩, ⟨some 30, .mv (.t 31), none⟩, ⟨some 32, .ext (.t 30) 0, none⟩, ⟨some 33, .ext (.t 30) 1, none⟩, ⟨some 1, .mv (.t 32), none⟩, ⟨some 2, .mv (.t 33), none⟩]))
    (.seq (.keep [1, 2] (.ops [⟨some 35, .mkSl 1 1 [.int .i64 0] [(0, 1, (.c (.int .i64 64)))], none⟩, ⟨some 36, .call 26 [(.t 35)], none⟩, ⟨some 34, .mv (.t 36), none⟩, ⟨some 37, .ext (.t 34) 0, none⟩, ⟨some 38, .ext (.t 34) 1, none⟩, ⟨some 3, .mv (.t 37), none⟩, ⟨some 4, .mv (.t 38), none⟩]))
    (.seq (.keep [1, 2, 4] (.ops [⟨some 40, .mkSl 1 1 [.int .i64 0] [(0, 1, (.c (.int .i64 63)))], none⟩, ⟨some 41, .call 26 [(.t 40)], none⟩, ⟨some 39, .mv (.t 41), none⟩, ⟨some 42, .ext (.t 39) 0, none⟩, ⟨some 43, .ext (.t 39) 1, none⟩, ⟨some 5, .mv (.t 42), none⟩, ⟨some 6, .mv (.t 43), none⟩]))
    (.seq (.keep [1, 2, 4, 5, 6] (.ops [⟨some 45, .call 28 [(.c (.int .u64 5)), (.c (.int .i64 2))], none⟩, ⟨some 44, .mv (.t 45), none⟩, ⟨some 46, .ext (.t 44) 0, none⟩, ⟨some 47, .ext (.t 44) 1, none⟩, ⟨some 7, .mv (.t 46), none⟩, ⟨some 8, .mv (.t 47), none⟩]))
    (.seq (.keep [1, 2, 4, 5, 6, 7, 8] (.ops [⟨some 49, .call 28 [(.c (.int .u64 5)), (.c (.int .i64 1))], none⟩, ⟨some 48, .mv (.t 49), none⟩, ⟨some 50, .ext (.t 48) 0, none⟩, ⟨some 51, .ext (.t 48) 1, none⟩, ⟨some 9, .mv (.t 50), none⟩, ⟨some 10, .mv (.t 51), none⟩]))
    (.seq (.keep [1, 2, 4, 5, 6, 7, 8, 9, 10] (.ops [⟨some 53, .call 28 [(.c (.int .u64 5)), (.c (.int .i64 64))], none⟩, ⟨some 52, .mv (.t 53), none⟩, ⟨some 54, .ext (.t 52) 0, none⟩, ⟨some 55, .ext (.t 52) 1, none⟩, ⟨some 11, .mv (.t 54), none⟩, ⟨some 12, .mv (.t 55), none⟩]))
    (.seq (.keep [1, 2, 4, 5, 6, 7, 8, 9, 10, 12] (.ops [⟨some 57, .call 30 [(.c (.int .u64 12))], none⟩, ⟨some 56, .mv (.t 57), none⟩, ⟨some 58, .ext (.t 56) 0, none⟩, ⟨some 59, .ext (.t 56) 1, none⟩, ⟨some 13, .mv (.t 58), none⟩, ⟨some 14, .mv (.t 59), none⟩]))
    (.seq (.keep [1, 2, 4, 5, 6, 7, 8, 9, 10, 12, 13, 14] (.ops [⟨some 61, .call 30 [(.c (.int .u64 0))], none⟩, ⟨some 60, .mv (.t 61), none⟩, ⟨some 62, .ext (.t 60) 0, none⟩, ⟨some 63, .ext (.t 60) 1, none⟩, ⟨some 15, .mv (.t 62), none⟩, ⟨some 16, .mv (.t 63), none⟩]))
    (.seq (.keep [1, 2, 4, 5, 6, 7, 8, 9, 10, 12, 13, 14, 16] (.ops [⟨some 65, .call 11 [(.c (.str [123, 125]))], none⟩, ⟨some 64, .mv (.t 65), none⟩, ⟨some 66, .ext (.t 64) 0, none⟩, ⟨some 67, .ext (.t 64) 1, none⟩, ⟨some 18, .alloc [.int .i64 0, .int .i64 0], none⟩, ⟨some 17, .mv (.t 66), none⟩, ⟨none, .st 2 (.t 18) (.t 67), none⟩]))
    (.seq (.keep [1, 2, 4, 5, 6, 7, 8, 9, 10, 12, 13, 14, 16, 17, 18] (.ops [⟨some 69, .call 13 [(.c (.str [123, 49, 125, 120]))], none⟩, ⟨some 68, .mv (.t 69), none⟩, ⟨some 70, .ext (.t 68) 0, none⟩, ⟨some 71, .ext (.t 68) 1, none⟩, ⟨some 72, .ext (.t 68) 2, none⟩, ⟨some 21, .alloc [.int .i64 0, .int .i64 0], none⟩, ⟨some 19, .mv (.t 70), none⟩, ⟨some 20, .mv (.t 71), none⟩, ⟨none, .st 2 (.t 21) (.t 72), none⟩]))
    (.seq (.keep [1, 2, 4, 5, 6, 7, 8, 9, 10, 12, 13, 14, 16, 17, 18, 19, 20, 21] (.ops [⟨some 74, .call 15 [(.c (.str [0, 0, 0, 0, 0, 0, 1, 2]))], none⟩, ⟨some 73, .mv (.t 74), none⟩, ⟨some 75, .ext (.t 73) 0, none⟩, ⟨some 76, .ext (.t 73) 1, none⟩, ⟨some 22, .mv (.t 75), none⟩, ⟨some 23, .mv (.t 76), none⟩]))
    (.seq (.keep [1, 2, 4, 5, 6, 7, 8, 9, 10, 12, 13, 14, 16, 17, 18, 19, 20, 21, 22, 23] (.ops [⟨some 78, .call 15 [(.c (.str [49, 50, 51, 52, 53, 54, 55]))], none⟩, ⟨some 77, .mv (.t 78), none⟩, ⟨some 79, .ext (.t 77) 0, none⟩, ⟨some 80, .ext (.t 77) 1, none⟩, ⟨some 24, .mv (.t 79), none⟩, ⟨some 25, .mv (.t 80), none⟩]))
    (.seq (.keep [1, 2, 4, 5, 6, 7, 8, 9, 10, 12, 13, 14, 16, 17, 18, 19, 20, 21, 22, 23, 25] (.ops [⟨some 81, .mv (.t 2), none⟩, ⟨some 82, .bin .eql (.t 81) (.c (.int .i64 0)), none⟩, ⟨some 83, .mv (.t 82), none⟩, ⟨some 84, .mv (.t 1), some (83, true)⟩, ⟨some 85, .bin .eql (.t 84) (.c (.int .u64 0)), some (83, true)⟩, ⟨some 86, .pick (.t 83) (.t 85) (.c (.bool false)), none⟩, ⟨some 87, .mv (.t 86), none⟩, ⟨some 88, .mv (.t 4), some (87, true)⟩, ⟨some 89, .bin .eql (.t 88) (.c (.int .i64 2)), some (87, true)⟩, ⟨some 90, .pick (.t 87) (.t 89) (.c (.bool false)), none⟩, ⟨some 91, .mv (.t 90), none⟩, ⟨some 92, .mv (.t 6), some (91, true)⟩, ⟨some 93, .bin .eql (.t 92) (.c (.int .i64 0)), some (91, true)⟩, ⟨some 94, .pick (.t 91) (.t 93) (.c (.bool false)), none⟩, ⟨some 95, .mv (.t 94), none⟩, ⟨some 96, .mv (.t 5), some (95, true)⟩, ⟨some 97, .bin .eql (.t 96) (.c (.int .u64 9223372036854775808)), some (95, true)⟩, ⟨some 98, .pick (.t 95) (.t 97) (.c (.bool false)), none⟩, ⟨some 99, .mv (.t 98), none⟩, ⟨some 100, .mv (.t 8), some (99, true)⟩, ⟨some 101, .bin .eql (.t 100) (.c (.int .i64 0)), some (99, true)⟩, ⟨some 102, .pick (.t 99) (.t 101) (.c (.bool false)), none⟩, ⟨some 103, .mv (.t 102), none⟩, ⟨some 104, .mv (.t 7), some (103, true)⟩, ⟨some 105, .pick (.t 103) (.t 104) (.c (.bool false)), none⟩, ⟨some 106, .mv (.t 105), none⟩, ⟨some 107, .mv (.t 10), some (106, true)⟩, ⟨some 108, .bin .eql (.t 107) (.c (.int .i64 0)), some (106, true)⟩, ⟨some 109, .pick (.t 106) (.t 108) (.c (.bool false)), none⟩, ⟨some 110, .mv (.t 109), none⟩, ⟨some 111, .mv (.t 9), some (110, true)⟩, ⟨some 112, .un .not (.t 111), some (110, true)⟩, ⟨some 113, .pick (.t 110) (.t 112) (.c (.bool false)), none⟩, ⟨some 114, .mv (.t 113), none⟩, ⟨some 115, .mv (.t 12), some (114, true)⟩, ⟨some 116, .bin .eql (.t 115) (.c (.int .i64 2)), some (114, true)⟩, ⟨some 117, .pick (.t 114) (.t 116) (.c (.bool false)), none⟩, ⟨some 118, .mv (.t 117), none⟩, ⟨some 119, .mv (.t 14), some (118, true)⟩, ⟨some 120, .bin .eql (.t 119) (.c (.int .i64 0)), some (118, true)⟩, ⟨some 121, .pick (.t 118) (.t 120) (.c (.bool false)), none⟩, ⟨some 122, .mv (.t 121), none⟩, ⟨some 123, .mv (.t 13), some (122, true)⟩, ⟨some 124, .bin .eql (.t 123) (.c (.int .i64 2)), some (122, true)⟩, ⟨some 125, .pick (.t 122) (.t 124) (.c (.bool false)), none⟩, ⟨some 126, .mv (.t 125), none⟩, ⟨some 127, .mv (.t 16), some (126, true)⟩, ⟨some 128, .bin .eql (.t 127) (.c (.int .i64 2)), some (126, true)⟩, ⟨some 129, .pick (.t 126) (.t 128) (.c (.bool false)), none⟩, ⟨some 130, .mv (.t 129), none⟩, ⟨some 131, .call 33 [(.c (.int .u64 5))], some (130, true)⟩, ⟨some 132, .mkSl 1 2 [.int .i64 0, .int .i64 0] [(0, 1, (.c (.int .i64 0))), (1, 1, (.c (.int .i64 2)))], some (130, true)⟩, ⟨some 133, .call 32 [(.t 131), (.t 132)], some (130, true)⟩, ⟨some 134, .pick (.t 130) (.t 133) (.c (.bool false)), none⟩, ⟨some 135, .mv (.t 134), none⟩, ⟨some 136, .call 35 [(.c (.int .u64 5))], some (135, true)⟩, ⟨some 137, .bin .eql (.t 136) (.c (.int .i64 2)), some (135, true)⟩, ⟨some 138, .pick (.t 135) (.t 137) (.c (.bool false)), none⟩, ⟨some 26, .mv (.t 138), none⟩]))
    (.seq (.keep [17, 18, 19, 20, 21, 22, 23, 25, 26] (.ops [⟨some 139, .call 37 [(.c (.int .u64 0)), (.c (.int .u64 0))], none⟩, ⟨some 140, .mv (.t 139), none⟩, ⟨some 141, .call 39 [(.c (.int .u64 1)), (.c (.int .u64 2))], some (140, true)⟩, ⟨some 142, .un .not (.t 141), some (140, true)⟩, ⟨some 143, .pick (.t 140) (.t 142) (.c (.bool false)), none⟩, ⟨some 144, .mv (.t 143), none⟩, ⟨some 145, .call 17 [(.c .nils)], some (144, true)⟩, ⟨some 146, .bin .eql (.t 145) (.c (.int .u64 0)), some (144, true)⟩, ⟨some 147, .pick (.t 144) (.t 146) (.c (.bool false)), none⟩, ⟨some 148, .mv (.t 147), none⟩, ⟨some 149, .mkSl 1 2 [.int .u64 0, .int .u64 0] [(0, 1, (.c (.int .u64 5))), (1, 1, (.c (.int .u64 6)))], some (148, true)⟩, ⟨some 150, .call 19 [(.t 149)], some (148, true)⟩, ⟨some 151, .bin .eql (.t 150) (.c (.int .u64 4)), some (148, true)⟩, ⟨some 152, .pick (.t 148) (.t 151) (.c (.bool false)), none⟩, ⟨some 153, .mv (.t 152), none⟩, ⟨some 154, .call 19 [(.c .nils)], some (153, true)⟩, ⟨some 155, .bin .eql (.t 154) (.c (.int .u64 18446744073709551615)), some (153, true)⟩, ⟨some 156, .pick (.t 153) (.t 155) (.c (.bool false)), none⟩, ⟨some 157, .mv (.t 156), none⟩, ⟨some 158, .call 41 [(.c (.int .u64 7)), (.c (.int .u64 2))], some (157, true)⟩, ⟨some 159, .bin .eql (.t 158) (.c (.int .u64 5)), some (157, true)⟩, ⟨some 160, .pick (.t 157) (.t 159) (.c (.bool false)), none⟩, ⟨some 27, .mv (.t 160), none⟩]))
    (.seq (.keep [17, 18, 19, 20, 21, 22, 23, 25, 26, 27] (.ops [⟨some 161, .call 23 [(.c (.int .u64 0))], none⟩, ⟨some 162, .bin .eql (.t 161) (.c (.str [123, 125])), none⟩, ⟨some 163, .mv (.t 162), none⟩, ⟨some 164, .ld (some 2) (.t 18), some (163, true)⟩, ⟨some 165, .bld [.int .i64 0, .int .i64 0] [], some (163, true)⟩, ⟨some 166, .eqA false [0, 0] (.t 164) (.t 165), some (163, true)⟩, ⟨some 167, .pick (.t 163) (.t 166) (.c (.bool false)), none⟩, ⟨some 168, .mv (.t 167), none⟩, ⟨some 169, .mv (.t 17), some (168, true)⟩, ⟨some 170, .bin .eql (.t 169) (.c (.int .u64 0)), some (168, true)⟩, ⟨some 171, .pick (.t 168) (.t 170) (.c (.bool false)), none⟩, ⟨some 172, .mv (.t 171), none⟩, ⟨some 173, .ld (some 2) (.t 21), some (172, true)⟩, ⟨some 174, .bld [.int .i64 0, .int .i64 0] [], some (172, true)⟩, ⟨some 175, .eqA false [0, 0] (.t 173) (.t 174), some (172, true)⟩, ⟨some 176, .pick (.t 172) (.t 175) (.c (.bool false)), none⟩, ⟨some 177, .mv (.t 176), none⟩, ⟨some 178, .mv (.t 19), some (177, true)⟩, ⟨some 179, .bin .eql (.t 178) (.c (.int .u64 2)), some (177, true)⟩, ⟨some 180, .pick (.t 177) (.t 179) (.c (.bool false)), none⟩, ⟨some 181, .mv (.t 180), none⟩, ⟨some 182, .mv (.t 20), some (181, true)⟩, ⟨some 183, .bin .eql (.t 182) (.c (.int .i64 3)), some (181, true)⟩, ⟨some 184, .pick (.t 181) (.t 183) (.c (.bool false)), none⟩, ⟨some 185, .mv (.t 184), none⟩, ⟨some 186, .mv (.t 23), some (185, true)⟩, ⟨some 187, .bin .eql (.t 186) (.c (.int .i64 0)), some (185, true)⟩, ⟨some 188, .pick (.t 185) (.t 187) (.c (.bool false)), none⟩, ⟨some 189, .mv (.t 188), none⟩, ⟨some 190, .mv (.t 22), some (189, true)⟩, ⟨some 191, .bin .eql (.t 190) (.c (.int .u64 258)), some (189, true)⟩, ⟨some 192, .pick (.t 189) (.t 191) (.c (.bool false)), none⟩, ⟨some 193, .mv (.t 192), none⟩, ⟨some 194, .mv (.t 25), some (193, true)⟩, ⟨some 195, .bin .eql (.t 194) (.c (.int .i64 3)), some (193, true)⟩, ⟨some 196, .pick (.t 193) (.t 195) (.c (.bool false)), none⟩, ⟨some 197, .mv (.t 196), none⟩, ⟨some 198, .call 21 [(.c (.int .u64 258))], some (197, true)⟩, ⟨some 199, .bin .eql (.t 198) (.c (.str [0, 0, 0, 0, 0, 0, 1, 2])), some (197, true)⟩, ⟨some 200, .pick (.t 197) (.t 199) (.c (.bool false)), none⟩, ⟨some 28, .mv (.t 200), none⟩]))
    (.seq (.keep [26, 27, 28] (.ops [⟨some 201, .call 43 [(.c (.str [48])), (.c (.int .i64 3)), (.c (.int .i64 0))], none⟩, ⟨some 202, .mv (.t 201), none⟩, ⟨some 203, .call 43 [(.c (.str [123, 48, 44, 125])), (.c (.int .i64 3)), (.c (.int .i64 3))], some (202, true)⟩, ⟨some 204, .pick (.t 202) (.t 203) (.c (.bool false)), none⟩, ⟨some 205, .mv (.t 204), none⟩, ⟨some 206, .call 43 [(.c (.str [123, 48, 48, 125])), (.c (.int .i64 3)), (.c (.int .i64 2))], some (205, true)⟩, ⟨some 207, .pick (.t 205) (.t 206) (.c (.bool false)), none⟩, ⟨some 208, .mv (.t 207), none⟩, ⟨some 209, .call 43 [(.c (.str [123, 50, 44, 49, 125])), (.c (.int .i64 9)), (.c (.int .i64 3))], some (208, true)⟩, ⟨some 210, .pick (.t 208) (.t 209) (.c (.bool false)), none⟩, ⟨some 211, .mv (.t 210), none⟩, ⟨some 212, .call 43 [(.c (.str [123, 49, 125, 120])), (.c (.int .i64 4)), (.c (.int .i64 3))], some (211, true)⟩, ⟨some 213, .pick (.t 211) (.t 212) (.c (.bool false)), none⟩, ⟨some 214, .mv (.t 213), none⟩, ⟨some 215, .call 43 [(.c (.str [123, 49])), (.c (.int .i64 3)), (.c (.int .i64 2))], some (214, true)⟩, ⟨some 216, .pick (.t 214) (.t 215) (.c (.bool false)), none⟩, ⟨some 29, .mv (.t 216), none⟩]))
    (.seq (.keep [26, 27, 28, 29] (.ops [⟨some 217, .call 10 [], none⟩, ⟨some 218, .mv (.t 217), none⟩, ⟨some 219, .mv (.t 26), some (218, true)⟩, ⟨some 220, .pick (.t 218) (.t 219) (.c (.bool false)), none⟩, ⟨some 221, .mv (.t 220), none⟩, ⟨some 222, .mv (.t 27), some (221, true)⟩, ⟨some 223, .pick (.t 221) (.t 222) (.c (.bool false)), none⟩, ⟨some 224, .mv (.t 223), none⟩, ⟨some 225, .mv (.t 28), some (224, true)⟩, ⟨some 226, .pick (.t 224) (.t 225) (.c (.bool false)), none⟩, ⟨some 227, .mv (.t 226), none⟩, ⟨some 228, .mv (.t 29), some (227, true)⟩, ⟨some 229, .pick (.t 227) (.t 228) (.c (.bool false)), none⟩, ⟨some 0, .mv (.t 229), none⟩]))
    .ret)))))))))))))))))), [.t 0], 230⟩
theorem b6 : fB Tryd.prog 6 c6 = true := by kernel_rfl

/-- partywall/partywalllaw01.LabelOrder -/
def c7 : CF := ⟨(.seq (.keep [0, 1, 2] (.ops [⟨some 6, .mv (.c (.bool false)), none⟩]))
    (.seq (.keep [0, 1, 2] (.ops [⟨some 12, .call 6 [], none⟩, ⟨some 7, .mv (.t 12), none⟩]))
    (.seq (.keep [0, 1, 2, 7] (.ops [⟨some 13, .mv (.t 0), none⟩, ⟨some 14, .mv (.t 1), none⟩, ⟨some 15, .mkSl 1 2 [.int .u64 0, .int .u64 0] [(0, 1, (.t 13)), (1, 1, (.t 14))], none⟩, ⟨some 16, .call 17 [(.t 15)], none⟩, ⟨some 17, .mv (.t 0), none⟩, ⟨some 18, .mv (.t 1), none⟩, ⟨some 19, .mkSl 1 2 [.int .u64 0, .int .u64 0] [(0, 1, (.t 17)), (1, 1, (.t 18))], none⟩, ⟨some 20, .call 19 [(.t 19)], none⟩, ⟨some 8, .mv (.t 16), none⟩, ⟨some 9, .mv (.t 20), none⟩]))
    (.seq (.seq (.keep [0, 1, 2, 7, 8, 9] (.ops [⟨some 21, .mv (.t 0), none⟩, ⟨some 22, .mv (.t 0), none⟩, ⟨some 23, .call 37 [(.t 21), (.t 22)], none⟩, ⟨some 24, .un .not (.t 23), none⟩, ⟨some 25, .mv (.t 24), none⟩, ⟨some 26, .mv (.t 0), some (25, false)⟩, ⟨some 27, .mv (.t 1), some (25, false)⟩, ⟨some 28, .call 37 [(.t 26), (.t 27)], some (25, false)⟩, ⟨some 29, .mv (.t 28), some (25, false)⟩, ⟨some 30, .mv (.t 1), some (29, true)⟩, ⟨some 31, .mv (.t 0), some (29, true)⟩, ⟨some 32, .call 37 [(.t 30), (.t 31)], some (29, true)⟩, ⟨some 33, .pick (.t 29) (.t 32) (.c (.bool false)), some (25, false)⟩, ⟨some 34, .mv (.t 33), some (25, false)⟩, ⟨some 35, .mv (.t 0), some (34, true)⟩, ⟨some 36, .mv (.t 1), some (34, true)⟩, ⟨some 37, .bin .neq (.t 35) (.t 36), some (34, true)⟩, ⟨some 38, .pick (.t 34) (.t 37) (.c (.bool false)), some (25, false)⟩, ⟨some 39, .pick (.t 25) (.c (.bool true)) (.t 38), none⟩, ⟨some 40, .mv (.t 39), none⟩, ⟨some 41, .mv (.t 0), some (40, false)⟩, ⟨some 42, .mv (.t 1), some (40, false)⟩, ⟨some 43, .call 37 [(.t 41), (.t 42)], some (40, false)⟩, ⟨some 44, .mv (.t 43), some (40, false)⟩, ⟨some 45, .mv (.t 1), some (44, true)⟩, ⟨some 46, .mv (.t 2), some (44, true)⟩, ⟨some 47, .call 37 [(.t 45), (.t 46)], some (44, true)⟩, ⟨some 48, .pick (.t 44) (.t 47) (.c (.bool false)), some (40, false)⟩, ⟨some 49, .mv (.t 48), some (40, false)⟩, ⟨some 50, .mv (.t 0), some (49, true)⟩, ⟨some 51, .mv (.t 2), some (49, true)⟩, ⟨some 52, .call 37 [(.t 50), (.t 51)], some (49, true)⟩, ⟨some 53, .un .not (.t 52), some (49, true)⟩, ⟨some 54, .pick (.t 49) (.t 53) (.c (.bool false)), some (40, false)⟩, ⟨some 55, .pick (.t 40) (.c (.bool true)) (.t 54), none⟩]))
    (.cond (.t 55)
      (.seq (.keep [] (.ops [⟨some 6, .mv (.c (.bool false)), none⟩]))
      .ret)
      .skip))
    (.seq (.seq (.keep [0, 1, 2, 7, 8, 9] (.ops [⟨some 56, .mv (.t 0), none⟩, ⟨some 57, .mv (.t 8), none⟩, ⟨some 58, .call 37 [(.t 56), (.t 57)], none⟩, ⟨some 59, .un .not (.t 58), none⟩, ⟨some 60, .mv (.t 59), none⟩, ⟨some 61, .mv (.t 1), some (60, false)⟩, ⟨some 62, .mv (.t 8), some (60, false)⟩, ⟨some 63, .call 37 [(.t 61), (.t 62)], some (60, false)⟩, ⟨some 64, .un .not (.t 63), some (60, false)⟩, ⟨some 65, .pick (.t 60) (.c (.bool true)) (.t 64), none⟩, ⟨some 66, .mv (.t 65), none⟩, ⟨some 67, .mv (.t 9), some (66, false)⟩, ⟨some 68, .mv (.t 0), some (66, false)⟩, ⟨some 69, .call 37 [(.t 67), (.t 68)], some (66, false)⟩, ⟨some 70, .un .not (.t 69), some (66, false)⟩, ⟨some 71, .pick (.t 66) (.c (.bool true)) (.t 70), none⟩, ⟨some 72, .mv (.t 71), none⟩, ⟨some 73, .mv (.t 9), some (72, false)⟩, ⟨some 74, .mv (.t 1), some (72, false)⟩, ⟨some 75, .call 37 [(.t 73), (.t 74)], some (72, false)⟩, ⟨some 76, .un .not (.t 75), some (72, false)⟩, ⟨some 77, .pick (.t 72) (.c (.bool true)) (.t 76), none⟩]))
    (.cond (.t 77)
      (.seq (.keep [] (.ops [⟨some 6, .mv (.c (.bool false)), none⟩]))
      .ret)
      .skip))
    (.seq (.keep [0, 1, 2, 7, 8, 9] (.ops [⟨some 78, .mv (.t 8), none⟩, ⟨some 79, .mv (.t 2), none⟩, ⟨some 80, .call 37 [(.t 78), (.t 79)], none⟩, ⟨some 81, .mv (.t 0), none⟩, ⟨some 82, .mv (.t 2), none⟩, ⟨some 83, .call 37 [(.t 81), (.t 82)], none⟩, ⟨some 84, .mv (.t 83), none⟩, ⟨some 85, .mv (.t 1), some (84, true)⟩, ⟨some 86, .mv (.t 2), some (84, true)⟩, ⟨some 87, .call 37 [(.t 85), (.t 86)], some (84, true)⟩, ⟨some 88, .pick (.t 84) (.t 87) (.c (.bool false)), none⟩, ⟨some 89, .eqb false (.t 80) (.t 88), none⟩, ⟨some 10, .mv (.t 89), none⟩]))
    (.seq (.keep [0, 1, 2, 7, 8, 9, 10] (.ops [⟨some 90, .mv (.t 2), none⟩, ⟨some 91, .mv (.t 9), none⟩, ⟨some 92, .call 37 [(.t 90), (.t 91)], none⟩, ⟨some 93, .mv (.t 2), none⟩, ⟨some 94, .mv (.t 0), none⟩, ⟨some 95, .call 37 [(.t 93), (.t 94)], none⟩, ⟨some 96, .mv (.t 95), none⟩, ⟨some 97, .mv (.t 2), some (96, true)⟩, ⟨some 98, .mv (.t 1), some (96, true)⟩, ⟨some 99, .call 37 [(.t 97), (.t 98)], some (96, true)⟩, ⟨some 100, .pick (.t 96) (.t 99) (.c (.bool false)), none⟩, ⟨some 101, .eqb false (.t 92) (.t 100), none⟩, ⟨some 11, .mv (.t 101), none⟩]))
    (.seq (.keep [0, 1, 7, 8, 9, 10, 11] (.ops [⟨some 102, .mv (.t 7), none⟩, ⟨some 103, .mv (.t 102), none⟩, ⟨some 104, .mv (.t 10), some (103, true)⟩, ⟨some 105, .pick (.t 103) (.t 104) (.c (.bool false)), none⟩, ⟨some 106, .mv (.t 105), none⟩, ⟨some 107, .mv (.t 11), some (106, true)⟩, ⟨some 108, .pick (.t 106) (.t 107) (.c (.bool false)), none⟩, ⟨some 109, .mv (.t 108), none⟩, ⟨some 110, .mv (.t 0), some (109, true)⟩, ⟨some 111, .mv (.t 1), some (109, true)⟩, ⟨some 112, .call 37 [(.t 110), (.t 111)], some (109, true)⟩, ⟨some 113, .mv (.t 8), some (109, true)⟩, ⟨some 114, .mv (.t 1), some (109, true)⟩, ⟨some 115, .bin .eql (.t 113) (.t 114), some (109, true)⟩, ⟨some 116, .eqb false (.t 112) (.t 115), some (109, true)⟩, ⟨some 117, .pick (.t 109) (.t 116) (.c (.bool false)), none⟩, ⟨some 118, .mv (.t 117), none⟩, ⟨some 119, .mv (.t 0), some (118, true)⟩, ⟨some 120, .mv (.t 1), some (118, true)⟩, ⟨some 121, .call 37 [(.t 119), (.t 120)], some (118, true)⟩, ⟨some 122, .mv (.t 9), some (118, true)⟩, ⟨some 123, .mv (.t 0), some (118, true)⟩, ⟨some 124, .bin .eql (.t 122) (.t 123), some (118, true)⟩, ⟨some 125, .eqb false (.t 121) (.t 124), some (118, true)⟩, ⟨some 126, .pick (.t 118) (.t 125) (.c (.bool false)), none⟩, ⟨some 6, .mv (.t 126), none⟩]))
    .ret)))))))), [.t 6], 127⟩
theorem b7 : fB Tryd.prog 7 c7 = true := by kernel_rfl

/-- partywall/partywalllaw01.LabelAlgebra -/
def c8 : CF := ⟨(.seq (.keep [0, 1, 2] (.ops [⟨some 6, .mv (.c (.bool false)), none⟩]))
    (.seq (.keep [0, 1, 2] (.ops [⟨some 11, .call 6 [], none⟩, ⟨some 7, .mv (.t 11), none⟩]))
    (.seq (.keep [0, 1, 2, 7] (.ops [⟨some 12, .mv (.t 0), none⟩, ⟨some 13, .mv (.t 1), none⟩, ⟨some 14, .mv (.t 2), none⟩, ⟨some 15, .mkSl 1 3 [.int .u64 0, .int .u64 0, .int .u64 0] [(0, 1, (.t 12)), (1, 1, (.t 13)), (2, 1, (.t 14))], none⟩, ⟨some 16, .call 17 [(.t 15)], none⟩, ⟨some 17, .mv (.t 2), none⟩, ⟨some 18, .mv (.t 0), none⟩, ⟨some 19, .mv (.t 1), none⟩, ⟨some 20, .mv (.t 0), none⟩, ⟨some 21, .mkSl 1 4 [.int .u64 0, .int .u64 0, .int .u64 0, .int .u64 0] [(0, 1, (.t 17)), (1, 1, (.t 18)), (2, 1, (.t 19)), (3, 1, (.t 20))], none⟩, ⟨some 22, .call 17 [(.t 21)], none⟩, ⟨some 23, .bin .eql (.t 16) (.t 22), none⟩, ⟨some 24, .mv (.t 23), none⟩, ⟨some 25, .mv (.t 0), some (24, true)⟩, ⟨some 26, .mv (.t 1), some (24, true)⟩, ⟨some 27, .mkSl 1 2 [.int .u64 0, .int .u64 0] [(0, 1, (.t 25)), (1, 1, (.t 26))], some (24, true)⟩, ⟨some 28, .call 17 [(.t 27)], some (24, true)⟩, ⟨some 29, .mv (.t 2), some (24, true)⟩, ⟨some 30, .mkSl 1 2 [.int .u64 0, .int .u64 0] [(0, 1, (.t 28)), (1, 1, (.t 29))], some (24, true)⟩, ⟨some 31, .call 17 [(.t 30)], some (24, true)⟩, ⟨some 32, .mv (.t 0), some (24, true)⟩, ⟨some 33, .mv (.t 1), some (24, true)⟩, ⟨some 34, .mv (.t 2), some (24, true)⟩, ⟨some 35, .mkSl 1 3 [.int .u64 0, .int .u64 0, .int .u64 0] [(0, 1, (.t 32)), (1, 1, (.t 33)), (2, 1, (.t 34))], some (24, true)⟩, ⟨some 36, .call 17 [(.t 35)], some (24, true)⟩, ⟨some 37, .bin .eql (.t 31) (.t 36), some (24, true)⟩, ⟨some 38, .pick (.t 24) (.t 37) (.c (.bool false)), none⟩, ⟨some 39, .mv (.t 38), none⟩, ⟨some 40, .mv (.t 0), some (39, true)⟩, ⟨some 41, .mv (.t 0), some (39, true)⟩, ⟨some 42, .mv (.t 1), some (39, true)⟩, ⟨some 43, .mkSl 1 2 [.int .u64 0, .int .u64 0] [(0, 1, (.t 41)), (1, 1, (.t 42))], some (39, true)⟩, ⟨some 44, .call 19 [(.t 43)], some (39, true)⟩, ⟨some 45, .mkSl 1 2 [.int .u64 0, .int .u64 0] [(0, 1, (.t 40)), (1, 1, (.t 44))], some (39, true)⟩, ⟨some 46, .call 17 [(.t 45)], some (39, true)⟩, ⟨some 47, .mv (.t 0), some (39, true)⟩, ⟨some 48, .bin .eql (.t 46) (.t 47), some (39, true)⟩, ⟨some 49, .pick (.t 39) (.t 48) (.c (.bool false)), none⟩, ⟨some 8, .mv (.t 49), none⟩]))
    (.seq (.keep [0, 1, 2, 7, 8] (.ops [⟨some 50, .mv (.t 0), none⟩, ⟨some 51, .mv (.t 1), none⟩, ⟨some 52, .mv (.t 2), none⟩, ⟨some 53, .mkSl 1 3 [.int .u64 0, .int .u64 0, .int .u64 0] [(0, 1, (.t 50)), (1, 1, (.t 51)), (2, 1, (.t 52))], none⟩, ⟨some 54, .call 19 [(.t 53)], none⟩, ⟨some 55, .mv (.t 2), none⟩, ⟨some 56, .mv (.t 0), none⟩, ⟨some 57, .mv (.t 1), none⟩, ⟨some 58, .mv (.t 0), none⟩, ⟨some 59, .mkSl 1 4 [.int .u64 0, .int .u64 0, .int .u64 0, .int .u64 0] [(0, 1, (.t 55)), (1, 1, (.t 56)), (2, 1, (.t 57)), (3, 1, (.t 58))], none⟩, ⟨some 60, .call 19 [(.t 59)], none⟩, ⟨some 61, .bin .eql (.t 54) (.t 60), none⟩, ⟨some 62, .mv (.t 61), none⟩, ⟨some 63, .mv (.t 0), some (62, true)⟩, ⟨some 64, .mv (.t 1), some (62, true)⟩, ⟨some 65, .mkSl 1 2 [.int .u64 0, .int .u64 0] [(0, 1, (.t 63)), (1, 1, (.t 64))], some (62, true)⟩, ⟨some 66, .call 19 [(.t 65)], some (62, true)⟩, ⟨some 67, .mv (.t 2), some (62, true)⟩, ⟨some 68, .mkSl 1 2 [.int .u64 0, .int .u64 0] [(0, 1, (.t 66)), (1, 1, (.t 67))], some (62, true)⟩, ⟨some 69, .call 19 [(.t 68)], some (62, true)⟩, ⟨some 70, .mv (.t 0), some (62, true)⟩, ⟨some 71, .mv (.t 1), some (62, true)⟩, ⟨some 72, .mv (.t 2), some (62, true)⟩, ⟨some 73, .mkSl 1 3 [.int .u64 0, .int .u64 0, .int .u64 0] [(0, 1, (.t 70)), (1, 1, (.t 71)), (2, 1, (.t 72))], some (62, true)⟩, ⟨some 74, .call 19 [(.t 73)], some (62, true)⟩, ⟨some 75, .bin .eql (.t 69) (.t 74), some (62, true)⟩, ⟨some 76, .pick (.t 62) (.t 75) (.c (.bool false)), none⟩, ⟨some 77, .mv (.t 76), none⟩, ⟨some 78, .mv (.t 0), some (77, true)⟩, ⟨some 79, .mv (.t 0), some (77, true)⟩, ⟨some 80, .mv (.t 1), some (77, true)⟩, ⟨some 81, .mkSl 1 2 [.int .u64 0, .int .u64 0] [(0, 1, (.t 79)), (1, 1, (.t 80))], some (77, true)⟩, ⟨some 82, .call 17 [(.t 81)], some (77, true)⟩, ⟨some 83, .mkSl 1 2 [.int .u64 0, .int .u64 0] [(0, 1, (.t 78)), (1, 1, (.t 82))], some (77, true)⟩, ⟨some 84, .call 19 [(.t 83)], some (77, true)⟩, ⟨some 85, .mv (.t 0), some (77, true)⟩, ⟨some 86, .bin .eql (.t 84) (.t 85), some (77, true)⟩, ⟨some 87, .pick (.t 77) (.t 86) (.c (.bool false)), none⟩, ⟨some 9, .mv (.t 87), none⟩]))
    (.seq (.keep [0, 1, 7, 8, 9] (.ops [⟨some 88, .mv (.t 0), none⟩, ⟨some 89, .mv (.t 1), none⟩, ⟨some 90, .call 41 [(.t 88), (.t 89)], none⟩, ⟨some 10, .mv (.t 90), none⟩]))
    (.seq (.keep [0, 1, 7, 8, 9, 10] (.ops [⟨some 91, .mv (.t 7), none⟩, ⟨some 92, .mv (.t 91), none⟩, ⟨some 93, .mv (.t 8), some (92, true)⟩, ⟨some 94, .pick (.t 92) (.t 93) (.c (.bool false)), none⟩, ⟨some 95, .mv (.t 94), none⟩, ⟨some 96, .mv (.t 9), some (95, true)⟩, ⟨some 97, .pick (.t 95) (.t 96) (.c (.bool false)), none⟩, ⟨some 98, .mv (.t 97), none⟩, ⟨some 99, .mv (.t 10), some (98, true)⟩, ⟨some 100, .mv (.t 0), some (98, true)⟩, ⟨some 101, .call 37 [(.t 99), (.t 100)], some (98, true)⟩, ⟨some 102, .pick (.t 98) (.t 101) (.c (.bool false)), none⟩, ⟨some 103, .mv (.t 102), none⟩, ⟨some 104, .mv (.t 10), some (103, true)⟩, ⟨some 105, .mv (.t 1), some (103, true)⟩, ⟨some 106, .mkSl 1 2 [.int .u64 0, .int .u64 0] [(0, 1, (.t 104)), (1, 1, (.t 105))], some (103, true)⟩, ⟨some 107, .call 19 [(.t 106)], some (103, true)⟩, ⟨some 108, .bin .eql (.t 107) (.c (.int .u64 0)), some (103, true)⟩, ⟨some 109, .pick (.t 103) (.t 108) (.c (.bool false)), none⟩, ⟨some 110, .mv (.t 109), none⟩, ⟨some 111, .mv (.t 10), some (110, true)⟩, ⟨some 112, .mv (.t 0), some (110, true)⟩, ⟨some 113, .mv (.t 1), some (110, true)⟩, ⟨some 114, .mkSl 1 2 [.int .u64 0, .int .u64 0] [(0, 1, (.t 112)), (1, 1, (.t 113))], some (110, true)⟩, ⟨some 115, .call 19 [(.t 114)], some (110, true)⟩, ⟨some 116, .mkSl 1 2 [.int .u64 0, .int .u64 0] [(0, 1, (.t 111)), (1, 1, (.t 115))], some (110, true)⟩, ⟨some 117, .call 17 [(.t 116)], some (110, true)⟩, ⟨some 118, .mv (.t 0), some (110, true)⟩, ⟨some 119, .bin .eql (.t 117) (.t 118), some (110, true)⟩, ⟨some 120, .pick (.t 110) (.t 119) (.c (.bool false)), none⟩, ⟨some 6, .mv (.t 120), none⟩]))
    .ret)))))), [.t 6], 121⟩
theorem b8 : fB Tryd.prog 8 c8 = true := by kernel_rfl

/-- partywall/partywalllaw01.LabelBack -/
def c9 : CF := ⟨(.seq (.keep [0, 1] (.ops [⟨some 4, .mv (.c (.bool false)), none⟩]))
    (.seq (.keep [0, 1] (.ops [⟨some 18, .call 6 [], none⟩, ⟨some 5, .mv (.t 18), none⟩]))
    (.seq (.seq (.keep [0, 1, 5] (.ops [⟨some 19, .mv (.t 1), none⟩, ⟨some 20, .lenS (.t 19), none⟩, ⟨some 21, .bin .gtr (.t 20) (.c (.int .i64 200)), none⟩]))
    (.cond (.t 21)
      (.seq (.keep [5] (.ops [⟨some 22, .mv (.t 5), none⟩, ⟨some 4, .mv (.t 22), none⟩]))
      .ret)
      .skip))
    (.seq (.keep [0, 1, 5] (.ops [⟨some 23, .mv (.t 0), none⟩, ⟨some 24, .call 23 [(.t 23)], none⟩, ⟨some 6, .mv (.t 24), none⟩]))
    (.seq (.keep [0, 1, 5, 6] (.ops [⟨some 26, .mv (.t 6), none⟩, ⟨some 27, .call 11 [(.t 26)], none⟩, ⟨some 25, .mv (.t 27), none⟩, ⟨some 28, .ext (.t 25) 0, none⟩, ⟨some 29, .ext (.t 25) 1, none⟩, ⟨some 8, .alloc [.int .i64 0, .int .i64 0], none⟩, ⟨some 7, .mv (.t 28), none⟩, ⟨none, .st 2 (.t 8) (.t 29), none⟩]))
    (.seq (.keep [0, 1, 5, 6, 7, 8] (.ops [⟨some 31, .mv (.t 0), none⟩, ⟨some 32, .call 21 [(.t 31)], none⟩, ⟨some 33, .call 15 [(.t 32)], none⟩, ⟨some 30, .mv (.t 33), none⟩, ⟨some 34, .ext (.t 30) 0, none⟩, ⟨some 35, .ext (.t 30) 1, none⟩, ⟨some 9, .mv (.t 34), none⟩, ⟨some 10, .mv (.t 35), none⟩]))
    (.seq (.keep [0, 1, 5, 6, 7, 8, 9, 10] (.ops [⟨some 37, .mv (.t 0), none⟩, ⟨some 38, .call 33 [(.t 37)], none⟩, ⟨some 39, .call 26 [(.t 38)], none⟩, ⟨some 36, .mv (.t 39), none⟩, ⟨some 40, .ext (.t 36) 0, none⟩, ⟨some 41, .ext (.t 36) 1, none⟩, ⟨some 11, .mv (.t 40), none⟩, ⟨some 12, .mv (.t 41), none⟩]))
    (.seq (.keep [0, 1, 5, 6, 7, 8, 9, 10, 11, 12] (.ops [⟨some 43, .mv (.t 6), none⟩, ⟨some 44, .mv (.t 1), none⟩, ⟨some 45, .bin .add (.t 43) (.t 44), none⟩, ⟨some 46, .call 13 [(.t 45)], none⟩, ⟨some 42, .mv (.t 46), none⟩, ⟨some 47, .ext (.t 42) 0, none⟩, ⟨some 48, .ext (.t 42) 1, none⟩, ⟨some 49, .ext (.t 42) 2, none⟩, ⟨some 15, .alloc [.int .i64 0, .int .i64 0], none⟩, ⟨some 13, .mv (.t 47), none⟩, ⟨some 14, .mv (.t 48), none⟩, ⟨none, .st 2 (.t 15) (.t 49), none⟩]))
    (.seq (.seq (.keep [0, 1, 5, 6, 7, 8, 9, 10, 11, 12, 13, 14, 15] (.ops [⟨some 50, .ld (some 2) (.t 8), none⟩, ⟨some 51, .bld [.int .i64 0, .int .i64 0] [], none⟩, ⟨some 52, .eqA true [0, 0] (.t 50) (.t 51), none⟩, ⟨some 53, .mv (.t 52), none⟩, ⟨some 54, .mv (.t 7), some (53, false)⟩, ⟨some 55, .mv (.t 0), some (53, false)⟩, ⟨some 56, .bin .neq (.t 54) (.t 55), some (53, false)⟩, ⟨some 57, .pick (.t 53) (.c (.bool true)) (.t 56), none⟩, ⟨some 58, .mv (.t 57), none⟩, ⟨some 59, .mv (.t 10), some (58, false)⟩, ⟨some 60, .bin .neq (.t 59) (.c (.int .i64 0)), some (58, false)⟩, ⟨some 61, .pick (.t 58) (.c (.bool true)) (.t 60), none⟩, ⟨some 62, .mv (.t 61), none⟩, ⟨some 63, .mv (.t 9), some (62, false)⟩, ⟨some 64, .mv (.t 0), some (62, false)⟩, ⟨some 65, .bin .neq (.t 63) (.t 64), some (62, false)⟩, ⟨some 66, .pick (.t 62) (.c (.bool true)) (.t 65), none⟩, ⟨some 67, .mv (.t 66), none⟩, ⟨some 68, .mv (.t 12), some (67, false)⟩, ⟨some 69, .bin .neq (.t 68) (.c (.int .i64 0)), some (67, false)⟩, ⟨some 70, .pick (.t 67) (.c (.bool true)) (.t 69), none⟩, ⟨some 71, .mv (.t 70), none⟩, ⟨some 72, .mv (.t 11), some (71, false)⟩, ⟨some 73, .mv (.t 0), some (71, false)⟩, ⟨some 74, .bin .neq (.t 72) (.t 73), some (71, false)⟩, ⟨some 75, .pick (.t 71) (.c (.bool true)) (.t 74), none⟩, ⟨some 76, .mv (.t 75), none⟩, ⟨some 77, .ld (some 2) (.t 15), some (76, false)⟩, ⟨some 78, .bld [.int .i64 0, .int .i64 0] [], some (76, false)⟩, ⟨some 79, .eqA true [0, 0] (.t 77) (.t 78), some (76, false)⟩, ⟨some 80, .pick (.t 76) (.c (.bool true)) (.t 79), none⟩, ⟨some 81, .mv (.t 80), none⟩, ⟨some 82, .mv (.t 13), some (81, false)⟩, ⟨some 83, .mv (.t 0), some (81, false)⟩, ⟨some 84, .bin .neq (.t 82) (.t 83), some (81, false)⟩, ⟨some 85, .pick (.t 81) (.c (.bool true)) (.t 84), none⟩, ⟨some 86, .mv (.t 85), none⟩, ⟨some 87, .mv (.t 14), some (86, false)⟩, ⟨some 88, .mv (.t 6), some (86, false)⟩, ⟨some 89, .lenS (.t 88), some (86, false)⟩, ⟨some 90, .bin .neq (.t 87) (.t 89), some (86, false)⟩, ⟨some 91, .pick (.t 86) (.c (.bool true)) (.t 90), none⟩, ⟨some 92, .mv (.t 91), none⟩, ⟨some 93, .mv (.t 0), some (92, false)⟩, ⟨some 94, .call 35 [(.t 93)], some (92, false)⟩, ⟨some 95, .mv (.t 0), some (92, false)⟩, ⟨some 96, .call 33 [(.t 95)], some (92, false)⟩, ⟨some 97, .len (.t 96), some (92, false)⟩, ⟨some 98, .bin .neq (.t 94) (.t 97), some (92, false)⟩, ⟨some 99, .pick (.t 92) (.c (.bool true)) (.t 98), none⟩]))
    (.cond (.t 99)
      (.seq (.keep [] (.ops [⟨some 4, .mv (.c (.bool false)), none⟩]))
      .ret)
      .skip))
    (.seq (.keep [1, 5] (.ops [⟨some 101, .mv (.t 1), none⟩, ⟨some 102, .call 11 [(.t 101)], none⟩, ⟨some 100, .mv (.t 102), none⟩, ⟨some 103, .ext (.t 100) 0, none⟩, ⟨some 104, .ext (.t 100) 1, none⟩, ⟨some 17, .alloc [.int .i64 0, .int .i64 0], none⟩, ⟨some 16, .mv (.t 103), none⟩, ⟨none, .st 2 (.t 17) (.t 104), none⟩]))
    (.seq (.keep [1, 5, 16, 17] (.ops [⟨some 105, .mv (.t 5), none⟩, ⟨some 106, .mv (.t 105), none⟩, ⟨some 107, .ld (some 2) (.t 17), some (106, true)⟩, ⟨some 108, .bld [.int .i64 0, .int .i64 0] [], some (106, true)⟩, ⟨some 109, .eqA true [0, 0] (.t 107) (.t 108), some (106, true)⟩, ⟨some 110, .mv (.t 109), some (106, true)⟩, ⟨some 111, .mv (.t 16), some (110, false)⟩, ⟨some 112, .call 23 [(.t 111)], some (110, false)⟩, ⟨some 113, .mv (.t 1), some (110, false)⟩, ⟨some 114, .bin .eql (.t 112) (.t 113), some (110, false)⟩, ⟨some 115, .pick (.t 110) (.c (.bool true)) (.t 114), some (106, true)⟩, ⟨some 116, .pick (.t 106) (.t 115) (.c (.bool false)), none⟩, ⟨some 4, .mv (.t 116), none⟩]))
    .ret))))))))))), [.t 4], 117⟩
theorem b9 : fB Tryd.prog 9 c9 = true := by kernel_rfl

/-- partywall/partywalllaw01.awake -/
def c10 : CF := ⟨(.seq (.keep [] (.ops [⟨some 0, .mv (.c (.bool false)), none⟩]))
    (.seq (.keep [] (.ops [⟨some 6, .mkSl 1 3 [.int .i64 0, .int .i64 0, .int .i64 0] [(0, 1, (.c (.int .i64 0))), (1, 1, (.c (.int .i64 2))), (2, 1, (.c (.int .i64 2)))], none⟩, ⟨some 7, .call 26 [(.t 6)], none⟩, ⟨some 5, .mv (.t 7), none⟩, ⟨some 8, .ext (.t 5) 0, none⟩, ⟨some 9, .ext (.t 5) 1, none⟩, ⟨some 1, .mv (.t 8), none⟩, ⟨some 2, .mv (.t 9), none⟩]))
    (.seq (.keep [1, 2] (.ops [⟨some 11, .call 11 [(.c (.str [123, 48, 44, 50, 125]))], none⟩, ⟨some 10, .mv (.t 11), none⟩, ⟨some 12, .ext (.t 10) 0, none⟩, ⟨some 13, .ext (.t 10) 1, none⟩, ⟨some 4, .alloc [.int .i64 0, .int .i64 0], none⟩, ⟨some 3, .mv (.t 12), none⟩, ⟨none, .st 2 (.t 4) (.t 13), none⟩]))
    (.seq (.keep [1, 2, 3, 4] (.ops [⟨some 14, .mv (.t 2), none⟩, ⟨some 15, .bin .eql (.t 14) (.c (.int .i64 0)), none⟩, ⟨some 16, .mv (.t 15), none⟩, ⟨some 17, .mv (.t 1), some (16, true)⟩, ⟨some 18, .bin .eql (.t 17) (.c (.int .u64 5)), some (16, true)⟩, ⟨some 19, .pick (.t 16) (.t 18) (.c (.bool false)), none⟩, ⟨some 20, .mv (.t 19), none⟩, ⟨some 21, .ld (some 2) (.t 4), some (20, true)⟩, ⟨some 22, .bld [.int .i64 0, .int .i64 0] [], some (20, true)⟩, ⟨some 23, .eqA false [0, 0] (.t 21) (.t 22), some (20, true)⟩, ⟨some 24, .pick (.t 20) (.t 23) (.c (.bool false)), none⟩, ⟨some 25, .mv (.t 24), none⟩, ⟨some 26, .mv (.t 3), some (25, true)⟩, ⟨some 27, .bin .eql (.t 26) (.c (.int .u64 5)), some (25, true)⟩, ⟨some 28, .pick (.t 25) (.t 27) (.c (.bool false)), none⟩, ⟨some 29, .mv (.t 28), none⟩, ⟨some 30, .call 23 [(.c (.int .u64 5))], some (29, true)⟩, ⟨some 31, .bin .eql (.t 30) (.c (.str [123, 48, 44, 50, 125])), some (29, true)⟩, ⟨some 32, .pick (.t 29) (.t 31) (.c (.bool false)), none⟩, ⟨some 33, .mv (.t 32), none⟩, ⟨some 34, .call 37 [(.c (.int .u64 1)), (.c (.int .u64 5))], some (33, true)⟩, ⟨some 35, .pick (.t 33) (.t 34) (.c (.bool false)), none⟩, ⟨some 36, .mv (.t 35), none⟩, ⟨some 37, .call 37 [(.c (.int .u64 5)), (.c (.int .u64 1))], some (36, true)⟩, ⟨some 38, .un .not (.t 37), some (36, true)⟩, ⟨some 39, .pick (.t 36) (.t 38) (.c (.bool false)), none⟩, ⟨some 40, .mv (.t 39), none⟩, ⟨some 41, .mkSl 1 2 [.int .u64 0, .int .u64 0] [(0, 1, (.c (.int .u64 1))), (1, 1, (.c (.int .u64 4)))], some (40, true)⟩, ⟨some 42, .call 17 [(.t 41)], some (40, true)⟩, ⟨some 43, .bin .eql (.t 42) (.c (.int .u64 5)), some (40, true)⟩, ⟨some 44, .pick (.t 40) (.t 43) (.c (.bool false)), none⟩, ⟨some 45, .mv (.t 44), none⟩, ⟨some 46, .call 43 [(.c (.str [123, 54, 52, 125])), (.c (.int .i64 2)), (.c (.int .i64 1))], some (45, true)⟩, ⟨some 47, .pick (.t 45) (.t 46) (.c (.bool false)), none⟩, ⟨some 0, .mv (.t 47), none⟩]))
    .ret)))), [.t 0], 48⟩
theorem b10 : fB Tryd.prog 10 c10 = true := by kernel_rfl

/-- partywall/label.Parse -/
def c11 : CF := ⟨(.seq (.keep [0] (.ops [⟨some 2, .mv (.c (.int .u64 0)), none⟩, ⟨some 3, .alloc [.int .i64 0, .int .i64 0], none⟩]))
    (.seq (.keep [0, 3] (.ops [⟨some 8, .mv (.t 0), none⟩, ⟨some 9, .call 13 [(.t 8)], none⟩, ⟨some 7, .mv (.t 9), none⟩, ⟨some 10, .ext (.t 7) 0, none⟩, ⟨some 11, .ext (.t 7) 1, none⟩, ⟨some 12, .ext (.t 7) 2, none⟩, ⟨some 6, .alloc [.int .i64 0, .int .i64 0], none⟩, ⟨some 4, .mv (.t 10), none⟩, ⟨some 5, .mv (.t 11), none⟩, ⟨none, .st 2 (.t 6) (.t 12), none⟩]))
    (.seq (.block 0 (.seq (.keep [0, 3, 4, 5, 6] (.ops [⟨some 14, .fldA 0 (.t 6), none⟩, ⟨some 15, .ld (none) (.t 14), none⟩, ⟨some 16, .bin .neq (.t 15) (.c (.int .i64 0)), none⟩, ⟨some 13, .mv (.t 16), none⟩]))
    (.cond (.t 13)
      (.seq (.keep [3, 6] (.drw [⟨some 17, .ld (some 2) (.t 6), none⟩, ⟨some 2, .mv (.c (.int .u64 0)), none⟩, ⟨none, .st 2 (.t 3) (.t 17), none⟩] [1, 0, 2]))
      .ret)
      (.seq (.keep [0, 3, 4, 5] (.ops [⟨some 19, .mv (.t 5), none⟩, ⟨some 20, .mv (.t 0), none⟩, ⟨some 21, .lenS (.t 20), none⟩, ⟨some 22, .bin .lss (.t 19) (.t 21), none⟩, ⟨some 18, .mv (.t 22), none⟩]))
      (.cond (.t 18)
        (.seq (.keep [3, 5] (.ops [⟨some 23, .mv (.t 5), none⟩, ⟨some 24, .bld [.int .i64 0, .int .i64 0] [(0, 1, (.c (.int .i64 4))), (1, 1, (.t 23))], none⟩, ⟨some 2, .mv (.c (.int .u64 0)), none⟩, ⟨none, .st 2 (.t 3) (.t 24), none⟩]))
        .ret)
        .skip)))))
    (.seq (.keep [3, 4] (.ops [⟨some 25, .mv (.t 4), none⟩, ⟨some 26, .bld [.int .i64 0, .int .i64 0] [], none⟩, ⟨some 2, .mv (.t 25), none⟩, ⟨none, .st 2 (.t 3) (.t 26), none⟩]))
    .ret)))), [.t 2, .cl 3 (some 2)], 27⟩
theorem b11 : fB Tryd.prog 11 c11 = true := by kernel_rfl

/-- partywall/partywallref01.Parse -/
def c12 : CF := ⟨(.seq (.keep [0] (.ops [⟨some 2, .mv (.c (.int .u64 0)), none⟩, ⟨some 3, .alloc [.int .i64 0, .int .i64 0], none⟩]))
    (.seq (.keep [0, 3] (.ops [⟨some 8, .mv (.t 0), none⟩, ⟨some 9, .call 14 [(.t 8)], none⟩, ⟨some 7, .mv (.t 9), none⟩, ⟨some 10, .ext (.t 7) 0, none⟩, ⟨some 11, .ext (.t 7) 1, none⟩, ⟨some 12, .ext (.t 7) 2, none⟩, ⟨some 6, .alloc [.int .i64 0, .int .i64 0], none⟩, ⟨some 4, .mv (.t 10), none⟩, ⟨some 5, .mv (.t 11), none⟩, ⟨none, .st 2 (.t 6) (.t 12), none⟩]))
    (.seq (.seq (.keep [0, 3, 4, 5, 6] (.ops [⟨some 13, .fldA 0 (.t 6), none⟩, ⟨some 14, .ld (none) (.t 13), none⟩, ⟨some 15, .bin .eql (.t 14) (.c (.int .i64 0)), none⟩, ⟨some 16, .mv (.t 15), none⟩, ⟨some 17, .mv (.t 5), some (16, true)⟩, ⟨some 18, .mv (.t 0), some (16, true)⟩, ⟨some 19, .lenS (.t 18), some (16, true)⟩, ⟨some 20, .bin .lss (.t 17) (.t 19), some (16, true)⟩, ⟨some 21, .pick (.t 16) (.t 20) (.c (.bool false)), none⟩]))
    (.cond (.t 21)
      (.keep [3, 4, 5, 6] (.ops [⟨some 22, .mv (.t 5), none⟩, ⟨some 23, .bld [.int .i64 0, .int .i64 0] [(0, 1, (.c (.int .i64 4))), (1, 1, (.t 22))], none⟩, ⟨none, .st 2 (.t 6) (.t 23), none⟩]))
      .skip))
    (.seq (.seq (.keep [3, 4, 6] (.ops [⟨some 24, .fldA 0 (.t 6), none⟩, ⟨some 25, .ld (none) (.t 24), none⟩, ⟨some 26, .bin .neq (.t 25) (.c (.int .i64 0)), none⟩]))
    (.cond (.t 26)
      (.seq (.keep [3, 6] (.drw [⟨some 27, .ld (some 2) (.t 6), none⟩, ⟨some 2, .mv (.c (.int .u64 0)), none⟩, ⟨none, .st 2 (.t 3) (.t 27), none⟩] [1, 0, 2]))
      .ret)
      .skip))
    (.seq (.keep [3, 4] (.ops [⟨some 28, .mv (.t 4), none⟩, ⟨some 29, .bld [.int .i64 0, .int .i64 0] [], none⟩, ⟨some 2, .mv (.t 28), none⟩, ⟨none, .st 2 (.t 3) (.t 29), none⟩]))
    .ret))))), [.t 2, .cl 3 (some 2)], 30⟩
theorem b12 : fB Tryd.prog 12 c12 = true := by kernel_rfl

/-- partywall/label.Read -/
def c13 : CF := ⟨(.seq (.keep [0] (.ops [⟨some 2, .mv (.c (.int .u64 0)), none⟩, ⟨some 3, .mv (.c (.int .i64 0)), none⟩, ⟨some 4, .alloc [.int .i64 0, .int .i64 0], none⟩]))
    (.scope (.seq (.keep [0, 2, 4] (.ops [⟨some 5, .mv (.f 44), none⟩]))
    (.seq (.seq (.keep [0, 2, 4, 5] (.ops [⟨some 10, .mv (.t 0), none⟩, ⟨some 11, .bin .eql (.t 10) (.c (.str [])), none⟩, ⟨some 12, .mv (.t 11), none⟩, ⟨some 13, .mv (.t 0), some (12, false)⟩, ⟨some 14, .ixS (.t 13) (.c (.int .i64 0)), some (12, false)⟩, ⟨some 15, .bin .neq (.t 14) (.c (.int .u8 123)), some (12, false)⟩, ⟨some 16, .pick (.t 12) (.c (.bool true)) (.t 15), none⟩]))
    (.cond (.t 16)
      (.seq (.keep [4, 5] (.ops [⟨some 17, .mv (.t 5), none⟩, ⟨some 18, .callv (.t 17) [(.c (.int .i64 3)), (.c (.int .i64 0))], none⟩, ⟨some 19, .ext (.t 18) 0, none⟩, ⟨some 20, .ext (.t 18) 1, none⟩, ⟨some 21, .ext (.t 18) 2, none⟩, ⟨some 2, .mv (.t 19), none⟩, ⟨some 3, .mv (.t 20), none⟩, ⟨none, .st 2 (.t 4) (.t 21), none⟩]))
      .ret)
      .skip))
    (.seq (.seq (.keep [0, 2, 4, 5] (.ops [⟨some 22, .mv (.t 0), none⟩, ⟨some 23, .lenS (.t 22), none⟩, ⟨some 24, .bin .gtr (.t 23) (.c (.int .i64 1)), none⟩, ⟨some 25, .mv (.t 24), none⟩, ⟨some 26, .mv (.t 0), some (25, true)⟩, ⟨some 27, .ixS (.t 26) (.c (.int .i64 1)), some (25, true)⟩, ⟨some 28, .bin .eql (.t 27) (.c (.int .u8 125)), some (25, true)⟩, ⟨some 29, .pick (.t 25) (.t 28) (.c (.bool false)), none⟩]))
    (.cond (.t 29)
      (.seq (.keep [4] (.ops [⟨some 30, .bld [.int .i64 0, .int .i64 0] [], none⟩, ⟨some 2, .mv (.c (.int .u64 0)), none⟩, ⟨some 3, .mv (.c (.int .i64 2)), none⟩, ⟨none, .st 2 (.t 4) (.t 30), none⟩]))
      .ret)
      .skip))
    (.seq (.keep [0, 2, 4, 5] (.ops [⟨some 6, .mv (.c (.int .i64 (-1))), none⟩, ⟨some 7, .mv (.c (.int .i64 1)), none⟩]))
    (.seq .skip
    (.seq (.block 0 (.loop (.block 1 (.seq (.keep [0, 2, 4, 5, 6, 7] (.ops [⟨some 31, .mv (.t 7), none⟩, ⟨some 8, .mv (.t 31), none⟩, ⟨some 9, .mv (.c (.int .i64 0)), none⟩]))
    (.seq (.block 2 (.loop (.seq (.seq (.keep [0, 2, 4, 5, 6, 7, 8, 9] (.ops [⟨some 32, .mv (.t 7), none⟩, ⟨some 33, .mv (.t 0), none⟩, ⟨some 34, .lenS (.t 33), none⟩, ⟨some 35, .bin .lss (.t 32) (.t 34), none⟩, ⟨some 36, .mv (.t 35), none⟩, ⟨some 37, .mv (.t 0), some (36, true)⟩, ⟨some 38, .mv (.t 7), some (36, true)⟩, ⟨some 39, .ixS (.t 37) (.t 38), some (36, true)⟩, ⟨some 40, .call 45 [(.t 39)], some (36, true)⟩, ⟨some 41, .pick (.t 36) (.t 40) (.c (.bool false)), none⟩]))
    (.cond (.t 41)
      .skip
      (.exit 2)))
    (.block 3 (.seq (.seq (.keep [0, 2, 4, 5, 6, 7, 8, 9] (.ops [⟨some 42, .mv (.t 7), none⟩, ⟨some 43, .mv (.t 8), none⟩, ⟨some 44, .bin .gtr (.t 42) (.t 43), none⟩, ⟨some 45, .mv (.t 44), none⟩, ⟨some 46, .mv (.t 0), some (45, true)⟩, ⟨some 47, .mv (.t 8), some (45, true)⟩, ⟨some 48, .ixS (.t 46) (.t 47), some (45, true)⟩, ⟨some 49, .bin .eql (.t 48) (.c (.int .u8 48)), some (45, true)⟩, ⟨some 50, .pick (.t 45) (.t 49) (.c (.bool false)), none⟩]))
    (.cond (.t 50)
      (.seq (.keep [4, 5, 7] (.ops [⟨some 51, .mv (.t 5), none⟩, ⟨some 52, .mv (.t 7), none⟩, ⟨some 53, .callv (.t 51) [(.c (.int .i64 3)), (.t 52)], none⟩, ⟨some 54, .ext (.t 53) 0, none⟩, ⟨some 55, .ext (.t 53) 1, none⟩, ⟨some 56, .ext (.t 53) 2, none⟩, ⟨some 2, .mv (.t 54), none⟩, ⟨some 3, .mv (.t 55), none⟩, ⟨none, .st 2 (.t 4) (.t 56), none⟩]))
      .ret)
      .skip))
    (.seq (.keep [0, 2, 4, 5, 6, 7, 8, 9] (.ops [⟨some 57, .mv (.t 9), none⟩, ⟨some 58, .bin .mul (.c (.int .i64 10)) (.t 57), none⟩, ⟨some 59, .mv (.t 0), none⟩, ⟨some 60, .mv (.t 7), none⟩, ⟨some 61, .ixS (.t 59) (.t 60), none⟩, ⟨some 62, .bin .sub (.t 61) (.c (.int .u8 48)), none⟩, ⟨some 63, .cnv .i64 (.t 62), none⟩, ⟨some 64, .bin .add (.t 58) (.t 63), none⟩, ⟨some 65, .mm false (.c (.int .i64 1000)) (.t 64), none⟩, ⟨some 9, .mv (.t 65), none⟩]))
    (.keep [0, 2, 4, 5, 6, 7, 8, 9] (.ops [⟨some 66, .mv (.t 7), none⟩, ⟨some 67, .bin .add (.t 66) (.c (.int .i64 1)), none⟩, ⟨some 7, .mv (.t 67), none⟩]))))))))
    (.seq (.block 4 (.seq (.keep [0, 2, 4, 5, 6, 7, 8, 9] (.ops [⟨some 69, .mv (.t 7), none⟩, ⟨some 70, .mv (.t 8), none⟩, ⟨some 71, .bin .eql (.t 69) (.t 70), none⟩, ⟨some 68, .mv (.t 71), none⟩]))
    (.cond (.t 68)
      (.seq (.keep [4, 5, 7] (.ops [⟨some 72, .mv (.t 5), none⟩, ⟨some 73, .mv (.t 7), none⟩, ⟨some 74, .callv (.t 72) [(.c (.int .i64 3)), (.t 73)], none⟩, ⟨some 75, .ext (.t 74) 0, none⟩, ⟨some 76, .ext (.t 74) 1, none⟩, ⟨some 77, .ext (.t 74) 2, none⟩, ⟨some 2, .mv (.t 75), none⟩, ⟨some 3, .mv (.t 76), none⟩, ⟨none, .st 2 (.t 4) (.t 77), none⟩]))
      .ret)
      (.seq (.keep [0, 2, 4, 5, 6, 7, 8, 9] (.ops [⟨some 79, .mv (.t 9), none⟩, ⟨some 80, .bin .gtr (.t 79) (.c (.int .i64 63)), none⟩, ⟨some 78, .mv (.t 80), none⟩]))
      (.cond (.t 78)
        (.seq (.keep [4, 5, 8] (.ops [⟨some 81, .mv (.t 5), none⟩, ⟨some 82, .mv (.t 8), none⟩, ⟨some 83, .callv (.t 81) [(.c (.int .i64 2)), (.t 82)], none⟩, ⟨some 84, .ext (.t 83) 0, none⟩, ⟨some 85, .ext (.t 83) 1, none⟩, ⟨some 86, .ext (.t 83) 2, none⟩, ⟨some 2, .mv (.t 84), none⟩, ⟨some 3, .mv (.t 85), none⟩, ⟨none, .st 2 (.t 4) (.t 86), none⟩]))
        .ret)
        (.seq (.keep [0, 2, 4, 5, 6, 7, 8, 9] (.ops [⟨some 88, .mv (.t 9), none⟩, ⟨some 89, .mv (.t 6), none⟩, ⟨some 90, .bin .leq (.t 88) (.t 89), none⟩, ⟨some 87, .mv (.t 90), none⟩]))
        (.cond (.t 87)
          (.seq (.keep [4, 5, 8] (.ops [⟨some 91, .mv (.t 5), none⟩, ⟨some 92, .mv (.t 8), none⟩, ⟨some 93, .callv (.t 91) [(.c (.int .i64 9)), (.t 92)], none⟩, ⟨some 94, .ext (.t 93) 0, none⟩, ⟨some 95, .ext (.t 93) 1, none⟩, ⟨some 96, .ext (.t 93) 2, none⟩, ⟨some 2, .mv (.t 94), none⟩, ⟨some 3, .mv (.t 95), none⟩, ⟨none, .st 2 (.t 4) (.t 96), none⟩]))
          .ret)
          .skip)))))))
    (.seq (.keep [0, 2, 4, 5, 7, 9] (.ops [⟨some 97, .mv (.t 2), none⟩, ⟨some 98, .mv (.t 9), none⟩, ⟨some 99, .cnv .u64 (.t 98), none⟩, ⟨some 100, .bin .shl (.c (.int .u64 1)) (.t 99), none⟩, ⟨some 101, .bin .or (.t 97) (.t 100), none⟩, ⟨some 2, .mv (.t 101), none⟩]))
    (.seq (.keep [0, 2, 4, 5, 7, 9] (.ops [⟨some 102, .mv (.t 9), none⟩, ⟨some 6, .mv (.t 102), none⟩]))
    (.seq (.block 5 (.seq (.keep [0, 2, 4, 5, 6, 7] (.ops [⟨some 104, .mv (.t 7), none⟩, ⟨some 105, .mv (.t 0), none⟩, ⟨some 106, .lenS (.t 105), none⟩, ⟨some 107, .bin .eql (.t 104) (.t 106), none⟩, ⟨some 103, .mv (.t 107), none⟩]))
    (.cond (.t 103)
      (.seq (.keep [4, 5, 7] (.ops [⟨some 108, .mv (.t 5), none⟩, ⟨some 109, .mv (.t 7), none⟩, ⟨some 110, .callv (.t 108) [(.c (.int .i64 3)), (.t 109)], none⟩, ⟨some 111, .ext (.t 110) 0, none⟩, ⟨some 112, .ext (.t 110) 1, none⟩, ⟨some 113, .ext (.t 110) 2, none⟩, ⟨some 2, .mv (.t 111), none⟩, ⟨some 3, .mv (.t 112), none⟩, ⟨none, .st 2 (.t 4) (.t 113), none⟩]))
      .ret)
      (.seq (.keep [0, 2, 4, 5, 6, 7] (.ops [⟨some 115, .mv (.t 0), none⟩, ⟨some 116, .mv (.t 7), none⟩, ⟨some 117, .ixS (.t 115) (.t 116), none⟩, ⟨some 118, .bin .eql (.t 117) (.c (.int .u8 125)), none⟩, ⟨some 114, .mv (.t 118), none⟩]))
      (.cond (.t 114)
        (.exit 0)
        (.seq (.keep [0, 2, 4, 5, 6, 7] (.ops [⟨some 120, .mv (.t 0), none⟩, ⟨some 121, .mv (.t 7), none⟩, ⟨some 122, .ixS (.t 120) (.t 121), none⟩, ⟨some 123, .bin .neq (.t 122) (.c (.int .u8 44)), none⟩, ⟨some 119, .mv (.t 123), none⟩]))
        (.cond (.t 119)
          (.seq (.keep [4, 5, 7] (.ops [⟨some 124, .mv (.t 5), none⟩, ⟨some 125, .mv (.t 7), none⟩, ⟨some 126, .callv (.t 124) [(.c (.int .i64 3)), (.t 125)], none⟩, ⟨some 127, .ext (.t 126) 0, none⟩, ⟨some 128, .ext (.t 126) 1, none⟩, ⟨some 129, .ext (.t 126) 2, none⟩, ⟨some 2, .mv (.t 127), none⟩, ⟨some 3, .mv (.t 128), none⟩, ⟨none, .st 2 (.t 4) (.t 129), none⟩]))
          .ret)
          .skip)))))))
    (.keep [0, 2, 4, 5, 6, 7] (.ops [⟨some 130, .mv (.t 7), none⟩, ⟨some 131, .bin .add (.t 130) (.c (.int .i64 1)), none⟩, ⟨some 7, .mv (.t 131), none⟩])))))))))))
    (.seq (.keep [2, 4, 7] (.ops [⟨some 132, .mv (.t 2), none⟩, ⟨some 133, .mv (.t 7), none⟩, ⟨some 134, .bin .add (.t 133) (.c (.int .i64 1)), none⟩, ⟨some 135, .bld [.int .i64 0, .int .i64 0] [], none⟩, ⟨some 2, .mv (.t 132), none⟩, ⟨some 3, .mv (.t 134), none⟩, ⟨none, .st 2 (.t 4) (.t 135), none⟩]))
    .ret))))))))), [.t 2, .t 3, .cl 4 (some 2)], 136⟩
theorem b13 : fB Tryd.prog 13 c13 = true := by kernel_rfl

/-- partywall/partywallref01.Read -/
def c14 : CF := ⟨(.seq (.keep [0] (.ops [⟨some 2, .mv (.c (.int .u64 0)), none⟩, ⟨some 3, .mv (.c (.int .i64 0)), none⟩, ⟨some 4, .alloc [.int .i64 0, .int .i64 0], none⟩]))
    (.seq (.seq (.keep [0, 4] (.ops [⟨some 10, .mv (.t 0), none⟩, ⟨some 11, .bin .eql (.t 10) (.c (.str [])), none⟩, ⟨some 12, .mv (.t 11), none⟩, ⟨some 13, .mv (.t 0), some (12, false)⟩, ⟨some 14, .ixS (.t 13) (.c (.int .i64 0)), some (12, false)⟩, ⟨some 15, .bin .neq (.t 14) (.c (.int .u8 123)), some (12, false)⟩, ⟨some 16, .pick (.t 12) (.c (.bool true)) (.t 15), none⟩]))
    (.cond (.t 16)
      (.seq (.keep [4] (.ops [⟨some 17, .call 46 [(.c (.int .i64 3)), (.c (.int .i64 0))], none⟩, ⟨some 18, .ext (.t 17) 0, none⟩, ⟨some 19, .ext (.t 17) 1, none⟩, ⟨some 20, .ext (.t 17) 2, none⟩, ⟨some 2, .mv (.t 18), none⟩, ⟨some 3, .mv (.t 19), none⟩, ⟨none, .st 2 (.t 4) (.t 20), none⟩]))
      .ret)
      .skip))
    (.seq (.seq (.keep [0, 4] (.ops [⟨some 21, .mv (.t 0), none⟩, ⟨some 22, .lenS (.t 21), none⟩, ⟨some 23, .bin .gtr (.t 22) (.c (.int .i64 1)), none⟩, ⟨some 24, .mv (.t 23), none⟩, ⟨some 25, .mv (.t 0), some (24, true)⟩, ⟨some 26, .ixS (.t 25) (.c (.int .i64 1)), some (24, true)⟩, ⟨some 27, .bin .eql (.t 26) (.c (.int .u8 125)), some (24, true)⟩, ⟨some 28, .pick (.t 24) (.t 27) (.c (.bool false)), none⟩]))
    (.cond (.t 28)
      (.seq (.keep [4] (.ops [⟨some 29, .bld [.int .i64 0, .int .i64 0] [], none⟩, ⟨some 2, .mv (.c (.int .u64 0)), none⟩, ⟨some 3, .mv (.c (.int .i64 2)), none⟩, ⟨none, .st 2 (.t 4) (.t 29), none⟩]))
      .ret)
      .skip))
    (.seq (.keep [0, 4] (.ops [⟨some 5, .mv (.c (.int .u64 0)), none⟩]))
    (.seq (.keep [0, 4, 5] (.ops [⟨some 6, .mv (.c (.int .i64 (-1))), none⟩]))
    (.seq (.keep [0, 4, 5, 6] (.ops [⟨some 7, .mv (.c (.int .i64 1)), none⟩]))
    (.block 0 (.loop (.block 1 (.seq (.seq (.keep [0, 4, 5, 6, 7] (.ops [⟨some 30, .mv (.t 0), none⟩, ⟨some 31, .mv (.t 7), none⟩, ⟨some 32, .call 47 [(.t 30), (.t 31)], none⟩, ⟨some 33, .un .not (.t 32), none⟩]))
    (.cond (.t 33)
      (.seq (.keep [4, 7] (.ops [⟨some 34, .mv (.t 7), none⟩, ⟨some 35, .call 46 [(.c (.int .i64 3)), (.t 34)], none⟩, ⟨some 36, .ext (.t 35) 0, none⟩, ⟨some 37, .ext (.t 35) 1, none⟩, ⟨some 38, .ext (.t 35) 2, none⟩, ⟨some 2, .mv (.t 36), none⟩, ⟨some 3, .mv (.t 37), none⟩, ⟨none, .st 2 (.t 4) (.t 38), none⟩]))
      .ret)
      .skip))
    (.seq (.keep [0, 4, 5, 6, 7] (.ops [⟨some 39, .mv (.t 7), none⟩, ⟨some 8, .mv (.t 39), none⟩, ⟨some 9, .mv (.c (.int .i64 0)), none⟩]))
    (.seq (.block 2 (.loop (.seq (.seq (.keep [0, 4, 5, 6, 7, 8, 9] (.ops [⟨some 40, .mv (.t 0), none⟩, ⟨some 41, .mv (.t 7), none⟩, ⟨some 42, .call 47 [(.t 40), (.t 41)], none⟩]))
    (.cond (.t 42)
      .skip
      (.exit 2)))
    (.block 3 (.seq (.seq (.keep [0, 4, 5, 6, 7, 8, 9] (.ops [⟨some 43, .mv (.t 7), none⟩, ⟨some 44, .mv (.t 8), none⟩, ⟨some 45, .bin .add (.t 44) (.c (.int .i64 1)), none⟩, ⟨some 46, .bin .eql (.t 43) (.t 45), none⟩, ⟨some 47, .mv (.t 46), none⟩, ⟨some 48, .mv (.t 0), some (47, true)⟩, ⟨some 49, .mv (.t 8), some (47, true)⟩, ⟨some 50, .ixS (.t 48) (.t 49), some (47, true)⟩, ⟨some 51, .bin .eql (.t 50) (.c (.int .u8 48)), some (47, true)⟩, ⟨some 52, .pick (.t 47) (.t 51) (.c (.bool false)), none⟩]))
    (.cond (.t 52)
      (.seq (.keep [4, 7] (.ops [⟨some 53, .mv (.t 7), none⟩, ⟨some 54, .call 46 [(.c (.int .i64 3)), (.t 53)], none⟩, ⟨some 55, .ext (.t 54) 0, none⟩, ⟨some 56, .ext (.t 54) 1, none⟩, ⟨some 57, .ext (.t 54) 2, none⟩, ⟨some 2, .mv (.t 55), none⟩, ⟨some 3, .mv (.t 56), none⟩, ⟨none, .st 2 (.t 4) (.t 57), none⟩]))
      .ret)
      .skip))
    (.seq (.keep [0, 4, 5, 6, 7, 8, 9] (.ops [⟨some 58, .mv (.t 9), none⟩, ⟨some 59, .bin .mul (.c (.int .i64 10)) (.t 58), none⟩, ⟨some 60, .mv (.t 0), none⟩, ⟨some 61, .mv (.t 7), none⟩, ⟨some 62, .ixS (.t 60) (.t 61), none⟩, ⟨some 63, .bin .sub (.t 62) (.c (.int .u8 48)), none⟩, ⟨some 64, .cnv .i64 (.t 63), none⟩, ⟨some 65, .bin .add (.t 59) (.t 64), none⟩, ⟨some 66, .mm false (.c (.int .i64 1000)) (.t 65), none⟩, ⟨some 9, .mv (.t 66), none⟩]))
    (.keep [0, 4, 5, 6, 7, 8, 9] (.ops [⟨some 67, .mv (.t 7), none⟩, ⟨some 68, .bin .add (.t 67) (.c (.int .i64 1)), none⟩, ⟨some 7, .mv (.t 68), none⟩]))))))))
    (.seq (.seq (.keep [0, 4, 5, 6, 7, 8, 9] (.ops [⟨some 69, .mv (.t 9), none⟩, ⟨some 70, .bin .gtr (.t 69) (.c (.int .i64 63)), none⟩]))
    (.cond (.t 70)
      (.seq (.keep [4, 8] (.ops [⟨some 71, .mv (.t 8), none⟩, ⟨some 72, .call 46 [(.c (.int .i64 2)), (.t 71)], none⟩, ⟨some 73, .ext (.t 72) 0, none⟩, ⟨some 74, .ext (.t 72) 1, none⟩, ⟨some 75, .ext (.t 72) 2, none⟩, ⟨some 2, .mv (.t 73), none⟩, ⟨some 3, .mv (.t 74), none⟩, ⟨none, .st 2 (.t 4) (.t 75), none⟩]))
      .ret)
      .skip))
    (.seq (.seq (.keep [0, 4, 5, 6, 7, 8, 9] (.ops [⟨some 76, .mv (.t 9), none⟩, ⟨some 77, .mv (.t 6), none⟩, ⟨some 78, .bin .leq (.t 76) (.t 77), none⟩]))
    (.cond (.t 78)
      (.seq (.keep [4, 8] (.ops [⟨some 79, .mv (.t 8), none⟩, ⟨some 80, .call 46 [(.c (.int .i64 9)), (.t 79)], none⟩, ⟨some 81, .ext (.t 80) 0, none⟩, ⟨some 82, .ext (.t 80) 1, none⟩, ⟨some 83, .ext (.t 80) 2, none⟩, ⟨some 2, .mv (.t 81), none⟩, ⟨some 3, .mv (.t 82), none⟩, ⟨none, .st 2 (.t 4) (.t 83), none⟩]))
      .ret)
      .skip))
    (.seq (.keep [0, 4, 5, 7, 9] (.ops [⟨some 84, .mv (.t 5), none⟩, ⟨some 85, .mv (.t 9), none⟩, ⟨some 86, .cnv .u64 (.t 85), none⟩, ⟨some 87, .bin .shl (.c (.int .u64 1)) (.t 86), none⟩, ⟨some 88, .bin .or (.t 84) (.t 87), none⟩, ⟨some 5, .mv (.t 88), none⟩]))
    (.seq (.keep [0, 4, 5, 7, 9] (.ops [⟨some 89, .mv (.t 9), none⟩, ⟨some 6, .mv (.t 89), none⟩]))
    (.seq (.seq (.keep [0, 4, 5, 6, 7] (.ops [⟨some 90, .mv (.t 7), none⟩, ⟨some 91, .mv (.t 0), none⟩, ⟨some 92, .lenS (.t 91), none⟩, ⟨some 93, .bin .eql (.t 90) (.t 92), none⟩, ⟨some 94, .mv (.t 93), none⟩, ⟨some 95, .mv (.t 0), some (94, false)⟩, ⟨some 96, .mv (.t 7), some (94, false)⟩, ⟨some 97, .ixS (.t 95) (.t 96), some (94, false)⟩, ⟨some 98, .bin .neq (.t 97) (.c (.int .u8 44)), some (94, false)⟩, ⟨some 99, .mv (.t 98), some (94, false)⟩, ⟨some 100, .mv (.t 0), some (99, true)⟩, ⟨some 101, .mv (.t 7), some (99, true)⟩, ⟨some 102, .ixS (.t 100) (.t 101), some (99, true)⟩, ⟨some 103, .bin .neq (.t 102) (.c (.int .u8 125)), some (99, true)⟩, ⟨some 104, .pick (.t 99) (.t 103) (.c (.bool false)), some (94, false)⟩, ⟨some 105, .pick (.t 94) (.c (.bool true)) (.t 104), none⟩]))
    (.cond (.t 105)
      (.seq (.keep [4, 7] (.ops [⟨some 106, .mv (.t 7), none⟩, ⟨some 107, .call 46 [(.c (.int .i64 3)), (.t 106)], none⟩, ⟨some 108, .ext (.t 107) 0, none⟩, ⟨some 109, .ext (.t 107) 1, none⟩, ⟨some 110, .ext (.t 107) 2, none⟩, ⟨some 2, .mv (.t 108), none⟩, ⟨some 3, .mv (.t 109), none⟩, ⟨none, .st 2 (.t 4) (.t 110), none⟩]))
      .ret)
      .skip))
    (.seq (.keep [0, 4, 5, 6, 7] (.ops [⟨some 111, .mv (.t 7), none⟩, ⟨some 112, .bin .add (.t 111) (.c (.int .i64 1)), none⟩, ⟨some 7, .mv (.t 112), none⟩]))
    (.seq (.keep [0, 4, 5, 6, 7] (.ops [⟨some 113, .mv (.t 0), none⟩, ⟨some 114, .mv (.t 7), none⟩, ⟨some 115, .bin .sub (.t 114) (.c (.int .i64 1)), none⟩, ⟨some 116, .ixS (.t 113) (.t 115), none⟩, ⟨some 117, .bin .eql (.t 116) (.c (.int .u8 125)), none⟩]))
    (.cond (.t 117)
      (.seq (.keep [4, 5, 7] (.ops [⟨some 118, .mv (.t 5), none⟩, ⟨some 119, .mv (.t 7), none⟩, ⟨some 120, .bld [.int .i64 0, .int .i64 0] [], none⟩, ⟨some 2, .mv (.t 118), none⟩, ⟨some 3, .mv (.t 119), none⟩, ⟨none, .st 2 (.t 4) (.t 120), none⟩]))
      .ret)
      .skip)))))))))))))))))))), [.t 2, .t 3, .cl 4 (some 2)], 121⟩
theorem b14 : fB Tryd.prog 14 c14 = true := by kernel_rfl

/-- partywall/label.Of8 -/
def c15 : CF := ⟨(.seq (.keep [0] (.ops [⟨some 2, .mv (.c (.int .u64 0)), none⟩, ⟨some 3, .mv (.c (.int .i64 0)), none⟩]))
    (.seq (.seq (.keep [0] (.ops [⟨some 6, .mv (.t 0), none⟩, ⟨some 7, .lenS (.t 6), none⟩, ⟨some 8, .bin .neq (.t 7) (.c (.int .i64 8)), none⟩]))
    (.cond (.t 8)
      (.seq (.keep [] (.ops [⟨some 2, .mv (.c (.int .u64 0)), none⟩, ⟨some 3, .mv (.c (.int .i64 3)), none⟩]))
      .ret)
      .skip))
    (.seq (.keep [0] (.ops [⟨some 4, .mv (.c (.int .u64 0)), none⟩]))
    (.seq (.seq (.keep [0, 4] (.ops [⟨some 9, .mv (.c (.int .i64 0)), none⟩]))
    (.block 0 (.loop (.seq (.keep [0, 4, 9] (.ops [⟨some 10, .bin .lss (.t 9) (.c (.int .i64 8)), none⟩]))
    (.seq (.cond (.t 10)
      .skip
      (.exit 0))
    (.seq (.block 1 (.seq (.keep [0, 4, 9] (.ops [⟨some 11, .mv (.t 9), none⟩, ⟨some 5, .mv (.t 11), none⟩]))
    (.keep [0, 4, 5, 9] (.ops [⟨some 12, .mv (.t 4), none⟩, ⟨some 13, .bin .shl (.t 12) (.c (.int .u64 8)), none⟩, ⟨some 14, .mv (.t 0), none⟩, ⟨some 15, .mv (.t 5), none⟩, ⟨some 16, .ixS (.t 14) (.t 15), none⟩, ⟨some 17, .cnv .u64 (.t 16), none⟩, ⟨some 18, .bin .or (.t 13) (.t 17), none⟩, ⟨some 4, .mv (.t 18), none⟩]))))
    (.keep [0, 4, 9] (.ops [⟨some 19, .bin .add (.t 9) (.c (.int .i64 1)), none⟩, ⟨some 9, .mv (.t 19), none⟩]))))))))
    (.seq (.keep [4] (.ops [⟨some 20, .mv (.t 4), none⟩, ⟨some 2, .mv (.t 20), none⟩, ⟨some 3, .mv (.c (.int .i64 0)), none⟩]))
    .ret))))), [.t 2, .t 3], 21⟩
theorem b15 : fB Tryd.prog 15 c15 = true := by kernel_rfl

/-- partywall/partywallref01.Of8 -/
def c16 : CF := ⟨(.seq (.keep [0] (.ops [⟨some 2, .mv (.c (.int .u64 0)), none⟩, ⟨some 3, .mv (.c (.int .i64 0)), none⟩]))
    (.seq (.seq (.keep [0] (.ops [⟨some 6, .mv (.t 0), none⟩, ⟨some 7, .lenS (.t 6), none⟩, ⟨some 8, .bin .neq (.t 7) (.c (.int .i64 8)), none⟩]))
    (.cond (.t 8)
      (.seq (.keep [] (.ops [⟨some 2, .mv (.c (.int .u64 0)), none⟩, ⟨some 3, .mv (.c (.int .i64 3)), none⟩]))
      .ret)
      .skip))
    (.seq (.keep [0] (.ops [⟨some 4, .mv (.c (.int .u64 0)), none⟩]))
    (.seq (.seq (.keep [0, 4] (.ops [⟨some 5, .mv (.c (.int .i64 0)), none⟩]))
    (.block 0 (.loop (.seq (.seq (.keep [0, 4, 5] (.ops [⟨some 9, .mv (.t 5), none⟩, ⟨some 10, .bin .lss (.t 9) (.c (.int .i64 8)), none⟩]))
    (.cond (.t 10)
      .skip
      (.exit 0)))
    (.seq (.block 1 (.keep [0, 4, 5] (.ops [⟨some 13, .mv (.t 4), none⟩, ⟨some 14, .bin .shl (.t 13) (.c (.int .u64 8)), none⟩, ⟨some 15, .mv (.t 0), none⟩, ⟨some 16, .mv (.t 5), none⟩, ⟨some 17, .ixS (.t 15) (.t 16), none⟩, ⟨some 18, .cnv .u64 (.t 17), none⟩, ⟨some 19, .bin .or (.t 14) (.t 18), none⟩, ⟨some 4, .mv (.t 19), none⟩])))
    (.keep [0, 4, 5] (.ops [⟨some 11, .mv (.t 5), none⟩, ⟨some 12, .bin .add (.t 11) (.c (.int .i64 1)), none⟩, ⟨some 5, .mv (.t 12), none⟩])))))))
    (.seq (.keep [4] (.ops [⟨some 20, .mv (.t 4), none⟩, ⟨some 2, .mv (.t 20), none⟩, ⟨some 3, .mv (.c (.int .i64 0)), none⟩]))
    .ret))))), [.t 2, .t 3], 21⟩
theorem b16 : fB Tryd.prog 16 c16 = true := by kernel_rfl

/-- partywall/label.Join -/
def c17 : CF := ⟨(.seq (.keep [0] (.ops [⟨some 2, .mv (.c (.int .u64 0)), none⟩]))
    (.seq (.keep [0] (.ops [⟨some 3, .mv (.c (.int .u64 0)), none⟩]))
    (.seq (.seq (.keep [0, 3] (.ops [⟨some 6, .mv (.t 0), none⟩, ⟨some 7, .len (.t 6), none⟩, ⟨some 8, .mv (.c (.int .i64 0)), none⟩]))
    (.block 0 (.loop (.seq (.keep [3, 6, 7, 8] (.ops [⟨some 9, .bin .lss (.t 8) (.t 7), none⟩]))
    (.seq (.cond (.t 9)
      .skip
      (.exit 0))
    (.seq (.block 1 (.seq (.keep [3, 6, 7, 8] (.ops [⟨some 10, .ixA 1 (.t 6) (.t 8), none⟩, ⟨some 11, .ld (none) (.t 10), none⟩, ⟨some 5, .mv (.t 11), none⟩]))
    (.keep [3, 5, 6, 7, 8] (.ops [⟨some 12, .mv (.t 3), none⟩, ⟨some 13, .mv (.t 5), none⟩, ⟨some 14, .bin .or (.t 12) (.t 13), none⟩, ⟨some 3, .mv (.t 14), none⟩]))))
    (.keep [3, 6, 7, 8] (.ops [⟨some 15, .bin .add (.t 8) (.c (.int .i64 1)), none⟩, ⟨some 8, .mv (.t 15), none⟩]))))))))
    (.seq (.keep [3] (.ops [⟨some 16, .mv (.t 3), none⟩, ⟨some 2, .mv (.t 16), none⟩]))
    .ret)))), [.t 2], 17⟩
theorem b17 : fB Tryd.prog 17 c17 = true := by kernel_rfl

/-- partywall/partywallref01.Join -/
def c18 : CF := ⟨(.seq (.keep [0] (.ops [⟨some 2, .mv (.c (.int .u64 0)), none⟩]))
    (.seq (.keep [0] (.ops [⟨some 3, .mv (.c (.int .u64 0)), none⟩]))
    (.seq (.seq (.keep [0, 3] (.ops [⟨some 4, .mv (.c (.int .i64 0)), none⟩]))
    (.block 0 (.loop (.seq (.seq (.keep [0, 3, 4] (.ops [⟨some 5, .mv (.t 4), none⟩, ⟨some 6, .mv (.t 0), none⟩, ⟨some 7, .len (.t 6), none⟩, ⟨some 8, .bin .lss (.t 5) (.t 7), none⟩]))
    (.cond (.t 8)
      .skip
      (.exit 0)))
    (.seq (.block 1 (.keep [0, 3, 4] (.ops [⟨some 11, .mv (.t 3), none⟩, ⟨some 12, .mv (.t 0), none⟩, ⟨some 13, .mv (.t 4), none⟩, ⟨some 14, .ixA 1 (.t 12) (.t 13), none⟩, ⟨some 15, .ld (none) (.t 14), none⟩, ⟨some 16, .bin .or (.t 11) (.t 15), none⟩, ⟨some 3, .mv (.t 16), none⟩])))
    (.keep [0, 3, 4] (.ops [⟨some 9, .mv (.t 4), none⟩, ⟨some 10, .bin .add (.t 9) (.c (.int .i64 1)), none⟩, ⟨some 4, .mv (.t 10), none⟩])))))))
    (.seq (.keep [3] (.ops [⟨some 17, .mv (.t 3), none⟩, ⟨some 2, .mv (.t 17), none⟩]))
    .ret)))), [.t 2], 18⟩
theorem b18 : fB Tryd.prog 18 c18 = true := by kernel_rfl

/-- partywall/label.Meet -/
def c19 : CF := ⟨(.seq (.keep [0] (.ops [⟨some 2, .mv (.c (.int .u64 0)), none⟩]))
    (.seq (.keep [0] (.ops [⟨some 3, .mv (.c (.int .u64 18446744073709551615)), none⟩]))
    (.seq (.seq (.keep [0, 3] (.ops [⟨some 6, .mv (.t 0), none⟩, ⟨some 7, .len (.t 6), none⟩, ⟨some 8, .mv (.c (.int .i64 0)), none⟩]))
    (.block 0 (.loop (.seq (.keep [3, 6, 7, 8] (.ops [⟨some 9, .bin .lss (.t 8) (.t 7), none⟩]))
    (.seq (.cond (.t 9)
      .skip
      (.exit 0))
    (.seq (.block 1 (.seq (.keep [3, 6, 7, 8] (.ops [⟨some 10, .ixA 1 (.t 6) (.t 8), none⟩, ⟨some 11, .ld (none) (.t 10), none⟩, ⟨some 5, .mv (.t 11), none⟩]))
    (.keep [3, 5, 6, 7, 8] (.ops [⟨some 12, .mv (.t 3), none⟩, ⟨some 13, .mv (.t 5), none⟩, ⟨some 14, .bin .and (.t 12) (.t 13), none⟩, ⟨some 3, .mv (.t 14), none⟩]))))
    (.keep [3, 6, 7, 8] (.ops [⟨some 15, .bin .add (.t 8) (.c (.int .i64 1)), none⟩, ⟨some 8, .mv (.t 15), none⟩]))))))))
    (.seq (.keep [3] (.ops [⟨some 16, .mv (.t 3), none⟩, ⟨some 2, .mv (.t 16), none⟩]))
    .ret)))), [.t 2], 17⟩
theorem b19 : fB Tryd.prog 19 c19 = true := by kernel_rfl

/-- partywall/partywallref01.Meet -/
def c20 : CF := ⟨(.seq (.keep [0] (.ops [⟨some 2, .mv (.c (.int .u64 0)), none⟩]))
    (.seq (.keep [0] (.ops [⟨some 3, .mv (.c (.int .u64 18446744073709551615)), none⟩]))
    (.seq (.seq (.keep [0, 3] (.ops [⟨some 4, .mv (.c (.int .i64 0)), none⟩]))
    (.block 0 (.loop (.seq (.seq (.keep [0, 3, 4] (.ops [⟨some 5, .mv (.t 4), none⟩, ⟨some 6, .mv (.t 0), none⟩, ⟨some 7, .len (.t 6), none⟩, ⟨some 8, .bin .lss (.t 5) (.t 7), none⟩]))
    (.cond (.t 8)
      .skip
      (.exit 0)))
    (.seq (.block 1 (.keep [0, 3, 4] (.ops [⟨some 11, .mv (.t 3), none⟩, ⟨some 12, .mv (.t 0), none⟩, ⟨some 13, .mv (.t 4), none⟩, ⟨some 14, .ixA 1 (.t 12) (.t 13), none⟩, ⟨some 15, .ld (none) (.t 14), none⟩, ⟨some 16, .bin .and (.t 11) (.t 15), none⟩, ⟨some 3, .mv (.t 16), none⟩])))
    (.keep [0, 3, 4] (.ops [⟨some 9, .mv (.t 4), none⟩, ⟨some 10, .bin .add (.t 9) (.c (.int .i64 1)), none⟩, ⟨some 4, .mv (.t 10), none⟩])))))))
    (.seq (.keep [3] (.ops [⟨some 17, .mv (.t 3), none⟩, ⟨some 2, .mv (.t 17), none⟩]))
    .ret)))), [.t 2], 18⟩
theorem b20 : fB Tryd.prog 20 c20 = true := by kernel_rfl

/-- partywall/label.Bytes -/
def c21 : CF := ⟨(.seq (.keep [0] (.ops [⟨some 2, .mv (.c (.str [])), none⟩]))
    (.seq (.keep [0] (.ops [⟨some 3, .alloc [.int .u8 0, .int .u8 0, .int .u8 0, .int .u8 0, .int .u8 0, .int .u8 0, .int .u8 0, .int .u8 0], none⟩]))
    (.seq (.seq (.keep [0, 3] (.ops [⟨some 5, .mv (.c (.int .i64 0)), none⟩]))
    (.block 0 (.loop (.seq (.keep [0, 3, 5] (.ops [⟨some 6, .bin .lss (.t 5) (.c (.int .i64 8)), none⟩]))
    (.seq (.cond (.t 6)
      .skip
      (.exit 0))
    (.seq (.block 1 (.seq (.keep [0, 3, 5] (.ops [⟨some 7, .mv (.t 5), none⟩, ⟨some 4, .mv (.t 7), none⟩]))
    (.keep [0, 3, 4, 5] (.ops [⟨some 8, .mv (.t 4), none⟩, ⟨some 9, .mv (.t 0), none⟩, ⟨some 10, .mv (.t 4), none⟩, ⟨some 11, .bin .mul (.c (.int .i64 8)) (.t 10), none⟩, ⟨some 12, .bin .sub (.c (.int .i64 56)) (.t 11), none⟩, ⟨some 13, .cnv .u64 (.t 12), none⟩, ⟨some 14, .bin .shr (.t 9) (.t 13), none⟩, ⟨some 15, .cnv .u8 (.t 14), none⟩, ⟨some 16, .ixP 8 1 (.t 3) (.t 8), none⟩, ⟨none, .st 1 (.t 16) (.t 15), none⟩]))))
    (.keep [0, 3, 5] (.ops [⟨some 17, .bin .add (.t 5) (.c (.int .i64 1)), none⟩, ⟨some 5, .mv (.t 17), none⟩]))))))))
    (.seq (.keep [3] (.ops [⟨some 18, .slcP 8 1 (.t 3), none⟩, ⟨some 19, .b2sP (.t 18), none⟩, ⟨some 2, .mv (.t 19), none⟩]))
    .ret)))), [.t 2], 20⟩
theorem b21 : fB Tryd.prog 21 c21 = true := by kernel_rfl

/-- partywall/partywallref01.Bytes -/
def c22 : CF := ⟨(.seq (.keep [0] (.ops [⟨some 2, .mv (.c (.str [])), none⟩]))
    (.seq (.keep [0] (.ops [⟨some 3, .mv (.c .nils), none⟩]))
    (.seq (.seq (.keep [0, 3] (.ops [⟨some 4, .mv (.c (.int .i64 7)), none⟩]))
    (.block 0 (.loop (.seq (.seq (.keep [0, 3, 4] (.ops [⟨some 5, .mv (.t 4), none⟩, ⟨some 6, .bin .geq (.t 5) (.c (.int .i64 0)), none⟩]))
    (.cond (.t 6)
      .skip
      (.exit 0)))
    (.seq (.block 1 (.keep [0, 3, 4] (.ops [⟨some 9, .mv (.t 3), none⟩, ⟨some 10, .mv (.t 0), none⟩, ⟨some 11, .mv (.t 4), none⟩, ⟨some 12, .bin .mul (.c (.int .i64 8)) (.t 11), none⟩, ⟨some 13, .cnv .u64 (.t 12), none⟩, ⟨some 14, .bin .shr (.t 10) (.t 13), none⟩, ⟨some 15, .cnv .u8 (.t 14), none⟩, ⟨some 16, .mkSl 1 1 [.int .u8 0] [(0, 1, (.t 15))], none⟩, ⟨some 17, .app false 5 1 1 (.t 9) (.t 16), none⟩, ⟨some 3, .mv (.t 17), none⟩])))
    (.keep [0, 3, 4] (.ops [⟨some 7, .mv (.t 4), none⟩, ⟨some 8, .bin .sub (.t 7) (.c (.int .i64 1)), none⟩, ⟨some 4, .mv (.t 8), none⟩])))))))
    (.seq (.keep [3] (.ops [⟨some 18, .mv (.t 3), none⟩, ⟨some 19, .b2s (.t 18), none⟩, ⟨some 2, .mv (.t 19), none⟩]))
    .ret)))), [.t 2], 20⟩
theorem b22 : fB Tryd.prog 22 c22 = true := by kernel_rfl

/-- partywall/label.Text -/
def c23 : CF := ⟨(.seq (.keep [0] (.ops [⟨some 2, .mv (.c (.str [])), none⟩]))
    (.seq (.keep [0, 2] (.ops [⟨some 3, .alloc [.nils], none⟩]))
    (.seq (.seq (.keep [0, 2, 3] (.ops [⟨some 5, .mv (.t 0), none⟩, ⟨some 6, .call 48 [(.t 5)], none⟩]))
    (.block 0 (.rfun (.t 6) [7]
      (.keep [3, 7] (.ops [⟨some 4, .mv (.t 7), none⟩]))
      (.block 1 (.keep [3, 4] (.drw [⟨some 8, .ld (none) (.t 3), none⟩, ⟨some 9, .mv (.t 4), none⟩, ⟨some 10, .call 49 [(.t 9)], none⟩, ⟨some 11, .mkSl 1 1 [.str []] [(0, 1, (.t 10))], none⟩, ⟨some 12, .app true 9 1 16 (.t 8) (.t 11), none⟩, ⟨none, .st 1 (.t 3) (.t 12), none⟩] [1, 0, 1, 0, 4, 2]))))))
    (.seq (.keep [3] (.ops [⟨some 13, .ld (none) (.t 3), none⟩, ⟨some 14, .call 50 [(.t 13), (.c (.str [44]))], none⟩, ⟨some 15, .bin .add (.c (.str [123])) (.t 14), none⟩, ⟨some 16, .bin .add (.t 15) (.c (.str [125])), none⟩, ⟨some 2, .mv (.t 16), none⟩]))
    .ret)))), [.t 2], 17⟩
theorem b23 : fB Tryd.prog 23 c23 = true := by kernel_rfl

/-- partywall/partywallref01.Text -/
def c24 : CF := ⟨(.seq (.keep [0] (.ops [⟨some 2, .mv (.c (.str [])), none⟩]))
    (.seq (.keep [0] (.ops [⟨some 3, .mv (.c (.str [123])), none⟩]))
    (.seq (.keep [0, 3] (.ops [⟨some 6, .mv (.t 0), none⟩, ⟨some 7, .call 34 [(.t 6)], none⟩, ⟨some 4, .mv (.t 7), none⟩]))
    (.seq (.seq (.keep [3, 4] (.ops [⟨some 5, .mv (.c (.int .i64 0)), none⟩]))
    (.block 0 (.loop (.seq (.seq (.keep [3, 4, 5] (.ops [⟨some 8, .mv (.t 5), none⟩, ⟨some 9, .mv (.t 4), none⟩, ⟨some 10, .len (.t 9), none⟩, ⟨some 11, .bin .lss (.t 8) (.t 10), none⟩]))
    (.cond (.t 11)
      .skip
      (.exit 0)))
    (.seq (.block 1 (.seq (.seq (.keep [3, 4, 5] (.ops [⟨some 14, .mv (.t 5), none⟩, ⟨some 15, .bin .gtr (.t 14) (.c (.int .i64 0)), none⟩]))
    (.cond (.t 15)
      (.keep [3, 4, 5] (.ops [⟨some 16, .mv (.t 3), none⟩, ⟨some 17, .bin .add (.t 16) (.c (.str [44])), none⟩, ⟨some 3, .mv (.t 17), none⟩]))
      .skip))
    (.keep [3, 4, 5] (.ops [⟨some 18, .mv (.t 3), none⟩, ⟨some 19, .mv (.t 4), none⟩, ⟨some 20, .mv (.t 5), none⟩, ⟨some 21, .ixA 1 (.t 19) (.t 20), none⟩, ⟨some 22, .ld (none) (.t 21), none⟩, ⟨some 23, .call 51 [(.t 22)], none⟩, ⟨some 24, .bin .add (.t 18) (.t 23), none⟩, ⟨some 3, .mv (.t 24), none⟩]))))
    (.keep [3, 4, 5] (.ops [⟨some 12, .mv (.t 5), none⟩, ⟨some 13, .bin .add (.t 12) (.c (.int .i64 1)), none⟩, ⟨some 5, .mv (.t 13), none⟩])))))))
    (.seq (.keep [3] (.ops [⟨some 25, .mv (.t 3), none⟩, ⟨some 26, .bin .add (.t 25) (.c (.str [125])), none⟩, ⟨some 2, .mv (.t 26), none⟩]))
    .ret))))), [.t 2], 27⟩
theorem b24 : fB Tryd.prog 24 c24 = true := by kernel_rfl

/-- partywall/partywallkit.OwnInts -/
def c25 : CF := ⟨(.seq (.keep [0] (.ops [⟨some 2, .mv (.c .nils), none⟩]))
    (.seq (.keep [0] (.ops [⟨some 3, .mkSl 1 0 [] [], none⟩, ⟨some 4, .mv (.t 0), none⟩, ⟨some 5, .app false 3 1 8 (.t 3) (.t 4), none⟩, ⟨some 2, .mv (.t 5), none⟩]))
    .ret)), [.t 2], 6⟩
theorem b25 : fB Tryd.prog 25 c25 = true := by kernel_rfl

/-- partywall/label.Of -/
def c26 : CF := ⟨(.seq (.keep [0] (.ops [⟨some 2, .mv (.c (.int .u64 0)), none⟩, ⟨some 3, .mv (.c (.int .i64 0)), none⟩]))
    (.seq (.keep [0] (.ops [⟨some 4, .mv (.c (.int .u64 0)), none⟩]))
    (.seq (.seq (.keep [0, 4] (.ops [⟨some 7, .mv (.t 0), none⟩, ⟨some 8, .len (.t 7), none⟩, ⟨some 9, .mv (.c (.int .i64 0)), none⟩]))
    (.block 0 (.loop (.seq (.keep [4, 7, 8, 9] (.ops [⟨some 10, .bin .lss (.t 9) (.t 8), none⟩]))
    (.seq (.cond (.t 10)
      .skip
      (.exit 0))
    (.seq (.block 1 (.seq (.keep [4, 7, 8, 9] (.ops [⟨some 11, .ixA 1 (.t 7) (.t 9), none⟩, ⟨some 12, .ld (none) (.t 11), none⟩, ⟨some 6, .mv (.t 12), none⟩]))
    (.seq (.seq (.keep [4, 6, 7, 8, 9] (.ops [⟨some 13, .mv (.t 6), none⟩, ⟨some 14, .bin .lss (.t 13) (.c (.int .i64 0)), none⟩, ⟨some 15, .mv (.t 14), none⟩, ⟨some 16, .mv (.t 6), some (15, false)⟩, ⟨some 17, .bin .gtr (.t 16) (.c (.int .i64 63)), some (15, false)⟩, ⟨some 18, .pick (.t 15) (.c (.bool true)) (.t 17), none⟩]))
    (.cond (.t 18)
      (.seq (.keep [] (.ops [⟨some 2, .mv (.c (.int .u64 0)), none⟩, ⟨some 3, .mv (.c (.int .i64 2)), none⟩]))
      .ret)
      .skip))
    (.keep [4, 6, 7, 8, 9] (.ops [⟨some 19, .mv (.t 4), none⟩, ⟨some 20, .mv (.t 6), none⟩, ⟨some 21, .cnv .u64 (.t 20), none⟩, ⟨some 22, .bin .shl (.c (.int .u64 1)) (.t 21), none⟩, ⟨some 23, .bin .or (.t 19) (.t 22), none⟩, ⟨some 4, .mv (.t 23), none⟩])))))
    (.keep [4, 7, 8, 9] (.ops [⟨some 24, .bin .add (.t 9) (.c (.int .i64 1)), none⟩, ⟨some 9, .mv (.t 24), none⟩]))))))))
    (.seq (.keep [4] (.ops [⟨some 25, .mv (.t 4), none⟩, ⟨some 2, .mv (.t 25), none⟩, ⟨some 3, .mv (.c (.int .i64 0)), none⟩]))
    .ret)))), [.t 2, .t 3], 26⟩
theorem b26 : fB Tryd.prog 26 c26 = true := by kernel_rfl

/-- partywall/partywallref01.Of -/
def c27 : CF := ⟨(.seq (.keep [0] (.ops [⟨some 2, .mv (.c (.int .u64 0)), none⟩, ⟨some 3, .mv (.c (.int .i64 0)), none⟩]))
    (.seq (.keep [0] (.ops [⟨some 4, .mv (.c (.int .u64 0)), none⟩]))
    (.seq (.seq (.keep [0, 4] (.ops [⟨some 5, .mv (.c (.int .i64 0)), none⟩]))
    (.block 0 (.loop (.seq (.seq (.keep [0, 4, 5] (.ops [⟨some 6, .mv (.t 5), none⟩, ⟨some 7, .mv (.t 0), none⟩, ⟨some 8, .len (.t 7), none⟩, ⟨some 9, .bin .lss (.t 6) (.t 8), none⟩]))
    (.cond (.t 9)
      .skip
      (.exit 0)))
    (.seq (.block 1 (.seq (.seq (.keep [0, 4, 5] (.ops [⟨some 12, .mv (.t 0), none⟩, ⟨some 13, .mv (.t 5), none⟩, ⟨some 14, .ixA 1 (.t 12) (.t 13), none⟩, ⟨some 15, .ld (none) (.t 14), none⟩, ⟨some 16, .bin .lss (.t 15) (.c (.int .i64 0)), none⟩, ⟨some 17, .mv (.t 16), none⟩, ⟨some 18, .mv (.t 0), some (17, false)⟩, ⟨some 19, .mv (.t 5), some (17, false)⟩, ⟨some 20, .ixA 1 (.t 18) (.t 19), some (17, false)⟩, ⟨some 21, .ld (none) (.t 20), some (17, false)⟩, ⟨some 22, .bin .gtr (.t 21) (.c (.int .i64 63)), some (17, false)⟩, ⟨some 23, .pick (.t 17) (.c (.bool true)) (.t 22), none⟩]))
    (.cond (.t 23)
      (.seq (.keep [] (.ops [⟨some 2, .mv (.c (.int .u64 0)), none⟩, ⟨some 3, .mv (.c (.int .i64 2)), none⟩]))
      .ret)
      .skip))
    (.keep [0, 4, 5] (.ops [⟨some 24, .mv (.t 4), none⟩, ⟨some 25, .mv (.t 0), none⟩, ⟨some 26, .mv (.t 5), none⟩, ⟨some 27, .ixA 1 (.t 25) (.t 26), none⟩, ⟨some 28, .ld (none) (.t 27), none⟩, ⟨some 29, .cnv .u64 (.t 28), none⟩, ⟨some 30, .bin .shl (.c (.int .u64 1)) (.t 29), none⟩, ⟨some 31, .bin .or (.t 24) (.t 30), none⟩, ⟨some 4, .mv (.t 31), none⟩]))))
    (.keep [0, 4, 5] (.ops [⟨some 10, .mv (.t 5), none⟩, ⟨some 11, .bin .add (.t 10) (.c (.int .i64 1)), none⟩, ⟨some 5, .mv (.t 11), none⟩])))))))
    (.seq (.keep [4] (.ops [⟨some 32, .mv (.t 4), none⟩, ⟨some 2, .mv (.t 32), none⟩, ⟨some 3, .mv (.c (.int .i64 0)), none⟩]))
    .ret)))), [.t 2, .t 3], 33⟩
theorem b27 : fB Tryd.prog 27 c27 = true := by kernel_rfl

/-- partywall/label.Has -/
def c28 : CF := ⟨(.seq (.keep [0, 1] (.ops [⟨some 4, .mv (.c (.bool false)), none⟩, ⟨some 5, .mv (.c (.int .i64 0)), none⟩]))
    (.seq (.keep [0, 1] (.ops [⟨some 9, .mv (.t 1), none⟩, ⟨some 10, .mkSl 1 1 [.int .i64 0] [(0, 1, (.t 9))], none⟩, ⟨some 11, .call 26 [(.t 10)], none⟩, ⟨some 8, .mv (.t 11), none⟩, ⟨some 12, .ext (.t 8) 0, none⟩, ⟨some 13, .ext (.t 8) 1, none⟩, ⟨some 6, .mv (.t 12), none⟩, ⟨some 7, .mv (.t 13), none⟩]))
    (.seq (.keep [0, 6, 7] (.ops [⟨some 14, .mv (.t 0), none⟩, ⟨some 15, .mv (.t 6), none⟩, ⟨some 16, .bin .and (.t 14) (.t 15), none⟩, ⟨some 17, .bin .neq (.t 16) (.c (.int .u64 0)), none⟩, ⟨some 18, .mv (.t 7), none⟩, ⟨some 4, .mv (.t 17), none⟩, ⟨some 5, .mv (.t 18), none⟩]))
    .ret))), [.t 4, .t 5], 19⟩
theorem b28 : fB Tryd.prog 28 c28 = true := by kernel_rfl

/-- partywall/partywallref01.Has -/
def c29 : CF := ⟨(.seq (.keep [0, 1] (.ops [⟨some 4, .mv (.c (.bool false)), none⟩, ⟨some 5, .mv (.c (.int .i64 0)), none⟩]))
    (.seq (.seq (.keep [0, 1] (.ops [⟨some 6, .mv (.t 1), none⟩, ⟨some 7, .bin .lss (.t 6) (.c (.int .i64 0)), none⟩, ⟨some 8, .mv (.t 7), none⟩, ⟨some 9, .mv (.t 1), some (8, false)⟩, ⟨some 10, .bin .gtr (.t 9) (.c (.int .i64 63)), some (8, false)⟩, ⟨some 11, .pick (.t 8) (.c (.bool true)) (.t 10), none⟩]))
    (.cond (.t 11)
      (.seq (.keep [] (.ops [⟨some 4, .mv (.c (.bool false)), none⟩, ⟨some 5, .mv (.c (.int .i64 2)), none⟩]))
      .ret)
      .skip))
    (.seq (.keep [0, 1] (.ops [⟨some 12, .mv (.t 0), none⟩, ⟨some 13, .mv (.t 1), none⟩, ⟨some 14, .call 52 [(.t 12), (.t 13)], none⟩, ⟨some 4, .mv (.t 14), none⟩, ⟨some 5, .mv (.c (.int .i64 0)), none⟩]))
    .ret))), [.t 4, .t 5], 15⟩
theorem b29 : fB Tryd.prog 29 c29 = true := by kernel_rfl

/-- partywall/label.Least -/
def c30 : CF := ⟨(.seq (.keep [0] (.ops [⟨some 2, .alloc [.int .i64 0], none⟩, ⟨some 3, .alloc [.int .i64 0], none⟩]))
    (.seq (.seq (.keep [0, 2, 3] (.ops [⟨some 5, .mv (.t 0), none⟩, ⟨some 6, .call 48 [(.t 5)], none⟩]))
    (.block 0 (.rfun (.t 6) [7]
      (.keep [2, 3, 7] (.ops [⟨some 4, .mv (.t 7), none⟩]))
      (.block 1 (.seq (.keep [2, 3, 4] (.ops [⟨some 8, .mv (.t 4), none⟩, ⟨none, .st 1 (.t 2) (.t 8), none⟩, ⟨none, .st 1 (.t 3) (.c (.int .i64 0)), none⟩]))
      .ret)))))
    (.seq (.keep [2, 3] (.ops [⟨none, .st 1 (.t 2) (.c (.int .i64 0)), none⟩, ⟨none, .st 1 (.t 3) (.c (.int .i64 2)), none⟩]))
    .ret))), [.cl 2 (none), .cl 3 (none)], 9⟩
theorem b30 : fB Tryd.prog 30 c30 = true := by kernel_rfl

/-- partywall/partywallref01.Least -/
def c31 : CF := ⟨(.seq (.keep [0] (.ops [⟨some 2, .mv (.c (.int .i64 0)), none⟩, ⟨some 3, .mv (.c (.int .i64 0)), none⟩]))
    (.seq (.seq (.keep [0] (.ops [⟨some 4, .mv (.t 0), none⟩, ⟨some 5, .bin .eql (.t 4) (.c (.int .u64 0)), none⟩]))
    (.cond (.t 5)
      (.seq (.keep [] (.ops [⟨some 2, .mv (.c (.int .i64 0)), none⟩, ⟨some 3, .mv (.c (.int .i64 2)), none⟩]))
      .ret)
      .skip))
    (.seq (.keep [0] (.ops [⟨some 6, .mv (.t 0), none⟩, ⟨some 7, .call 34 [(.t 6)], none⟩, ⟨some 8, .ixA 1 (.t 7) (.c (.int .i64 0)), none⟩, ⟨some 9, .ld (none) (.t 8), none⟩, ⟨some 2, .mv (.t 9), none⟩, ⟨some 3, .mv (.c (.int .i64 0)), none⟩]))
    .ret))), [.t 2, .t 3], 10⟩
theorem b31 : fB Tryd.prog 31 c31 = true := by kernel_rfl

/-- partywall/partywallkit.SameInts -/
def c32 : CF := ⟨(.seq (.keep [0, 1] (.ops [⟨some 4, .mv (.c (.bool false)), none⟩]))
    (.seq (.seq (.keep [0, 1] (.ops [⟨some 6, .mv (.t 0), none⟩, ⟨some 7, .len (.t 6), none⟩, ⟨some 8, .mv (.t 1), none⟩, ⟨some 9, .len (.t 8), none⟩, ⟨some 10, .bin .neq (.t 7) (.t 9), none⟩]))
    (.cond (.t 10)
      (.seq (.keep [] (.ops [⟨some 4, .mv (.c (.bool false)), none⟩]))
      .ret)
      .skip))
    (.seq (.seq (.keep [0, 1] (.ops [⟨some 5, .mv (.c (.int .i64 0)), none⟩]))
    (.block 0 (.loop (.seq (.seq (.keep [0, 1, 5] (.ops [⟨some 11, .mv (.t 5), none⟩, ⟨some 12, .mv (.t 0), none⟩, ⟨some 13, .len (.t 12), none⟩, ⟨some 14, .bin .lss (.t 11) (.t 13), none⟩]))
    (.cond (.t 14)
      .skip
      (.exit 0)))
    (.seq (.block 1 (.seq (.keep [0, 1, 5] (.drw [⟨some 17, .mv (.t 0), none⟩, ⟨some 18, .mv (.t 5), none⟩, ⟨some 19, .ixA 1 (.t 17) (.t 18), none⟩, ⟨some 20, .ld (none) (.t 19), none⟩, ⟨some 21, .mv (.t 1), none⟩, ⟨some 22, .mv (.t 5), none⟩, ⟨some 23, .ixA 1 (.t 21) (.t 22), none⟩, ⟨some 24, .ld (none) (.t 23), none⟩, ⟨some 25, .bin .neq (.t 20) (.t 24), none⟩] [0, 0, 0, 1, 0, 0, 0, 1, 0]))
    (.cond (.t 25)
      (.seq (.keep [] (.ops [⟨some 4, .mv (.c (.bool false)), none⟩]))
      .ret)
      .skip)))
    (.keep [0, 1, 5] (.ops [⟨some 15, .mv (.t 5), none⟩, ⟨some 16, .bin .add (.t 15) (.c (.int .i64 1)), none⟩, ⟨some 5, .mv (.t 16), none⟩])))))))
    (.seq (.keep [] (.ops [⟨some 4, .mv (.c (.bool true)), none⟩]))
    .ret)))), [.t 4], 26⟩
theorem b32 : fB Tryd.prog 32 c32 = true := by kernel_rfl

/-- partywall/label.List -/
def c33 : CF := ⟨(.seq (.keep [0] (.ops [⟨some 2, .mv (.c .nils), none⟩]))
    (.seq (.keep [0, 2] (.ops [⟨some 3, .alloc [.nils], none⟩]))
    (.seq (.seq (.keep [0, 2, 3] (.ops [⟨some 5, .mv (.t 0), none⟩, ⟨some 6, .call 48 [(.t 5)], none⟩]))
    (.block 0 (.rfun (.t 6) [7]
      (.keep [3, 7] (.ops [⟨some 4, .mv (.t 7), none⟩]))
      (.block 1 (.keep [3, 4] (.ops [⟨some 8, .ld (none) (.t 3), none⟩, ⟨some 9, .mv (.t 4), none⟩, ⟨some 10, .mkSl 1 1 [.int .i64 0] [(0, 1, (.t 9))], none⟩, ⟨some 11, .app false 3 1 8 (.t 8) (.t 10), none⟩, ⟨none, .st 1 (.t 3) (.t 11), none⟩]))))))
    (.seq (.keep [3] (.ops [⟨some 12, .ld (none) (.t 3), none⟩, ⟨some 2, .mv (.t 12), none⟩]))
    .ret)))), [.t 2], 13⟩
theorem b33 : fB Tryd.prog 33 c33 = true := by kernel_rfl

/-- partywall/partywallref01.List -/
def c34 : CF := ⟨(.seq (.keep [0] (.ops [⟨some 2, .mv (.c .nils), none⟩]))
    (.seq (.keep [0] (.ops [⟨some 3, .mv (.c .nils), none⟩]))
    (.seq (.seq (.keep [0, 3] (.ops [⟨some 4, .mv (.c (.int .i64 0)), none⟩]))
    (.block 0 (.loop (.seq (.seq (.keep [0, 3, 4] (.ops [⟨some 5, .mv (.t 4), none⟩, ⟨some 6, .bin .lss (.t 5) (.c (.int .i64 64)), none⟩]))
    (.cond (.t 6)
      .skip
      (.exit 0)))
    (.seq (.block 1 (.seq (.keep [0, 3, 4] (.ops [⟨some 9, .mv (.t 0), none⟩, ⟨some 10, .mv (.t 4), none⟩, ⟨some 11, .call 52 [(.t 9), (.t 10)], none⟩]))
    (.cond (.t 11)
      (.keep [0, 3, 4] (.ops [⟨some 12, .mv (.t 3), none⟩, ⟨some 13, .mv (.t 4), none⟩, ⟨some 14, .mkSl 1 1 [.int .i64 0] [(0, 1, (.t 13))], none⟩, ⟨some 15, .app false 3 1 8 (.t 12) (.t 14), none⟩, ⟨some 3, .mv (.t 15), none⟩]))
      .skip)))
    (.keep [0, 3, 4] (.ops [⟨some 7, .mv (.t 4), none⟩, ⟨some 8, .bin .add (.t 7) (.c (.int .i64 1)), none⟩, ⟨some 4, .mv (.t 8), none⟩])))))))
    (.seq (.keep [3] (.ops [⟨some 16, .mv (.t 3), none⟩, ⟨some 2, .mv (.t 16), none⟩]))
    .ret)))), [.t 2], 17⟩
theorem b34 : fB Tryd.prog 34 c34 = true := by kernel_rfl

/-- partywall/label.Count -/
def c35 : CF := ⟨(.seq (.keep [0] (.ops [⟨some 2, .mv (.c (.int .i64 0)), none⟩]))
    (.seq (.keep [0] (.ops [⟨some 3, .mv (.t 0), none⟩, ⟨some 4, .call 53 [(.t 3)], none⟩, ⟨some 2, .mv (.t 4), none⟩]))
    .ret)), [.t 2], 5⟩
theorem b35 : fB Tryd.prog 35 c35 = true := by kernel_rfl

/-- partywall/partywallref01.Count -/
def c36 : CF := ⟨(.seq (.keep [0] (.ops [⟨some 2, .mv (.c (.int .i64 0)), none⟩]))
    (.seq (.keep [0] (.ops [⟨some 3, .mv (.t 0), none⟩, ⟨some 4, .call 34 [(.t 3)], none⟩, ⟨some 5, .len (.t 4), none⟩, ⟨some 2, .mv (.t 5), none⟩]))
    .ret)), [.t 2], 6⟩
theorem b36 : fB Tryd.prog 36 c36 = true := by kernel_rfl

/-- partywall/label.Below -/
def c37 : CF := ⟨(.seq (.keep [0, 1] (.ops [⟨some 4, .mv (.c (.bool false)), none⟩]))
    (.seq (.keep [0, 1] (.ops [⟨some 5, .mv (.t 0), none⟩, ⟨some 6, .mv (.t 1), none⟩, ⟨some 7, .bin .andNot (.t 5) (.t 6), none⟩, ⟨some 8, .bin .eql (.t 7) (.c (.int .u64 0)), none⟩, ⟨some 4, .mv (.t 8), none⟩]))
    .ret)), [.t 4], 9⟩
theorem b37 : fB Tryd.prog 37 c37 = true := by kernel_rfl

/-- partywall/partywallref01.Below -/
def c38 : CF := ⟨(.seq (.keep [0, 1] (.ops [⟨some 4, .mv (.c (.bool false)), none⟩]))
    (.seq (.seq (.keep [0, 1] (.ops [⟨some 5, .mv (.c (.int .i64 0)), none⟩]))
    (.block 0 (.loop (.seq (.seq (.keep [0, 1, 5] (.ops [⟨some 6, .mv (.t 5), none⟩, ⟨some 7, .bin .lss (.t 6) (.c (.int .i64 64)), none⟩]))
    (.cond (.t 7)
      .skip
      (.exit 0)))
    (.seq (.block 1 (.seq (.keep [0, 1, 5] (.ops [⟨some 10, .mv (.t 0), none⟩, ⟨some 11, .mv (.t 5), none⟩, ⟨some 12, .call 52 [(.t 10), (.t 11)], none⟩, ⟨some 13, .mv (.t 12), none⟩, ⟨some 14, .mv (.t 1), some (13, true)⟩, ⟨some 15, .mv (.t 5), some (13, true)⟩, ⟨some 16, .call 52 [(.t 14), (.t 15)], some (13, true)⟩, ⟨some 17, .un .not (.t 16), some (13, true)⟩, ⟨some 18, .pick (.t 13) (.t 17) (.c (.bool false)), none⟩]))
    (.cond (.t 18)
      (.seq (.keep [] (.ops [⟨some 4, .mv (.c (.bool false)), none⟩]))
      .ret)
      .skip)))
    (.keep [0, 1, 5] (.ops [⟨some 8, .mv (.t 5), none⟩, ⟨some 9, .bin .add (.t 8) (.c (.int .i64 1)), none⟩, ⟨some 5, .mv (.t 9), none⟩])))))))
    (.seq (.keep [] (.ops [⟨some 4, .mv (.c (.bool true)), none⟩]))
    .ret))), [.t 4], 19⟩
theorem b38 : fB Tryd.prog 38 c38 = true := by kernel_rfl

/-- partywall/label.Comparable -/
def c39 : CF := ⟨(.seq (.keep [0, 1] (.ops [⟨some 4, .mv (.c (.bool false)), none⟩]))
    (.seq (.keep [0, 1] (.ops [⟨some 5, .mv (.t 0), none⟩, ⟨some 6, .mv (.t 1), none⟩, ⟨some 7, .call 37 [(.t 5), (.t 6)], none⟩, ⟨some 8, .mv (.t 7), none⟩, ⟨some 9, .mv (.t 1), some (8, false)⟩, ⟨some 10, .mv (.t 0), some (8, false)⟩, ⟨some 11, .call 37 [(.t 9), (.t 10)], some (8, false)⟩, ⟨some 12, .pick (.t 8) (.c (.bool true)) (.t 11), none⟩, ⟨some 4, .mv (.t 12), none⟩]))
    .ret)), [.t 4], 13⟩
theorem b39 : fB Tryd.prog 39 c39 = true := by kernel_rfl

/-- partywall/partywallref01.Comparable -/
def c40 : CF := ⟨(.seq (.keep [0, 1] (.ops [⟨some 4, .mv (.c (.bool false)), none⟩]))
    (.seq (.keep [0, 1] (.ops [⟨some 5, .mv (.t 0), none⟩, ⟨some 6, .mv (.t 1), none⟩, ⟨some 7, .call 38 [(.t 5), (.t 6)], none⟩, ⟨some 8, .mv (.t 7), none⟩, ⟨some 9, .mv (.t 1), some (8, false)⟩, ⟨some 10, .mv (.t 0), some (8, false)⟩, ⟨some 11, .call 38 [(.t 9), (.t 10)], some (8, false)⟩, ⟨some 12, .pick (.t 8) (.c (.bool true)) (.t 11), none⟩, ⟨some 4, .mv (.t 12), none⟩]))
    .ret)), [.t 4], 13⟩
theorem b40 : fB Tryd.prog 40 c40 = true := by kernel_rfl

/-- partywall/label.Without -/
def c41 : CF := ⟨(.seq (.keep [0, 1] (.ops [⟨some 4, .mv (.c (.int .u64 0)), none⟩]))
    (.seq (.keep [0, 1] (.ops [⟨some 5, .mv (.t 0), none⟩, ⟨some 6, .mv (.t 1), none⟩, ⟨some 7, .bin .andNot (.t 5) (.t 6), none⟩, ⟨some 4, .mv (.t 7), none⟩]))
    .ret)), [.t 4], 8⟩
theorem b41 : fB Tryd.prog 41 c41 = true := by kernel_rfl

/-- partywall/partywallref01.Without -/
def c42 : CF := ⟨(.seq (.keep [0, 1] (.ops [⟨some 4, .mv (.c (.int .u64 0)), none⟩]))
    (.seq (.keep [0, 1] (.ops [⟨some 5, .mv (.t 0), none⟩, ⟨some 6, .mv (.t 1), none⟩, ⟨some 7, .bin .andNot (.t 5) (.t 6), none⟩, ⟨some 4, .mv (.t 7), none⟩]))
    .ret)), [.t 4], 8⟩
theorem b42 : fB Tryd.prog 42 c42 = true := by kernel_rfl

/-- partywall/partywalllaw01.fault -/
def c43 : CF := ⟨(.seq (.keep [0, 1, 2] (.ops [⟨some 6, .mv (.c (.bool false)), none⟩]))
    (.seq (.keep [0, 1, 2] (.ops [⟨some 10, .mv (.t 0), none⟩, ⟨some 11, .call 11 [(.t 10)], none⟩, ⟨some 9, .mv (.t 11), none⟩, ⟨some 12, .ext (.t 9) 0, none⟩, ⟨some 13, .ext (.t 9) 1, none⟩, ⟨some 8, .alloc [.int .i64 0, .int .i64 0], none⟩, ⟨some 7, .mv (.t 12), none⟩, ⟨none, .st 2 (.t 8) (.t 13), none⟩]))
    (.seq (.keep [1, 2, 7, 8] (.ops [⟨some 14, .mv (.t 7), none⟩, ⟨some 15, .bin .eql (.t 14) (.c (.int .u64 0)), none⟩, ⟨some 16, .mv (.t 15), none⟩, ⟨some 17, .ld (some 2) (.t 8), some (16, true)⟩, ⟨some 18, .mv (.t 1), some (16, true)⟩, ⟨some 19, .mv (.t 2), some (16, true)⟩, ⟨some 20, .bld [.int .i64 0, .int .i64 0] [(0, 1, (.t 18)), (1, 1, (.t 19))], some (16, true)⟩, ⟨some 21, .eqA false [0, 0] (.t 17) (.t 20), some (16, true)⟩, ⟨some 22, .pick (.t 16) (.t 21) (.c (.bool false)), none⟩, ⟨some 6, .mv (.t 22), none⟩]))
    .ret))), [.t 6], 23⟩
theorem b43 : fB Tryd.prog 43 c43 = true := by kernel_rfl

/-- partywall/label.Read$1 -/
def c44 : CF := ⟨(.seq (.keep [0, 1] (.ops [⟨some 4, .mv (.c (.int .u64 0)), none⟩, ⟨some 5, .mv (.c (.int .i64 0)), none⟩, ⟨some 6, .alloc [.int .i64 0, .int .i64 0], none⟩]))
    (.seq (.keep [0, 1, 6] (.ops [⟨some 7, .mv (.t 0), none⟩, ⟨some 8, .mv (.t 1), none⟩, ⟨some 9, .bld [.int .i64 0, .int .i64 0] [(0, 1, (.t 7)), (1, 1, (.t 8))], none⟩, ⟨some 4, .mv (.c (.int .u64 0)), none⟩, ⟨some 5, .mv (.c (.int .i64 0)), none⟩, ⟨none, .st 2 (.t 6) (.t 9), none⟩]))
    .ret)), [.t 4, .t 5, .cl 6 (some 2)], 10⟩
theorem b44 : fB Tryd.prog 44 c44 = true := by kernel_rfl

/-- partywall/label.digit -/
def c45 : CF := ⟨(.seq (.keep [0] (.ops [⟨some 2, .mv (.c (.bool false)), none⟩]))
    (.seq (.keep [0] (.ops [⟨some 3, .mv (.t 0), none⟩, ⟨some 4, .bin .geq (.t 3) (.c (.int .u8 48)), none⟩, ⟨some 5, .mv (.t 4), none⟩, ⟨some 6, .mv (.t 0), some (5, true)⟩, ⟨some 7, .bin .leq (.t 6) (.c (.int .u8 57)), some (5, true)⟩, ⟨some 8, .pick (.t 5) (.t 7) (.c (.bool false)), none⟩, ⟨some 2, .mv (.t 8), none⟩]))
    .ret)), [.t 2], 9⟩
theorem b45 : fB Tryd.prog 45 c45 = true := by kernel_rfl

/-- partywall/partywallref01.fault -/
def c46 : CF := ⟨(.seq (.keep [0, 1] (.ops [⟨some 4, .mv (.c (.int .u64 0)), none⟩, ⟨some 5, .mv (.c (.int .i64 0)), none⟩, ⟨some 6, .alloc [.int .i64 0, .int .i64 0], none⟩]))
    (.seq (.keep [0, 1, 6] (.ops [⟨some 7, .mv (.t 0), none⟩, ⟨some 8, .mv (.t 1), none⟩, ⟨some 9, .bld [.int .i64 0, .int .i64 0] [(0, 1, (.t 7)), (1, 1, (.t 8))], none⟩, ⟨some 4, .mv (.c (.int .u64 0)), none⟩, ⟨some 5, .mv (.c (.int .i64 0)), none⟩, ⟨none, .st 2 (.t 6) (.t 9), none⟩]))
    .ret)), [.t 4, .t 5, .cl 6 (some 2)], 10⟩
theorem b46 : fB Tryd.prog 46 c46 = true := by kernel_rfl

/-- partywall/partywallref01.digit -/
def c47 : CF := ⟨(.seq (.keep [0, 1] (.ops [⟨some 4, .mv (.c (.bool false)), none⟩]))
    (.seq (.keep [0, 1] (.ops [⟨some 5, .mv (.t 1), none⟩, ⟨some 6, .mv (.t 0), none⟩, ⟨some 7, .lenS (.t 6), none⟩, ⟨some 8, .bin .lss (.t 5) (.t 7), none⟩, ⟨some 9, .mv (.t 8), none⟩, ⟨some 10, .mv (.t 0), some (9, true)⟩, ⟨some 11, .mv (.t 1), some (9, true)⟩, ⟨some 12, .ixS (.t 10) (.t 11), some (9, true)⟩, ⟨some 13, .bin .geq (.t 12) (.c (.int .u8 48)), some (9, true)⟩, ⟨some 14, .pick (.t 9) (.t 13) (.c (.bool false)), none⟩, ⟨some 15, .mv (.t 14), none⟩, ⟨some 16, .mv (.t 0), some (15, true)⟩, ⟨some 17, .mv (.t 1), some (15, true)⟩, ⟨some 18, .ixS (.t 16) (.t 17), some (15, true)⟩, ⟨some 19, .bin .leq (.t 18) (.c (.int .u8 57)), some (15, true)⟩, ⟨some 20, .pick (.t 15) (.t 19) (.c (.bool false)), none⟩, ⟨some 4, .mv (.t 20), none⟩]))
    .ret)), [.t 4], 21⟩
theorem b47 : fB Tryd.prog 47 c47 = true := by kernel_rfl

/-- partywall/label.each -/
def c48 : CF := ⟨(.seq (.keep [0] (.ops [⟨some 1, .box 1 (.t 0), none⟩, ⟨some 2, .mv (.c .nilf), none⟩]))
    (.seq (.keep [1] (.ops [⟨some 3, .mkF 54 [(.t 1)], none⟩, ⟨some 2, .mv (.t 3), none⟩]))
    .ret)), [.t 2], 4⟩
theorem b48 : fB Tryd.prog 48 c48 = true := by kernel_rfl

/-- partywall/partywallref01.decimal -/
def c51 : CF := ⟨(.seq (.keep [0] (.ops [⟨some 2, .mv (.c (.str [])), none⟩]))
    (.seq (.seq (.keep [0] (.ops [⟨some 3, .mv (.t 0), none⟩, ⟨some 4, .bin .lss (.t 3) (.c (.int .i64 10)), none⟩]))
    (.cond (.t 4)
      (.seq (.keep [0] (.ops [⟨some 5, .mv (.t 0), none⟩, ⟨some 6, .bin .add (.c (.int .i64 48)) (.t 5), none⟩, ⟨some 7, .cnv .u8 (.t 6), none⟩, ⟨some 8, .mkSl 1 1 [.int .u8 0] [(0, 1, (.t 7))], none⟩, ⟨some 9, .b2s (.t 8), none⟩, ⟨some 2, .mv (.t 9), none⟩]))
      .ret)
      .skip))
    (.seq (.keep [0] (.ops [⟨some 10, .mv (.t 0), none⟩, ⟨some 11, .bin .quo (.t 10) (.c (.int .i64 10)), none⟩, ⟨some 12, .bin .add (.c (.int .i64 48)) (.t 11), none⟩, ⟨some 13, .cnv .u8 (.t 12), none⟩, ⟨some 14, .mv (.t 0), none⟩, ⟨some 15, .bin .rem (.t 14) (.c (.int .i64 10)), none⟩, ⟨some 16, .bin .add (.c (.int .i64 48)) (.t 15), none⟩, ⟨some 17, .cnv .u8 (.t 16), none⟩, ⟨some 18, .mkSl 1 2 [.int .u8 0, .int .u8 0] [(0, 1, (.t 13)), (1, 1, (.t 17))], none⟩, ⟨some 19, .b2s (.t 18), none⟩, ⟨some 2, .mv (.t 19), none⟩]))
    .ret))), [.t 2], 20⟩
theorem b51 : fB Tryd.prog 51 c51 = true := by kernel_rfl

/-- partywall/partywallref01.in -/
def c52 : CF := ⟨(.seq (.keep [0, 1] (.ops [⟨some 4, .mv (.c (.bool false)), none⟩]))
    (.seq (.keep [0, 1] (.ops [⟨some 5, .mv (.t 0), none⟩, ⟨some 6, .mv (.t 1), none⟩, ⟨some 7, .cnv .u64 (.t 6), none⟩, ⟨some 8, .bin .shr (.t 5) (.t 7), none⟩, ⟨some 9, .bin .and (.t 8) (.c (.int .u64 1)), none⟩, ⟨some 10, .bin .eql (.t 9) (.c (.int .u64 1)), none⟩, ⟨some 4, .mv (.t 10), none⟩]))
    .ret)), [.t 4], 11⟩
theorem b52 : fB Tryd.prog 52 c52 = true := by kernel_rfl

/-- math/bits.OnesCount64 -/
def c53 : CF := ⟨(.seq (.keep [0] (.ops [⟨some 2, .mv (.c (.int .i64 0)), none⟩]))
    (.seq (.keep [0] (.ops [⟨some 3, .mv (.t 0), none⟩, ⟨some 4, .bin .shr (.t 3) (.c (.int .u64 1)), none⟩, ⟨some 5, .bin .and (.t 4) (.c (.int .u64 6148914691236517205)), none⟩, ⟨some 6, .mv (.t 0), none⟩, ⟨some 7, .bin .and (.t 6) (.c (.int .u64 6148914691236517205)), none⟩, ⟨some 8, .bin .add (.t 5) (.t 7), none⟩, ⟨some 0, .mv (.t 8), none⟩]))
    (.seq (.keep [0] (.ops [⟨some 9, .mv (.t 0), none⟩, ⟨some 10, .bin .shr (.t 9) (.c (.int .u64 2)), none⟩, ⟨some 11, .bin .and (.t 10) (.c (.int .u64 3689348814741910323)), none⟩, ⟨some 12, .mv (.t 0), none⟩, ⟨some 13, .bin .and (.t 12) (.c (.int .u64 3689348814741910323)), none⟩, ⟨some 14, .bin .add (.t 11) (.t 13), none⟩, ⟨some 0, .mv (.t 14), none⟩]))
    (.seq (.keep [0] (.ops [⟨some 15, .mv (.t 0), none⟩, ⟨some 16, .bin .shr (.t 15) (.c (.int .u64 4)), none⟩, ⟨some 17, .mv (.t 0), none⟩, ⟨some 18, .bin .add (.t 16) (.t 17), none⟩, ⟨some 19, .bin .and (.t 18) (.c (.int .u64 1085102592571150095)), none⟩, ⟨some 0, .mv (.t 19), none⟩]))
    (.seq (.keep [0] (.ops [⟨some 20, .mv (.t 0), none⟩, ⟨some 21, .mv (.t 0), none⟩, ⟨some 22, .bin .shr (.t 21) (.c (.int .u64 8)), none⟩, ⟨some 23, .bin .add (.t 20) (.t 22), none⟩, ⟨some 0, .mv (.t 23), none⟩]))
    (.seq (.keep [0] (.ops [⟨some 24, .mv (.t 0), none⟩, ⟨some 25, .mv (.t 0), none⟩, ⟨some 26, .bin .shr (.t 25) (.c (.int .u64 16)), none⟩, ⟨some 27, .bin .add (.t 24) (.t 26), none⟩, ⟨some 0, .mv (.t 27), none⟩]))
    (.seq (.keep [0] (.ops [⟨some 28, .mv (.t 0), none⟩, ⟨some 29, .mv (.t 0), none⟩, ⟨some 30, .bin .shr (.t 29) (.c (.int .u64 32)), none⟩, ⟨some 31, .bin .add (.t 28) (.t 30), none⟩, ⟨some 0, .mv (.t 31), none⟩]))
    (.seq (.keep [0] (.ops [⟨some 32, .mv (.t 0), none⟩, ⟨some 33, .cnv .i64 (.t 32), none⟩, ⟨some 34, .bin .and (.t 33) (.c (.int .i64 127)), none⟩, ⟨some 2, .mv (.t 34), none⟩]))
    .ret)))))))), [.t 2], 35⟩
theorem b53 : fB Tryd.prog 53 c53 = true := by kernel_rfl

/-- partywall/label.each$1 -/
def c54 : CF := ⟨(.block 0 (.loop (.seq (.seq (.keep [0, 1] (.ops [⟨some 3, .ld (none) (.t 1), none⟩, ⟨some 4, .bin .neq (.t 3) (.c (.int .u64 0)), none⟩]))
    (.cond (.t 4)
      .skip
      (.exit 0)))
    (.seq (.block 1 (.seq (.keep [0, 1] (.ops [⟨some 9, .mv (.t 0), none⟩, ⟨some 10, .ld (none) (.t 1), none⟩, ⟨some 11, .call 55 [(.t 10)], none⟩, ⟨some 12, .callv (.t 9) [(.t 11)], none⟩, ⟨some 13, .un .not (.t 12), none⟩]))
    (.cond (.t 13)
      .ret
      .skip)))
    (.keep [0, 1] (.ops [⟨some 5, .ld (none) (.t 1), none⟩, ⟨some 6, .ld (none) (.t 1), none⟩, ⟨some 7, .bin .sub (.t 6) (.c (.int .u64 1)), none⟩, ⟨some 8, .bin .and (.t 5) (.t 7), none⟩, ⟨none, .st 1 (.t 1) (.t 8), none⟩])))))), [], 14⟩
theorem b54 : fB Tryd.prog 54 c54 = true := by kernel_rfl

/-- math/bits.TrailingZeros64 -/
def c55 : CF := ⟨(.seq (.keep [0] (.ops [⟨some 2, .mv (.c (.int .i64 0)), none⟩]))
    (.seq (.seq (.keep [0] (.ops [⟨some 3, .mv (.t 0), none⟩, ⟨some 4, .bin .eql (.t 3) (.c (.int .u64 0)), none⟩]))
    (.cond (.t 4)
      (.seq (.keep [] (.ops [⟨some 2, .mv (.c (.int .i64 64)), none⟩]))
      .ret)
      .skip))
    (.seq (.keep [0] (.ops [⟨some 5, .mv (.t 0), none⟩, ⟨some 6, .mv (.t 0), none⟩, ⟨some 7, .un .neg (.t 6), none⟩, ⟨some 8, .bin .and (.t 5) (.t 7), none⟩, ⟨some 9, .bin .mul (.t 8) (.c (.int .u64 285870213051353865)), none⟩, ⟨some 10, .bin .shr (.t 9) (.c (.int .u64 58)), none⟩, ⟨some 11, .ixP 64 1 (.g 0) (.t 10), none⟩, ⟨some 12, .ld (none) (.t 11), none⟩, ⟨some 13, .cnv .i64 (.t 12), none⟩, ⟨some 2, .mv (.t 13), none⟩]))
    .ret))), [.t 2], 14⟩
theorem b55 : fB Tryd.prog 55 c55 = true := by kernel_rfl

end Go.Proofs.YthdeocddilacnaaDoor
