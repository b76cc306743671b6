/- Part 15 of the proof of MatchItems: an abstract semantics that is proved sound for the model, contracts of functions in it, and plain facts (C17 M1 M2 M3 M4). No condition. -/
import Derived.Test.YtncadbcjikekhaaGreatDoorKMatchItems14
import Derived.Test.YtncadbcjikekhaaGreatDoorRows
set_option linter.all false
namespace Go.Proofs.YtncadbcjikekhaaGreatDoor
open Go.Abs
set_option maxRecDepth 100000
/-- partywall/partywalllaw17.MatchItems -/
def c3 : CF := ⟨(.seq (.keep [0, 1, 2, 3, 4, 5] (.ops [⟨some 6, .box 7 (.t 0), none⟩, ⟨some 8, .box 1 (.t 2), none⟩, ⟨some 12, .mv (.c (.bool false)), none⟩]))
    (.seq (.seq (.keep [1, 3, 4, 5, 6, 8] (.ops [⟨some 26, .fldA 2 (.t 6), none⟩, ⟨some 27, .ld (none) (.t 26), none⟩, ⟨some 28, .len (.t 27), none⟩, ⟨some 29, .bin .gtr (.t 28) (.c (.int .i64 20)), none⟩, ⟨some 30, .mv (.t 29), none⟩, ⟨some 31, .fldA 3 (.t 6), some (30, false)⟩, ⟨some 32, .ld (none) (.t 31), some (30, false)⟩, ⟨some 33, .len (.t 32), some (30, false)⟩, ⟨some 34, .bin .gtr (.t 33) (.c (.int .i64 20)), some (30, false)⟩, ⟨some 35, .pick (.t 30) (.c (.bool true)) (.t 34), none⟩, ⟨some 36, .mv (.t 35), none⟩, ⟨some 37, .fldA 4 (.t 6), some (36, false)⟩, ⟨some 38, .ld (none) (.t 37), some (36, false)⟩, ⟨some 39, .len (.t 38), some (36, false)⟩, ⟨some 40, .bin .gtr (.t 39) (.c (.int .i64 20)), some (36, false)⟩, ⟨some 41, .pick (.t 36) (.c (.bool true)) (.t 40), none⟩, ⟨some 42, .mv (.t 41), none⟩, ⟨some 43, .fldA 0 (.t 8), some (42, false)⟩, ⟨some 44, .ld (none) (.t 43), some (42, false)⟩, ⟨some 45, .len (.t 44), some (42, false)⟩, ⟨some 46, .bin .gtr (.t 45) (.c (.int .i64 20)), some (42, false)⟩, ⟨some 47, .pick (.t 42) (.c (.bool true)) (.t 46), none⟩, ⟨some 48, .mv (.t 47), none⟩, ⟨some 49, .mv (.t 3), some (48, false)⟩, ⟨some 50, .len (.t 49), some (48, false)⟩, ⟨some 51, .bin .gtr (.t 50) (.c (.int .i64 20)), some (48, false)⟩, ⟨some 52, .pick (.t 48) (.c (.bool true)) (.t 51), none⟩]))
    (.cond (.t 52)
      (.seq (.keep [] (.ops [⟨some 53, .call 9 [], none⟩, ⟨some 12, .mv (.t 53), none⟩]))
      .ret)
      .skip))
    (.seq (.keep [1, 3, 4, 5, 6, 8] (.drw [⟨some 54, .ld (some 1) (.t 8), none⟩, ⟨some 55, .call 10 [(.t 54)], none⟩, ⟨some 56, .mkSl 1 0 [] [], none⟩, ⟨some 57, .fldA 4 (.t 6), none⟩, ⟨some 58, .ld (none) (.t 57), none⟩, ⟨some 59, .app false 2 1 8 (.t 56) (.t 58), none⟩, ⟨some 13, .alloc [.nils], none⟩, ⟨none, .st 1 (.t 13) (.t 55), none⟩, ⟨some 14, .mv (.t 59), none⟩] [1, 1, 0, 0, 1, 0, 3, 2, 0]))
    (.seq (.keep [1, 3, 4, 5, 6, 8, 13, 14] (.ops [⟨some 61, .ld (some 7) (.t 6), none⟩, ⟨some 62, .call 11 [(.t 61)], none⟩, ⟨some 60, .mv (.t 62), none⟩, ⟨some 63, .ext (.t 60) 0, none⟩, ⟨some 64, .ext (.t 60) 1, none⟩, ⟨some 15, .mv (.t 63), none⟩, ⟨some 16, .mv (.t 64), none⟩]))
    (.seq (.keep [1, 3, 4, 5, 6, 8, 13, 14, 15, 16] (.ops [⟨some 66, .ld (some 7) (.t 6), none⟩, ⟨some 67, .call 12 [(.t 66)], none⟩, ⟨some 65, .mv (.t 67), none⟩, ⟨some 68, .ext (.t 65) 0, none⟩, ⟨some 69, .ext (.t 65) 1, none⟩, ⟨some 17, .mv (.t 68), none⟩, ⟨some 18, .mv (.t 69), none⟩]))
    (.seq (.seq (.keep [1, 3, 4, 5, 6, 8, 13, 14, 15, 16, 17, 18] (.drw [⟨some 70, .ld (some 7) (.t 6), none⟩, ⟨some 71, .call 13 [(.t 70)], none⟩, ⟨some 72, .ld (some 7) (.t 6), none⟩, ⟨some 73, .call 14 [(.t 72)], none⟩, ⟨some 74, .bin .neq (.t 71) (.t 73), none⟩, ⟨some 75, .mv (.t 74), none⟩, ⟨some 76, .mv (.t 15), some (75, false)⟩, ⟨some 77, .mv (.t 17), some (75, false)⟩, ⟨some 78, .bin .neq (.t 76) (.t 77), some (75, false)⟩, ⟨some 79, .pick (.t 75) (.c (.bool true)) (.t 78), none⟩, ⟨some 80, .mv (.t 79), none⟩, ⟨some 81, .mv (.t 16), some (80, false)⟩, ⟨some 82, .mv (.t 18), some (80, false)⟩, ⟨some 83, .bin .neq (.t 81) (.t 82), some (80, false)⟩, ⟨some 84, .pick (.t 80) (.c (.bool true)) (.t 83), none⟩] [1, 1, 1, 1, 0, 0, 0, 0, 0, 0, 0, 0, 0, 0, 0]))
    (.cond (.t 84)
      (.seq (.keep [] (.ops [⟨some 12, .mv (.c (.bool false)), none⟩]))
      .ret)
      .skip))
    (.seq (.keep [1, 3, 4, 5, 6, 8, 13, 14] (.ops [⟨some 86, .mv (.t 1), none⟩, ⟨some 87, .ld (some 1) (.t 13), none⟩, ⟨some 88, .mv (.t 3), none⟩, ⟨some 89, .mv (.t 14), none⟩, ⟨some 90, .mv (.t 4), none⟩, ⟨some 91, .call 15 [(.t 86), (.t 87), (.t 88), (.t 89), (.t 90)], none⟩, ⟨some 85, .mv (.t 91), none⟩, ⟨some 92, .ext (.t 85) 0, none⟩, ⟨some 93, .ext (.t 85) 1, none⟩, ⟨some 19, .alloc [.int .i64 0, .int .i64 0, .nils, .nils, .nils, .int .i64 0, .int .i64 0], none⟩, ⟨none, .st 7 (.t 19) (.t 92), none⟩, ⟨some 16, .mv (.t 93), none⟩]))
    (.seq (.keep [1, 3, 4, 5, 6, 8, 13, 14, 16, 19] (.ops [⟨some 95, .mv (.t 1), none⟩, ⟨some 96, .ld (some 1) (.t 8), none⟩, ⟨some 97, .mv (.t 3), none⟩, ⟨some 98, .fldA 4 (.t 6), none⟩, ⟨some 99, .ld (none) (.t 98), none⟩, ⟨some 100, .mv (.t 4), none⟩, ⟨some 101, .call 16 [(.t 95), (.t 96), (.t 97), (.t 99), (.t 100)], none⟩, ⟨some 94, .mv (.t 101), none⟩, ⟨some 102, .ext (.t 94) 0, none⟩, ⟨some 103, .ext (.t 94) 1, none⟩, ⟨some 20, .alloc [.int .i64 0, .int .i64 0, .nils, .nils, .nils, .int .i64 0, .int .i64 0], none⟩, ⟨none, .st 7 (.t 20) (.t 102), none⟩, ⟨some 18, .mv (.t 103), none⟩]))
    (.seq (.keep [1, 4, 5, 6, 8, 13, 14, 16, 18, 19, 20] (.ops [⟨some 105, .mv (.t 1), none⟩, ⟨some 106, .mv (.t 4), none⟩, ⟨some 107, .mv (.t 5), none⟩, ⟨some 108, .call 17 [(.t 105), (.t 106), (.t 107)], none⟩, ⟨some 104, .mv (.t 108), none⟩, ⟨some 109, .ext (.t 104) 0, none⟩, ⟨some 110, .ext (.t 104) 1, none⟩, ⟨some 21, .alloc [.int .i64 0, .int .i64 0, .nils, .nils, .nils, .int .i64 0, .int .i64 0], none⟩, ⟨none, .st 7 (.t 21) (.t 109), none⟩, ⟨some 22, .mv (.t 110), none⟩]))
    (.seq (.keep [1, 4, 5, 6, 8, 13, 14, 16, 18, 19, 20, 21, 22] (.ops [⟨some 112, .mv (.t 1), none⟩, ⟨some 113, .mv (.t 4), none⟩, ⟨some 114, .mv (.t 5), none⟩, ⟨some 115, .call 18 [(.t 112), (.t 113), (.t 114)], none⟩, ⟨some 111, .mv (.t 115), none⟩, ⟨some 116, .ext (.t 111) 0, none⟩, ⟨some 117, .ext (.t 111) 1, none⟩, ⟨some 23, .alloc [.int .i64 0, .int .i64 0, .nils, .nils, .nils, .int .i64 0, .int .i64 0], none⟩, ⟨none, .st 7 (.t 23) (.t 116), none⟩, ⟨some 24, .mv (.t 117), none⟩]))
    (.seq (.seq (.keep [6, 8, 13, 14, 16, 18, 19, 20, 21, 22, 23, 24] (.ops [⟨some 118, .ld (some 7) (.t 19), none⟩, ⟨some 119, .ld (some 7) (.t 20), none⟩, ⟨some 120, .call 19 [(.t 118), (.t 119)], none⟩, ⟨some 121, .un .not (.t 120), none⟩, ⟨some 122, .mv (.t 121), none⟩, ⟨some 123, .mv (.t 16), some (122, false)⟩, ⟨some 124, .mv (.t 18), some (122, false)⟩, ⟨some 125, .bin .neq (.t 123) (.t 124), some (122, false)⟩, ⟨some 126, .pick (.t 122) (.c (.bool true)) (.t 125), none⟩, ⟨some 127, .mv (.t 126), none⟩, ⟨some 128, .ld (some 7) (.t 21), some (127, false)⟩, ⟨some 129, .ld (some 7) (.t 23), some (127, false)⟩, ⟨some 130, .call 19 [(.t 128), (.t 129)], some (127, false)⟩, ⟨some 131, .un .not (.t 130), some (127, false)⟩, ⟨some 132, .pick (.t 127) (.c (.bool true)) (.t 131), none⟩, ⟨some 133, .mv (.t 132), none⟩, ⟨some 134, .mv (.t 22), some (133, false)⟩, ⟨some 135, .mv (.t 24), some (133, false)⟩, ⟨some 136, .bin .neq (.t 134) (.t 135), some (133, false)⟩, ⟨some 137, .pick (.t 133) (.c (.bool true)) (.t 136), none⟩, ⟨some 138, .mv (.t 137), none⟩, ⟨some 139, .ld (some 1) (.t 13), some (138, false)⟩, ⟨some 140, .ld (some 1) (.t 8), some (138, false)⟩, ⟨some 141, .call 20 [(.t 139), (.t 140)], some (138, false)⟩, ⟨some 142, .un .not (.t 141), some (138, false)⟩, ⟨some 143, .pick (.t 138) (.c (.bool true)) (.t 142), none⟩]))
    (.cond (.t 143)
      (.seq (.keep [] (.ops [⟨some 12, .mv (.c (.bool false)), none⟩]))
      .ret)
      .skip))
    (.seq (.seq (.keep [6, 14] (.ops [⟨some 25, .mv (.c (.int .i64 0)), none⟩]))
    (.block 0 (.loop (.seq (.seq (.keep [6, 14, 25] (.ops [⟨some 144, .mv (.t 25), none⟩, ⟨some 145, .mv (.t 14), none⟩, ⟨some 146, .len (.t 145), none⟩, ⟨some 147, .bin .lss (.t 144) (.t 146), none⟩]))
    (.cond (.t 147)
      .skip
      (.exit 0)))
    (.seq (.block 1 (.seq (.keep [6, 14, 25] (.drw [⟨some 150, .mv (.t 14), none⟩, ⟨some 151, .mv (.t 25), none⟩, ⟨some 152, .ixA 1 (.t 150) (.t 151), none⟩, ⟨some 153, .ld (none) (.t 152), none⟩, ⟨some 154, .fldA 4 (.t 6), none⟩, ⟨some 155, .ld (none) (.t 154), none⟩, ⟨some 156, .mv (.t 25), none⟩, ⟨some 157, .ixA 1 (.t 155) (.t 156), none⟩, ⟨some 158, .ld (none) (.t 157), none⟩, ⟨some 159, .bin .neq (.t 153) (.t 158), none⟩] [0, 0, 0, 1, 0, 1, 0, 0, 1, 0]))
    (.cond (.t 159)
      (.seq (.keep [] (.ops [⟨some 12, .mv (.c (.bool false)), none⟩]))
      .ret)
      .skip)))
    (.keep [6, 14, 25] (.ops [⟨some 148, .mv (.t 25), none⟩, ⟨some 149, .bin .add (.t 148) (.c (.int .i64 1)), none⟩, ⟨some 25, .mv (.t 149), none⟩])))))))
    (.seq (.keep [] (.ops [⟨some 160, .call 9 [], none⟩, ⟨some 12, .mv (.t 160), none⟩]))
    .ret))))))))))))), [.t 12], 161⟩
theorem b3 : fB Tryz.prog 3 c3 = true := by kernel_rfl
/-- partywall/partywalllaw17.MatchOrder -/
def c6 : CF := ⟨(.seq (.keep [0] (.ops [⟨some 2, .mv (.c (.bool false)), none⟩]))
    (.seq (.keep [0] (.ops [⟨some 15, .call 37 [], none⟩, ⟨some 3, .mv (.t 15), none⟩]))
    (.seq (.keep [0, 3] (.ops [⟨some 16, .mv (.t 0), none⟩, ⟨some 17, .call 38 [(.t 16), (.c (.int .i64 0))], none⟩, ⟨some 18, .mv (.t 0), none⟩, ⟨some 19, .call 38 [(.t 18), (.c (.int .i64 1))], none⟩, ⟨some 20, .mv (.t 0), none⟩, ⟨some 21, .call 38 [(.t 20), (.c (.int .i64 2))], none⟩, ⟨some 4, .alloc [.nils], none⟩, ⟨some 5, .alloc [.nils], none⟩, ⟨some 6, .alloc [.nils], none⟩, ⟨none, .st 1 (.t 4) (.t 17), none⟩, ⟨none, .st 1 (.t 5) (.t 19), none⟩, ⟨none, .st 1 (.t 6) (.t 21), none⟩]))
    (.seq (.keep [3, 4, 5, 6] (.ops [⟨some 23, .ld (some 1) (.t 4), none⟩, ⟨some 24, .ld (some 1) (.t 5), none⟩, ⟨some 25, .call 24 [(.t 23), (.t 24)], none⟩, ⟨some 22, .mv (.t 25), none⟩, ⟨some 26, .ext (.t 22) 0, none⟩, ⟨some 27, .ext (.t 22) 1, none⟩, ⟨some 7, .mv (.t 26), none⟩, ⟨some 8, .mv (.t 27), none⟩]))
    (.seq (.keep [3, 4, 5, 6, 7, 8] (.ops [⟨some 29, .ld (some 1) (.t 5), none⟩, ⟨some 30, .ld (some 1) (.t 6), none⟩, ⟨some 31, .call 24 [(.t 29), (.t 30)], none⟩, ⟨some 28, .mv (.t 31), none⟩, ⟨some 32, .ext (.t 28) 0, none⟩, ⟨some 33, .ext (.t 28) 1, none⟩, ⟨some 9, .mv (.t 32), none⟩, ⟨some 10, .mv (.t 33), none⟩]))
    (.seq (.keep [3, 4, 5, 6, 7, 8, 9, 10] (.ops [⟨some 35, .ld (some 1) (.t 4), none⟩, ⟨some 36, .ld (some 1) (.t 6), none⟩, ⟨some 37, .call 24 [(.t 35), (.t 36)], none⟩, ⟨some 34, .mv (.t 37), none⟩, ⟨some 38, .ext (.t 34) 0, none⟩, ⟨some 39, .ext (.t 34) 1, none⟩, ⟨some 11, .mv (.t 38), none⟩, ⟨some 12, .mv (.t 39), none⟩]))
    (.seq (.keep [3, 4, 5, 7, 8, 9, 10, 11, 12] (.ops [⟨some 41, .ld (some 1) (.t 5), none⟩, ⟨some 42, .ld (some 1) (.t 4), none⟩, ⟨some 43, .call 24 [(.t 41), (.t 42)], none⟩, ⟨some 40, .mv (.t 43), none⟩, ⟨some 44, .ext (.t 40) 0, none⟩, ⟨some 45, .ext (.t 40) 1, none⟩, ⟨some 13, .mv (.t 44), none⟩, ⟨some 14, .mv (.t 45), none⟩]))
    (.seq (.keep [3, 4, 5, 7, 8, 9, 10, 11, 12, 13, 14] (.ops [⟨some 46, .mv (.t 3), none⟩, ⟨some 47, .mv (.t 46), none⟩, ⟨some 48, .mv (.t 8), some (47, true)⟩, ⟨some 49, .bin .eql (.t 48) (.c (.int .i64 0)), some (47, true)⟩, ⟨some 50, .pick (.t 47) (.t 49) (.c (.bool false)), none⟩, ⟨some 51, .mv (.t 50), none⟩, ⟨some 52, .mv (.t 10), some (51, true)⟩, ⟨some 53, .bin .eql (.t 52) (.c (.int .i64 0)), some (51, true)⟩, ⟨some 54, .pick (.t 51) (.t 53) (.c (.bool false)), none⟩, ⟨some 55, .mv (.t 54), none⟩, ⟨some 56, .mv (.t 12), some (55, true)⟩, ⟨some 57, .bin .eql (.t 56) (.c (.int .i64 0)), some (55, true)⟩, ⟨some 58, .pick (.t 55) (.t 57) (.c (.bool false)), none⟩, ⟨some 59, .mv (.t 58), none⟩, ⟨some 60, .mv (.t 14), some (59, true)⟩, ⟨some 61, .bin .eql (.t 60) (.c (.int .i64 0)), some (59, true)⟩, ⟨some 62, .pick (.t 59) (.t 61) (.c (.bool false)), none⟩, ⟨some 63, .mv (.t 62), none⟩, ⟨some 64, .mv (.t 13), some (63, true)⟩, ⟨some 65, .mv (.t 7), some (63, true)⟩, ⟨some 66, .un .neg (.t 65), some (63, true)⟩, ⟨some 67, .bin .eql (.t 64) (.t 66), some (63, true)⟩, ⟨some 68, .pick (.t 63) (.t 67) (.c (.bool false)), none⟩, ⟨some 69, .mv (.t 68), none⟩, ⟨some 70, .mv (.t 7), some (69, true)⟩, ⟨some 71, .bin .eql (.t 70) (.c (.int .i64 0)), some (69, true)⟩, ⟨some 72, .ld (some 1) (.t 4), some (69, true)⟩, ⟨some 73, .ld (some 1) (.t 5), some (69, true)⟩, ⟨some 74, .call 20 [(.t 72), (.t 73)], some (69, true)⟩, ⟨some 75, .eqb false (.t 71) (.t 74), some (69, true)⟩, ⟨some 76, .pick (.t 69) (.t 75) (.c (.bool false)), none⟩, ⟨some 77, .mv (.t 76), none⟩, ⟨some 78, .mv (.t 7), some (77, true)⟩, ⟨some 79, .bin .gtr (.t 78) (.c (.int .i64 0)), some (77, true)⟩, ⟨some 80, .mv (.t 79), some (77, true)⟩, ⟨some 81, .mv (.t 9), some (80, false)⟩, ⟨some 82, .bin .gtr (.t 81) (.c (.int .i64 0)), some (80, false)⟩, ⟨some 83, .pick (.t 80) (.c (.bool true)) (.t 82), some (77, true)⟩, ⟨some 84, .mv (.t 83), some (77, true)⟩, ⟨some 85, .mv (.t 11), some (84, false)⟩, ⟨some 86, .bin .leq (.t 85) (.c (.int .i64 0)), some (84, false)⟩, ⟨some 87, .pick (.t 84) (.c (.bool true)) (.t 86), some (77, true)⟩, ⟨some 88, .pick (.t 77) (.t 87) (.c (.bool false)), none⟩, ⟨some 89, .mv (.t 88), none⟩, ⟨some 90, .mv (.t 7), some (89, true)⟩, ⟨some 91, .bin .geq (.t 90) (.c (.int .i64 0)), some (89, true)⟩, ⟨some 92, .mv (.t 91), some (89, true)⟩, ⟨some 93, .mv (.t 9), some (92, false)⟩, ⟨some 94, .bin .gtr (.t 93) (.c (.int .i64 0)), some (92, false)⟩, ⟨some 95, .pick (.t 92) (.c (.bool true)) (.t 94), some (89, true)⟩, ⟨some 96, .mv (.t 95), some (89, true)⟩, ⟨some 97, .mv (.t 11), some (96, false)⟩, ⟨some 98, .bin .lss (.t 97) (.c (.int .i64 0)), some (96, false)⟩, ⟨some 99, .pick (.t 96) (.c (.bool true)) (.t 98), some (89, true)⟩, ⟨some 100, .pick (.t 89) (.t 99) (.c (.bool false)), none⟩, ⟨some 2, .mv (.t 100), none⟩]))
    .ret)))))))), [.t 2], 101⟩
theorem b6 : fB Tryz.prog 6 c6 = true := by kernel_rfl
/-- partywall/partywalllaw17.awake -/
def c9 : CF := ⟨(.seq (.keep [] (.ops [⟨some 0, .mv (.c (.bool false)), none⟩]))
    (.seq (.keep [] (.ops [⟨some 6, .mkSl 1 2 [.int .i64 0, .int .i64 0] [(0, 1, (.c (.int .i64 1))), (1, 1, (.c (.int .i64 0)))], none⟩, ⟨some 7, .call 41 [(.t 6)], none⟩, ⟨some 8, .call 42 [], none⟩, ⟨some 9, .mkSl 1 2 [.int .i64 0, .int .i64 0] [(0, 1, (.c (.int .i64 5))), (1, 1, (.c (.int .i64 (-3))))], none⟩, ⟨some 10, .call 15 [(.c (.int .i64 2)), (.t 7), (.t 8), (.t 9), (.c (.int .i64 0))], none⟩, ⟨some 5, .mv (.t 10), none⟩, ⟨some 11, .ext (.t 5) 0, none⟩, ⟨some 12, .ext (.t 5) 1, none⟩, ⟨some 1, .alloc [.int .i64 0, .int .i64 0, .nils, .nils, .nils, .int .i64 0, .int .i64 0], none⟩, ⟨none, .st 7 (.t 1) (.t 11), none⟩, ⟨some 2, .mv (.t 12), none⟩]))
    (.seq (.keep [1, 2] (.ops [⟨some 14, .call 33 [(.c (.str [48, 58, 48, 32, 51, 58, 49]))], none⟩, ⟨some 13, .mv (.t 14), none⟩, ⟨some 15, .ext (.t 13) 0, none⟩, ⟨some 16, .ext (.t 13) 1, none⟩, ⟨some 3, .alloc [.nils], none⟩, ⟨none, .st 1 (.t 3) (.t 15), none⟩, ⟨some 4, .mv (.t 16), none⟩]))
    (.seq (.keep [1, 2, 3, 4] (.drw [⟨some 17, .mv (.t 2), none⟩, ⟨some 18, .bin .eql (.t 17) (.c (.int .i64 0)), none⟩, ⟨some 19, .mv (.t 18), none⟩, ⟨some 20, .ld (some 7) (.t 1), some (19, true)⟩, ⟨some 21, .call 43 [(.t 20), (.c (.str [102, 111, 117, 110, 100, 32, 50, 32, 123, 49, 125, 35, 55, 58, 48, 32, 61, 32, 53, 32, 45, 51]))], some (19, true)⟩, ⟨some 22, .pick (.t 19) (.t 21) (.c (.bool false)), none⟩, ⟨some 23, .mv (.t 22), none⟩, ⟨some 24, .mv (.t 4), some (23, true)⟩, ⟨some 25, .bin .eql (.t 24) (.c (.int .i64 0)), some (23, true)⟩, ⟨some 26, .pick (.t 23) (.t 25) (.c (.bool false)), none⟩, ⟨some 27, .mv (.t 26), none⟩, ⟨some 28, .ld (some 1) (.t 3), some (27, true)⟩, ⟨some 29, .mkSl 1 4 [.int .i64 0, .int .i64 0, .int .i64 0, .int .i64 0] [(0, 1, (.c (.int .i64 0))), (1, 1, (.c (.int .i64 0))), (2, 1, (.c (.int .i64 3))), (3, 1, (.c (.int .i64 1)))], some (27, true)⟩, ⟨some 30, .call 41 [(.t 29)], some (27, true)⟩, ⟨some 31, .call 20 [(.t 28), (.t 30)], some (27, true)⟩, ⟨some 32, .pick (.t 27) (.t 31) (.c (.bool false)), none⟩, ⟨some 33, .mv (.t 32), none⟩, ⟨some 34, .mkSl 1 4 [.int .i64 0, .int .i64 0, .int .i64 0, .int .i64 0] [(0, 1, (.c (.int .i64 0))), (1, 1, (.c (.int .i64 0))), (2, 1, (.c (.int .i64 3))), (3, 1, (.c (.int .i64 1)))], some (33, true)⟩, ⟨some 35, .call 41 [(.t 34)], some (33, true)⟩, ⟨some 36, .mkSl 1 4 [.int .i64 0, .int .i64 0, .int .i64 0, .int .i64 0] [(0, 1, (.c (.int .i64 1))), (1, 1, (.c (.int .i64 0))), (2, 1, (.c (.int .i64 2))), (3, 1, (.c (.int .i64 1)))], some (33, true)⟩, ⟨some 37, .call 41 [(.t 36)], some (33, true)⟩, ⟨some 38, .call 44 [(.t 35), (.t 37), (.c (.int .i64 1))], some (33, true)⟩, ⟨some 39, .pick (.t 33) (.t 38) (.c (.bool false)), none⟩, ⟨some 40, .mv (.t 39), none⟩, ⟨some 41, .mkSl 1 2 [.int .i64 0, .int .i64 0] [(0, 1, (.c (.int .i64 0))), (1, 1, (.c (.int .i64 0)))], some (40, true)⟩, ⟨some 42, .call 41 [(.t 41)], some (40, true)⟩, ⟨some 43, .mkSl 1 2 [.int .i64 0, .int .i64 0] [(0, 1, (.c (.int .i64 0))), (1, 1, (.c (.int .i64 1)))], some (40, true)⟩, ⟨some 44, .call 41 [(.t 43)], some (40, true)⟩, ⟨some 45, .call 44 [(.t 42), (.t 44), (.c (.int .i64 (-1)))], some (40, true)⟩, ⟨some 46, .pick (.t 40) (.t 45) (.c (.bool false)), none⟩, ⟨some 0, .mv (.t 46), none⟩] [0, 0, 0, 1, 1, 0, 0, 0, 0, 0, 0, 1, 0, 1, 1, 0, 0, 0, 1, 0, 1, 1, 0, 0, 0, 1, 0, 1, 1, 0, 0]))
    .ret)))), [.t 0], 47⟩
theorem b9 : fB Tryz.prog 9 c9 = true := by kernel_rfl
/-- partywall/partywallkit.OwnMatch -/
def c10 : CF := ⟨(.seq (.keep [0] (.ops [⟨some 1, .box 1 (.t 0), none⟩, ⟨some 2, .alloc [.nils], none⟩]))
    (.seq (.keep [1, 2] (.ops [⟨some 3, .mkSl 2 0 [] [], none⟩, ⟨some 4, .fldA 0 (.t 1), none⟩, ⟨some 5, .ld (none) (.t 4), none⟩, ⟨some 6, .app true 70 2 16 (.t 3) (.t 5), none⟩, ⟨some 7, .bld [.nils] [(0, 1, (.t 6))], none⟩, ⟨none, .st 1 (.t 2) (.t 7), none⟩]))
    .ret)), [.cl 2 (some 1)], 8⟩
theorem b10 : fB Tryz.prog 10 c10 = true := by kernel_rfl
/-- partywall/match.ItemText -/
def c11 : CF := ⟨(.seq (.keep [0] (.ops [⟨some 1, .box 7 (.t 0), none⟩, ⟨some 2, .mv (.c (.str [])), none⟩, ⟨some 3, .mv (.c (.int .i64 0)), none⟩]))
    (.seq (.seq (.keep [1] (.ops [⟨some 10, .ld (some 7) (.t 1), none⟩, ⟨some 11, .call 13 [(.t 10)], none⟩, ⟨some 4, .mv (.t 11), none⟩]))
    (.seq (.keep [1, 4] (.ops [⟨some 12, .mv (.t 4), none⟩, ⟨some 13, .bin .neq (.t 12) (.c (.int .i64 0)), none⟩]))
    (.cond (.t 13)
      (.seq (.keep [4] (.ops [⟨some 14, .mv (.t 4), none⟩, ⟨some 2, .mv (.c (.str [])), none⟩, ⟨some 3, .mv (.t 14), none⟩]))
      .ret)
      .skip)))
    (.seq (.seq (.keep [1] (.ops [⟨some 15, .fldA 0 (.t 1), none⟩, ⟨some 16, .ld (none) (.t 15), none⟩, ⟨some 17, .bin .eql (.t 16) (.c (.int .i64 2)), none⟩]))
    (.cond (.t 17)
      (.seq (.keep [1] (.ops [⟨some 18, .mkI 9 (.c (.str [110, 111, 116, 105, 99, 101])), none⟩, ⟨some 19, .fldA 1 (.t 1), none⟩, ⟨some 20, .ld (none) (.t 19), none⟩, ⟨some 21, .mkI 3 (.t 20), none⟩, ⟨some 22, .fldA 5 (.t 1), none⟩, ⟨some 23, .ld (none) (.t 22), none⟩, ⟨some 24, .mkI 25 (.t 23), none⟩, ⟨some 25, .fldA 6 (.t 1), none⟩, ⟨some 26, .ld (none) (.t 25), none⟩, ⟨some 27, .mkI 3 (.t 26), none⟩, ⟨some 28, .mkSl 1 4 [.nili, .nili, .nili, .nili] [(0, 1, (.t 18)), (1, 1, (.t 21)), (2, 1, (.t 24)), (3, 1, (.t 27))], none⟩, ⟨some 29, .call 45 [(.t 28)], none⟩, ⟨some 2, .mv (.t 29), none⟩, ⟨some 3, .mv (.c (.int .i64 0)), none⟩]))
      .ret)
      .skip))
    (.seq (.keep [1] (.ops [⟨some 30, .mkI 9 (.c (.str [102, 111, 117, 110, 100])), none⟩, ⟨some 31, .fldA 1 (.t 1), none⟩, ⟨some 32, .ld (none) (.t 31), none⟩, ⟨some 33, .mkI 3 (.t 32), none⟩, ⟨some 34, .mkT 20 1 2 [.nili, .nili] [(0, 1, (.t 30)), (1, 1, (.t 33))], none⟩, ⟨some 5, .mv (.t 34), none⟩]))
    (.seq (.seq (.keep [1, 5] (.ops [⟨some 35, .fldA 2 (.t 1), none⟩, ⟨some 36, .ld (none) (.t 35), none⟩, ⟨some 37, .len (.t 36), none⟩, ⟨some 38, .mv (.c (.int .i64 0)), none⟩]))
    (.block 0 (.loop (.seq (.keep [1, 5, 36, 37, 38] (.ops [⟨some 39, .bin .lss (.t 38) (.t 37), none⟩]))
    (.seq (.cond (.t 39)
      .skip
      (.exit 0))
    (.seq (.block 1 (.seq (.keep [1, 5, 36, 37, 38] (.ops [⟨some 40, .mv (.t 38), none⟩, ⟨some 41, .ixA 2 (.t 36) (.t 38), none⟩, ⟨some 42, .ld (some 2) (.t 41), none⟩, ⟨some 7, .alloc [.int .u64 0, .int .u64 0], none⟩, ⟨some 6, .mv (.t 40), none⟩, ⟨none, .st 2 (.t 7) (.t 42), none⟩]))
    (.keep [1, 5, 6, 7, 36, 37, 38] (.drw [⟨some 43, .mv (.t 5), none⟩, ⟨some 44, .fldA 0 (.t 7), none⟩, ⟨some 45, .ld (none) (.t 44), none⟩, ⟨some 46, .call 46 [(.t 45)], none⟩, ⟨some 47, .bin .add (.t 46) (.c (.str [35])), none⟩, ⟨some 48, .fldA 1 (.t 7), none⟩, ⟨some 49, .ld (none) (.t 48), none⟩, ⟨some 50, .cnv .i64 (.t 49), none⟩, ⟨some 51, .call 47 [(.t 50)], none⟩, ⟨some 52, .bin .add (.t 47) (.t 51), none⟩, ⟨some 53, .bin .add (.t 52) (.c (.str [58])), none⟩, ⟨some 54, .fldA 3 (.t 1), none⟩, ⟨some 55, .ld (none) (.t 54), none⟩, ⟨some 56, .mv (.t 6), none⟩, ⟨some 57, .ixA 1 (.t 55) (.t 56), none⟩, ⟨some 58, .ld (none) (.t 57), none⟩, ⟨some 59, .call 47 [(.t 58)], none⟩, ⟨some 60, .bin .add (.t 53) (.t 59), none⟩, ⟨some 61, .mkI 9 (.t 60), none⟩, ⟨some 62, .mkSl 1 1 [.nili] [(0, 1, (.t 61))], none⟩, ⟨some 63, .app true 20 1 16 (.t 43) (.t 62), none⟩, ⟨some 5, .mv (.t 63), none⟩] [0, 0, 1, 1, 0, 0, 1, 0, 1, 0, 0, 0, 1, 0, 0, 1, 1, 0, 0, 0, 4, 0]))))
    (.keep [1, 5, 36, 37, 38] (.ops [⟨some 64, .bin .add (.t 38) (.c (.int .i64 1)), none⟩, ⟨some 38, .mv (.t 64), none⟩]))))))))
    (.seq (.seq (.keep [1, 5] (.ops [⟨some 65, .fldA 5 (.t 1), none⟩, ⟨some 66, .ld (none) (.t 65), none⟩, ⟨some 67, .bin .neq (.t 66) (.c (.int .i64 0)), none⟩]))
    (.cond (.t 67)
      (.keep [1, 5] (.ops [⟨some 68, .mv (.t 5), none⟩, ⟨some 69, .mkI 9 (.c (.str [33])), none⟩, ⟨some 70, .fldA 5 (.t 1), none⟩, ⟨some 71, .ld (none) (.t 70), none⟩, ⟨some 72, .mkI 25 (.t 71), none⟩, ⟨some 73, .mkSl 1 2 [.nili, .nili] [(0, 1, (.t 69)), (1, 1, (.t 72))], none⟩, ⟨some 74, .app true 20 1 16 (.t 68) (.t 73), none⟩, ⟨some 5, .mv (.t 74), none⟩]))
      (.seq (.keep [1, 5] (.ops [⟨some 75, .fldA 4 (.t 1), none⟩, ⟨some 76, .ld (none) (.t 75), none⟩, ⟨some 77, .len (.t 76), none⟩, ⟨some 78, .bin .gtr (.t 77) (.c (.int .i64 0)), none⟩]))
      (.cond (.t 78)
        (.seq (.keep [1, 5] (.ops [⟨some 79, .mv (.t 5), none⟩, ⟨some 80, .mkI 9 (.c (.str [61])), none⟩, ⟨some 81, .mkSl 1 1 [.nili] [(0, 1, (.t 80))], none⟩, ⟨some 82, .app true 20 1 16 (.t 79) (.t 81), none⟩, ⟨some 5, .mv (.t 82), none⟩]))
        (.seq (.keep [1, 5] (.ops [⟨some 83, .fldA 4 (.t 1), none⟩, ⟨some 84, .ld (none) (.t 83), none⟩, ⟨some 85, .len (.t 84), none⟩, ⟨some 86, .mv (.c (.int .i64 0)), none⟩]))
        (.block 2 (.loop (.seq (.keep [5, 84, 85, 86] (.ops [⟨some 87, .bin .lss (.t 86) (.t 85), none⟩]))
        (.seq (.cond (.t 87)
          .skip
          (.exit 2))
        (.seq (.block 3 (.seq (.keep [5, 84, 85, 86] (.ops [⟨some 88, .ixA 1 (.t 84) (.t 86), none⟩, ⟨some 89, .ld (none) (.t 88), none⟩, ⟨some 9, .mv (.t 89), none⟩]))
        (.keep [5, 9, 84, 85, 86] (.ops [⟨some 90, .mv (.t 5), none⟩, ⟨some 91, .mv (.t 9), none⟩, ⟨some 92, .mkI 2 (.t 91), none⟩, ⟨some 93, .mkSl 1 1 [.nili] [(0, 1, (.t 92))], none⟩, ⟨some 94, .app true 20 1 16 (.t 90) (.t 93), none⟩, ⟨some 5, .mv (.t 94), none⟩]))))
        (.keep [5, 84, 85, 86] (.ops [⟨some 95, .bin .add (.t 86) (.c (.int .i64 1)), none⟩, ⟨some 86, .mv (.t 95), none⟩])))))))))
        .skip))))
    (.seq (.keep [5] (.ops [⟨some 96, .mv (.t 5), none⟩, ⟨some 97, .call 45 [(.t 96)], none⟩, ⟨some 2, .mv (.t 97), none⟩, ⟨some 3, .mv (.c (.int .i64 0)), none⟩]))
    .ret))))))), [.t 2, .t 3], 98⟩
theorem b11 : fB Tryz.prog 11 c11 = true := by kernel_rfl
/-- partywall/partywallref17.ItemText -/
def c12 : CF := ⟨(.seq (.keep [0] (.ops [⟨some 1, .box 7 (.t 0), none⟩, ⟨some 2, .mv (.c (.str [])), none⟩, ⟨some 3, .mv (.c (.int .i64 0)), none⟩]))
    (.seq (.keep [1] (.ops [⟨some 8, .ld (some 7) (.t 1), none⟩, ⟨some 9, .call 14 [(.t 8)], none⟩, ⟨some 4, .mv (.t 9), none⟩]))
    (.seq (.seq (.keep [1, 4] (.ops [⟨some 10, .mv (.t 4), none⟩, ⟨some 11, .bin .neq (.t 10) (.c (.int .i64 0)), none⟩]))
    (.cond (.t 11)
      (.seq (.keep [4] (.ops [⟨some 12, .mv (.t 4), none⟩, ⟨some 2, .mv (.c (.str [])), none⟩, ⟨some 3, .mv (.t 12), none⟩]))
      .ret)
      .skip))
    (.seq (.seq (.keep [1] (.ops [⟨some 13, .fldA 0 (.t 1), none⟩, ⟨some 14, .ld (none) (.t 13), none⟩, ⟨some 15, .bin .eql (.t 14) (.c (.int .i64 2)), none⟩]))
    (.cond (.t 15)
      (.seq (.keep [1] (.drw [⟨some 16, .fldA 1 (.t 1), none⟩, ⟨some 17, .ld (none) (.t 16), none⟩, ⟨some 18, .call 48 [(.t 17)], none⟩, ⟨some 19, .bin .add (.c (.str [110, 111, 116, 105, 99, 101, 32])) (.t 18), none⟩, ⟨some 20, .bin .add (.t 19) (.c (.str [32])), none⟩, ⟨some 21, .fldA 5 (.t 1), none⟩, ⟨some 22, .ld (none) (.t 21), none⟩, ⟨some 23, .call 49 [(.t 22)], none⟩, ⟨some 24, .bin .add (.t 20) (.t 23), none⟩, ⟨some 25, .bin .add (.t 24) (.c (.str [32])), none⟩, ⟨some 26, .fldA 6 (.t 1), none⟩, ⟨some 27, .ld (none) (.t 26), none⟩, ⟨some 28, .call 48 [(.t 27)], none⟩, ⟨some 29, .bin .add (.t 25) (.t 28), none⟩, ⟨some 2, .mv (.t 29), none⟩, ⟨some 3, .mv (.c (.int .i64 0)), none⟩] [0, 1, 1, 0, 0, 0, 1, 1, 0, 0, 0, 1, 1, 0, 0, 0]))
      .ret)
      .skip))
    (.seq (.keep [1] (.ops [⟨some 30, .fldA 1 (.t 1), none⟩, ⟨some 31, .ld (none) (.t 30), none⟩, ⟨some 32, .call 48 [(.t 31)], none⟩, ⟨some 33, .bin .add (.c (.str [102, 111, 117, 110, 100, 32])) (.t 32), none⟩, ⟨some 5, .mv (.t 33), none⟩]))
    (.seq (.seq (.keep [1, 5] (.ops [⟨some 6, .mv (.c (.int .i64 0)), none⟩]))
    (.block 0 (.loop (.seq (.seq (.keep [1, 5, 6] (.ops [⟨some 34, .mv (.t 6), none⟩, ⟨some 35, .fldA 2 (.t 1), none⟩, ⟨some 36, .ld (none) (.t 35), none⟩, ⟨some 37, .len (.t 36), none⟩, ⟨some 38, .bin .lss (.t 34) (.t 37), none⟩]))
    (.cond (.t 38)
      .skip
      (.exit 0)))
    (.seq (.block 1 (.keep [1, 5, 6] (.drw [⟨some 41, .mv (.t 5), none⟩, ⟨some 42, .bin .add (.t 41) (.c (.str [32])), none⟩, ⟨some 43, .fldA 2 (.t 1), none⟩, ⟨some 44, .ld (none) (.t 43), none⟩, ⟨some 45, .mv (.t 6), none⟩, ⟨some 46, .ixA 2 (.t 44) (.t 45), none⟩, ⟨some 47, .fldA 0 (.t 46), none⟩, ⟨some 48, .ld (none) (.t 47), none⟩, ⟨some 49, .call 50 [(.t 48)], none⟩, ⟨some 50, .bin .add (.t 42) (.t 49), none⟩, ⟨some 51, .bin .add (.t 50) (.c (.str [35])), none⟩, ⟨some 52, .fldA 2 (.t 1), none⟩, ⟨some 53, .ld (none) (.t 52), none⟩, ⟨some 54, .mv (.t 6), none⟩, ⟨some 55, .ixA 2 (.t 53) (.t 54), none⟩, ⟨some 56, .fldA 1 (.t 55), none⟩, ⟨some 57, .ld (none) (.t 56), none⟩, ⟨some 58, .cnv .i64 (.t 57), none⟩, ⟨some 59, .call 48 [(.t 58)], none⟩, ⟨some 60, .bin .add (.t 51) (.t 59), none⟩, ⟨some 61, .bin .add (.t 60) (.c (.str [58])), none⟩, ⟨some 62, .fldA 3 (.t 1), none⟩, ⟨some 63, .ld (none) (.t 62), none⟩, ⟨some 64, .mv (.t 6), none⟩, ⟨some 65, .ixA 1 (.t 63) (.t 64), none⟩, ⟨some 66, .ld (none) (.t 65), none⟩, ⟨some 67, .call 48 [(.t 66)], none⟩, ⟨some 68, .bin .add (.t 61) (.t 67), none⟩, ⟨some 5, .mv (.t 68), none⟩] [0, 0, 0, 1, 0, 0, 0, 1, 1, 0, 0, 0, 1, 0, 0, 0, 1, 0, 1, 0, 0, 0, 1, 0, 0, 1, 1, 0, 0])))
    (.keep [1, 5, 6] (.ops [⟨some 39, .mv (.t 6), none⟩, ⟨some 40, .bin .add (.t 39) (.c (.int .i64 1)), none⟩, ⟨some 6, .mv (.t 40), none⟩])))))))
    (.seq (.seq (.keep [1, 5] (.ops [⟨some 69, .fldA 5 (.t 1), none⟩, ⟨some 70, .ld (none) (.t 69), none⟩, ⟨some 71, .bin .neq (.t 70) (.c (.int .i64 0)), none⟩]))
    (.cond (.t 71)
      (.seq (.keep [1, 5] (.ops [⟨some 72, .mv (.t 5), none⟩, ⟨some 73, .bin .add (.t 72) (.c (.str [32, 33, 32])), none⟩, ⟨some 74, .fldA 5 (.t 1), none⟩, ⟨some 75, .ld (none) (.t 74), none⟩, ⟨some 76, .call 49 [(.t 75)], none⟩, ⟨some 77, .bin .add (.t 73) (.t 76), none⟩, ⟨some 2, .mv (.t 77), none⟩, ⟨some 3, .mv (.c (.int .i64 0)), none⟩]))
      .ret)
      .skip))
    (.seq (.seq (.keep [1, 5] (.ops [⟨some 78, .fldA 4 (.t 1), none⟩, ⟨some 79, .ld (none) (.t 78), none⟩, ⟨some 80, .len (.t 79), none⟩, ⟨some 81, .bin .gtr (.t 80) (.c (.int .i64 0)), none⟩]))
    (.cond (.t 81)
      (.keep [1, 5] (.ops [⟨some 82, .mv (.t 5), none⟩, ⟨some 83, .bin .add (.t 82) (.c (.str [32, 61])), none⟩, ⟨some 5, .mv (.t 83), none⟩]))
      .skip))
    (.seq (.seq (.keep [1, 5] (.ops [⟨some 7, .mv (.c (.int .i64 0)), none⟩]))
    (.block 2 (.loop (.seq (.seq (.keep [1, 5, 7] (.ops [⟨some 84, .mv (.t 7), none⟩, ⟨some 85, .fldA 4 (.t 1), none⟩, ⟨some 86, .ld (none) (.t 85), none⟩, ⟨some 87, .len (.t 86), none⟩, ⟨some 88, .bin .lss (.t 84) (.t 87), none⟩]))
    (.cond (.t 88)
      .skip
      (.exit 2)))
    (.seq (.block 3 (.keep [1, 5, 7] (.ops [⟨some 91, .mv (.t 5), none⟩, ⟨some 92, .bin .add (.t 91) (.c (.str [32])), none⟩, ⟨some 93, .fldA 4 (.t 1), none⟩, ⟨some 94, .ld (none) (.t 93), none⟩, ⟨some 95, .mv (.t 7), none⟩, ⟨some 96, .ixA 1 (.t 94) (.t 95), none⟩, ⟨some 97, .ld (none) (.t 96), none⟩, ⟨some 98, .call 51 [(.t 97)], none⟩, ⟨some 99, .bin .add (.t 92) (.t 98), none⟩, ⟨some 5, .mv (.t 99), none⟩])))
    (.keep [1, 5, 7] (.ops [⟨some 89, .mv (.t 7), none⟩, ⟨some 90, .bin .add (.t 89) (.c (.int .i64 1)), none⟩, ⟨some 7, .mv (.t 90), none⟩])))))))
    (.seq (.keep [5] (.ops [⟨some 100, .mv (.t 5), none⟩, ⟨some 2, .mv (.t 100), none⟩, ⟨some 3, .mv (.c (.int .i64 0)), none⟩]))
    .ret)))))))))), [.t 2, .t 3], 101⟩
theorem b12 : fB Tryz.prog 12 c12 = true := by kernel_rfl
/-- partywall/match.Right -/
def c13 : CF := ⟨(.seq (.keep [0] (.ops [⟨some 1, .box 7 (.t 0), none⟩, ⟨some 2, .mv (.c (.int .i64 0)), none⟩]))
    (.seq (.seq (.keep [1] (.ops [⟨some 3, .fldA 0 (.t 1), none⟩, ⟨some 4, .ld (none) (.t 3), none⟩]))
    (.block 0 (.seq (.keep [1, 4] (.ops [⟨some 6, .bin .eql (.t 4) (.c (.int .i64 1)), none⟩, ⟨some 5, .mv (.t 6), none⟩]))
    (.cond (.t 5)
      (.seq (.keep [1] (.ops [⟨some 7, .ld (some 7) (.t 1), none⟩, ⟨some 8, .call 52 [(.t 7)], none⟩, ⟨some 2, .mv (.t 8), none⟩]))
      .ret)
      (.seq (.keep [1, 4] (.ops [⟨some 10, .bin .eql (.t 4) (.c (.int .i64 2)), none⟩, ⟨some 9, .mv (.t 10), none⟩]))
      (.cond (.t 9)
        (.seq (.keep [1] (.ops [⟨some 11, .ld (some 7) (.t 1), none⟩, ⟨some 12, .call 53 [(.t 11)], none⟩, ⟨some 2, .mv (.t 12), none⟩]))
        .ret)
        .skip))))))
    (.seq (.keep [] (.ops [⟨some 2, .mv (.c (.int .i64 11)), none⟩]))
    .ret))), [.t 2], 13⟩
theorem b13 : fB Tryz.prog 13 c13 = true := by kernel_rfl
/-- partywall/partywallref17.Right -/
def c14 : CF := ⟨(.seq (.keep [0] (.ops [⟨some 1, .box 7 (.t 0), none⟩, ⟨some 2, .mv (.c (.int .i64 0)), none⟩]))
    (.seq (.seq (.keep [1] (.ops [⟨some 3, .fldA 0 (.t 1), none⟩, ⟨some 4, .ld (none) (.t 3), none⟩]))
    (.block 0 (.seq (.keep [1, 4] (.ops [⟨some 6, .bin .eql (.t 4) (.c (.int .i64 1)), none⟩, ⟨some 5, .mv (.t 6), none⟩]))
    (.cond (.t 5)
      (.seq (.keep [1] (.ops [⟨some 7, .ld (some 7) (.t 1), none⟩, ⟨some 8, .call 54 [(.t 7)], none⟩, ⟨some 2, .mv (.t 8), none⟩]))
      .ret)
      (.seq (.keep [1, 4] (.ops [⟨some 10, .bin .eql (.t 4) (.c (.int .i64 2)), none⟩, ⟨some 9, .mv (.t 10), none⟩]))
      (.cond (.t 9)
        (.seq (.keep [1] (.ops [⟨some 11, .ld (some 7) (.t 1), none⟩, ⟨some 12, .call 55 [(.t 11)], none⟩, ⟨some 2, .mv (.t 12), none⟩]))
        .ret)
        .skip))))))
    (.seq (.keep [] (.ops [⟨some 2, .mv (.c (.int .i64 11)), none⟩]))
    .ret))), [.t 2], 13⟩
theorem b14 : fB Tryz.prog 14 c14 = true := by kernel_rfl
/-- partywall/match.Found -/
def c15 : CF := ⟨(.seq (.keep [0, 1, 2, 3, 4] (.ops [⟨some 6, .box 1 (.t 1), none⟩, ⟨some 10, .alloc [.int .i64 0, .int .i64 0, .nils, .nils, .nils, .int .i64 0, .int .i64 0], none⟩, ⟨some 11, .mv (.c (.int .i64 0)), none⟩]))
    (.seq (.seq (.keep [0, 2, 3, 4, 6, 10] (.ops [⟨some 17, .ld (some 1) (.t 6), none⟩, ⟨some 18, .call 31 [(.t 17)], none⟩, ⟨some 12, .mv (.t 18), none⟩]))
    (.seq (.keep [0, 2, 3, 4, 6, 10, 12] (.ops [⟨some 19, .mv (.t 12), none⟩, ⟨some 20, .bin .neq (.t 19) (.c (.int .i64 0)), none⟩]))
    (.cond (.t 20)
      (.seq (.keep [10, 12] (.ops [⟨some 21, .bld [.int .i64 0, .int .i64 0, .nils, .nils, .nils, .int .i64 0, .int .i64 0] [], none⟩, ⟨some 22, .mv (.t 12), none⟩, ⟨none, .st 7 (.t 10) (.t 21), none⟩, ⟨some 11, .mv (.t 22), none⟩]))
      .ret)
      .skip)))
    (.seq (.keep [0, 2, 3, 4, 6, 10] (.ops [⟨some 23, .mv (.t 0), none⟩, ⟨some 24, .ld (some 1) (.t 6), none⟩, ⟨some 25, .call 56 [(.t 24), (.f 57)], none⟩, ⟨some 26, .mv (.t 4), none⟩, ⟨some 27, .bld [.int .i64 0, .int .i64 0, .nils, .nils, .nils, .int .i64 0, .int .i64 0] [(0, 1, (.c (.int .i64 1))), (1, 1, (.t 23)), (3, 1, (.t 25)), (5, 1, (.t 26))], none⟩, ⟨some 13, .alloc [.int .i64 0, .int .i64 0, .nils, .nils, .nils, .int .i64 0, .int .i64 0], none⟩, ⟨none, .st 7 (.t 13) (.t 27), none⟩]))
    (.seq (.seq (.keep [2, 3, 4, 6, 10, 13] (.ops [⟨some 28, .fldA 0 (.t 6), none⟩, ⟨some 29, .ld (none) (.t 28), none⟩, ⟨some 30, .len (.t 29), none⟩, ⟨some 31, .mv (.c (.int .i64 0)), none⟩]))
    (.block 0 (.loop (.seq (.keep [2, 3, 4, 10, 13, 29, 30, 31] (.ops [⟨some 32, .bin .lss (.t 31) (.t 30), none⟩]))
    (.seq (.cond (.t 32)
      .skip
      (.exit 0))
    (.seq (.block 1 (.seq (.keep [2, 3, 4, 10, 13, 29, 30, 31] (.ops [⟨some 33, .ixA 2 (.t 29) (.t 31), none⟩, ⟨some 34, .ld (some 2) (.t 33), none⟩, ⟨some 15, .alloc [.int .i64 0, .int .i64 0], none⟩, ⟨none, .st 2 (.t 15) (.t 34), none⟩]))
    (.seq (.seq (.keep [2, 3, 4, 10, 13, 15, 29, 30, 31] (.ops [⟨some 35, .fldA 0 (.t 15), none⟩, ⟨some 36, .ld (none) (.t 35), none⟩, ⟨some 37, .mv (.t 2), none⟩, ⟨some 38, .len (.t 37), none⟩, ⟨some 39, .bin .geq (.t 36) (.t 38), none⟩]))
    (.cond (.t 39)
      (.seq (.keep [10] (.ops [⟨some 40, .bld [.int .i64 0, .int .i64 0, .nils, .nils, .nils, .int .i64 0, .int .i64 0] [], none⟩, ⟨none, .st 7 (.t 10) (.t 40), none⟩, ⟨some 11, .mv (.c (.int .i64 2)), none⟩]))
      .ret)
      .skip))
    (.keep [2, 3, 4, 10, 13, 15, 29, 30, 31] (.drw [⟨some 41, .fldA 2 (.t 13), none⟩, ⟨some 42, .ld (none) (.t 41), none⟩, ⟨some 43, .mv (.t 2), none⟩, ⟨some 44, .fldA 0 (.t 15), none⟩, ⟨some 45, .ld (none) (.t 44), none⟩, ⟨some 46, .ixA 6 (.t 43) (.t 45), none⟩, ⟨some 47, .fldA 0 (.t 46), none⟩, ⟨some 48, .ld (some 2) (.t 47), none⟩, ⟨some 49, .mkSl 2 1 [.int .u64 0, .int .u64 0] [(0, 2, (.t 48))], none⟩, ⟨some 50, .app true 63 2 16 (.t 42) (.t 49), none⟩, ⟨some 51, .fldA 2 (.t 13), none⟩, ⟨none, .st 1 (.t 51) (.t 50), none⟩] [0, 1, 0, 0, 1, 0, 0, 1, 0, 4, 0, 2])))))
    (.keep [2, 3, 4, 10, 13, 29, 30, 31] (.ops [⟨some 52, .bin .add (.t 31) (.c (.int .i64 1)), none⟩, ⟨some 31, .mv (.t 52), none⟩]))))))))
    (.seq (.seq (.keep [3, 4, 10, 13] (.ops [⟨some 53, .mv (.t 4), none⟩, ⟨some 54, .bin .eql (.t 53) (.c (.int .i64 0)), none⟩]))
    (.cond (.t 54)
      (.keep [3, 10, 13] (.ops [⟨some 55, .mv (.t 3), none⟩, ⟨some 56, .call 58 [(.t 55)], none⟩, ⟨some 57, .fldA 4 (.t 13), none⟩, ⟨none, .st 1 (.t 57) (.t 56), none⟩]))
      .skip))
    (.seq (.seq (.keep [10, 13] (.ops [⟨some 58, .ld (some 7) (.t 13), none⟩, ⟨some 59, .call 13 [(.t 58)], none⟩, ⟨some 16, .mv (.t 59), none⟩]))
    (.seq (.keep [10, 13, 16] (.ops [⟨some 60, .mv (.t 16), none⟩, ⟨some 61, .bin .neq (.t 60) (.c (.int .i64 0)), none⟩]))
    (.cond (.t 61)
      (.seq (.keep [10, 16] (.ops [⟨some 62, .bld [.int .i64 0, .int .i64 0, .nils, .nils, .nils, .int .i64 0, .int .i64 0] [], none⟩, ⟨some 63, .mv (.t 16), none⟩, ⟨none, .st 7 (.t 10) (.t 62), none⟩, ⟨some 11, .mv (.t 63), none⟩]))
      .ret)
      .skip)))
    (.seq (.keep [10, 13] (.ops [⟨some 64, .ld (some 7) (.t 13), none⟩, ⟨none, .st 7 (.t 10) (.t 64), none⟩, ⟨some 11, .mv (.c (.int .i64 0)), none⟩]))
    .ret))))))), [.cl 10 (some 7), .t 11], 65⟩
theorem b15 : fB Tryz.prog 15 c15 = true := by kernel_rfl
/-- partywall/partywallref17.Found -/
def c16 : CF := ⟨(.seq (.keep [0, 1, 2, 3, 4] (.ops [⟨some 6, .box 1 (.t 1), none⟩, ⟨some 10, .alloc [.int .i64 0, .int .i64 0, .nils, .nils, .nils, .int .i64 0, .int .i64 0], none⟩, ⟨some 11, .mv (.c (.int .i64 0)), none⟩]))
    (.seq (.keep [0, 2, 3, 4, 6, 10] (.ops [⟨some 15, .ld (some 1) (.t 6), none⟩, ⟨some 16, .call 32 [(.t 15)], none⟩, ⟨some 12, .mv (.t 16), none⟩]))
    (.seq (.seq (.keep [0, 2, 3, 4, 6, 10, 12] (.ops [⟨some 17, .mv (.t 12), none⟩, ⟨some 18, .bin .neq (.t 17) (.c (.int .i64 0)), none⟩]))
    (.cond (.t 18)
      (.seq (.keep [10, 12] (.ops [⟨some 19, .bld [.int .i64 0, .int .i64 0, .nils, .nils, .nils, .int .i64 0, .int .i64 0] [], none⟩, ⟨some 20, .mv (.t 12), none⟩, ⟨none, .st 7 (.t 10) (.t 19), none⟩, ⟨some 11, .mv (.t 20), none⟩]))
      .ret)
      .skip))
    (.seq (.keep [0, 2, 3, 4, 6, 10] (.ops [⟨some 21, .mv (.t 0), none⟩, ⟨some 22, .mv (.t 4), none⟩, ⟨some 23, .bld [.int .i64 0, .int .i64 0, .nils, .nils, .nils, .int .i64 0, .int .i64 0] [(0, 1, (.c (.int .i64 1))), (1, 1, (.t 21)), (5, 1, (.t 22))], none⟩, ⟨some 13, .alloc [.int .i64 0, .int .i64 0, .nils, .nils, .nils, .int .i64 0, .int .i64 0], none⟩, ⟨none, .st 7 (.t 13) (.t 23), none⟩]))
    (.seq (.seq (.keep [2, 3, 4, 6, 10, 13] (.ops [⟨some 14, .mv (.c (.int .i64 0)), none⟩]))
    (.block 0 (.loop (.seq (.seq (.keep [2, 3, 4, 6, 10, 13, 14] (.ops [⟨some 24, .mv (.t 14), none⟩, ⟨some 25, .fldA 0 (.t 6), none⟩, ⟨some 26, .ld (none) (.t 25), none⟩, ⟨some 27, .len (.t 26), none⟩, ⟨some 28, .bin .lss (.t 24) (.t 27), none⟩]))
    (.cond (.t 28)
      .skip
      (.exit 0)))
    (.seq (.block 1 (.seq (.seq (.keep [2, 3, 4, 6, 10, 13, 14] (.ops [⟨some 31, .fldA 0 (.t 6), none⟩, ⟨some 32, .ld (none) (.t 31), none⟩, ⟨some 33, .mv (.t 14), none⟩, ⟨some 34, .ixA 2 (.t 32) (.t 33), none⟩, ⟨some 35, .fldA 0 (.t 34), none⟩, ⟨some 36, .ld (none) (.t 35), none⟩, ⟨some 37, .mv (.t 2), none⟩, ⟨some 38, .len (.t 37), none⟩, ⟨some 39, .bin .geq (.t 36) (.t 38), none⟩]))
    (.cond (.t 39)
      (.seq (.keep [10] (.ops [⟨some 40, .bld [.int .i64 0, .int .i64 0, .nils, .nils, .nils, .int .i64 0, .int .i64 0] [], none⟩, ⟨none, .st 7 (.t 10) (.t 40), none⟩, ⟨some 11, .mv (.c (.int .i64 2)), none⟩]))
      .ret)
      .skip))
    (.seq (.keep [2, 3, 4, 6, 10, 13, 14] (.drw [⟨some 41, .fldA 2 (.t 13), none⟩, ⟨some 42, .ld (none) (.t 41), none⟩, ⟨some 43, .mv (.t 2), none⟩, ⟨some 44, .fldA 0 (.t 6), none⟩, ⟨some 45, .ld (none) (.t 44), none⟩, ⟨some 46, .mv (.t 14), none⟩, ⟨some 47, .ixA 2 (.t 45) (.t 46), none⟩, ⟨some 48, .fldA 0 (.t 47), none⟩, ⟨some 49, .ld (none) (.t 48), none⟩, ⟨some 50, .ixA 6 (.t 43) (.t 49), none⟩, ⟨some 51, .fldA 0 (.t 50), none⟩, ⟨some 52, .ld (some 2) (.t 51), none⟩, ⟨some 53, .mkSl 2 1 [.int .u64 0, .int .u64 0] [(0, 2, (.t 52))], none⟩, ⟨some 54, .app true 63 2 16 (.t 42) (.t 53), none⟩, ⟨some 55, .fldA 2 (.t 13), none⟩, ⟨none, .st 1 (.t 55) (.t 54), none⟩] [0, 1, 0, 0, 1, 0, 0, 0, 1, 0, 0, 1, 0, 4, 0, 2]))
    (.keep [2, 3, 4, 6, 10, 13, 14] (.drw [⟨some 56, .fldA 3 (.t 13), none⟩, ⟨some 57, .ld (none) (.t 56), none⟩, ⟨some 58, .fldA 0 (.t 6), none⟩, ⟨some 59, .ld (none) (.t 58), none⟩, ⟨some 60, .mv (.t 14), none⟩, ⟨some 61, .ixA 2 (.t 59) (.t 60), none⟩, ⟨some 62, .fldA 1 (.t 61), none⟩, ⟨some 63, .ld (none) (.t 62), none⟩, ⟨some 64, .mkSl 1 1 [.int .i64 0] [(0, 1, (.t 63))], none⟩, ⟨some 65, .app true 3 1 8 (.t 57) (.t 64), none⟩, ⟨some 66, .fldA 3 (.t 13), none⟩, ⟨none, .st 1 (.t 66) (.t 65), none⟩] [0, 1, 0, 1, 0, 0, 0, 1, 0, 4, 0, 2])))))
    (.keep [2, 3, 4, 6, 10, 13, 14] (.ops [⟨some 29, .mv (.t 14), none⟩, ⟨some 30, .bin .add (.t 29) (.c (.int .i64 1)), none⟩, ⟨some 14, .mv (.t 30), none⟩])))))))
    (.seq (.seq (.keep [3, 4, 10, 13] (.ops [⟨some 67, .mv (.t 4), none⟩, ⟨some 68, .bin .eql (.t 67) (.c (.int .i64 0)), none⟩]))
    (.cond (.t 68)
      (.keep [3, 10, 13] (.ops [⟨some 69, .fldA 4 (.t 13), none⟩, ⟨some 70, .ld (none) (.t 69), none⟩, ⟨some 71, .mv (.t 3), none⟩, ⟨some 72, .app true 2 1 8 (.t 70) (.t 71), none⟩, ⟨some 73, .fldA 4 (.t 13), none⟩, ⟨none, .st 1 (.t 73) (.t 72), none⟩]))
      .skip))
    (.seq (.keep [10, 13] (.ops [⟨some 74, .ld (some 7) (.t 13), none⟩, ⟨some 75, .call 14 [(.t 74)], none⟩, ⟨some 12, .mv (.t 75), none⟩]))
    (.seq (.seq (.keep [10, 12, 13] (.ops [⟨some 76, .mv (.t 12), none⟩, ⟨some 77, .bin .neq (.t 76) (.c (.int .i64 0)), none⟩]))
    (.cond (.t 77)
      (.seq (.keep [10, 12] (.ops [⟨some 78, .bld [.int .i64 0, .int .i64 0, .nils, .nils, .nils, .int .i64 0, .int .i64 0] [], none⟩, ⟨some 79, .mv (.t 12), none⟩, ⟨none, .st 7 (.t 10) (.t 78), none⟩, ⟨some 11, .mv (.t 79), none⟩]))
      .ret)
      .skip))
    (.seq (.keep [10, 13] (.ops [⟨some 80, .ld (some 7) (.t 13), none⟩, ⟨none, .st 7 (.t 10) (.t 80), none⟩, ⟨some 11, .mv (.c (.int .i64 0)), none⟩]))
    .ret))))))))), [.cl 10 (some 7), .t 11], 81⟩
theorem b16 : fB Tryz.prog 16 c16 = true := by kernel_rfl
/-- partywall/match.Notice -/
def c17 : CF := ⟨(.seq (.keep [0, 1, 2] (.ops [⟨some 6, .alloc [.int .i64 0, .int .i64 0, .nils, .nils, .nils, .int .i64 0, .int .i64 0], none⟩, ⟨some 7, .mv (.c (.int .i64 0)), none⟩]))
    (.seq (.keep [0, 1, 2, 6] (.ops [⟨some 10, .mv (.t 0), none⟩, ⟨some 11, .mv (.t 1), none⟩, ⟨some 12, .mv (.t 2), none⟩, ⟨some 13, .bld [.int .i64 0, .int .i64 0, .nils, .nils, .nils, .int .i64 0, .int .i64 0] [(0, 1, (.c (.int .i64 2))), (1, 1, (.t 10)), (5, 1, (.t 11)), (6, 1, (.t 12))], none⟩, ⟨some 8, .alloc [.int .i64 0, .int .i64 0, .nils, .nils, .nils, .int .i64 0, .int .i64 0], none⟩, ⟨none, .st 7 (.t 8) (.t 13), none⟩]))
    (.seq (.seq (.keep [6, 8] (.ops [⟨some 14, .ld (some 7) (.t 8), none⟩, ⟨some 15, .call 13 [(.t 14)], none⟩, ⟨some 9, .mv (.t 15), none⟩]))
    (.seq (.keep [6, 8, 9] (.ops [⟨some 16, .mv (.t 9), none⟩, ⟨some 17, .bin .neq (.t 16) (.c (.int .i64 0)), none⟩]))
    (.cond (.t 17)
      (.seq (.keep [6, 9] (.ops [⟨some 18, .bld [.int .i64 0, .int .i64 0, .nils, .nils, .nils, .int .i64 0, .int .i64 0] [], none⟩, ⟨some 19, .mv (.t 9), none⟩, ⟨none, .st 7 (.t 6) (.t 18), none⟩, ⟨some 7, .mv (.t 19), none⟩]))
      .ret)
      .skip)))
    (.seq (.keep [6, 8] (.ops [⟨some 20, .ld (some 7) (.t 8), none⟩, ⟨none, .st 7 (.t 6) (.t 20), none⟩, ⟨some 7, .mv (.c (.int .i64 0)), none⟩]))
    .ret)))), [.cl 6 (some 7), .t 7], 21⟩
theorem b17 : fB Tryz.prog 17 c17 = true := by kernel_rfl
/-- partywall/partywallref17.Notice -/
def c18 : CF := ⟨(.seq (.keep [0, 1, 2] (.ops [⟨some 6, .alloc [.int .i64 0, .int .i64 0, .nils, .nils, .nils, .int .i64 0, .int .i64 0], none⟩, ⟨some 7, .mv (.c (.int .i64 0)), none⟩]))
    (.seq (.keep [0, 1, 2, 6] (.ops [⟨some 10, .mv (.t 0), none⟩, ⟨some 11, .mv (.t 1), none⟩, ⟨some 12, .mv (.t 2), none⟩, ⟨some 13, .bld [.int .i64 0, .int .i64 0, .nils, .nils, .nils, .int .i64 0, .int .i64 0] [(0, 1, (.c (.int .i64 2))), (1, 1, (.t 10)), (5, 1, (.t 11)), (6, 1, (.t 12))], none⟩, ⟨some 8, .alloc [.int .i64 0, .int .i64 0, .nils, .nils, .nils, .int .i64 0, .int .i64 0], none⟩, ⟨none, .st 7 (.t 8) (.t 13), none⟩]))
    (.seq (.keep [6, 8] (.ops [⟨some 14, .ld (some 7) (.t 8), none⟩, ⟨some 15, .call 14 [(.t 14)], none⟩, ⟨some 9, .mv (.t 15), none⟩]))
    (.seq (.seq (.keep [6, 8, 9] (.ops [⟨some 16, .mv (.t 9), none⟩, ⟨some 17, .bin .neq (.t 16) (.c (.int .i64 0)), none⟩]))
    (.cond (.t 17)
      (.seq (.keep [6, 9] (.ops [⟨some 18, .bld [.int .i64 0, .int .i64 0, .nils, .nils, .nils, .int .i64 0, .int .i64 0] [], none⟩, ⟨some 19, .mv (.t 9), none⟩, ⟨none, .st 7 (.t 6) (.t 18), none⟩, ⟨some 7, .mv (.t 19), none⟩]))
      .ret)
      .skip))
    (.seq (.keep [6, 8] (.ops [⟨some 20, .ld (some 7) (.t 8), none⟩, ⟨none, .st 7 (.t 6) (.t 20), none⟩, ⟨some 7, .mv (.c (.int .i64 0)), none⟩]))
    .ret))))), [.cl 6 (some 7), .t 7], 21⟩
theorem b18 : fB Tryz.prog 18 c18 = true := by kernel_rfl
/-- partywall/partywallkit.SameItem -/
def c19 : CF := ⟨(.seq (.keep [0, 1] (.ops [⟨some 2, .box 7 (.t 0), none⟩, ⟨some 3, .box 7 (.t 1), none⟩, ⟨some 4, .mv (.c (.bool false)), none⟩]))
    (.seq (.keep [2, 3] (.ops [⟨some 5, .fldA 0 (.t 2), none⟩, ⟨some 6, .ld (none) (.t 5), none⟩, ⟨some 7, .fldA 0 (.t 3), none⟩, ⟨some 8, .ld (none) (.t 7), none⟩, ⟨some 9, .bin .eql (.t 6) (.t 8), none⟩, ⟨some 10, .mv (.t 9), none⟩, ⟨some 11, .fldA 1 (.t 2), some (10, true)⟩, ⟨some 12, .ld (none) (.t 11), some (10, true)⟩, ⟨some 13, .fldA 1 (.t 3), some (10, true)⟩, ⟨some 14, .ld (none) (.t 13), some (10, true)⟩, ⟨some 15, .bin .eql (.t 12) (.t 14), some (10, true)⟩, ⟨some 16, .pick (.t 10) (.t 15) (.c (.bool false)), none⟩, ⟨some 17, .mv (.t 16), none⟩, ⟨some 18, .fldA 2 (.t 2), some (17, true)⟩, ⟨some 19, .ld (none) (.t 18), some (17, true)⟩, ⟨some 20, .fldA 2 (.t 3), some (17, true)⟩, ⟨some 21, .ld (none) (.t 20), some (17, true)⟩, ⟨some 22, .call 59 [(.t 19), (.t 21)], some (17, true)⟩, ⟨some 23, .pick (.t 17) (.t 22) (.c (.bool false)), none⟩, ⟨some 24, .mv (.t 23), none⟩, ⟨some 25, .fldA 3 (.t 2), some (24, true)⟩, ⟨some 26, .ld (none) (.t 25), some (24, true)⟩, ⟨some 27, .fldA 3 (.t 3), some (24, true)⟩, ⟨some 28, .ld (none) (.t 27), some (24, true)⟩, ⟨some 29, .call 30 [(.t 26), (.t 28)], some (24, true)⟩, ⟨some 30, .pick (.t 24) (.t 29) (.c (.bool false)), none⟩, ⟨some 31, .mv (.t 30), none⟩, ⟨some 32, .fldA 4 (.t 2), some (31, true)⟩, ⟨some 33, .ld (none) (.t 32), some (31, true)⟩, ⟨some 34, .fldA 4 (.t 3), some (31, true)⟩, ⟨some 35, .ld (none) (.t 34), some (31, true)⟩, ⟨some 36, .call 60 [(.t 33), (.t 35)], some (31, true)⟩, ⟨some 37, .pick (.t 31) (.t 36) (.c (.bool false)), none⟩, ⟨some 38, .mv (.t 37), none⟩, ⟨some 39, .fldA 5 (.t 2), some (38, true)⟩, ⟨some 40, .ld (none) (.t 39), some (38, true)⟩, ⟨some 41, .fldA 5 (.t 3), some (38, true)⟩, ⟨some 42, .ld (none) (.t 41), some (38, true)⟩, ⟨some 43, .bin .eql (.t 40) (.t 42), some (38, true)⟩, ⟨some 44, .pick (.t 38) (.t 43) (.c (.bool false)), none⟩, ⟨some 45, .mv (.t 44), none⟩, ⟨some 46, .fldA 6 (.t 2), some (45, true)⟩, ⟨some 47, .ld (none) (.t 46), some (45, true)⟩, ⟨some 48, .fldA 6 (.t 3), some (45, true)⟩, ⟨some 49, .ld (none) (.t 48), some (45, true)⟩, ⟨some 50, .bin .eql (.t 47) (.t 49), some (45, true)⟩, ⟨some 51, .pick (.t 45) (.t 50) (.c (.bool false)), none⟩, ⟨some 4, .mv (.t 51), none⟩]))
    .ret)), [.t 4], 52⟩
theorem b19 : fB Tryz.prog 19 c19 = true := by kernel_rfl
/-- partywall/partywallkit.SameMatch -/
def c20 : CF := ⟨(.seq (.keep [0, 1] (.ops [⟨some 2, .box 1 (.t 0), none⟩, ⟨some 3, .box 1 (.t 1), none⟩, ⟨some 4, .mv (.c (.bool false)), none⟩]))
    (.seq (.seq (.keep [2, 3] (.ops [⟨some 6, .fldA 0 (.t 2), none⟩, ⟨some 7, .ld (none) (.t 6), none⟩, ⟨some 8, .len (.t 7), none⟩, ⟨some 9, .fldA 0 (.t 3), none⟩, ⟨some 10, .ld (none) (.t 9), none⟩, ⟨some 11, .len (.t 10), none⟩, ⟨some 12, .bin .neq (.t 8) (.t 11), none⟩]))
    (.cond (.t 12)
      (.seq (.keep [] (.ops [⟨some 4, .mv (.c (.bool false)), none⟩]))
      .ret)
      .skip))
    (.seq (.seq (.keep [2, 3] (.ops [⟨some 5, .mv (.c (.int .i64 0)), none⟩]))
    (.block 0 (.loop (.seq (.seq (.keep [2, 3, 5] (.ops [⟨some 13, .mv (.t 5), none⟩, ⟨some 14, .fldA 0 (.t 2), none⟩, ⟨some 15, .ld (none) (.t 14), none⟩, ⟨some 16, .len (.t 15), none⟩, ⟨some 17, .bin .lss (.t 13) (.t 16), none⟩]))
    (.cond (.t 17)
      .skip
      (.exit 0)))
    (.seq (.block 1 (.seq (.keep [2, 3, 5] (.drw [⟨some 20, .fldA 0 (.t 2), none⟩, ⟨some 21, .ld (none) (.t 20), none⟩, ⟨some 22, .mv (.t 5), none⟩, ⟨some 23, .ixA 2 (.t 21) (.t 22), none⟩, ⟨some 24, .ld (some 2) (.t 23), none⟩, ⟨some 25, .fldA 0 (.t 3), none⟩, ⟨some 26, .ld (none) (.t 25), none⟩, ⟨some 27, .mv (.t 5), none⟩, ⟨some 28, .ixA 2 (.t 26) (.t 27), none⟩, ⟨some 29, .ld (some 2) (.t 28), none⟩, ⟨some 30, .eqA true [0, 0] (.t 24) (.t 29), none⟩] [0, 1, 0, 0, 1, 0, 1, 0, 0, 1, 0]))
    (.cond (.t 30)
      (.seq (.keep [] (.ops [⟨some 4, .mv (.c (.bool false)), none⟩]))
      .ret)
      .skip)))
    (.keep [2, 3, 5] (.ops [⟨some 18, .mv (.t 5), none⟩, ⟨some 19, .bin .add (.t 18) (.c (.int .i64 1)), none⟩, ⟨some 5, .mv (.t 19), none⟩])))))))
    (.seq (.keep [] (.ops [⟨some 4, .mv (.c (.bool true)), none⟩]))
    .ret)))), [.t 4], 31⟩
theorem b20 : fB Tryz.prog 20 c20 = true := by kernel_rfl
/-- partywall/match.Compare -/
def c24 : CF := ⟨(.seq (.keep [0, 1] (.ops [⟨some 2, .box 1 (.t 0), none⟩, ⟨some 3, .box 1 (.t 1), none⟩, ⟨some 4, .mv (.c (.int .i64 0)), none⟩, ⟨some 5, .mv (.c (.int .i64 0)), none⟩]))
    (.seq (.seq (.keep [2, 3] (.ops [⟨some 8, .ld (some 1) (.t 2), none⟩, ⟨some 9, .call 31 [(.t 8)], none⟩, ⟨some 6, .mv (.t 9), none⟩]))
    (.seq (.keep [2, 3, 6] (.ops [⟨some 10, .mv (.t 6), none⟩, ⟨some 11, .bin .neq (.t 10) (.c (.int .i64 0)), none⟩]))
    (.cond (.t 11)
      (.seq (.keep [6] (.ops [⟨some 12, .mv (.t 6), none⟩, ⟨some 4, .mv (.c (.int .i64 0)), none⟩, ⟨some 5, .mv (.t 12), none⟩]))
      .ret)
      .skip)))
    (.seq (.seq (.keep [2, 3] (.ops [⟨some 13, .ld (some 1) (.t 3), none⟩, ⟨some 14, .call 31 [(.t 13)], none⟩, ⟨some 7, .mv (.t 14), none⟩]))
    (.seq (.keep [2, 3, 7] (.ops [⟨some 15, .mv (.t 7), none⟩, ⟨some 16, .bin .neq (.t 15) (.c (.int .i64 0)), none⟩]))
    (.cond (.t 16)
      (.seq (.keep [7] (.ops [⟨some 17, .mv (.t 7), none⟩, ⟨some 4, .mv (.c (.int .i64 0)), none⟩, ⟨some 5, .mv (.t 17), none⟩]))
      .ret)
      .skip)))
    (.seq (.keep [2, 3] (.ops [⟨some 18, .ld (some 1) (.t 2), none⟩, ⟨some 19, .ld (some 1) (.t 3), none⟩, ⟨some 20, .call 63 [(.t 18), (.t 19)], none⟩, ⟨some 4, .mv (.t 20), none⟩, ⟨some 5, .mv (.c (.int .i64 0)), none⟩]))
    .ret)))), [.t 4, .t 5], 21⟩
theorem b24 : fB Tryz.prog 24 c24 = true := by kernel_rfl
/-- partywall/partywallkit.SameInts -/
def c30 : CF := ⟨(.seq (.keep [0, 1] (.ops [⟨some 4, .mv (.c (.bool false)), none⟩]))
    (.seq (.seq (.keep [0, 1] (.ops [⟨some 6, .mv (.t 0), none⟩, ⟨some 7, .len (.t 6), none⟩, ⟨some 8, .mv (.t 1), none⟩, ⟨some 9, .len (.t 8), none⟩, ⟨some 10, .bin .neq (.t 7) (.t 9), none⟩]))
    (.cond (.t 10)
      (.seq (.keep [] (.ops [⟨some 4, .mv (.c (.bool false)), none⟩]))
      .ret)
      .skip))
    (.seq (.seq (.keep [0, 1] (.ops [⟨some 5, .mv (.c (.int .i64 0)), none⟩]))
    (.block 0 (.loop (.seq (.seq (.keep [0, 1, 5] (.ops [⟨some 11, .mv (.t 5), none⟩, ⟨some 12, .mv (.t 0), none⟩, ⟨some 13, .len (.t 12), none⟩, ⟨some 14, .bin .lss (.t 11) (.t 13), none⟩]))
    (.cond (.t 14)
      .skip
      (.exit 0)))
    (.seq (.block 1 (.seq (.keep [0, 1, 5] (.drw [⟨some 17, .mv (.t 0), none⟩, ⟨some 18, .mv (.t 5), none⟩, ⟨some 19, .ixA 1 (.t 17) (.t 18), none⟩, ⟨some 20, .ld (none) (.t 19), none⟩, ⟨some 21, .mv (.t 1), none⟩, ⟨some 22, .mv (.t 5), none⟩, ⟨some 23, .ixA 1 (.t 21) (.t 22), none⟩, ⟨some 24, .ld (none) (.t 23), none⟩, ⟨some 25, .bin .neq (.t 20) (.t 24), none⟩] [0, 0, 0, 1, 0, 0, 0, 1, 0]))
    (.cond (.t 25)
      (.seq (.keep [] (.ops [⟨some 4, .mv (.c (.bool false)), none⟩]))
      .ret)
      .skip)))
    (.keep [0, 1, 5] (.ops [⟨some 15, .mv (.t 5), none⟩, ⟨some 16, .bin .add (.t 15) (.c (.int .i64 1)), none⟩, ⟨some 5, .mv (.t 16), none⟩])))))))
    (.seq (.keep [] (.ops [⟨some 4, .mv (.c (.bool true)), none⟩]))
    .ret)))), [.t 4], 26⟩
theorem b30 : fB Tryz.prog 30 c30 = true := by kernel_rfl
/-- partywall/match.Check -/
def c31 : CF := ⟨(.seq (.keep [0] (.ops [⟨some 1, .box 1 (.t 0), none⟩, ⟨some 2, .mv (.c (.int .i64 0)), none⟩]))
    (.scope (.seq (.block 0 (.seq (.keep [1] (.ops [⟨some 8, .fldA 0 (.t 1), none⟩, ⟨some 9, .ld (none) (.t 8), none⟩, ⟨some 10, .len (.t 9), none⟩, ⟨some 11, .bin .eql (.t 10) (.c (.int .i64 0)), none⟩, ⟨some 7, .mv (.t 11), none⟩]))
    (.cond (.t 7)
      (.seq (.keep [] (.ops [⟨some 2, .mv (.c (.int .i64 5)), none⟩]))
      .ret)
      (.seq (.keep [1] (.ops [⟨some 13, .fldA 0 (.t 1), none⟩, ⟨some 14, .ld (none) (.t 13), none⟩, ⟨some 15, .len (.t 14), none⟩, ⟨some 16, .bin .gtr (.t 15) (.c (.int .i64 12)), none⟩, ⟨some 12, .mv (.t 16), none⟩]))
      (.cond (.t 12)
        (.seq (.keep [] (.ops [⟨some 2, .mv (.c (.int .i64 6)), none⟩]))
        .ret)
        .skip)))))
    (.seq (.seq (.keep [1] (.ops [⟨some 17, .fldA 0 (.t 1), none⟩, ⟨some 18, .ld (none) (.t 17), none⟩, ⟨some 19, .len (.t 18), none⟩, ⟨some 20, .mv (.c (.int .i64 0)), none⟩]))
    (.block 1 (.loop (.seq (.keep [1, 18, 19, 20] (.ops [⟨some 21, .bin .lss (.t 20) (.t 19), none⟩]))
    (.seq (.cond (.t 21)
      .skip
      (.exit 1))
    (.seq (.block 2 (.seq (.keep [1, 18, 19, 20] (.ops [⟨some 22, .ixA 2 (.t 18) (.t 20), none⟩, ⟨some 23, .ld (some 2) (.t 22), none⟩, ⟨some 4, .alloc [.int .i64 0, .int .i64 0], none⟩, ⟨none, .st 2 (.t 4) (.t 23), none⟩]))
    (.seq (.keep [1, 4, 18, 19, 20] (.ops [⟨some 24, .fldA 0 (.t 4), none⟩, ⟨some 25, .ld (none) (.t 24), none⟩, ⟨some 26, .bin .lss (.t 25) (.c (.int .i64 0)), none⟩, ⟨some 27, .mv (.t 26), none⟩, ⟨some 28, .fldA 0 (.t 4), some (27, false)⟩, ⟨some 29, .ld (none) (.t 28), some (27, false)⟩, ⟨some 30, .bin .geq (.t 29) (.c (.int .i64 1099511627776)), some (27, false)⟩, ⟨some 31, .pick (.t 27) (.c (.bool true)) (.t 30), none⟩, ⟨some 32, .mv (.t 31), none⟩, ⟨some 33, .fldA 1 (.t 4), some (32, false)⟩, ⟨some 34, .ld (none) (.t 33), some (32, false)⟩, ⟨some 35, .bin .lss (.t 34) (.c (.int .i64 0)), some (32, false)⟩, ⟨some 36, .pick (.t 32) (.c (.bool true)) (.t 35), none⟩, ⟨some 37, .mv (.t 36), none⟩, ⟨some 38, .fldA 1 (.t 4), some (37, false)⟩, ⟨some 39, .ld (none) (.t 38), some (37, false)⟩, ⟨some 40, .bin .geq (.t 39) (.c (.int .i64 12)), some (37, false)⟩, ⟨some 41, .pick (.t 37) (.c (.bool true)) (.t 40), none⟩]))
    (.cond (.t 41)
      (.seq (.keep [] (.ops [⟨some 2, .mv (.c (.int .i64 2)), none⟩]))
      .ret)
      .skip))))
    (.keep [1, 18, 19, 20] (.ops [⟨some 42, .bin .add (.t 20) (.c (.int .i64 1)), none⟩, ⟨some 20, .mv (.t 42), none⟩]))))))))
    (.seq (.keep [1] (.ops [⟨some 5, .mv (.c (.bool false)), none⟩]))
    (.seq .skip
    (.seq (.seq (.keep [1, 5] (.ops [⟨some 6, .mv (.c (.int .i64 1)), none⟩]))
    (.block 3 (.loop (.seq (.seq (.keep [1, 5, 6] (.ops [⟨some 43, .mv (.t 6), none⟩, ⟨some 44, .fldA 0 (.t 1), none⟩, ⟨some 45, .ld (none) (.t 44), none⟩, ⟨some 46, .len (.t 45), none⟩, ⟨some 47, .bin .lss (.t 43) (.t 46), none⟩]))
    (.cond (.t 47)
      .skip
      (.exit 3)))
    (.seq (.block 4 (.block 5 (.seq (.keep [1, 5, 6] (.drw [⟨some 51, .fldA 0 (.t 1), none⟩, ⟨some 52, .ld (none) (.t 51), none⟩, ⟨some 53, .mv (.t 6), none⟩, ⟨some 54, .ixA 2 (.t 52) (.t 53), none⟩, ⟨some 55, .fldA 0 (.t 54), none⟩, ⟨some 56, .ld (none) (.t 55), none⟩, ⟨some 57, .fldA 0 (.t 1), none⟩, ⟨some 58, .ld (none) (.t 57), none⟩, ⟨some 59, .mv (.t 6), none⟩, ⟨some 60, .bin .sub (.t 59) (.c (.int .i64 1)), none⟩, ⟨some 61, .ixA 2 (.t 58) (.t 60), none⟩, ⟨some 62, .fldA 0 (.t 61), none⟩, ⟨some 63, .ld (none) (.t 62), none⟩, ⟨some 64, .bin .leq (.t 56) (.t 63), none⟩, ⟨some 50, .mv (.t 64), none⟩] [0, 1, 0, 0, 0, 1, 0, 1, 0, 0, 0, 0, 1, 0, 0]))
    (.cond (.t 50)
      (.seq (.keep [] (.ops [⟨some 5, .mv (.c (.bool true)), none⟩]))
      (.exit 3))
      .skip))))
    (.keep [1, 5, 6] (.ops [⟨some 48, .mv (.t 6), none⟩, ⟨some 49, .bin .add (.t 48) (.c (.int .i64 1)), none⟩, ⟨some 6, .mv (.t 49), none⟩])))))))
    (.seq (.seq (.keep [5] (.ops [⟨some 65, .mv (.t 5), none⟩]))
    (.cond (.t 65)
      (.seq (.keep [] (.ops [⟨some 2, .mv (.c (.int .i64 9)), none⟩]))
      .ret)
      .skip))
    (.seq (.keep [] (.ops [⟨some 2, .mv (.c (.int .i64 0)), none⟩]))
    .ret))))))))), [.t 2], 66⟩
theorem b31 : fB Tryz.prog 31 c31 = true := by kernel_rfl
/-- partywall/partywallref17.Check -/
def c32 : CF := ⟨(.seq (.keep [0] (.ops [⟨some 1, .box 1 (.t 0), none⟩, ⟨some 2, .mv (.c (.int .i64 0)), none⟩]))
    (.seq (.keep [1] (.ops [⟨some 6, .fldA 0 (.t 1), none⟩, ⟨some 7, .ld (none) (.t 6), none⟩, ⟨some 3, .mv (.t 7), none⟩]))
    (.seq (.seq (.keep [3] (.ops [⟨some 8, .mv (.t 3), none⟩, ⟨some 9, .len (.t 8), none⟩, ⟨some 10, .bin .eql (.t 9) (.c (.int .i64 0)), none⟩]))
    (.cond (.t 10)
      (.seq (.keep [] (.ops [⟨some 2, .mv (.c (.int .i64 5)), none⟩]))
      .ret)
      .skip))
    (.seq (.seq (.keep [3] (.ops [⟨some 11, .mv (.t 3), none⟩, ⟨some 12, .len (.t 11), none⟩, ⟨some 13, .bin .gtr (.t 12) (.c (.int .i64 12)), none⟩]))
    (.cond (.t 13)
      (.seq (.keep [] (.ops [⟨some 2, .mv (.c (.int .i64 6)), none⟩]))
      .ret)
      .skip))
    (.seq (.seq (.keep [3] (.ops [⟨some 4, .mv (.c (.int .i64 0)), none⟩]))
    (.block 0 (.loop (.seq (.seq (.keep [3, 4] (.ops [⟨some 14, .mv (.t 4), none⟩, ⟨some 15, .mv (.t 3), none⟩, ⟨some 16, .len (.t 15), none⟩, ⟨some 17, .bin .lss (.t 14) (.t 16), none⟩]))
    (.cond (.t 17)
      .skip
      (.exit 0)))
    (.seq (.block 1 (.seq (.keep [3, 4] (.ops [⟨some 20, .mv (.t 3), none⟩, ⟨some 21, .mv (.t 4), none⟩, ⟨some 22, .ixA 2 (.t 20) (.t 21), none⟩, ⟨some 23, .fldA 0 (.t 22), none⟩, ⟨some 24, .ld (none) (.t 23), none⟩, ⟨some 25, .bin .lss (.t 24) (.c (.int .i64 0)), none⟩, ⟨some 26, .mv (.t 25), none⟩, ⟨some 27, .mv (.t 3), some (26, false)⟩, ⟨some 28, .mv (.t 4), some (26, false)⟩, ⟨some 29, .ixA 2 (.t 27) (.t 28), some (26, false)⟩, ⟨some 30, .fldA 0 (.t 29), some (26, false)⟩, ⟨some 31, .ld (none) (.t 30), some (26, false)⟩, ⟨some 32, .bin .geq (.t 31) (.c (.int .i64 1099511627776)), some (26, false)⟩, ⟨some 33, .pick (.t 26) (.c (.bool true)) (.t 32), none⟩, ⟨some 34, .mv (.t 33), none⟩, ⟨some 35, .mv (.t 3), some (34, false)⟩, ⟨some 36, .mv (.t 4), some (34, false)⟩, ⟨some 37, .ixA 2 (.t 35) (.t 36), some (34, false)⟩, ⟨some 38, .fldA 1 (.t 37), some (34, false)⟩, ⟨some 39, .ld (none) (.t 38), some (34, false)⟩, ⟨some 40, .bin .lss (.t 39) (.c (.int .i64 0)), some (34, false)⟩, ⟨some 41, .pick (.t 34) (.c (.bool true)) (.t 40), none⟩, ⟨some 42, .mv (.t 41), none⟩, ⟨some 43, .mv (.t 3), some (42, false)⟩, ⟨some 44, .mv (.t 4), some (42, false)⟩, ⟨some 45, .ixA 2 (.t 43) (.t 44), some (42, false)⟩, ⟨some 46, .fldA 1 (.t 45), some (42, false)⟩, ⟨some 47, .ld (none) (.t 46), some (42, false)⟩, ⟨some 48, .bin .geq (.t 47) (.c (.int .i64 12)), some (42, false)⟩, ⟨some 49, .pick (.t 42) (.c (.bool true)) (.t 48), none⟩]))
    (.cond (.t 49)
      (.seq (.keep [] (.ops [⟨some 2, .mv (.c (.int .i64 2)), none⟩]))
      .ret)
      .skip)))
    (.keep [3, 4] (.ops [⟨some 18, .mv (.t 4), none⟩, ⟨some 19, .bin .add (.t 18) (.c (.int .i64 1)), none⟩, ⟨some 4, .mv (.t 19), none⟩])))))))
    (.seq (.seq (.keep [3] (.ops [⟨some 5, .mv (.c (.int .i64 1)), none⟩]))
    (.block 2 (.loop (.seq (.seq (.keep [3, 5] (.ops [⟨some 50, .mv (.t 5), none⟩, ⟨some 51, .mv (.t 3), none⟩, ⟨some 52, .len (.t 51), none⟩, ⟨some 53, .bin .lss (.t 50) (.t 52), none⟩]))
    (.cond (.t 53)
      .skip
      (.exit 2)))
    (.seq (.block 3 (.seq (.keep [3, 5] (.drw [⟨some 56, .mv (.t 3), none⟩, ⟨some 57, .mv (.t 5), none⟩, ⟨some 58, .ixA 2 (.t 56) (.t 57), none⟩, ⟨some 59, .fldA 0 (.t 58), none⟩, ⟨some 60, .ld (none) (.t 59), none⟩, ⟨some 61, .mv (.t 3), none⟩, ⟨some 62, .mv (.t 5), none⟩, ⟨some 63, .bin .sub (.t 62) (.c (.int .i64 1)), none⟩, ⟨some 64, .ixA 2 (.t 61) (.t 63), none⟩, ⟨some 65, .fldA 0 (.t 64), none⟩, ⟨some 66, .ld (none) (.t 65), none⟩, ⟨some 67, .bin .leq (.t 60) (.t 66), none⟩] [0, 0, 0, 0, 1, 0, 0, 0, 0, 0, 1, 0]))
    (.cond (.t 67)
      (.seq (.keep [] (.ops [⟨some 2, .mv (.c (.int .i64 9)), none⟩]))
      .ret)
      .skip)))
    (.keep [3, 5] (.ops [⟨some 54, .mv (.t 5), none⟩, ⟨some 55, .bin .add (.t 54) (.c (.int .i64 1)), none⟩, ⟨some 5, .mv (.t 55), none⟩])))))))
    (.seq (.keep [] (.ops [⟨some 2, .mv (.c (.int .i64 0)), none⟩]))
    .ret))))))), [.t 2], 68⟩
theorem b32 : fB Tryz.prog 32 c32 = true := by kernel_rfl
/-- partywall/match.Parse -/
def c33 : CF := ⟨(.seq (.keep [0] (.ops [⟨some 2, .alloc [.nils], none⟩, ⟨some 3, .mv (.c (.int .i64 0)), none⟩]))
    (.seq (.keep [0, 2] (.ops [⟨some 4, .alloc [.nils], none⟩]))
    (.seq (.keep [0, 2, 4] (.ops [⟨some 5, .mv (.c (.int .i64 0)), none⟩]))
    (.seq (.seq (.keep [0, 2, 4, 5] (.ops [⟨some 16, .mv (.t 0), none⟩, ⟨some 17, .call 69 [(.t 16), (.c (.str [32]))], none⟩, ⟨some 18, .len (.t 17), none⟩, ⟨some 19, .mv (.c (.int .i64 0)), none⟩]))
    (.block 0 (.loop (.seq (.keep [2, 4, 5, 17, 18, 19] (.ops [⟨some 20, .bin .lss (.t 19) (.t 18), none⟩]))
    (.seq (.cond (.t 20)
      .skip
      (.exit 0))
    (.seq (.block 1 (.seq (.keep [2, 4, 5, 17, 18, 19] (.ops [⟨some 21, .ixA 1 (.t 17) (.t 19), none⟩, ⟨some 22, .ld (none) (.t 21), none⟩, ⟨some 7, .mv (.t 22), none⟩]))
    (.seq (.keep [2, 4, 5, 7, 17, 18, 19] (.ops [⟨some 24, .mv (.t 7), none⟩, ⟨some 25, .call 70 [(.t 24), (.c (.str [58]))], none⟩, ⟨some 23, .mv (.t 25), none⟩, ⟨some 26, .ext (.t 23) 0, none⟩, ⟨some 27, .ext (.t 23) 1, none⟩, ⟨some 28, .ext (.t 23) 2, none⟩, ⟨some 8, .mv (.t 26), none⟩, ⟨some 9, .mv (.t 27), none⟩, ⟨some 10, .mv (.t 28), none⟩]))
    (.seq (.keep [2, 4, 5, 8, 9, 10, 17, 18, 19] (.ops [⟨some 30, .mv (.t 8), none⟩, ⟨some 31, .call 71 [(.t 30), (.c (.int .u64 1099511627776))], none⟩, ⟨some 29, .mv (.t 31), none⟩, ⟨some 32, .ext (.t 29) 0, none⟩, ⟨some 33, .ext (.t 29) 1, none⟩, ⟨some 11, .mv (.t 32), none⟩, ⟨some 12, .mv (.t 33), none⟩]))
    (.seq (.keep [2, 4, 5, 9, 10, 11, 12, 17, 18, 19] (.ops [⟨some 35, .mv (.t 9), none⟩, ⟨some 36, .call 71 [(.t 35), (.c (.int .u64 1099511627776))], none⟩, ⟨some 34, .mv (.t 36), none⟩, ⟨some 37, .ext (.t 34) 0, none⟩, ⟨some 38, .ext (.t 34) 1, none⟩, ⟨some 13, .mv (.t 37), none⟩, ⟨some 14, .mv (.t 38), none⟩]))
    (.seq (.seq (.keep [2, 4, 5, 10, 11, 12, 13, 14, 17, 18, 19] (.ops [⟨some 39, .mv (.t 10), none⟩, ⟨some 40, .un .not (.t 39), none⟩, ⟨some 41, .mv (.t 40), none⟩, ⟨some 42, .mv (.t 12), some (41, false)⟩, ⟨some 43, .bin .eql (.t 42) (.c (.int .i64 3)), some (41, false)⟩, ⟨some 44, .pick (.t 41) (.c (.bool true)) (.t 43), none⟩, ⟨some 45, .mv (.t 44), none⟩, ⟨some 46, .mv (.t 14), some (45, false)⟩, ⟨some 47, .bin .eql (.t 46) (.c (.int .i64 3)), some (45, false)⟩, ⟨some 48, .pick (.t 45) (.c (.bool true)) (.t 47), none⟩]))
    (.cond (.t 48)
      (.seq (.keep [2] (.ops [⟨some 49, .bld [.nils] [], none⟩, ⟨none, .st 1 (.t 2) (.t 49), none⟩, ⟨some 3, .mv (.c (.int .i64 3)), none⟩]))
      .ret)
      .skip))
    (.seq (.seq (.keep [2, 4, 5, 11, 12, 13, 14, 17, 18, 19] (.ops [⟨some 50, .mv (.t 12), none⟩, ⟨some 51, .bin .neq (.t 50) (.c (.int .i64 0)), none⟩, ⟨some 52, .mv (.t 51), none⟩, ⟨some 53, .mv (.t 14), some (52, false)⟩, ⟨some 54, .bin .neq (.t 53) (.c (.int .i64 0)), some (52, false)⟩, ⟨some 55, .pick (.t 52) (.c (.bool true)) (.t 54), none⟩]))
    (.cond (.t 55)
      (.keep [2, 4, 11, 13, 17, 18, 19] (.ops [⟨some 5, .mv (.c (.int .i64 2)), none⟩]))
      .skip))
    (.keep [2, 4, 5, 11, 13, 17, 18, 19] (.ops [⟨some 56, .fldA 0 (.t 4), none⟩, ⟨some 57, .ld (none) (.t 56), none⟩, ⟨some 58, .mv (.t 11), none⟩, ⟨some 59, .cnv .i64 (.t 58), none⟩, ⟨some 60, .mv (.t 13), none⟩, ⟨some 61, .cnv .i64 (.t 60), none⟩, ⟨some 62, .bld [.int .i64 0, .int .i64 0] [(0, 1, (.t 59)), (1, 1, (.t 61))], none⟩, ⟨some 63, .mkSl 2 1 [.int .i64 0, .int .i64 0] [(0, 2, (.t 62))], none⟩, ⟨some 64, .app true 70 2 16 (.t 57) (.t 63), none⟩, ⟨some 65, .fldA 0 (.t 4), none⟩, ⟨none, .st 1 (.t 65) (.t 64), none⟩])))))))))
    (.keep [2, 4, 5, 17, 18, 19] (.ops [⟨some 66, .bin .add (.t 19) (.c (.int .i64 1)), none⟩, ⟨some 19, .mv (.t 66), none⟩]))))))))
    (.seq (.seq (.keep [2, 4, 5] (.ops [⟨some 67, .mv (.t 5), none⟩, ⟨some 68, .bin .neq (.t 67) (.c (.int .i64 0)), none⟩]))
    (.cond (.t 68)
      (.seq (.keep [2, 5] (.ops [⟨some 69, .bld [.nils] [], none⟩, ⟨some 70, .mv (.t 5), none⟩, ⟨none, .st 1 (.t 2) (.t 69), none⟩, ⟨some 3, .mv (.t 70), none⟩]))
      .ret)
      .skip))
    (.seq (.seq (.keep [2, 4] (.ops [⟨some 71, .ld (some 1) (.t 4), none⟩, ⟨some 72, .call 31 [(.t 71)], none⟩, ⟨some 15, .mv (.t 72), none⟩]))
    (.seq (.keep [2, 4, 15] (.ops [⟨some 73, .mv (.t 15), none⟩, ⟨some 74, .bin .neq (.t 73) (.c (.int .i64 0)), none⟩]))
    (.cond (.t 74)
      (.seq (.keep [2, 15] (.ops [⟨some 75, .bld [.nils] [], none⟩, ⟨some 76, .mv (.t 15), none⟩, ⟨none, .st 1 (.t 2) (.t 75), none⟩, ⟨some 3, .mv (.t 76), none⟩]))
      .ret)
      .skip)))
    (.seq (.keep [2, 4] (.ops [⟨some 77, .ld (some 1) (.t 4), none⟩, ⟨none, .st 1 (.t 2) (.t 77), none⟩, ⟨some 3, .mv (.c (.int .i64 0)), none⟩]))
    .ret))))))), [.cl 2 (some 1), .t 3], 78⟩
theorem b33 : fB Tryz.prog 33 c33 = true := by kernel_rfl
/-- partywall/partywalllaw17.of -/
def c41 : CF := ⟨(.seq (.keep [0] (.ops [⟨some 2, .alloc [.nils], none⟩]))
    (.seq (.keep [0, 2] (.ops [⟨some 3, .alloc [.nils], none⟩]))
    (.seq (.seq (.keep [0, 2, 3] (.ops [⟨some 4, .mv (.c (.int .i64 0)), none⟩]))
    (.block 0 (.loop (.seq (.seq (.keep [0, 2, 3, 4] (.ops [⟨some 5, .mv (.t 4), none⟩, ⟨some 6, .bin .add (.t 5) (.c (.int .i64 1)), none⟩, ⟨some 7, .mv (.t 0), none⟩, ⟨some 8, .len (.t 7), none⟩, ⟨some 9, .bin .lss (.t 6) (.t 8), none⟩]))
    (.cond (.t 9)
      .skip
      (.exit 0)))
    (.seq (.block 1 (.keep [0, 2, 3, 4] (.drw [⟨some 12, .fldA 0 (.t 3), none⟩, ⟨some 13, .ld (none) (.t 12), none⟩, ⟨some 14, .mv (.t 0), none⟩, ⟨some 15, .mv (.t 4), none⟩, ⟨some 16, .ixA 1 (.t 14) (.t 15), none⟩, ⟨some 17, .ld (none) (.t 16), none⟩, ⟨some 18, .mv (.t 0), none⟩, ⟨some 19, .mv (.t 4), none⟩, ⟨some 20, .bin .add (.t 19) (.c (.int .i64 1)), none⟩, ⟨some 21, .ixA 1 (.t 18) (.t 20), none⟩, ⟨some 22, .ld (none) (.t 21), none⟩, ⟨some 23, .bld [.int .i64 0, .int .i64 0] [(0, 1, (.t 17)), (1, 1, (.t 22))], none⟩, ⟨some 24, .mkSl 2 1 [.int .i64 0, .int .i64 0] [(0, 2, (.t 23))], none⟩, ⟨some 25, .app true 70 2 16 (.t 13) (.t 24), none⟩, ⟨some 26, .fldA 0 (.t 3), none⟩, ⟨none, .st 1 (.t 26) (.t 25), none⟩] [0, 1, 0, 0, 0, 1, 0, 0, 0, 0, 1, 0, 0, 4, 0, 2])))
    (.keep [0, 2, 3, 4] (.ops [⟨some 10, .mv (.t 4), none⟩, ⟨some 11, .bin .add (.t 10) (.c (.int .i64 2)), none⟩, ⟨some 4, .mv (.t 11), none⟩])))))))
    (.seq (.keep [2, 3] (.ops [⟨some 27, .ld (some 1) (.t 3), none⟩, ⟨none, .st 1 (.t 2) (.t 27), none⟩]))
    .ret)))), [.cl 2 (some 1)], 28⟩
theorem b41 : fB Tryz.prog 41 c41 = true := by kernel_rfl
/-- partywall/partywalllaw17.two -/
def c42 : CF := ⟨(.seq (.keep [] (.ops [⟨some 0, .mv (.c .nils), none⟩]))
    (.seq (.keep [] (.ops [⟨some 1, .bld [.int .u64 0, .int .u64 0, .int .u64 0, .int .u64 0, .int .i64 0, .int .i64 0] [], none⟩, ⟨some 2, .bld [.int .u64 0, .int .u64 0] [(0, 1, (.c (.int .u64 2))), (1, 1, (.c (.int .u64 7)))], none⟩, ⟨some 3, .bld [.int .u64 0, .int .u64 0, .int .u64 0, .int .u64 0, .int .i64 0, .int .i64 0] [(0, 2, (.t 2))], none⟩, ⟨some 4, .mkSl 6 2 [.int .u64 0, .int .u64 0, .int .u64 0, .int .u64 0, .int .i64 0, .int .i64 0, .int .u64 0, .int .u64 0, .int .u64 0, .int .u64 0, .int .i64 0, .int .i64 0] [(0, 6, (.t 1)), (6, 6, (.t 3))], none⟩, ⟨some 0, .mv (.t 4), none⟩]))
    .ret)), [.t 0], 5⟩
theorem b42 : fB Tryz.prog 42 c42 = true := by kernel_rfl
/-- partywall/partywalllaw17.text -/
def c43 : CF := ⟨(.seq (.keep [0, 1] (.ops [⟨some 2, .box 7 (.t 0), none⟩, ⟨some 4, .mv (.c (.bool false)), none⟩]))
    (.seq (.keep [1, 2] (.ops [⟨some 8, .ld (some 7) (.t 2), none⟩, ⟨some 9, .call 11 [(.t 8)], none⟩, ⟨some 7, .mv (.t 9), none⟩, ⟨some 10, .ext (.t 7) 0, none⟩, ⟨some 11, .ext (.t 7) 1, none⟩, ⟨some 5, .mv (.t 10), none⟩, ⟨some 6, .mv (.t 11), none⟩]))
    (.seq (.keep [1, 5, 6] (.ops [⟨some 12, .mv (.t 6), none⟩, ⟨some 13, .bin .eql (.t 12) (.c (.int .i64 0)), none⟩, ⟨some 14, .mv (.t 13), none⟩, ⟨some 15, .mv (.t 5), some (14, true)⟩, ⟨some 16, .mv (.t 1), some (14, true)⟩, ⟨some 17, .bin .eql (.t 15) (.t 16), some (14, true)⟩, ⟨some 18, .pick (.t 14) (.t 17) (.c (.bool false)), none⟩, ⟨some 4, .mv (.t 18), none⟩]))
    .ret))), [.t 4], 19⟩
theorem b43 : fB Tryz.prog 43 c43 = true := by kernel_rfl
/-- partywall/partywalllaw17.compares -/
def c44 : CF := ⟨(.seq (.keep [0, 1, 2] (.ops [⟨some 3, .box 1 (.t 0), none⟩, ⟨some 4, .box 1 (.t 1), none⟩, ⟨some 6, .mv (.c (.bool false)), none⟩]))
    (.seq (.keep [2, 3, 4] (.ops [⟨some 10, .ld (some 1) (.t 3), none⟩, ⟨some 11, .ld (some 1) (.t 4), none⟩, ⟨some 12, .call 24 [(.t 10), (.t 11)], none⟩, ⟨some 9, .mv (.t 12), none⟩, ⟨some 13, .ext (.t 9) 0, none⟩, ⟨some 14, .ext (.t 9) 1, none⟩, ⟨some 7, .mv (.t 13), none⟩, ⟨some 8, .mv (.t 14), none⟩]))
    (.seq (.keep [2, 7, 8] (.ops [⟨some 15, .mv (.t 8), none⟩, ⟨some 16, .bin .eql (.t 15) (.c (.int .i64 0)), none⟩, ⟨some 17, .mv (.t 16), none⟩, ⟨some 18, .mv (.t 7), some (17, true)⟩, ⟨some 19, .mv (.t 2), some (17, true)⟩, ⟨some 20, .bin .eql (.t 18) (.t 19), some (17, true)⟩, ⟨some 21, .pick (.t 17) (.t 20) (.c (.bool false)), none⟩, ⟨some 6, .mv (.t 21), none⟩]))
    .ret))), [.t 6], 22⟩
theorem b44 : fB Tryz.prog 44 c44 = true := by kernel_rfl
/-- partywall/match.joined -/
def c45 : CF := ⟨(.seq (.keep [0] (.ops [⟨some 2, .mv (.c (.str [])), none⟩]))
    (.seq (.keep [0] (.ops [⟨some 3, .mv (.c .nils), none⟩]))
    (.seq (.seq (.keep [0, 3] (.ops [⟨some 10, .mv (.t 0), none⟩, ⟨some 11, .len (.t 10), none⟩, ⟨some 12, .mv (.c (.int .i64 0)), none⟩]))
    (.block 0 (.loop (.seq (.keep [3, 10, 11, 12] (.ops [⟨some 13, .bin .lss (.t 12) (.t 11), none⟩]))
    (.seq (.cond (.t 13)
      .skip
      (.exit 0))
    (.seq (.block 1 (.seq (.keep [3, 10, 11, 12] (.ops [⟨some 14, .ixA 1 (.t 10) (.t 12), none⟩, ⟨some 15, .ld (none) (.t 14), none⟩, ⟨some 5, .mv (.t 15), none⟩]))
    (.seq (.keep [3, 5, 10, 11, 12] (.ops [⟨some 16, .mv (.t 5), none⟩]))
    (.block 2 (.seq (.keep [3, 10, 11, 12, 16] (.ops [⟨some 17, .asT [9] [3, 2, 25] false (.str []) (.t 16), none⟩, ⟨some 18, .ext (.t 17) 1, none⟩, ⟨some 19, .ext (.t 17) 0, none⟩]))
    (.cond (.t 18)
      (.seq (.keep [3, 10, 11, 12, 19] (.ops [⟨some 6, .mv (.t 19), none⟩]))
      (.keep [3, 6, 10, 11, 12] (.ops [⟨some 20, .mv (.t 3), none⟩, ⟨some 21, .mv (.t 6), none⟩, ⟨some 22, .mkSl 1 1 [.str []] [(0, 1, (.t 21))], none⟩, ⟨some 23, .app true 9 1 16 (.t 20) (.t 22), none⟩, ⟨some 3, .mv (.t 23), none⟩])))
      (.seq (.keep [3, 10, 11, 12, 16] (.ops [⟨some 24, .asT [3] [9, 2, 25] false (.int .i64 0) (.t 16), none⟩, ⟨some 25, .ext (.t 24) 1, none⟩, ⟨some 26, .ext (.t 24) 0, none⟩]))
      (.cond (.t 25)
        (.seq (.keep [3, 10, 11, 12, 26] (.ops [⟨some 7, .mv (.t 26), none⟩]))
        (.keep [3, 7, 10, 11, 12] (.ops [⟨some 27, .mv (.t 3), none⟩, ⟨some 28, .mv (.t 7), none⟩, ⟨some 29, .call 47 [(.t 28)], none⟩, ⟨some 30, .mkSl 1 1 [.str []] [(0, 1, (.t 29))], none⟩, ⟨some 31, .app true 9 1 16 (.t 27) (.t 30), none⟩, ⟨some 3, .mv (.t 31), none⟩])))
        (.seq (.keep [3, 10, 11, 12, 16] (.ops [⟨some 32, .asT [2] [9, 3, 25] false (.int .i64 0) (.t 16), none⟩, ⟨some 33, .ext (.t 32) 1, none⟩, ⟨some 34, .ext (.t 32) 0, none⟩]))
        (.cond (.t 33)
          (.seq (.keep [3, 10, 11, 12, 34] (.ops [⟨some 8, .mv (.t 34), none⟩]))
          (.keep [3, 8, 10, 11, 12] (.ops [⟨some 35, .mv (.t 3), none⟩, ⟨some 36, .mv (.t 8), none⟩, ⟨some 37, .call 84 [(.t 36)], none⟩, ⟨some 38, .mkSl 1 1 [.str []] [(0, 1, (.t 37))], none⟩, ⟨some 39, .app true 9 1 16 (.t 35) (.t 38), none⟩, ⟨some 3, .mv (.t 39), none⟩])))
          (.seq (.keep [3, 10, 11, 12, 16] (.ops [⟨some 40, .asT [25] [9, 3, 2] true .nili (.t 16), none⟩, ⟨some 41, .ext (.t 40) 1, none⟩, ⟨some 42, .ext (.t 40) 0, none⟩]))
          (.cond (.t 41)
            (.seq (.keep [3, 10, 11, 12, 42] (.ops [⟨some 9, .mv (.t 42), none⟩]))
            (.keep [3, 9, 10, 11, 12] (.ops [⟨some 43, .mv (.t 3), none⟩, ⟨some 44, .mv (.t 9), none⟩, ⟨some 45, .invk [(25, 49)] (.t 44) [], none⟩, ⟨some 46, .mkSl 1 1 [.str []] [(0, 1, (.t 45))], none⟩, ⟨some 47, .app true 9 1 16 (.t 43) (.t 46), none⟩, ⟨some 3, .mv (.t 47), none⟩])))
            .skip))))))))))))
    (.keep [3, 10, 11, 12] (.ops [⟨some 48, .bin .add (.t 12) (.c (.int .i64 1)), none⟩, ⟨some 12, .mv (.t 48), none⟩]))))))))
    (.seq (.keep [3] (.ops [⟨some 49, .mv (.t 3), none⟩, ⟨some 50, .call 66 [(.t 49), (.c (.str [32]))], none⟩, ⟨some 2, .mv (.t 50), none⟩]))
    .ret)))), [.t 2], 51⟩
theorem b45 : fB Tryz.prog 45 c45 = true := by kernel_rfl
/-- partywall/label.Text -/
def c46 : CF := ⟨(.seq (.keep [0] (.ops [⟨some 2, .mv (.c (.str [])), none⟩]))
    (.seq (.keep [0, 2] (.ops [⟨some 3, .alloc [.nils], none⟩]))
    (.seq (.seq (.keep [0, 2, 3] (.ops [⟨some 5, .mv (.t 0), none⟩, ⟨some 6, .call 85 [(.t 5)], none⟩]))
    (.block 0 (.rfun (.t 6) [7]
      (.keep [3, 7] (.ops [⟨some 4, .mv (.t 7), none⟩]))
      (.block 1 (.keep [3, 4] (.drw [⟨some 8, .ld (none) (.t 3), none⟩, ⟨some 9, .mv (.t 4), none⟩, ⟨some 10, .call 86 [(.t 9)], none⟩, ⟨some 11, .mkSl 1 1 [.str []] [(0, 1, (.t 10))], none⟩, ⟨some 12, .app true 9 1 16 (.t 8) (.t 11), none⟩, ⟨none, .st 1 (.t 3) (.t 12), none⟩] [1, 0, 1, 0, 4, 2]))))))
    (.seq (.keep [3] (.ops [⟨some 13, .ld (none) (.t 3), none⟩, ⟨some 14, .call 66 [(.t 13), (.c (.str [44]))], none⟩, ⟨some 15, .bin .add (.c (.str [123])) (.t 14), none⟩, ⟨some 16, .bin .add (.t 15) (.c (.str [125])), none⟩, ⟨some 2, .mv (.t 16), none⟩]))
    .ret)))), [.t 2], 17⟩
theorem b46 : fB Tryz.prog 46 c46 = true := by kernel_rfl
/-- partywall/match.digits -/
def c47 : CF := ⟨(.seq (.keep [0] (.ops [⟨some 2, .mv (.c (.str [])), none⟩]))
    (.seq (.keep [0] (.ops [⟨some 3, .mv (.t 0), none⟩, ⟨some 4, .call 84 [(.t 3)], none⟩, ⟨some 2, .mv (.t 4), none⟩]))
    .ret)), [.t 2], 5⟩
theorem b47 : fB Tryz.prog 47 c47 = true := by kernel_rfl
/-- partywall/partywallref17.decimal -/
def c48 : CF := ⟨(.seq (.keep [0] (.ops [⟨some 2, .mv (.c (.str [])), none⟩]))
    (.seq (.keep [0] (.ops [⟨some 3, .mv (.t 0), none⟩, ⟨some 4, .call 51 [(.t 3)], none⟩, ⟨some 2, .mv (.t 4), none⟩]))
    .ret)), [.t 2], 5⟩
theorem b48 : fB Tryz.prog 48 c48 = true := by kernel_rfl
/-- (partywall/api.Errno).Error -/
def c49 : CF := ⟨(.seq (.keep [0] (.ops [⟨some 2, .mv (.c (.str [])), none⟩]))
    (.seq (.seq (.keep [0] (.ops [⟨some 4, .mv (.t 0), none⟩, ⟨some 5, .bin .lss (.t 4) (.c (.int .i64 0)), none⟩, ⟨some 6, .mv (.t 5), none⟩, ⟨some 7, .mv (.t 0), some (6, false)⟩, ⟨some 8, .bin .geq (.t 7) (.c (.int .i64 24)), some (6, false)⟩, ⟨some 9, .pick (.t 6) (.c (.bool true)) (.t 8), none⟩]))
    (.cond (.t 9)
      (.seq (.keep [] (.ops [⟨some 2, .mv (.c (.str [117, 110, 107, 110, 111, 119, 110])), none⟩]))
      .ret)
      .skip))
    (.seq (.keep [0] (.ops [⟨some 10, .mv (.t 0), none⟩, ⟨some 11, .bin .mul (.c (.int .i64 10)) (.t 10), none⟩, ⟨some 12, .mv (.t 0), none⟩, ⟨some 13, .bin .mul (.c (.int .i64 10)) (.t 12), none⟩, ⟨some 14, .bin .add (.t 13) (.c (.int .i64 10)), none⟩, ⟨some 15, .slcS (.c (.str [111, 107, 32, 32, 32, 32, 32, 32, 32, 32, 110, 105, 108, 32, 32, 32, 32, 32, 32, 32, 114, 97, 110, 103, 101, 32, 32, 32, 32, 32, 102, 111, 114, 109, 32, 32, 32, 32, 32, 32, 108, 111, 110, 103, 32, 32, 32, 32, 32, 32, 115, 104, 111, 114, 116, 32, 32, 32, 32, 32, 102, 117, 108, 108, 32, 32, 32, 32, 32, 32, 109, 105, 115, 115, 105, 110, 103, 32, 32, 32, 101, 120, 105, 115, 116, 115, 32, 32, 32, 32, 111, 114, 100, 101, 114, 32, 32, 32, 32, 32, 115, 116, 97, 116, 101, 32, 32, 32, 32, 32, 107, 105, 110, 100, 32, 32, 32, 32, 32, 32, 110, 97, 109, 101, 32, 32, 32, 32, 32, 32, 108, 97, 98, 101, 108, 32, 32, 32, 32, 32, 99, 108, 97, 115, 115, 32, 32, 32, 32, 32, 113, 117, 111, 116, 97, 32, 32, 32, 32, 32, 115, 117, 109, 32, 32, 32, 32, 32, 32, 32, 99, 97, 112, 32, 32, 32, 32, 32, 32, 32, 108, 111, 115, 116, 32, 32, 32, 32, 32, 32, 111, 117, 116, 32, 32, 32, 32, 32, 32, 32, 114, 117, 108, 101, 32, 32, 32, 32, 32, 32, 97, 117, 100, 105, 116, 32, 32, 32, 32, 32, 100, 101, 112, 116, 104, 32, 32, 32, 32, 32, 108, 105, 110, 101, 115, 32, 32, 32, 32, 32])) (some (.t 11)) (some (.t 14)), none⟩, ⟨some 3, .mv (.t 15), none⟩]))
    (.seq (.block 0 (.loop (.seq (.seq (.keep [3] (.ops [⟨some 16, .mv (.t 3), none⟩, ⟨some 17, .mv (.t 3), none⟩, ⟨some 18, .lenS (.t 17), none⟩, ⟨some 19, .bin .sub (.t 18) (.c (.int .i64 1)), none⟩, ⟨some 20, .ixS (.t 16) (.t 19), none⟩, ⟨some 21, .bin .eql (.t 20) (.c (.int .u8 32)), none⟩]))
    (.cond (.t 21)
      .skip
      (.exit 0)))
    (.block 1 (.keep [3] (.ops [⟨some 22, .mv (.t 3), none⟩, ⟨some 23, .mv (.t 3), none⟩, ⟨some 24, .lenS (.t 23), none⟩, ⟨some 25, .bin .sub (.t 24) (.c (.int .i64 1)), none⟩, ⟨some 26, .slcS (.t 22) none (some (.t 25)), none⟩, ⟨some 3, .mv (.t 26), none⟩]))))))
    (.seq (.keep [3] (.ops [⟨some 27, .mv (.t 3), none⟩, ⟨some 2, .mv (.t 27), none⟩]))
    .ret))))), [.t 2], 28⟩
theorem b49 : fB Tryz.prog 49 c49 = true := by kernel_rfl
/-- partywall/partywallref01.Text -/
def c50 : CF := ⟨(.seq (.keep [0] (.ops [⟨some 2, .mv (.c (.str [])), none⟩]))
    (.seq (.keep [0] (.ops [⟨some 3, .mv (.c (.str [123])), none⟩]))
    (.seq (.keep [0, 3] (.ops [⟨some 6, .mv (.t 0), none⟩, ⟨some 7, .call 87 [(.t 6)], none⟩, ⟨some 4, .mv (.t 7), none⟩]))
    (.seq (.seq (.keep [3, 4] (.ops [⟨some 5, .mv (.c (.int .i64 0)), none⟩]))
    (.block 0 (.loop (.seq (.seq (.keep [3, 4, 5] (.ops [⟨some 8, .mv (.t 5), none⟩, ⟨some 9, .mv (.t 4), none⟩, ⟨some 10, .len (.t 9), none⟩, ⟨some 11, .bin .lss (.t 8) (.t 10), none⟩]))
    (.cond (.t 11)
      .skip
      (.exit 0)))
    (.seq (.block 1 (.seq (.seq (.keep [3, 4, 5] (.ops [⟨some 14, .mv (.t 5), none⟩, ⟨some 15, .bin .gtr (.t 14) (.c (.int .i64 0)), none⟩]))
    (.cond (.t 15)
      (.keep [3, 4, 5] (.ops [⟨some 16, .mv (.t 3), none⟩, ⟨some 17, .bin .add (.t 16) (.c (.str [44])), none⟩, ⟨some 3, .mv (.t 17), none⟩]))
      .skip))
    (.keep [3, 4, 5] (.ops [⟨some 18, .mv (.t 3), none⟩, ⟨some 19, .mv (.t 4), none⟩, ⟨some 20, .mv (.t 5), none⟩, ⟨some 21, .ixA 1 (.t 19) (.t 20), none⟩, ⟨some 22, .ld (none) (.t 21), none⟩, ⟨some 23, .call 88 [(.t 22)], none⟩, ⟨some 24, .bin .add (.t 18) (.t 23), none⟩, ⟨some 3, .mv (.t 24), none⟩]))))
    (.keep [3, 4, 5] (.ops [⟨some 12, .mv (.t 5), none⟩, ⟨some 13, .bin .add (.t 12) (.c (.int .i64 1)), none⟩, ⟨some 5, .mv (.t 13), none⟩])))))))
    (.seq (.keep [3] (.ops [⟨some 25, .mv (.t 3), none⟩, ⟨some 26, .bin .add (.t 25) (.c (.str [125])), none⟩, ⟨some 2, .mv (.t 26), none⟩]))
    .ret))))), [.t 2], 27⟩
theorem b50 : fB Tryz.prog 50 c50 = true := by kernel_rfl
/-- partywall/partywallref05.Text -/
def c51 : CF := ⟨(.seq (.keep [0] (.ops [⟨some 2, .mv (.c (.str [])), none⟩]))
    (.seq (.seq (.keep [0] (.ops [⟨some 3, .mv (.t 0), none⟩, ⟨some 4, .bin .lss (.t 3) (.c (.int .i64 0)), none⟩]))
    (.cond (.t 4)
      (.seq (.keep [0] (.ops [⟨some 5, .mv (.t 0), none⟩, ⟨some 6, .call 90 [(.t 5)], none⟩, ⟨some 7, .call 89 [(.t 6)], none⟩, ⟨some 8, .bin .add (.c (.str [45])) (.t 7), none⟩, ⟨some 2, .mv (.t 8), none⟩]))
      .ret)
      .skip))
    (.seq (.keep [0] (.ops [⟨some 9, .mv (.t 0), none⟩, ⟨some 10, .call 90 [(.t 9)], none⟩, ⟨some 11, .call 89 [(.t 10)], none⟩, ⟨some 2, .mv (.t 11), none⟩]))
    .ret))), [.t 2], 12⟩
theorem b51 : fB Tryz.prog 51 c51 = true := by kernel_rfl
/-- partywall/match.found -/
def c52 : CF := ⟨(.seq (.keep [0] (.ops [⟨some 1, .box 7 (.t 0), none⟩, ⟨some 2, .mv (.c (.int .i64 0)), none⟩]))
    (.seq (.block 0 (.seq (.keep [1] (.ops [⟨some 6, .fldA 1 (.t 1), none⟩, ⟨some 7, .ld (none) (.t 6), none⟩, ⟨some 8, .call 91 [(.t 7)], none⟩, ⟨some 9, .un .not (.t 8), none⟩, ⟨some 5, .mv (.t 9), none⟩]))
    (.cond (.t 5)
      (.seq (.keep [] (.ops [⟨some 2, .mv (.c (.int .i64 2)), none⟩]))
      .ret)
      (.seq (.keep [1] (.ops [⟨some 11, .fldA 2 (.t 1), none⟩, ⟨some 12, .ld (none) (.t 11), none⟩, ⟨some 13, .len (.t 12), none⟩, ⟨some 14, .bin .eql (.t 13) (.c (.int .i64 0)), none⟩, ⟨some 10, .mv (.t 14), none⟩]))
      (.cond (.t 10)
        (.seq (.keep [] (.ops [⟨some 2, .mv (.c (.int .i64 5)), none⟩]))
        .ret)
        (.seq (.keep [1] (.ops [⟨some 16, .fldA 2 (.t 1), none⟩, ⟨some 17, .ld (none) (.t 16), none⟩, ⟨some 18, .len (.t 17), none⟩, ⟨some 19, .bin .gtr (.t 18) (.c (.int .i64 12)), none⟩, ⟨some 15, .mv (.t 19), none⟩]))
        (.cond (.t 15)
          (.seq (.keep [] (.ops [⟨some 2, .mv (.c (.int .i64 6)), none⟩]))
          .ret)
          (.seq (.keep [1] (.ops [⟨some 21, .fldA 3 (.t 1), none⟩, ⟨some 22, .ld (none) (.t 21), none⟩, ⟨some 23, .len (.t 22), none⟩, ⟨some 24, .fldA 2 (.t 1), none⟩, ⟨some 25, .ld (none) (.t 24), none⟩, ⟨some 26, .len (.t 25), none⟩, ⟨some 27, .bin .neq (.t 23) (.t 26), none⟩, ⟨some 20, .mv (.t 27), none⟩]))
          (.cond (.t 20)
            (.seq (.keep [] (.ops [⟨some 2, .mv (.c (.int .i64 3)), none⟩]))
            .ret)
            .skip)))))))))
    (.seq (.seq (.keep [1] (.ops [⟨some 28, .fldA 2 (.t 1), none⟩, ⟨some 29, .ld (none) (.t 28), none⟩, ⟨some 30, .len (.t 29), none⟩, ⟨some 31, .mv (.c (.int .i64 0)), none⟩]))
    (.block 1 (.loop (.seq (.keep [1, 29, 30, 31] (.ops [⟨some 32, .bin .lss (.t 31) (.t 30), none⟩]))
    (.seq (.cond (.t 32)
      .skip
      (.exit 1))
    (.seq (.block 2 (.seq (.keep [1, 29, 30, 31] (.ops [⟨some 33, .mv (.t 31), none⟩, ⟨some 34, .ixA 2 (.t 29) (.t 31), none⟩, ⟨some 35, .ld (some 2) (.t 34), none⟩, ⟨some 4, .alloc [.int .u64 0, .int .u64 0], none⟩, ⟨some 3, .mv (.t 33), none⟩, ⟨none, .st 2 (.t 4) (.t 35), none⟩]))
    (.seq (.keep [1, 3, 4, 29, 30, 31] (.ops [⟨some 36, .fldA 1 (.t 4), none⟩, ⟨some 37, .ld (none) (.t 36), none⟩, ⟨some 38, .bin .lss (.t 37) (.c (.int .u64 1)), none⟩, ⟨some 39, .mv (.t 38), none⟩, ⟨some 40, .fldA 1 (.t 4), some (39, false)⟩, ⟨some 41, .ld (none) (.t 40), some (39, false)⟩, ⟨some 42, .bin .gtr (.t 41) (.c (.int .u64 1099511627776)), some (39, false)⟩, ⟨some 43, .pick (.t 39) (.c (.bool true)) (.t 42), none⟩, ⟨some 44, .mv (.t 43), none⟩, ⟨some 45, .fldA 3 (.t 1), some (44, false)⟩, ⟨some 46, .ld (none) (.t 45), some (44, false)⟩, ⟨some 47, .mv (.t 3), some (44, false)⟩, ⟨some 48, .ixA 1 (.t 46) (.t 47), some (44, false)⟩, ⟨some 49, .ld (none) (.t 48), some (44, false)⟩, ⟨some 50, .bin .lss (.t 49) (.c (.int .i64 0)), some (44, false)⟩, ⟨some 51, .pick (.t 44) (.c (.bool true)) (.t 50), none⟩, ⟨some 52, .mv (.t 51), none⟩, ⟨some 53, .fldA 3 (.t 1), some (52, false)⟩, ⟨some 54, .ld (none) (.t 53), some (52, false)⟩, ⟨some 55, .mv (.t 3), some (52, false)⟩, ⟨some 56, .ixA 1 (.t 54) (.t 55), some (52, false)⟩, ⟨some 57, .ld (none) (.t 56), some (52, false)⟩, ⟨some 58, .bin .geq (.t 57) (.c (.int .i64 12)), some (52, false)⟩, ⟨some 59, .pick (.t 52) (.c (.bool true)) (.t 58), none⟩]))
    (.cond (.t 59)
      (.seq (.keep [] (.ops [⟨some 2, .mv (.c (.int .i64 2)), none⟩]))
      .ret)
      .skip))))
    (.keep [1, 29, 30, 31] (.ops [⟨some 60, .bin .add (.t 31) (.c (.int .i64 1)), none⟩, ⟨some 31, .mv (.t 60), none⟩]))))))))
    (.seq (.block 3 (.seq (.keep [1] (.ops [⟨some 62, .fldA 5 (.t 1), none⟩, ⟨some 63, .ld (none) (.t 62), none⟩, ⟨some 64, .bin .neq (.t 63) (.c (.int .i64 0)), none⟩, ⟨some 65, .mv (.t 64), none⟩, ⟨some 66, .fldA 5 (.t 1), some (65, true)⟩, ⟨some 67, .ld (none) (.t 66), some (65, true)⟩, ⟨some 68, .bin .neq (.t 67) (.c (.int .i64 7)), some (65, true)⟩, ⟨some 69, .pick (.t 65) (.t 68) (.c (.bool false)), none⟩, ⟨some 70, .mv (.t 69), none⟩, ⟨some 71, .fldA 5 (.t 1), some (70, true)⟩, ⟨some 72, .ld (none) (.t 71), some (70, true)⟩, ⟨some 73, .bin .neq (.t 72) (.c (.int .i64 16)), some (70, true)⟩, ⟨some 74, .pick (.t 70) (.t 73) (.c (.bool false)), none⟩, ⟨some 61, .mv (.t 74), none⟩]))
    (.cond (.t 61)
      (.seq (.keep [] (.ops [⟨some 2, .mv (.c (.int .i64 11)), none⟩]))
      .ret)
      (.seq (.keep [1] (.ops [⟨some 76, .fldA 5 (.t 1), none⟩, ⟨some 77, .ld (none) (.t 76), none⟩, ⟨some 78, .bin .neq (.t 77) (.c (.int .i64 0)), none⟩, ⟨some 79, .mv (.t 78), none⟩, ⟨some 80, .fldA 4 (.t 1), some (79, true)⟩, ⟨some 81, .ld (none) (.t 80), some (79, true)⟩, ⟨some 82, .len (.t 81), some (79, true)⟩, ⟨some 83, .bin .gtr (.t 82) (.c (.int .i64 0)), some (79, true)⟩, ⟨some 84, .pick (.t 79) (.t 83) (.c (.bool false)), none⟩, ⟨some 75, .mv (.t 84), none⟩]))
      (.cond (.t 75)
        (.seq (.keep [] (.ops [⟨some 2, .mv (.c (.int .i64 3)), none⟩]))
        .ret)
        (.seq (.keep [1] (.ops [⟨some 86, .fldA 4 (.t 1), none⟩, ⟨some 87, .ld (none) (.t 86), none⟩, ⟨some 88, .len (.t 87), none⟩, ⟨some 89, .bin .gtr (.t 88) (.c (.int .i64 4)), none⟩, ⟨some 85, .mv (.t 89), none⟩]))
        (.cond (.t 85)
          (.seq (.keep [] (.ops [⟨some 2, .mv (.c (.int .i64 6)), none⟩]))
          .ret)
          (.seq (.keep [1] (.ops [⟨some 91, .fldA 6 (.t 1), none⟩, ⟨some 92, .ld (none) (.t 91), none⟩, ⟨some 93, .bin .neq (.t 92) (.c (.int .i64 0)), none⟩, ⟨some 90, .mv (.t 93), none⟩]))
          (.cond (.t 90)
            (.seq (.keep [] (.ops [⟨some 2, .mv (.c (.int .i64 3)), none⟩]))
            .ret)
            .skip)))))))))
    (.seq (.keep [] (.ops [⟨some 2, .mv (.c (.int .i64 0)), none⟩]))
    .ret))))), [.t 2], 94⟩
theorem b52 : fB Tryz.prog 52 c52 = true := by kernel_rfl
/-- partywall/match.notice -/
def c53 : CF := ⟨(.seq (.keep [0] (.ops [⟨some 1, .box 7 (.t 0), none⟩, ⟨some 2, .mv (.c (.int .i64 0)), none⟩]))
    (.seq (.block 0 (.seq (.keep [1] (.ops [⟨some 4, .fldA 5 (.t 1), none⟩, ⟨some 5, .ld (none) (.t 4), none⟩, ⟨some 6, .bin .neq (.t 5) (.c (.int .i64 17)), none⟩, ⟨some 7, .mv (.t 6), none⟩, ⟨some 8, .fldA 5 (.t 1), some (7, true)⟩, ⟨some 9, .ld (none) (.t 8), some (7, true)⟩, ⟨some 10, .bin .neq (.t 9) (.c (.int .i64 18)), some (7, true)⟩, ⟨some 11, .pick (.t 7) (.t 10) (.c (.bool false)), none⟩, ⟨some 12, .mv (.t 11), none⟩, ⟨some 13, .fldA 5 (.t 1), some (12, true)⟩, ⟨some 14, .ld (none) (.t 13), some (12, true)⟩, ⟨some 15, .bin .neq (.t 14) (.c (.int .i64 19)), some (12, true)⟩, ⟨some 16, .pick (.t 12) (.t 15) (.c (.bool false)), none⟩, ⟨some 3, .mv (.t 16), none⟩]))
    (.cond (.t 3)
      (.seq (.keep [] (.ops [⟨some 2, .mv (.c (.int .i64 11)), none⟩]))
      .ret)
      (.seq (.keep [1] (.ops [⟨some 18, .fldA 5 (.t 1), none⟩, ⟨some 19, .ld (none) (.t 18), none⟩, ⟨some 20, .bin .eql (.t 19) (.c (.int .i64 19)), none⟩, ⟨some 21, .mv (.t 20), none⟩, ⟨some 22, .fldA 1 (.t 1), some (21, true)⟩, ⟨some 23, .ld (none) (.t 22), some (21, true)⟩, ⟨some 24, .bin .neq (.t 23) (.c (.int .i64 0)), some (21, true)⟩, ⟨some 25, .pick (.t 21) (.t 24) (.c (.bool false)), none⟩, ⟨some 26, .mv (.t 25), none⟩, ⟨some 27, .fldA 5 (.t 1), some (26, false)⟩, ⟨some 28, .ld (none) (.t 27), some (26, false)⟩, ⟨some 29, .bin .neq (.t 28) (.c (.int .i64 19)), some (26, false)⟩, ⟨some 30, .mv (.t 29), some (26, false)⟩, ⟨some 31, .fldA 1 (.t 1), some (30, true)⟩, ⟨some 32, .ld (none) (.t 31), some (30, true)⟩, ⟨some 33, .call 91 [(.t 32)], some (30, true)⟩, ⟨some 34, .un .not (.t 33), some (30, true)⟩, ⟨some 35, .pick (.t 30) (.t 34) (.c (.bool false)), some (26, false)⟩, ⟨some 36, .pick (.t 26) (.c (.bool true)) (.t 35), none⟩, ⟨some 17, .mv (.t 36), none⟩]))
      (.cond (.t 17)
        (.seq (.keep [] (.ops [⟨some 2, .mv (.c (.int .i64 2)), none⟩]))
        .ret)
        (.seq (.keep [1] (.ops [⟨some 38, .fldA 5 (.t 1), none⟩, ⟨some 39, .ld (none) (.t 38), none⟩, ⟨some 40, .bin .eql (.t 39) (.c (.int .i64 17)), none⟩, ⟨some 41, .mv (.t 40), none⟩, ⟨some 42, .fldA 6 (.t 1), some (41, true)⟩, ⟨some 43, .ld (none) (.t 42), some (41, true)⟩, ⟨some 44, .bin .neq (.t 43) (.c (.int .i64 0)), some (41, true)⟩, ⟨some 45, .pick (.t 41) (.t 44) (.c (.bool false)), none⟩, ⟨some 46, .mv (.t 45), none⟩, ⟨some 47, .fldA 5 (.t 1), some (46, false)⟩, ⟨some 48, .ld (none) (.t 47), some (46, false)⟩, ⟨some 49, .bin .neq (.t 48) (.c (.int .i64 17)), some (46, false)⟩, ⟨some 50, .mv (.t 49), some (46, false)⟩, ⟨some 51, .fldA 6 (.t 1), some (50, true)⟩, ⟨some 52, .ld (none) (.t 51), some (50, true)⟩, ⟨some 53, .call 91 [(.t 52)], some (50, true)⟩, ⟨some 54, .un .not (.t 53), some (50, true)⟩, ⟨some 55, .pick (.t 50) (.t 54) (.c (.bool false)), some (46, false)⟩, ⟨some 56, .pick (.t 46) (.c (.bool true)) (.t 55), none⟩, ⟨some 37, .mv (.t 56), none⟩]))
        (.cond (.t 37)
          (.seq (.keep [] (.ops [⟨some 2, .mv (.c (.int .i64 2)), none⟩]))
          .ret)
          (.seq (.keep [1] (.ops [⟨some 58, .fldA 2 (.t 1), none⟩, ⟨some 59, .ld (none) (.t 58), none⟩, ⟨some 60, .len (.t 59), none⟩, ⟨some 61, .fldA 3 (.t 1), none⟩, ⟨some 62, .ld (none) (.t 61), none⟩, ⟨some 63, .len (.t 62), none⟩, ⟨some 64, .bin .add (.t 60) (.t 63), none⟩, ⟨some 65, .fldA 4 (.t 1), none⟩, ⟨some 66, .ld (none) (.t 65), none⟩, ⟨some 67, .len (.t 66), none⟩, ⟨some 68, .bin .add (.t 64) (.t 67), none⟩, ⟨some 69, .bin .gtr (.t 68) (.c (.int .i64 0)), none⟩, ⟨some 57, .mv (.t 69), none⟩]))
          (.cond (.t 57)
            (.seq (.keep [] (.ops [⟨some 2, .mv (.c (.int .i64 3)), none⟩]))
            .ret)
            .skip)))))))))
    (.seq (.keep [] (.ops [⟨some 2, .mv (.c (.int .i64 0)), none⟩]))
    .ret))), [.t 2], 70⟩
theorem b53 : fB Tryz.prog 53 c53 = true := by kernel_rfl
/-- partywall/partywallref17.found -/
def c54 : CF := ⟨(.seq (.keep [0] (.ops [⟨some 1, .box 7 (.t 0), none⟩, ⟨some 2, .mv (.c (.int .i64 0)), none⟩]))
    (.seq (.block 0 (.seq (.keep [1] (.ops [⟨some 5, .fldA 1 (.t 1), none⟩, ⟨some 6, .ld (none) (.t 5), none⟩, ⟨some 7, .call 92 [(.t 6)], none⟩, ⟨some 8, .un .not (.t 7), none⟩, ⟨some 4, .mv (.t 8), none⟩]))
    (.cond (.t 4)
      (.seq (.keep [] (.ops [⟨some 2, .mv (.c (.int .i64 2)), none⟩]))
      .ret)
      (.seq (.keep [1] (.ops [⟨some 10, .fldA 2 (.t 1), none⟩, ⟨some 11, .ld (none) (.t 10), none⟩, ⟨some 12, .len (.t 11), none⟩, ⟨some 13, .bin .eql (.t 12) (.c (.int .i64 0)), none⟩, ⟨some 9, .mv (.t 13), none⟩]))
      (.cond (.t 9)
        (.seq (.keep [] (.ops [⟨some 2, .mv (.c (.int .i64 5)), none⟩]))
        .ret)
        (.seq (.keep [1] (.ops [⟨some 15, .fldA 2 (.t 1), none⟩, ⟨some 16, .ld (none) (.t 15), none⟩, ⟨some 17, .len (.t 16), none⟩, ⟨some 18, .bin .gtr (.t 17) (.c (.int .i64 12)), none⟩, ⟨some 14, .mv (.t 18), none⟩]))
        (.cond (.t 14)
          (.seq (.keep [] (.ops [⟨some 2, .mv (.c (.int .i64 6)), none⟩]))
          .ret)
          (.seq (.keep [1] (.ops [⟨some 20, .fldA 3 (.t 1), none⟩, ⟨some 21, .ld (none) (.t 20), none⟩, ⟨some 22, .len (.t 21), none⟩, ⟨some 23, .fldA 2 (.t 1), none⟩, ⟨some 24, .ld (none) (.t 23), none⟩, ⟨some 25, .len (.t 24), none⟩, ⟨some 26, .bin .neq (.t 22) (.t 25), none⟩, ⟨some 19, .mv (.t 26), none⟩]))
          (.cond (.t 19)
            (.seq (.keep [] (.ops [⟨some 2, .mv (.c (.int .i64 3)), none⟩]))
            .ret)
            .skip)))))))))
    (.seq (.seq (.keep [1] (.ops [⟨some 3, .mv (.c (.int .i64 0)), none⟩]))
    (.block 1 (.loop (.seq (.seq (.keep [1, 3] (.ops [⟨some 27, .mv (.t 3), none⟩, ⟨some 28, .fldA 2 (.t 1), none⟩, ⟨some 29, .ld (none) (.t 28), none⟩, ⟨some 30, .len (.t 29), none⟩, ⟨some 31, .bin .lss (.t 27) (.t 30), none⟩]))
    (.cond (.t 31)
      .skip
      (.exit 1)))
    (.seq (.block 2 (.seq (.keep [1, 3] (.ops [⟨some 34, .fldA 2 (.t 1), none⟩, ⟨some 35, .ld (none) (.t 34), none⟩, ⟨some 36, .mv (.t 3), none⟩, ⟨some 37, .ixA 2 (.t 35) (.t 36), none⟩, ⟨some 38, .fldA 1 (.t 37), none⟩, ⟨some 39, .ld (none) (.t 38), none⟩, ⟨some 40, .bin .lss (.t 39) (.c (.int .u64 1)), none⟩, ⟨some 41, .mv (.t 40), none⟩, ⟨some 42, .fldA 2 (.t 1), some (41, false)⟩, ⟨some 43, .ld (none) (.t 42), some (41, false)⟩, ⟨some 44, .mv (.t 3), some (41, false)⟩, ⟨some 45, .ixA 2 (.t 43) (.t 44), some (41, false)⟩, ⟨some 46, .fldA 1 (.t 45), some (41, false)⟩, ⟨some 47, .ld (none) (.t 46), some (41, false)⟩, ⟨some 48, .bin .gtr (.t 47) (.c (.int .u64 1099511627776)), some (41, false)⟩, ⟨some 49, .pick (.t 41) (.c (.bool true)) (.t 48), none⟩, ⟨some 50, .mv (.t 49), none⟩, ⟨some 51, .fldA 3 (.t 1), some (50, false)⟩, ⟨some 52, .ld (none) (.t 51), some (50, false)⟩, ⟨some 53, .mv (.t 3), some (50, false)⟩, ⟨some 54, .ixA 1 (.t 52) (.t 53), some (50, false)⟩, ⟨some 55, .ld (none) (.t 54), some (50, false)⟩, ⟨some 56, .bin .lss (.t 55) (.c (.int .i64 0)), some (50, false)⟩, ⟨some 57, .pick (.t 50) (.c (.bool true)) (.t 56), none⟩, ⟨some 58, .mv (.t 57), none⟩, ⟨some 59, .fldA 3 (.t 1), some (58, false)⟩, ⟨some 60, .ld (none) (.t 59), some (58, false)⟩, ⟨some 61, .mv (.t 3), some (58, false)⟩, ⟨some 62, .ixA 1 (.t 60) (.t 61), some (58, false)⟩, ⟨some 63, .ld (none) (.t 62), some (58, false)⟩, ⟨some 64, .bin .geq (.t 63) (.c (.int .i64 12)), some (58, false)⟩, ⟨some 65, .pick (.t 58) (.c (.bool true)) (.t 64), none⟩]))
    (.cond (.t 65)
      (.seq (.keep [] (.ops [⟨some 2, .mv (.c (.int .i64 2)), none⟩]))
      .ret)
      .skip)))
    (.keep [1, 3] (.ops [⟨some 32, .mv (.t 3), none⟩, ⟨some 33, .bin .add (.t 32) (.c (.int .i64 1)), none⟩, ⟨some 3, .mv (.t 33), none⟩])))))))
    (.seq (.block 3 (.seq (.keep [1] (.ops [⟨some 67, .fldA 5 (.t 1), none⟩, ⟨some 68, .ld (none) (.t 67), none⟩, ⟨some 69, .bin .neq (.t 68) (.c (.int .i64 0)), none⟩, ⟨some 70, .mv (.t 69), none⟩, ⟨some 71, .fldA 5 (.t 1), some (70, true)⟩, ⟨some 72, .ld (none) (.t 71), some (70, true)⟩, ⟨some 73, .bin .neq (.t 72) (.c (.int .i64 7)), some (70, true)⟩, ⟨some 74, .pick (.t 70) (.t 73) (.c (.bool false)), none⟩, ⟨some 75, .mv (.t 74), none⟩, ⟨some 76, .fldA 5 (.t 1), some (75, true)⟩, ⟨some 77, .ld (none) (.t 76), some (75, true)⟩, ⟨some 78, .bin .neq (.t 77) (.c (.int .i64 16)), some (75, true)⟩, ⟨some 79, .pick (.t 75) (.t 78) (.c (.bool false)), none⟩, ⟨some 66, .mv (.t 79), none⟩]))
    (.cond (.t 66)
      (.seq (.keep [] (.ops [⟨some 2, .mv (.c (.int .i64 11)), none⟩]))
      .ret)
      (.seq (.keep [1] (.ops [⟨some 81, .fldA 5 (.t 1), none⟩, ⟨some 82, .ld (none) (.t 81), none⟩, ⟨some 83, .bin .neq (.t 82) (.c (.int .i64 0)), none⟩, ⟨some 84, .mv (.t 83), none⟩, ⟨some 85, .fldA 4 (.t 1), some (84, true)⟩, ⟨some 86, .ld (none) (.t 85), some (84, true)⟩, ⟨some 87, .len (.t 86), some (84, true)⟩, ⟨some 88, .bin .gtr (.t 87) (.c (.int .i64 0)), some (84, true)⟩, ⟨some 89, .pick (.t 84) (.t 88) (.c (.bool false)), none⟩, ⟨some 80, .mv (.t 89), none⟩]))
      (.cond (.t 80)
        (.seq (.keep [] (.ops [⟨some 2, .mv (.c (.int .i64 3)), none⟩]))
        .ret)
        (.seq (.keep [1] (.ops [⟨some 91, .fldA 4 (.t 1), none⟩, ⟨some 92, .ld (none) (.t 91), none⟩, ⟨some 93, .len (.t 92), none⟩, ⟨some 94, .bin .gtr (.t 93) (.c (.int .i64 4)), none⟩, ⟨some 90, .mv (.t 94), none⟩]))
        (.cond (.t 90)
          (.seq (.keep [] (.ops [⟨some 2, .mv (.c (.int .i64 6)), none⟩]))
          .ret)
          (.seq (.keep [1] (.ops [⟨some 96, .fldA 6 (.t 1), none⟩, ⟨some 97, .ld (none) (.t 96), none⟩, ⟨some 98, .bin .neq (.t 97) (.c (.int .i64 0)), none⟩, ⟨some 95, .mv (.t 98), none⟩]))
          (.cond (.t 95)
            (.seq (.keep [] (.ops [⟨some 2, .mv (.c (.int .i64 3)), none⟩]))
            .ret)
            .skip)))))))))
    (.seq (.keep [] (.ops [⟨some 2, .mv (.c (.int .i64 0)), none⟩]))
    .ret))))), [.t 2], 99⟩
theorem b54 : fB Tryz.prog 54 c54 = true := by kernel_rfl
/-- partywall/partywallref17.notice -/
def c55 : CF := ⟨(.seq (.keep [0] (.ops [⟨some 1, .box 7 (.t 0), none⟩, ⟨some 2, .mv (.c (.int .i64 0)), none⟩]))
    (.seq (.block 0 (.seq (.keep [1] (.ops [⟨some 4, .fldA 5 (.t 1), none⟩, ⟨some 5, .ld (none) (.t 4), none⟩, ⟨some 6, .bin .neq (.t 5) (.c (.int .i64 17)), none⟩, ⟨some 7, .mv (.t 6), none⟩, ⟨some 8, .fldA 5 (.t 1), some (7, true)⟩, ⟨some 9, .ld (none) (.t 8), some (7, true)⟩, ⟨some 10, .bin .neq (.t 9) (.c (.int .i64 18)), some (7, true)⟩, ⟨some 11, .pick (.t 7) (.t 10) (.c (.bool false)), none⟩, ⟨some 12, .mv (.t 11), none⟩, ⟨some 13, .fldA 5 (.t 1), some (12, true)⟩, ⟨some 14, .ld (none) (.t 13), some (12, true)⟩, ⟨some 15, .bin .neq (.t 14) (.c (.int .i64 19)), some (12, true)⟩, ⟨some 16, .pick (.t 12) (.t 15) (.c (.bool false)), none⟩, ⟨some 3, .mv (.t 16), none⟩]))
    (.cond (.t 3)
      (.seq (.keep [] (.ops [⟨some 2, .mv (.c (.int .i64 11)), none⟩]))
      .ret)
      (.seq (.keep [1] (.ops [⟨some 18, .fldA 5 (.t 1), none⟩, ⟨some 19, .ld (none) (.t 18), none⟩, ⟨some 20, .bin .eql (.t 19) (.c (.int .i64 19)), none⟩, ⟨some 21, .mv (.t 20), none⟩, ⟨some 22, .fldA 1 (.t 1), some (21, true)⟩, ⟨some 23, .ld (none) (.t 22), some (21, true)⟩, ⟨some 24, .bin .neq (.t 23) (.c (.int .i64 0)), some (21, true)⟩, ⟨some 25, .pick (.t 21) (.t 24) (.c (.bool false)), none⟩, ⟨some 26, .mv (.t 25), none⟩, ⟨some 27, .fldA 5 (.t 1), some (26, false)⟩, ⟨some 28, .ld (none) (.t 27), some (26, false)⟩, ⟨some 29, .bin .neq (.t 28) (.c (.int .i64 19)), some (26, false)⟩, ⟨some 30, .mv (.t 29), some (26, false)⟩, ⟨some 31, .fldA 1 (.t 1), some (30, true)⟩, ⟨some 32, .ld (none) (.t 31), some (30, true)⟩, ⟨some 33, .call 92 [(.t 32)], some (30, true)⟩, ⟨some 34, .un .not (.t 33), some (30, true)⟩, ⟨some 35, .pick (.t 30) (.t 34) (.c (.bool false)), some (26, false)⟩, ⟨some 36, .pick (.t 26) (.c (.bool true)) (.t 35), none⟩, ⟨some 17, .mv (.t 36), none⟩]))
      (.cond (.t 17)
        (.seq (.keep [] (.ops [⟨some 2, .mv (.c (.int .i64 2)), none⟩]))
        .ret)
        (.seq (.keep [1] (.ops [⟨some 38, .fldA 5 (.t 1), none⟩, ⟨some 39, .ld (none) (.t 38), none⟩, ⟨some 40, .bin .eql (.t 39) (.c (.int .i64 17)), none⟩, ⟨some 41, .mv (.t 40), none⟩, ⟨some 42, .fldA 6 (.t 1), some (41, true)⟩, ⟨some 43, .ld (none) (.t 42), some (41, true)⟩, ⟨some 44, .bin .neq (.t 43) (.c (.int .i64 0)), some (41, true)⟩, ⟨some 45, .pick (.t 41) (.t 44) (.c (.bool false)), none⟩, ⟨some 46, .mv (.t 45), none⟩, ⟨some 47, .fldA 5 (.t 1), some (46, false)⟩, ⟨some 48, .ld (none) (.t 47), some (46, false)⟩, ⟨some 49, .bin .neq (.t 48) (.c (.int .i64 17)), some (46, false)⟩, ⟨some 50, .mv (.t 49), some (46, false)⟩, ⟨some 51, .fldA 6 (.t 1), some (50, true)⟩, ⟨some 52, .ld (none) (.t 51), some (50, true)⟩, ⟨some 53, .call 92 [(.t 52)], some (50, true)⟩, ⟨some 54, .un .not (.t 53), some (50, true)⟩, ⟨some 55, .pick (.t 50) (.t 54) (.c (.bool false)), some (46, false)⟩, ⟨some 56, .pick (.t 46) (.c (.bool true)) (.t 55), none⟩, ⟨some 37, .mv (.t 56), none⟩]))
        (.cond (.t 37)
          (.seq (.keep [] (.ops [⟨some 2, .mv (.c (.int .i64 2)), none⟩]))
          .ret)
          (.seq (.keep [1] (.ops [⟨some 58, .fldA 2 (.t 1), none⟩, ⟨some 59, .ld (none) (.t 58), none⟩, ⟨some 60, .len (.t 59), none⟩, ⟨some 61, .bin .gtr (.t 60) (.c (.int .i64 0)), none⟩, ⟨some 62, .mv (.t 61), none⟩, ⟨some 63, .fldA 3 (.t 1), some (62, false)⟩, ⟨some 64, .ld (none) (.t 63), some (62, false)⟩, ⟨some 65, .len (.t 64), some (62, false)⟩, ⟨some 66, .bin .gtr (.t 65) (.c (.int .i64 0)), some (62, false)⟩, ⟨some 67, .pick (.t 62) (.c (.bool true)) (.t 66), none⟩, ⟨some 68, .mv (.t 67), none⟩, ⟨some 69, .fldA 4 (.t 1), some (68, false)⟩, ⟨some 70, .ld (none) (.t 69), some (68, false)⟩, ⟨some 71, .len (.t 70), some (68, false)⟩, ⟨some 72, .bin .gtr (.t 71) (.c (.int .i64 0)), some (68, false)⟩, ⟨some 73, .pick (.t 68) (.c (.bool true)) (.t 72), none⟩, ⟨some 57, .mv (.t 73), none⟩]))
          (.cond (.t 57)
            (.seq (.keep [] (.ops [⟨some 2, .mv (.c (.int .i64 3)), none⟩]))
            .ret)
            .skip)))))))))
    (.seq (.keep [] (.ops [⟨some 2, .mv (.c (.int .i64 0)), none⟩]))
    .ret))), [.t 2], 74⟩
theorem b55 : fB Tryz.prog 55 c55 = true := by kernel_rfl
/-- partywall/match.column -/
def c56 : CF := ⟨(.seq (.keep [0, 1] (.ops [⟨some 2, .box 1 (.t 0), none⟩, ⟨some 4, .mv (.c .nils), none⟩]))
    (.seq (.keep [1, 2] (.ops [⟨some 5, .mv (.c .nils), none⟩]))
    (.seq (.seq (.keep [1, 2, 5] (.ops [⟨some 8, .fldA 0 (.t 2), none⟩, ⟨some 9, .ld (none) (.t 8), none⟩, ⟨some 10, .len (.t 9), none⟩, ⟨some 11, .mv (.c (.int .i64 0)), none⟩]))
    (.block 0 (.loop (.seq (.keep [1, 5, 9, 10, 11] (.ops [⟨some 12, .bin .lss (.t 11) (.t 10), none⟩]))
    (.seq (.cond (.t 12)
      .skip
      (.exit 0))
    (.seq (.block 1 (.seq (.keep [1, 5, 9, 10, 11] (.ops [⟨some 13, .ixA 2 (.t 9) (.t 11), none⟩, ⟨some 14, .ld (some 2) (.t 13), none⟩, ⟨some 7, .alloc [.int .i64 0, .int .i64 0], none⟩, ⟨none, .st 2 (.t 7) (.t 14), none⟩]))
    (.keep [1, 5, 7, 9, 10, 11] (.ops [⟨some 15, .mv (.t 5), none⟩, ⟨some 16, .mv (.t 1), none⟩, ⟨some 17, .ld (some 2) (.t 7), none⟩, ⟨some 18, .callv (.t 16) [(.t 17)], none⟩, ⟨some 19, .mkSl 1 1 [.int .i64 0] [(0, 1, (.t 18))], none⟩, ⟨some 20, .app true 3 1 8 (.t 15) (.t 19), none⟩, ⟨some 5, .mv (.t 20), none⟩]))))
    (.keep [1, 5, 9, 10, 11] (.ops [⟨some 21, .bin .add (.t 11) (.c (.int .i64 1)), none⟩, ⟨some 11, .mv (.t 21), none⟩]))))))))
    (.seq (.keep [5] (.ops [⟨some 22, .mv (.t 5), none⟩, ⟨some 4, .mv (.t 22), none⟩]))
    .ret)))), [.t 4], 23⟩
theorem b56 : fB Tryz.prog 56 c56 = true := by kernel_rfl
/-- partywall/match.atom -/
def c57 : CF := ⟨(.seq (.keep [0] (.ops [⟨some 1, .box 2 (.t 0), none⟩, ⟨some 2, .mv (.c (.int .i64 0)), none⟩]))
    (.seq (.keep [1] (.ops [⟨some 3, .fldA 1 (.t 1), none⟩, ⟨some 4, .ld (none) (.t 3), none⟩, ⟨some 2, .mv (.t 4), none⟩]))
    .ret)), [.t 2], 5⟩
theorem b57 : fB Tryz.prog 57 c57 = true := by kernel_rfl
/-- partywall/partywallkit.SameIds -/
def c59 : CF := ⟨(.seq (.keep [0, 1] (.ops [⟨some 4, .mv (.c (.bool false)), none⟩]))
    (.seq (.seq (.keep [0, 1] (.ops [⟨some 6, .mv (.t 0), none⟩, ⟨some 7, .len (.t 6), none⟩, ⟨some 8, .mv (.t 1), none⟩, ⟨some 9, .len (.t 8), none⟩, ⟨some 10, .bin .neq (.t 7) (.t 9), none⟩]))
    (.cond (.t 10)
      (.seq (.keep [] (.ops [⟨some 4, .mv (.c (.bool false)), none⟩]))
      .ret)
      .skip))
    (.seq (.seq (.keep [0, 1] (.ops [⟨some 5, .mv (.c (.int .i64 0)), none⟩]))
    (.block 0 (.loop (.seq (.seq (.keep [0, 1, 5] (.ops [⟨some 11, .mv (.t 5), none⟩, ⟨some 12, .mv (.t 0), none⟩, ⟨some 13, .len (.t 12), none⟩, ⟨some 14, .bin .lss (.t 11) (.t 13), none⟩]))
    (.cond (.t 14)
      .skip
      (.exit 0)))
    (.seq (.block 1 (.seq (.keep [0, 1, 5] (.drw [⟨some 17, .mv (.t 0), none⟩, ⟨some 18, .mv (.t 5), none⟩, ⟨some 19, .ixA 2 (.t 17) (.t 18), none⟩, ⟨some 20, .ld (some 2) (.t 19), none⟩, ⟨some 21, .mv (.t 1), none⟩, ⟨some 22, .mv (.t 5), none⟩, ⟨some 23, .ixA 2 (.t 21) (.t 22), none⟩, ⟨some 24, .ld (some 2) (.t 23), none⟩, ⟨some 25, .eqA true [0, 0] (.t 20) (.t 24), none⟩] [0, 0, 0, 1, 0, 0, 0, 1, 0]))
    (.cond (.t 25)
      (.seq (.keep [] (.ops [⟨some 4, .mv (.c (.bool false)), none⟩]))
      .ret)
      .skip)))
    (.keep [0, 1, 5] (.ops [⟨some 15, .mv (.t 5), none⟩, ⟨some 16, .bin .add (.t 15) (.c (.int .i64 1)), none⟩, ⟨some 5, .mv (.t 16), none⟩])))))))
    (.seq (.keep [] (.ops [⟨some 4, .mv (.c (.bool true)), none⟩]))
    .ret)))), [.t 4], 26⟩
theorem b59 : fB Tryz.prog 59 c59 = true := by kernel_rfl
/-- partywall/partywallkit.SameValues -/
def c60 : CF := ⟨(.seq (.keep [0, 1] (.ops [⟨some 4, .mv (.c (.bool false)), none⟩]))
    (.seq (.seq (.keep [0, 1] (.ops [⟨some 6, .mv (.t 0), none⟩, ⟨some 7, .len (.t 6), none⟩, ⟨some 8, .mv (.t 1), none⟩, ⟨some 9, .len (.t 8), none⟩, ⟨some 10, .bin .neq (.t 7) (.t 9), none⟩]))
    (.cond (.t 10)
      (.seq (.keep [] (.ops [⟨some 4, .mv (.c (.bool false)), none⟩]))
      .ret)
      .skip))
    (.seq (.seq (.keep [0, 1] (.ops [⟨some 5, .mv (.c (.int .i64 0)), none⟩]))
    (.block 0 (.loop (.seq (.seq (.keep [0, 1, 5] (.ops [⟨some 11, .mv (.t 5), none⟩, ⟨some 12, .mv (.t 0), none⟩, ⟨some 13, .len (.t 12), none⟩, ⟨some 14, .bin .lss (.t 11) (.t 13), none⟩]))
    (.cond (.t 14)
      .skip
      (.exit 0)))
    (.seq (.block 1 (.seq (.keep [0, 1, 5] (.drw [⟨some 17, .mv (.t 0), none⟩, ⟨some 18, .mv (.t 5), none⟩, ⟨some 19, .ixA 1 (.t 17) (.t 18), none⟩, ⟨some 20, .ld (none) (.t 19), none⟩, ⟨some 21, .mv (.t 1), none⟩, ⟨some 22, .mv (.t 5), none⟩, ⟨some 23, .ixA 1 (.t 21) (.t 22), none⟩, ⟨some 24, .ld (none) (.t 23), none⟩, ⟨some 25, .bin .neq (.t 20) (.t 24), none⟩] [0, 0, 0, 1, 0, 0, 0, 1, 0]))
    (.cond (.t 25)
      (.seq (.keep [] (.ops [⟨some 4, .mv (.c (.bool false)), none⟩]))
      .ret)
      .skip)))
    (.keep [0, 1, 5] (.ops [⟨some 15, .mv (.t 5), none⟩, ⟨some 16, .bin .add (.t 15) (.c (.int .i64 1)), none⟩, ⟨some 5, .mv (.t 16), none⟩])))))))
    (.seq (.keep [] (.ops [⟨some 4, .mv (.c (.bool true)), none⟩]))
    .ret)))), [.t 4], 26⟩
theorem b60 : fB Tryz.prog 60 c60 = true := by kernel_rfl
/-- partywall/match.compare -/
def c63 : CF := ⟨(.seq (.keep [0, 1] (.ops [⟨some 2, .box 1 (.t 0), none⟩, ⟨some 3, .box 1 (.t 1), none⟩, ⟨some 4, .mv (.c (.int .i64 0)), none⟩]))
    (.seq (.keep [2, 3] (.ops [⟨some 5, .mv (.f 94), none⟩]))
    (.seq (.keep [2, 3, 5] (.drw [⟨some 6, .mv (.t 5), none⟩, ⟨some 7, .ld (some 1) (.t 2), none⟩, ⟨some 8, .callv (.t 6) [(.t 7)], none⟩, ⟨some 9, .mv (.t 5), none⟩, ⟨some 10, .ld (some 1) (.t 3), none⟩, ⟨some 11, .callv (.t 9) [(.t 10)], none⟩, ⟨some 12, .call 96 [(.t 8), (.t 11)], none⟩, ⟨some 13, .ld (some 1) (.t 2), none⟩, ⟨some 14, .call 56 [(.t 13), (.f 67)], none⟩, ⟨some 15, .ld (some 1) (.t 3), none⟩, ⟨some 16, .call 56 [(.t 15), (.f 67)], none⟩, ⟨some 17, .call 97 [(.t 14), (.t 16)], none⟩, ⟨some 18, .ld (some 1) (.t 2), none⟩, ⟨some 19, .call 56 [(.t 18), (.f 57)], none⟩, ⟨some 20, .ld (some 1) (.t 3), none⟩, ⟨some 21, .call 56 [(.t 20), (.f 57)], none⟩, ⟨some 22, .call 97 [(.t 19), (.t 21)], none⟩, ⟨some 23, .mkSl 1 3 [.int .i64 0, .int .i64 0, .int .i64 0] [(0, 1, (.t 12)), (1, 1, (.t 17)), (2, 1, (.t 22))], none⟩, ⟨some 24, .call 95 [(.t 23)], none⟩, ⟨some 4, .mv (.t 24), none⟩] [0, 1, 1, 0, 1, 1, 1, 1, 1, 1, 1, 1, 1, 1, 1, 1, 1, 0, 1, 0]))
    .ret))), [.t 4], 25⟩
theorem b63 : fB Tryz.prog 63 c63 = true := by kernel_rfl
/-- partywall/match.pos -/
def c67 : CF := ⟨(.seq (.keep [0] (.ops [⟨some 1, .box 2 (.t 0), none⟩, ⟨some 2, .mv (.c (.int .i64 0)), none⟩]))
    (.seq (.keep [1] (.ops [⟨some 3, .fldA 0 (.t 1), none⟩, ⟨some 4, .ld (none) (.t 3), none⟩, ⟨some 2, .mv (.t 4), none⟩]))
    .ret)), [.t 2], 5⟩
theorem b67 : fB Tryz.prog 67 c67 = true := by kernel_rfl
/-- partywall/match.counted -/
def c91 : CF := ⟨(.seq (.keep [0] (.ops [⟨some 2, .mv (.c (.bool false)), none⟩]))
    (.seq (.keep [0] (.ops [⟨some 3, .mv (.t 0), none⟩, ⟨some 4, .bin .geq (.t 3) (.c (.int .i64 1)), none⟩, ⟨some 5, .mv (.t 4), none⟩, ⟨some 6, .mv (.t 0), some (5, true)⟩, ⟨some 7, .bin .leq (.t 6) (.c (.int .i64 1099511627776)), some (5, true)⟩, ⟨some 8, .pick (.t 5) (.t 7) (.c (.bool false)), none⟩, ⟨some 2, .mv (.t 8), none⟩]))
    .ret)), [.t 2], 9⟩
theorem b91 : fB Tryz.prog 91 c91 = true := by kernel_rfl
/-- partywall/partywallref17.count -/
def c92 : CF := ⟨(.seq (.keep [0] (.ops [⟨some 2, .mv (.c (.bool false)), none⟩]))
    (.seq (.keep [0] (.ops [⟨some 3, .mv (.t 0), none⟩, ⟨some 4, .bin .geq (.t 3) (.c (.int .i64 1)), none⟩, ⟨some 5, .mv (.t 4), none⟩, ⟨some 6, .mv (.t 0), some (5, true)⟩, ⟨some 7, .bin .leq (.t 6) (.c (.int .i64 1099511627776)), some (5, true)⟩, ⟨some 8, .pick (.t 5) (.t 7) (.c (.bool false)), none⟩, ⟨some 2, .mv (.t 8), none⟩]))
    .ret)), [.t 2], 9⟩
theorem b92 : fB Tryz.prog 92 c92 = true := by kernel_rfl
/-- partywall/match.compare$1 -/
def c94 : CF := ⟨(.seq (.keep [0] (.ops [⟨some 1, .box 1 (.t 0), none⟩, ⟨some 2, .mv (.c (.int .i64 0)), none⟩]))
    (.seq (.keep [1] (.ops [⟨some 3, .fldA 0 (.t 1), none⟩, ⟨some 4, .ld (none) (.t 3), none⟩, ⟨some 5, .fldA 0 (.t 1), none⟩, ⟨some 6, .ld (none) (.t 5), none⟩, ⟨some 7, .len (.t 6), none⟩, ⟨some 8, .bin .sub (.t 7) (.c (.int .i64 1)), none⟩, ⟨some 9, .ixA 2 (.t 4) (.t 8), none⟩, ⟨some 10, .fldA 0 (.t 9), none⟩, ⟨some 11, .ld (none) (.t 10), none⟩, ⟨some 2, .mv (.t 11), none⟩]))
    .ret)), [.t 2], 12⟩
theorem b94 : fB Tryz.prog 94 c94 = true := by kernel_rfl
/-- cmp.Or[int] -/
def c95 : CF := ⟨(.seq (.keep [0] (.ops [⟨some 2, .mv (.c (.int .i64 0)), none⟩]))
    (.seq (.keep [0] (.ops [⟨some 3, .mv (.c (.int .i64 0)), none⟩]))
    (.seq (.seq (.keep [0, 3] (.ops [⟨some 6, .mv (.t 0), none⟩, ⟨some 7, .len (.t 6), none⟩, ⟨some 8, .mv (.c (.int .i64 0)), none⟩]))
    (.block 0 (.loop (.seq (.keep [3, 6, 7, 8] (.ops [⟨some 9, .bin .lss (.t 8) (.t 7), none⟩]))
    (.seq (.cond (.t 9)
      .skip
      (.exit 0))
    (.seq (.block 1 (.seq (.keep [3, 6, 7, 8] (.ops [⟨some 10, .ixA 1 (.t 6) (.t 8), none⟩, ⟨some 11, .ld (none) (.t 10), none⟩, ⟨some 5, .mv (.t 11), none⟩]))
    (.seq (.keep [3, 5, 6, 7, 8] (.ops [⟨some 12, .mv (.t 5), none⟩, ⟨some 13, .mv (.t 3), none⟩, ⟨some 14, .bin .neq (.t 12) (.t 13), none⟩]))
    (.cond (.t 14)
      (.seq (.keep [5] (.ops [⟨some 15, .mv (.t 5), none⟩, ⟨some 2, .mv (.t 15), none⟩]))
      .ret)
      .skip))))
    (.keep [3, 6, 7, 8] (.ops [⟨some 16, .bin .add (.t 8) (.c (.int .i64 1)), none⟩, ⟨some 8, .mv (.t 16), none⟩]))))))))
    (.seq (.keep [3] (.ops [⟨some 17, .mv (.t 3), none⟩, ⟨some 2, .mv (.t 17), none⟩]))
    .ret)))), [.t 2], 18⟩
theorem b95 : fB Tryz.prog 95 c95 = true := by kernel_rfl
/-- cmp.Compare[int] -/
def c96 : CF := ⟨(.seq (.keep [0, 1] (.ops [⟨some 4, .mv (.c (.int .i64 0)), none⟩]))
    (.seq (.keep [0, 1] (.ops [⟨some 7, .mv (.t 0), none⟩, ⟨some 8, .call 117 [(.t 7)], none⟩, ⟨some 5, .mv (.t 8), none⟩]))
    (.seq (.keep [0, 1, 5] (.ops [⟨some 9, .mv (.t 1), none⟩, ⟨some 10, .call 117 [(.t 9)], none⟩, ⟨some 6, .mv (.t 10), none⟩]))
    (.seq (.seq (.keep [0, 1, 5, 6] (.ops [⟨some 11, .mv (.t 5), none⟩]))
    (.cond (.t 11)
      (.seq (.seq (.keep [6] (.ops [⟨some 12, .mv (.t 6), none⟩]))
      (.cond (.t 12)
        (.seq (.keep [] (.ops [⟨some 4, .mv (.c (.int .i64 0)), none⟩]))
        .ret)
        .skip))
      (.seq (.keep [] (.ops [⟨some 4, .mv (.c (.int .i64 (-1))), none⟩]))
      .ret))
      .skip))
    (.seq (.seq (.keep [0, 1, 6] (.ops [⟨some 13, .mv (.t 6), none⟩]))
    (.cond (.t 13)
      (.seq (.keep [] (.ops [⟨some 4, .mv (.c (.int .i64 1)), none⟩]))
      .ret)
      .skip))
    (.seq (.seq (.keep [0, 1] (.ops [⟨some 14, .mv (.t 0), none⟩, ⟨some 15, .mv (.t 1), none⟩, ⟨some 16, .bin .lss (.t 14) (.t 15), none⟩]))
    (.cond (.t 16)
      (.seq (.keep [] (.ops [⟨some 4, .mv (.c (.int .i64 (-1))), none⟩]))
      .ret)
      .skip))
    (.seq (.seq (.keep [0, 1] (.ops [⟨some 17, .mv (.t 0), none⟩, ⟨some 18, .mv (.t 1), none⟩, ⟨some 19, .bin .gtr (.t 17) (.t 18), none⟩]))
    (.cond (.t 19)
      (.seq (.keep [] (.ops [⟨some 4, .mv (.c (.int .i64 1)), none⟩]))
      .ret)
      .skip))
    (.seq (.keep [] (.ops [⟨some 4, .mv (.c (.int .i64 0)), none⟩]))
    .ret)))))))), [.t 4], 20⟩
theorem b96 : fB Tryz.prog 96 c96 = true := by kernel_rfl
/-- slices.Compare[[]int,int] -/
def c97 : CF := ⟨(.seq (.keep [0, 1] (.ops [⟨some 4, .mv (.c (.int .i64 0)), none⟩]))
    (.seq (.seq (.keep [0, 1] (.ops [⟨some 9, .mv (.t 0), none⟩, ⟨some 10, .len (.t 9), none⟩, ⟨some 11, .mv (.c (.int .i64 0)), none⟩]))
    (.block 0 (.loop (.seq (.keep [0, 1, 9, 10, 11] (.ops [⟨some 12, .bin .lss (.t 11) (.t 10), none⟩]))
    (.seq (.cond (.t 12)
      .skip
      (.exit 0))
    (.seq (.block 1 (.seq (.keep [0, 1, 9, 10, 11] (.ops [⟨some 13, .mv (.t 11), none⟩, ⟨some 14, .ixA 1 (.t 9) (.t 11), none⟩, ⟨some 15, .ld (none) (.t 14), none⟩, ⟨some 5, .mv (.t 13), none⟩, ⟨some 6, .mv (.t 15), none⟩]))
    (.seq (.seq (.keep [0, 1, 5, 6, 9, 10, 11] (.ops [⟨some 16, .mv (.t 5), none⟩, ⟨some 17, .mv (.t 1), none⟩, ⟨some 18, .len (.t 17), none⟩, ⟨some 19, .bin .geq (.t 16) (.t 18), none⟩]))
    (.cond (.t 19)
      (.seq (.keep [] (.ops [⟨some 4, .mv (.c (.int .i64 1)), none⟩]))
      .ret)
      .skip))
    (.seq (.keep [0, 1, 5, 6, 9, 10, 11] (.ops [⟨some 20, .mv (.t 1), none⟩, ⟨some 21, .mv (.t 5), none⟩, ⟨some 22, .ixA 1 (.t 20) (.t 21), none⟩, ⟨some 23, .ld (none) (.t 22), none⟩, ⟨some 7, .mv (.t 23), none⟩]))
    (.seq (.keep [0, 1, 6, 7, 9, 10, 11] (.ops [⟨some 24, .mv (.t 6), none⟩, ⟨some 25, .mv (.t 7), none⟩, ⟨some 26, .call 96 [(.t 24), (.t 25)], none⟩, ⟨some 8, .mv (.t 26), none⟩]))
    (.seq (.keep [0, 1, 8, 9, 10, 11] (.ops [⟨some 27, .mv (.t 8), none⟩, ⟨some 28, .bin .neq (.t 27) (.c (.int .i64 0)), none⟩]))
    (.cond (.t 28)
      (.seq (.keep [8] (.ops [⟨some 29, .mv (.t 8), none⟩, ⟨some 4, .mv (.t 29), none⟩]))
      .ret)
      .skip)))))))
    (.keep [0, 1, 9, 10, 11] (.ops [⟨some 30, .bin .add (.t 11) (.c (.int .i64 1)), none⟩, ⟨some 11, .mv (.t 30), none⟩]))))))))
    (.seq (.seq (.keep [0, 1] (.ops [⟨some 31, .mv (.t 0), none⟩, ⟨some 32, .len (.t 31), none⟩, ⟨some 33, .mv (.t 1), none⟩, ⟨some 34, .len (.t 33), none⟩, ⟨some 35, .bin .lss (.t 32) (.t 34), none⟩]))
    (.cond (.t 35)
      (.seq (.keep [] (.ops [⟨some 4, .mv (.c (.int .i64 (-1))), none⟩]))
      .ret)
      .skip))
    (.seq (.keep [] (.ops [⟨some 4, .mv (.c (.int .i64 0)), none⟩]))
    .ret)))), [.t 4], 36⟩
theorem b97 : fB Tryz.prog 97 c97 = true := by kernel_rfl
/-- partywall/sums.Nat -/
def c71 : CF := ⟨(.seq (.keep [0, 1] (.ops [⟨some 4, .mv (.c (.int .u64 0)), none⟩, ⟨some 5, .mv (.c (.int .i64 0)), none⟩]))
    (.seq (.keep [0, 1] (.ops [⟨some 10, .mv (.t 0), none⟩, ⟨some 11, .call 106 [(.t 10)], none⟩, ⟨some 9, .mv (.t 11), none⟩, ⟨some 12, .ext (.t 9) 0, none⟩, ⟨some 13, .ext (.t 9) 1, none⟩, ⟨some 14, .ext (.t 9) 2, none⟩, ⟨some 6, .mv (.t 12), none⟩, ⟨some 7, .mv (.t 13), none⟩, ⟨some 8, .mv (.t 14), none⟩]))
    (.seq (.block 0 (.seq (.keep [1, 6, 7, 8] (.ops [⟨some 16, .mv (.t 8), none⟩, ⟨some 17, .un .not (.t 16), none⟩, ⟨some 15, .mv (.t 17), none⟩]))
    (.cond (.t 15)
      (.seq (.keep [] (.ops [⟨some 4, .mv (.c (.int .u64 0)), none⟩, ⟨some 5, .mv (.c (.int .i64 3)), none⟩]))
      .ret)
      (.seq (.keep [1, 6, 7] (.ops [⟨some 19, .mv (.t 7), none⟩, ⟨some 20, .mv (.t 19), none⟩, ⟨some 21, .mv (.t 6), some (20, false)⟩, ⟨some 22, .mv (.t 1), some (20, false)⟩, ⟨some 23, .bin .gtr (.t 21) (.t 22), some (20, false)⟩, ⟨some 24, .pick (.t 20) (.c (.bool true)) (.t 23), none⟩, ⟨some 18, .mv (.t 24), none⟩]))
      (.cond (.t 18)
        (.seq (.keep [] (.ops [⟨some 4, .mv (.c (.int .u64 0)), none⟩, ⟨some 5, .mv (.c (.int .i64 2)), none⟩]))
        .ret)
        .skip)))))
    (.seq (.keep [6] (.ops [⟨some 25, .mv (.t 6), none⟩, ⟨some 4, .mv (.t 25), none⟩, ⟨some 5, .mv (.c (.int .i64 0)), none⟩]))
    .ret)))), [.t 4, .t 5], 26⟩
theorem b71 : fB Tryz.prog 71 c71 = true := by kernel_rfl
/-- partywall/sums.Text -/
def c84 : CF := ⟨(.seq (.keep [0] (.ops [⟨some 2, .mv (.c (.str [])), none⟩]))
    (.seq (.keep [0] (.ops [⟨some 3, .mv (.t 0), none⟩, ⟨some 4, .call 110 [(.t 3), (.c (.int .i64 10))], none⟩, ⟨some 2, .mv (.t 4), none⟩]))
    .ret)), [.t 2], 5⟩
theorem b84 : fB Tryz.prog 84 c84 = true := by kernel_rfl
/-- partywall/label.each -/
def c85 : CF := ⟨(.seq (.keep [0] (.ops [⟨some 1, .box 1 (.t 0), none⟩, ⟨some 2, .mv (.c .nilf), none⟩]))
    (.seq (.keep [1] (.ops [⟨some 3, .mkF 111 [(.t 1)], none⟩, ⟨some 2, .mv (.t 3), none⟩]))
    .ret)), [.t 2], 4⟩
theorem b85 : fB Tryz.prog 85 c85 = true := by kernel_rfl
/-- partywall/partywallref01.List -/
def c87 : CF := ⟨(.seq (.keep [0] (.ops [⟨some 2, .mv (.c .nils), none⟩]))
    (.seq (.keep [0] (.ops [⟨some 3, .mv (.c .nils), none⟩]))
    (.seq (.seq (.keep [0, 3] (.ops [⟨some 4, .mv (.c (.int .i64 0)), none⟩]))
    (.block 0 (.loop (.seq (.seq (.keep [0, 3, 4] (.ops [⟨some 5, .mv (.t 4), none⟩, ⟨some 6, .bin .lss (.t 5) (.c (.int .i64 64)), none⟩]))
    (.cond (.t 6)
      .skip
      (.exit 0)))
    (.seq (.block 1 (.seq (.keep [0, 3, 4] (.ops [⟨some 9, .mv (.t 0), none⟩, ⟨some 10, .mv (.t 4), none⟩, ⟨some 11, .call 114 [(.t 9), (.t 10)], none⟩]))
    (.cond (.t 11)
      (.keep [0, 3, 4] (.ops [⟨some 12, .mv (.t 3), none⟩, ⟨some 13, .mv (.t 4), none⟩, ⟨some 14, .mkSl 1 1 [.int .i64 0] [(0, 1, (.t 13))], none⟩, ⟨some 15, .app false 3 1 8 (.t 12) (.t 14), none⟩, ⟨some 3, .mv (.t 15), none⟩]))
      .skip)))
    (.keep [0, 3, 4] (.ops [⟨some 7, .mv (.t 4), none⟩, ⟨some 8, .bin .add (.t 7) (.c (.int .i64 1)), none⟩, ⟨some 4, .mv (.t 8), none⟩])))))))
    (.seq (.keep [3] (.ops [⟨some 16, .mv (.t 3), none⟩, ⟨some 2, .mv (.t 16), none⟩]))
    .ret)))), [.t 2], 17⟩
theorem b87 : fB Tryz.prog 87 c87 = true := by kernel_rfl
/-- partywall/partywallref01.decimal -/
def c88 : CF := ⟨(.seq (.keep [0] (.ops [⟨some 2, .mv (.c (.str [])), none⟩]))
    (.seq (.seq (.keep [0] (.ops [⟨some 3, .mv (.t 0), none⟩, ⟨some 4, .bin .lss (.t 3) (.c (.int .i64 10)), none⟩]))
    (.cond (.t 4)
      (.seq (.keep [0] (.ops [⟨some 5, .mv (.t 0), none⟩, ⟨some 6, .bin .add (.c (.int .i64 48)) (.t 5), none⟩, ⟨some 7, .cnv .u8 (.t 6), none⟩, ⟨some 8, .mkSl 1 1 [.int .u8 0] [(0, 1, (.t 7))], none⟩, ⟨some 9, .b2s (.t 8), none⟩, ⟨some 2, .mv (.t 9), none⟩]))
      .ret)
      .skip))
    (.seq (.keep [0] (.ops [⟨some 10, .mv (.t 0), none⟩, ⟨some 11, .bin .quo (.t 10) (.c (.int .i64 10)), none⟩, ⟨some 12, .bin .add (.c (.int .i64 48)) (.t 11), none⟩, ⟨some 13, .cnv .u8 (.t 12), none⟩, ⟨some 14, .mv (.t 0), none⟩, ⟨some 15, .bin .rem (.t 14) (.c (.int .i64 10)), none⟩, ⟨some 16, .bin .add (.c (.int .i64 48)) (.t 15), none⟩, ⟨some 17, .cnv .u8 (.t 16), none⟩, ⟨some 18, .mkSl 1 2 [.int .u8 0, .int .u8 0] [(0, 1, (.t 13)), (1, 1, (.t 17))], none⟩, ⟨some 19, .b2s (.t 18), none⟩, ⟨some 2, .mv (.t 19), none⟩]))
    .ret))), [.t 2], 20⟩
theorem b88 : fB Tryz.prog 88 c88 = true := by kernel_rfl
/-- partywall/partywallref05.digits -/
def c89 : CF := ⟨(.seq (.keep [0] (.ops [⟨some 2, .mv (.c (.str [])), none⟩]))
    (.seq (.keep [0] (.ops [⟨some 3, .mv (.c (.str [])), none⟩]))
    (.seq (.block 0 (.loop (.seq (.seq (.keep [0, 3] (.ops [⟨some 4, .mv (.t 0), none⟩, ⟨some 5, .bin .gtr (.t 4) (.c (.int .u64 0)), none⟩, ⟨some 6, .mv (.t 5), none⟩, ⟨some 7, .mv (.t 3), some (6, false)⟩, ⟨some 8, .bin .eql (.t 7) (.c (.str [])), some (6, false)⟩, ⟨some 9, .pick (.t 6) (.c (.bool true)) (.t 8), none⟩]))
    (.cond (.t 9)
      .skip
      (.exit 0)))
    (.block 1 (.seq (.keep [0, 3] (.ops [⟨some 10, .mv (.t 0), none⟩, ⟨some 11, .bin .rem (.t 10) (.c (.int .u64 10)), none⟩, ⟨some 12, .bin .add (.c (.int .u64 48)) (.t 11), none⟩, ⟨some 13, .cnv .u8 (.t 12), none⟩, ⟨some 14, .mkSl 1 1 [.int .u8 0] [(0, 1, (.t 13))], none⟩, ⟨some 15, .b2s (.t 14), none⟩, ⟨some 16, .mv (.t 3), none⟩, ⟨some 17, .bin .add (.t 15) (.t 16), none⟩, ⟨some 3, .mv (.t 17), none⟩]))
    (.keep [0, 3] (.ops [⟨some 18, .mv (.t 0), none⟩, ⟨some 19, .bin .quo (.t 18) (.c (.int .u64 10)), none⟩, ⟨some 0, .mv (.t 19), none⟩])))))))
    (.seq (.keep [3] (.ops [⟨some 20, .mv (.t 3), none⟩, ⟨some 2, .mv (.t 20), none⟩]))
    .ret)))), [.t 2], 21⟩
theorem b89 : fB Tryz.prog 89 c89 = true := by kernel_rfl
/-- partywall/partywallref05.size -/
def c90 : CF := ⟨(.seq (.keep [0] (.ops [⟨some 2, .mv (.c (.int .u64 0)), none⟩]))
    (.seq (.seq (.keep [0] (.ops [⟨some 3, .mv (.t 0), none⟩, ⟨some 4, .bin .lss (.t 3) (.c (.int .i64 0)), none⟩]))
    (.cond (.t 4)
      (.seq (.keep [0] (.ops [⟨some 5, .mv (.t 0), none⟩, ⟨some 6, .bin .add (.t 5) (.c (.int .i64 1)), none⟩, ⟨some 7, .un .neg (.t 6), none⟩, ⟨some 8, .cnv .u64 (.t 7), none⟩, ⟨some 9, .bin .add (.t 8) (.c (.int .u64 1)), none⟩, ⟨some 2, .mv (.t 9), none⟩]))
      .ret)
      .skip))
    (.seq (.keep [0] (.ops [⟨some 10, .mv (.t 0), none⟩, ⟨some 11, .cnv .u64 (.t 10), none⟩, ⟨some 2, .mv (.t 11), none⟩]))
    .ret))), [.t 2], 12⟩
theorem b90 : fB Tryz.prog 90 c90 = true := by kernel_rfl
/-- partywall/sums.digits -/
def c106 : CF := ⟨(.seq (.keep [0] (.ops [⟨some 2, .mv (.c (.int .u64 0)), none⟩, ⟨some 3, .mv (.c (.bool false)), none⟩, ⟨some 4, .mv (.c (.bool false)), none⟩]))
    (.seq (.seq (.keep [0, 2, 3] (.ops [⟨some 10, .mv (.t 0), none⟩, ⟨some 11, .bin .eql (.t 10) (.c (.str [])), none⟩, ⟨some 12, .mv (.t 11), none⟩, ⟨some 13, .mv (.t 0), some (12, false)⟩, ⟨some 14, .lenS (.t 13), some (12, false)⟩, ⟨some 15, .bin .gtr (.t 14) (.c (.int .i64 1)), some (12, false)⟩, ⟨some 16, .mv (.t 15), some (12, false)⟩, ⟨some 17, .mv (.t 0), some (16, true)⟩, ⟨some 18, .ixS (.t 17) (.c (.int .i64 0)), some (16, true)⟩, ⟨some 19, .bin .eql (.t 18) (.c (.int .u8 48)), some (16, true)⟩, ⟨some 20, .pick (.t 16) (.t 19) (.c (.bool false)), some (12, false)⟩, ⟨some 21, .pick (.t 12) (.c (.bool true)) (.t 20), none⟩]))
    (.cond (.t 21)
      (.seq (.keep [] (.ops [⟨some 2, .mv (.c (.int .u64 0)), none⟩, ⟨some 3, .mv (.c (.bool false)), none⟩, ⟨some 4, .mv (.c (.bool false)), none⟩]))
      .ret)
      .skip))
    (.seq (.seq (.keep [0, 2, 3] (.ops [⟨some 22, .mv (.t 0), none⟩, ⟨some 23, .lenS (.t 22), none⟩, ⟨some 24, .mv (.c (.int .i64 0)), none⟩]))
    (.block 0 (.loop (.seq (.keep [0, 2, 3, 23, 24] (.ops [⟨some 25, .bin .lss (.t 24) (.t 23), none⟩]))
    (.seq (.cond (.t 25)
      .skip
      (.exit 0))
    (.seq (.block 1 (.seq (.keep [0, 2, 3, 23, 24] (.ops [⟨some 26, .mv (.t 24), none⟩, ⟨some 5, .mv (.t 26), none⟩]))
    (.seq (.seq (.keep [0, 2, 3, 5, 23, 24] (.ops [⟨some 27, .mv (.t 0), none⟩, ⟨some 28, .mv (.t 5), none⟩, ⟨some 29, .ixS (.t 27) (.t 28), none⟩, ⟨some 30, .bin .lss (.t 29) (.c (.int .u8 48)), none⟩, ⟨some 31, .mv (.t 30), none⟩, ⟨some 32, .mv (.t 0), some (31, false)⟩, ⟨some 33, .mv (.t 5), some (31, false)⟩, ⟨some 34, .ixS (.t 32) (.t 33), some (31, false)⟩, ⟨some 35, .bin .gtr (.t 34) (.c (.int .u8 57)), some (31, false)⟩, ⟨some 36, .pick (.t 31) (.c (.bool true)) (.t 35), none⟩]))
    (.cond (.t 36)
      (.seq (.keep [] (.ops [⟨some 2, .mv (.c (.int .u64 0)), none⟩, ⟨some 3, .mv (.c (.bool false)), none⟩, ⟨some 4, .mv (.c (.bool false)), none⟩]))
      .ret)
      .skip))
    (.seq (.keep [0, 2, 3, 5, 23, 24] (.ops [⟨some 38, .mv (.t 2), none⟩, ⟨some 39, .call 124 [(.t 38), (.c (.int .u64 10))], none⟩, ⟨some 37, .mv (.t 39), none⟩, ⟨some 40, .ext (.t 37) 0, none⟩, ⟨some 41, .ext (.t 37) 1, none⟩, ⟨some 6, .mv (.t 40), none⟩, ⟨some 7, .mv (.t 41), none⟩]))
    (.seq (.keep [0, 3, 5, 6, 7, 23, 24] (.ops [⟨some 43, .mv (.t 7), none⟩, ⟨some 44, .mv (.t 0), none⟩, ⟨some 45, .mv (.t 5), none⟩, ⟨some 46, .ixS (.t 44) (.t 45), none⟩, ⟨some 47, .bin .sub (.t 46) (.c (.int .u8 48)), none⟩, ⟨some 48, .cnv .u64 (.t 47), none⟩, ⟨some 49, .call 125 [(.t 43), (.t 48), (.c (.int .u64 0))], none⟩, ⟨some 42, .mv (.t 49), none⟩, ⟨some 50, .ext (.t 42) 0, none⟩, ⟨some 51, .ext (.t 42) 1, none⟩, ⟨some 8, .mv (.t 50), none⟩, ⟨some 9, .mv (.t 51), none⟩]))
    (.seq (.keep [0, 3, 6, 8, 9, 23, 24] (.ops [⟨some 52, .mv (.t 3), none⟩, ⟨some 53, .mv (.t 52), none⟩, ⟨some 54, .mv (.t 6), some (53, false)⟩, ⟨some 55, .bin .neq (.t 54) (.c (.int .u64 0)), some (53, false)⟩, ⟨some 56, .pick (.t 53) (.c (.bool true)) (.t 55), none⟩, ⟨some 57, .mv (.t 56), none⟩, ⟨some 58, .mv (.t 9), some (57, false)⟩, ⟨some 59, .bin .neq (.t 58) (.c (.int .u64 0)), some (57, false)⟩, ⟨some 60, .pick (.t 57) (.c (.bool true)) (.t 59), none⟩, ⟨some 3, .mv (.t 60), none⟩]))
    (.keep [0, 3, 8, 23, 24] (.ops [⟨some 61, .mv (.t 8), none⟩, ⟨some 2, .mv (.t 61), none⟩]))))))))
    (.keep [0, 2, 3, 23, 24] (.ops [⟨some 62, .bin .add (.t 24) (.c (.int .i64 1)), none⟩, ⟨some 24, .mv (.t 62), none⟩]))))))))
    (.seq (.keep [2, 3] (.ops [⟨some 63, .mv (.t 2), none⟩, ⟨some 64, .mv (.t 3), none⟩, ⟨some 2, .mv (.t 63), none⟩, ⟨some 3, .mv (.t 64), none⟩, ⟨some 4, .mv (.c (.bool true)), none⟩]))
    .ret)))), [.t 2, .t 3, .t 4], 65⟩
theorem b106 : fB Tryz.prog 106 c106 = true := by kernel_rfl
/-- partywall/label.each$1 -/
def c111 : CF := ⟨(.block 0 (.loop (.seq (.seq (.keep [0, 1] (.ops [⟨some 3, .ld (none) (.t 1), none⟩, ⟨some 4, .bin .neq (.t 3) (.c (.int .u64 0)), none⟩]))
    (.cond (.t 4)
      .skip
      (.exit 0)))
    (.seq (.block 1 (.seq (.keep [0, 1] (.ops [⟨some 9, .mv (.t 0), none⟩, ⟨some 10, .ld (none) (.t 1), none⟩, ⟨some 11, .call 112 [(.t 10)], none⟩, ⟨some 12, .callv (.t 9) [(.t 11)], none⟩, ⟨some 13, .un .not (.t 12), none⟩]))
    (.cond (.t 13)
      .ret
      .skip)))
    (.keep [0, 1] (.ops [⟨some 5, .ld (none) (.t 1), none⟩, ⟨some 6, .ld (none) (.t 1), none⟩, ⟨some 7, .bin .sub (.t 6) (.c (.int .u64 1)), none⟩, ⟨some 8, .bin .and (.t 5) (.t 7), none⟩, ⟨none, .st 1 (.t 1) (.t 8), none⟩])))))), [], 14⟩
theorem b111 : fB Tryz.prog 111 c111 = true := by kernel_rfl
/-- math/bits.TrailingZeros64 -/
def c112 : CF := ⟨(.seq (.keep [0] (.ops [⟨some 2, .mv (.c (.int .i64 0)), none⟩]))
    (.seq (.seq (.keep [0] (.ops [⟨some 3, .mv (.t 0), none⟩, ⟨some 4, .bin .eql (.t 3) (.c (.int .u64 0)), none⟩]))
    (.cond (.t 4)
      (.seq (.keep [] (.ops [⟨some 2, .mv (.c (.int .i64 64)), none⟩]))
      .ret)
      .skip))
    (.seq (.keep [0] (.ops [⟨some 5, .mv (.t 0), none⟩, ⟨some 6, .mv (.t 0), none⟩, ⟨some 7, .un .neg (.t 6), none⟩, ⟨some 8, .bin .and (.t 5) (.t 7), none⟩, ⟨some 9, .bin .mul (.t 8) (.c (.int .u64 285870213051353865)), none⟩, ⟨some 10, .bin .shr (.t 9) (.c (.int .u64 58)), none⟩, ⟨some 11, .ixP 64 1 (.g 0) (.t 10), none⟩, ⟨some 12, .ld (none) (.t 11), none⟩, ⟨some 13, .cnv .i64 (.t 12), none⟩, ⟨some 2, .mv (.t 13), none⟩]))
    .ret))), [.t 2], 14⟩
theorem b112 : fB Tryz.prog 112 c112 = true := by kernel_rfl
/-- partywall/partywallref01.in -/
def c114 : CF := ⟨(.seq (.keep [0, 1] (.ops [⟨some 4, .mv (.c (.bool false)), none⟩]))
    (.seq (.keep [0, 1] (.ops [⟨some 5, .mv (.t 0), none⟩, ⟨some 6, .mv (.t 1), none⟩, ⟨some 7, .cnv .u64 (.t 6), none⟩, ⟨some 8, .bin .shr (.t 5) (.t 7), none⟩, ⟨some 9, .bin .and (.t 8) (.c (.int .u64 1)), none⟩, ⟨some 10, .bin .eql (.t 9) (.c (.int .u64 1)), none⟩, ⟨some 4, .mv (.t 10), none⟩]))
    .ret)), [.t 4], 11⟩
theorem b114 : fB Tryz.prog 114 c114 = true := by kernel_rfl
end Go.Proofs.YtncadbcjikekhaaGreatDoor
namespace Go.Proofs.YtncadbcjikekhaaGreatDoor
open Go.Abs
set_option linter.all false
set_option maxRecDepth 100000
structure Pl where
  p : Int
  a : Int
def cP (x : Pl) : List AV := [.int .i64 x.p, .int .i64 x.a]
theorem cP_len (l : List Pl) : (l.flatMap cP).length = l.length * 2 := flat_len (f := cP) (fun _ => rfl) l
def plBad (x : Pl) : Bool := ((decide (x.p < 0) || decide (1099511627776 ≤ x.p)) || decide (x.a < 0)) || decide (12 ≤ x.a)
/-- Each place with the next one. -/
def prs (l : List Pl) : List (Pl × Pl) := l.zip (l.drop 1)
def falls (l : List Pl) : Bool := (prs l).any fun q => decide (q.2.p ≤ q.1.p)
def checkS (l : List Pl) : Int := bif decide (l.length = 0) then 5 else bif decide (12 < l.length) then 6 else bif l.any plBad then 2 else bif falls l then 9 else 0
theorem prs_len (l : List Pl) : (prs l).length = l.length - 1 := by simp [prs]
theorem prs_get (l : List Pl) {k : Nat} (h : k + 1 < l.length) : (prs l)[k]'(by rw [prs_len]; omega) = (l[k], l[k + 1]) := by
  simp only [prs, List.getElem_zip, List.getElem_drop, Nat.add_comm 1 k]
theorem any_takeG {α : Type} (p : α → Bool) (l : List α) {k : Nat} (h : k < l.length) : (l.take (k + 1)).any p = ((l.take k).any p || p l[k]) := by
  rw [← List.take_append_getElem h, List.any_append]; simp
theorem any_true {α : Type} (p : α → Bool) (l : List α) {k : Nat} (h : k < l.length) (hp : p l[k] = true) : l.any p = true :=
  List.any_eq_true.2 ⟨_, List.getElem_mem h, hp⟩
end Go.Proofs.YtncadbcjikekhaaGreatDoor
namespace Go.Proofs.YtncadbcjikekhaaGreatDoor
open Go.Abs
set_option linter.all false
set_option maxRecDepth 100000
theorem cP_get (l : List Pl) {k : Nat} (h : k < l.length) : ((l.flatMap cP).drop (k * 2)).take 2 = cP l[k] := flat_get (f := cP) (s := 2) (fun _ => rfl) l k h
set_option maxHeartbeats 4000000 in
theorem p32 (l : List Pl) (hl : l.length ≤ 1000000) : Pu Tryz.prog 32 [.agg [.sl false l.length (l.flatMap cP)]] (.int .i64 (checkS l)) := by
  have q1 : True := trivial
  have q2 : True := trivial
  have q3 : True := trivial
  have q4 : True := trivial
  have q5 : True := trivial
  have hw : True := trivial
  have hw2 : True := trivial
  have hd : True := trivial
  have hd2 : True := trivial
  have hcl := cP_len l
  unfold checkS
  cases h0 : decide (l.length = 0) with
  | true =>
    have q1 : ((l.length : Int) == 0) = true := by rw [decide_eq_true_eq] at h0; rw [h0]; rfl
    simp only [cond_true]
    (refine Pu_intro c32 b32 (Nat.le_of_ble_eq_true rfl) fun σ => ?_; simp only [c32, ↓R1, R2, R3, R4, R5, Nat.reduceEqDiff, Nat.reduceAdd, Nat.reduceMul, Nat.reduceSub, Nat.reduceLeDiff, Nat.reduceLT, reduceIte, reduceCtorEq, Int.reduceBNe, Int.reduceBEq, q1, q2, q3, q4, q5, hw, hw2, hd, hd2])
    repeat' (first | (with_reducible rw [allocV_eq]) | (refine gdV_split (fun hc => ?_) (fun hc => ?_) <;> (try simp only [hc, ↓R1, R2, R3, R4, R5, Nat.reduceEqDiff, Nat.reduceAdd, Nat.reduceMul, Nat.reduceSub, Nat.reduceLeDiff, Nat.reduceLT, reduceIte, reduceCtorEq, Int.reduceBNe, Int.reduceBEq, q1, q2, q3, q4, q5, hw, hw2, hd, hd2])) | ((first | refine condV_split (fun hc => ?_) (fun hc => ?_) | (with_reducible intro β hβ; (try simp only [St.box_noneA, St.tip_noneA, St.tip_set, St.box_tip, St.box_lp, St.tip_lp] at hβ); (repeat (obtain ⟨⟨_, _⟩, hβ⟩ := hβ)); (try (have hbis := apart_is (by assumption) hβ; obtain ⟨_, _⟩ := hbis)))) <;> (try simp only [↓R1, R2, R3, R4, R5, Nat.reduceEqDiff, Nat.reduceAdd, Nat.reduceMul, Nat.reduceSub, Nat.reduceLeDiff, Nat.reduceLT, reduceIte, reduceCtorEq, Int.reduceBNe, Int.reduceBEq, q1, q2, q3, q4, q5, hw, hw2, hd, hd2])) | (with_reducible refine And.intro ?_ ?_; (focus (first | omega | (intros; (repeat' (with_reducible apply And.intro)) <;> first | omega | (simp only [List.length_map]; omega))))) | (with_reducible apply And.intro))
    refine endP_pu (by simp) (by first | (simp [rvsS, rvS]; done) | (simp only [rvsS, rvS, ↓R1, R2, R3, R4, R5, Nat.reduceEqDiff, Nat.reduceAdd, Nat.reduceMul, Nat.reduceSub, Nat.reduceLeDiff, Nat.reduceLT, reduceIte, reduceCtorEq, Int.reduceBNe, Int.reduceBEq, q1, q2, q3, q4, q5, hw, hw2, hd, hd2]; try simp)) (wk_of_eq (by (simp only [resAV, rvV, List.map_cons, List.map_nil, ↓R1, R2, R3, R4, R5, Nat.reduceEqDiff, Nat.reduceAdd, Nat.reduceMul, Nat.reduceSub, Nat.reduceLeDiff, Nat.reduceLT, reduceIte, reduceCtorEq, Int.reduceBNe, Int.reduceBEq, q1, q2, q3, q4, q5, hw, hw2, hd, hd2]))) (St.le_setBox (St.le_refl _) hβ)
  | false =>
    have q1 : ((l.length : Int) == 0) = false := by rw [decide_eq_false_iff_not] at h0; rw [beq_eq_false_iff_ne]; omega
    simp only [cond_false]
    cases h12 : decide (12 < l.length) with
    | true =>
      have q2 : decide ((12 : Int) < (l.length : Int)) = true := by rw [decide_eq_true_eq] at h12 ⊢; omega
      simp only [cond_true]
      (refine Pu_intro c32 b32 (Nat.le_of_ble_eq_true rfl) fun σ => ?_; simp only [c32, ↓R1, R2, R3, R4, R5, Nat.reduceEqDiff, Nat.reduceAdd, Nat.reduceMul, Nat.reduceSub, Nat.reduceLeDiff, Nat.reduceLT, reduceIte, reduceCtorEq, Int.reduceBNe, Int.reduceBEq, q1, q2, q3, q4, q5, hw, hw2, hd, hd2])
      repeat' (first | (with_reducible rw [allocV_eq]) | (refine gdV_split (fun hc => ?_) (fun hc => ?_) <;> (try simp only [hc, ↓R1, R2, R3, R4, R5, Nat.reduceEqDiff, Nat.reduceAdd, Nat.reduceMul, Nat.reduceSub, Nat.reduceLeDiff, Nat.reduceLT, reduceIte, reduceCtorEq, Int.reduceBNe, Int.reduceBEq, q1, q2, q3, q4, q5, hw, hw2, hd, hd2])) | ((first | refine condV_split (fun hc => ?_) (fun hc => ?_) | (with_reducible intro β hβ; (try simp only [St.box_noneA, St.tip_noneA, St.tip_set, St.box_tip, St.box_lp, St.tip_lp] at hβ); (repeat (obtain ⟨⟨_, _⟩, hβ⟩ := hβ)); (try (have hbis := apart_is (by assumption) hβ; obtain ⟨_, _⟩ := hbis)))) <;> (try simp only [↓R1, R2, R3, R4, R5, Nat.reduceEqDiff, Nat.reduceAdd, Nat.reduceMul, Nat.reduceSub, Nat.reduceLeDiff, Nat.reduceLT, reduceIte, reduceCtorEq, Int.reduceBNe, Int.reduceBEq, q1, q2, q3, q4, q5, hw, hw2, hd, hd2])) | (with_reducible refine And.intro ?_ ?_; (focus (first | omega | (intros; (repeat' (with_reducible apply And.intro)) <;> first | omega | (simp only [List.length_map]; omega))))) | (with_reducible apply And.intro))
      refine endP_pu (by simp) (by first | (simp [rvsS, rvS]; done) | (simp only [rvsS, rvS, ↓R1, R2, R3, R4, R5, Nat.reduceEqDiff, Nat.reduceAdd, Nat.reduceMul, Nat.reduceSub, Nat.reduceLeDiff, Nat.reduceLT, reduceIte, reduceCtorEq, Int.reduceBNe, Int.reduceBEq, q1, q2, q3, q4, q5, hw, hw2, hd, hd2]; try simp)) (wk_of_eq (by (simp only [resAV, rvV, List.map_cons, List.map_nil, ↓R1, R2, R3, R4, R5, Nat.reduceEqDiff, Nat.reduceAdd, Nat.reduceMul, Nat.reduceSub, Nat.reduceLeDiff, Nat.reduceLT, reduceIte, reduceCtorEq, Int.reduceBNe, Int.reduceBEq, q1, q2, q3, q4, q5, hw, hw2, hd, hd2]))) (St.le_setBox (St.le_refl _) hβ)
    | false =>
      have q2 : decide ((12 : Int) < (l.length : Int)) = false := by rw [decide_eq_false_iff_not] at h12 ⊢; omega
      simp only [cond_false]
      (refine Pu_intro c32 b32 (Nat.le_of_ble_eq_true rfl) fun σ => ?_; simp only [c32, ↓R1, R2, R3, R4, R5, Nat.reduceEqDiff, Nat.reduceAdd, Nat.reduceMul, Nat.reduceSub, Nat.reduceLeDiff, Nat.reduceLT, reduceIte, reduceCtorEq, Int.reduceBNe, Int.reduceBEq, q1, q2, q3, q4, q5, hw, hw2, hd, hd2])
      repeat' (first | (with_reducible rw [allocV_eq]) | (refine gdV_split (fun hc => ?_) (fun hc => ?_) <;> (try simp only [hc, ↓R1, R2, R3, R4, R5, Nat.reduceEqDiff, Nat.reduceAdd, Nat.reduceMul, Nat.reduceSub, Nat.reduceLeDiff, Nat.reduceLT, reduceIte, reduceCtorEq, Int.reduceBNe, Int.reduceBEq, q1, q2, q3, q4, q5, hw, hw2, hd, hd2])) | ((first | refine condV_split (fun hc => ?_) (fun hc => ?_) | (with_reducible intro β hβ; (try simp only [St.box_noneA, St.tip_noneA, St.tip_set, St.box_tip, St.box_lp, St.tip_lp] at hβ); (repeat (obtain ⟨⟨_, _⟩, hβ⟩ := hβ)); (try (have hbis := apart_is (by assumption) hβ; obtain ⟨_, _⟩ := hbis)))) <;> (try simp only [↓R1, R2, R3, R4, R5, Nat.reduceEqDiff, Nat.reduceAdd, Nat.reduceMul, Nat.reduceSub, Nat.reduceLeDiff, Nat.reduceLT, reduceIte, reduceCtorEq, Int.reduceBNe, Int.reduceBEq, q1, q2, q3, q4, q5, hw, hw2, hd, hd2])) | (with_reducible refine And.intro ?_ ?_; (focus (first | omega | (intros; (repeat' (with_reducible apply And.intro)) <;> first | omega | (simp only [List.length_map]; omega))))) | (with_reducible apply And.intro))
      refine loopV_for l.length (fun k => [(3, .sl false l.length (l.flatMap cP)), (4, .int .i64 (k : Nat))]) (fun _ => σ) (fun k => (l.take k).any plBad = false) (by simp [subF, slot, wk_refl]) (St.le_setBox (St.le_refl _) hβ) (by simp) (fun k hk hI => ?_)
      by_cases hlt : k < l.length
      · have q3 : decide ((k : Int) < (l.length : Int)) = true := by rw [decide_eq_true_eq]; omega
        have hd := cP_get l hlt
        have hw : IntKind.i64.wrap ((k : Int) + 1) = ((k + 1 : Nat) : Int) := by rw [wrap64 (by omega) (by omega)]; omega
        simp only [cP] at hd
        cases hb : plBad l[k] with
        | true =>
          have q4 := hb
          unfold plBad at q4
          rw [any_true plBad l hlt hb]
          simp only [cond_true]
          simp only [q3, ↓R1, R2, R3, R4, R5, Nat.reduceEqDiff, Nat.reduceAdd, Nat.reduceMul, Nat.reduceSub, Nat.reduceLeDiff, Nat.reduceLT, reduceIte, reduceCtorEq, Int.reduceBNe, Int.reduceBEq, q1, q2, q3, q4, q5, hw, hw2, hd, hd2]
          repeat' (first | (with_reducible rw [allocV_eq]) | (refine gdV_split (fun hc => ?_) (fun hc => ?_) <;> (try simp only [hc, ↓R1, R2, R3, R4, R5, Nat.reduceEqDiff, Nat.reduceAdd, Nat.reduceMul, Nat.reduceSub, Nat.reduceLeDiff, Nat.reduceLT, reduceIte, reduceCtorEq, Int.reduceBNe, Int.reduceBEq, q1, q2, q3, q4, q5, hw, hw2, hd, hd2])) | ((first | refine condV_split (fun hc => ?_) (fun hc => ?_) | (with_reducible intro β hβ; (try simp only [St.box_noneA, St.tip_noneA, St.tip_set, St.box_tip, St.box_lp, St.tip_lp] at hβ); (repeat (obtain ⟨⟨_, _⟩, hβ⟩ := hβ)); (try (have hbis := apart_is (by assumption) hβ; obtain ⟨_, _⟩ := hbis)))) <;> (try simp only [↓R1, R2, R3, R4, R5, Nat.reduceEqDiff, Nat.reduceAdd, Nat.reduceMul, Nat.reduceSub, Nat.reduceLeDiff, Nat.reduceLT, reduceIte, reduceCtorEq, Int.reduceBNe, Int.reduceBEq, q1, q2, q3, q4, q5, hw, hw2, hd, hd2])) | (with_reducible refine And.intro ?_ ?_; (focus (first | omega | (intros; (repeat' (with_reducible apply And.intro)) <;> first | omega | (simp only [List.length_map]; omega))))) | (with_reducible apply And.intro))
          (refine endP_pu (by simp) (by first | (simp [rvsS, rvS]; done) | (simp only [rvsS, rvS, ↓R1, R2, R3, R4, R5, Nat.reduceEqDiff, Nat.reduceAdd, Nat.reduceMul, Nat.reduceSub, Nat.reduceLeDiff, Nat.reduceLT, reduceIte, reduceCtorEq, Int.reduceBNe, Int.reduceBEq, q1, q2, q3, q4, q5, hw, hw2, hd, hd2]; try simp)) (wk_of_eq ?_) (by (repeat (first | exact St.le_refl _ | (refine St.le_new ?_ (by assumption)) | (refine St.le_newT ?_ (by assumption))))))
          (simp only [resAV, rvV, List.map_cons, List.map_nil, ↓R1, R2, R3, R4, R5, Nat.reduceEqDiff, Nat.reduceAdd, Nat.reduceMul, Nat.reduceSub, Nat.reduceLeDiff, Nat.reduceLT, reduceIte, reduceCtorEq, Int.reduceBNe, Int.reduceBEq, q1, q2, q3, q4, q5, hw, hw2, hd, hd2])
        | false =>
          have q4 := hb
          unfold plBad at q4
          simp only [q3, ↓R1, R2, R3, R4, R5, Nat.reduceEqDiff, Nat.reduceAdd, Nat.reduceMul, Nat.reduceSub, Nat.reduceLeDiff, Nat.reduceLT, reduceIte, reduceCtorEq, Int.reduceBNe, Int.reduceBEq, q1, q2, q3, q4, q5, hw, hw2, hd, hd2]
          repeat' (first | (with_reducible rw [allocV_eq]) | (refine gdV_split (fun hc => ?_) (fun hc => ?_) <;> (try simp only [hc, ↓R1, R2, R3, R4, R5, Nat.reduceEqDiff, Nat.reduceAdd, Nat.reduceMul, Nat.reduceSub, Nat.reduceLeDiff, Nat.reduceLT, reduceIte, reduceCtorEq, Int.reduceBNe, Int.reduceBEq, q1, q2, q3, q4, q5, hw, hw2, hd, hd2])) | ((first | refine condV_split (fun hc => ?_) (fun hc => ?_) | (with_reducible intro β hβ; (try simp only [St.box_noneA, St.tip_noneA, St.tip_set, St.box_tip, St.box_lp, St.tip_lp] at hβ); (repeat (obtain ⟨⟨_, _⟩, hβ⟩ := hβ)); (try (have hbis := apart_is (by assumption) hβ; obtain ⟨_, _⟩ := hbis)))) <;> (try simp only [↓R1, R2, R3, R4, R5, Nat.reduceEqDiff, Nat.reduceAdd, Nat.reduceMul, Nat.reduceSub, Nat.reduceLeDiff, Nat.reduceLT, reduceIte, reduceCtorEq, Int.reduceBNe, Int.reduceBEq, q1, q2, q3, q4, q5, hw, hw2, hd, hd2])) | (with_reducible refine And.intro ?_ ?_; (focus (first | omega | (intros; (repeat' (with_reducible apply And.intro)) <;> first | omega | (simp only [List.length_map]; omega))))) | (with_reducible apply And.intro))
          · rw [any_takeG plBad l hlt, hI, hb]; rfl
          · simp [subF, slot, wk_refl]
          · exact St.le_refl _
      · have hke : k = l.length := by omega
        subst hke
        have q3 : decide ((l.length : Int) < (l.length : Int)) = false := by simp
        rw [List.take_length] at hI
        rw [hI]
        simp only [cond_false]
        have hn0 : 0 < l.length := by rw [decide_eq_false_iff_not] at h0; omega
        simp only [q3, ↓R1, R2, R3, R4, R5, Nat.reduceEqDiff, Nat.reduceAdd, Nat.reduceMul, Nat.reduceSub, Nat.reduceLeDiff, Nat.reduceLT, reduceIte, reduceCtorEq, Int.reduceBNe, Int.reduceBEq, q1, q2, q3, q4, q5, hw, hw2, hd, hd2]
        repeat' (first | (with_reducible rw [allocV_eq]) | (refine gdV_split (fun hc => ?_) (fun hc => ?_) <;> (try simp only [hc, ↓R1, R2, R3, R4, R5, Nat.reduceEqDiff, Nat.reduceAdd, Nat.reduceMul, Nat.reduceSub, Nat.reduceLeDiff, Nat.reduceLT, reduceIte, reduceCtorEq, Int.reduceBNe, Int.reduceBEq, q1, q2, q3, q4, q5, hw, hw2, hd, hd2])) | ((first | refine condV_split (fun hc => ?_) (fun hc => ?_) | (with_reducible intro β hβ; (try simp only [St.box_noneA, St.tip_noneA, St.tip_set, St.box_tip, St.box_lp, St.tip_lp] at hβ); (repeat (obtain ⟨⟨_, _⟩, hβ⟩ := hβ)); (try (have hbis := apart_is (by assumption) hβ; obtain ⟨_, _⟩ := hbis)))) <;> (try simp only [↓R1, R2, R3, R4, R5, Nat.reduceEqDiff, Nat.reduceAdd, Nat.reduceMul, Nat.reduceSub, Nat.reduceLeDiff, Nat.reduceLT, reduceIte, reduceCtorEq, Int.reduceBNe, Int.reduceBEq, q1, q2, q3, q4, q5, hw, hw2, hd, hd2])) | (with_reducible refine And.intro ?_ ?_; (focus (first | omega | (intros; (repeat' (with_reducible apply And.intro)) <;> first | omega | (simp only [List.length_map]; omega))))) | (with_reducible apply And.intro))
        refine loopV_for (l.length - 1) (fun k => [(3, .sl false l.length (l.flatMap cP)), (5, .int .i64 ((k + 1 : Nat) : Int))]) (fun _ => σ) (fun k => ((prs l).take k).any (fun q => decide (q.2.p ≤ q.1.p)) = false) (by simp [subF, slot, wk_refl]) (St.le_refl _) (by simp) (fun k hk hJ => ?_)
        by_cases hlt : k < l.length - 1
        · have q3 : decide (((k + 1 : Nat) : Int) < (l.length : Int)) = true := by rw [decide_eq_true_eq]; omega
          have hd := cP_get l (k := k + 1) (by omega)
          have hd2 := cP_get l (k := k) (by omega)
          have hw : IntKind.i64.wrap (((k + 1 : Nat) : Int) + 1) = ((k + 1 + 1 : Nat) : Int) := by rw [wrap64 (by omega) (by omega)]; omega
          have hw2 : IntKind.i64.wrap (((k + 1 : Nat) : Int) - 1) = ((k : Nat) : Int) := by rw [wrap64 (by omega) (by omega)]; omega
          simp only [cP] at hd hd2
          have hg := prs_get l (k := k) (by omega)
          have hpl : k < (prs l).length := by rw [prs_len]; exact hlt
          cases hb : decide (l[k + 1].p ≤ l[k].p) with
          | true =>
            have q4 := hb
            have hf : falls l = true := any_true _ _ hpl (by rw [hg]; exact hb)
            rw [hf]
            simp only [cond_true]
            simp only [q3, ↓R1, R2, R3, R4, R5, Nat.reduceEqDiff, Nat.reduceAdd, Nat.reduceMul, Nat.reduceSub, Nat.reduceLeDiff, Nat.reduceLT, reduceIte, reduceCtorEq, Int.reduceBNe, Int.reduceBEq, q1, q2, q3, q4, q5, hw, hw2, hd, hd2]
            repeat' (first | (with_reducible rw [allocV_eq]) | (refine gdV_split (fun hc => ?_) (fun hc => ?_) <;> (try simp only [hc, ↓R1, R2, R3, R4, R5, Nat.reduceEqDiff, Nat.reduceAdd, Nat.reduceMul, Nat.reduceSub, Nat.reduceLeDiff, Nat.reduceLT, reduceIte, reduceCtorEq, Int.reduceBNe, Int.reduceBEq, q1, q2, q3, q4, q5, hw, hw2, hd, hd2])) | ((first | refine condV_split (fun hc => ?_) (fun hc => ?_) | (with_reducible intro β hβ; (try simp only [St.box_noneA, St.tip_noneA, St.tip_set, St.box_tip, St.box_lp, St.tip_lp] at hβ); (repeat (obtain ⟨⟨_, _⟩, hβ⟩ := hβ)); (try (have hbis := apart_is (by assumption) hβ; obtain ⟨_, _⟩ := hbis)))) <;> (try simp only [↓R1, R2, R3, R4, R5, Nat.reduceEqDiff, Nat.reduceAdd, Nat.reduceMul, Nat.reduceSub, Nat.reduceLeDiff, Nat.reduceLT, reduceIte, reduceCtorEq, Int.reduceBNe, Int.reduceBEq, q1, q2, q3, q4, q5, hw, hw2, hd, hd2])) | (with_reducible refine And.intro ?_ ?_; (focus (first | omega | (intros; (repeat' (with_reducible apply And.intro)) <;> first | omega | (simp only [List.length_map]; omega))))) | (with_reducible apply And.intro))
            (refine endP_pu (by simp) (by first | (simp [rvsS, rvS]; done) | (simp only [rvsS, rvS, ↓R1, R2, R3, R4, R5, Nat.reduceEqDiff, Nat.reduceAdd, Nat.reduceMul, Nat.reduceSub, Nat.reduceLeDiff, Nat.reduceLT, reduceIte, reduceCtorEq, Int.reduceBNe, Int.reduceBEq, q1, q2, q3, q4, q5, hw, hw2, hd, hd2]; try simp)) (wk_of_eq ?_) (by (repeat (first | exact St.le_refl _ | (refine St.le_new ?_ (by assumption)) | (refine St.le_newT ?_ (by assumption))))))
            (simp only [resAV, rvV, List.map_cons, List.map_nil, ↓R1, R2, R3, R4, R5, Nat.reduceEqDiff, Nat.reduceAdd, Nat.reduceMul, Nat.reduceSub, Nat.reduceLeDiff, Nat.reduceLT, reduceIte, reduceCtorEq, Int.reduceBNe, Int.reduceBEq, q1, q2, q3, q4, q5, hw, hw2, hd, hd2])
          | false =>
            have q4 := hb
            simp only [q3, ↓R1, R2, R3, R4, R5, Nat.reduceEqDiff, Nat.reduceAdd, Nat.reduceMul, Nat.reduceSub, Nat.reduceLeDiff, Nat.reduceLT, reduceIte, reduceCtorEq, Int.reduceBNe, Int.reduceBEq, q1, q2, q3, q4, q5, hw, hw2, hd, hd2]
            repeat' (first | (with_reducible rw [allocV_eq]) | (refine gdV_split (fun hc => ?_) (fun hc => ?_) <;> (try simp only [hc, ↓R1, R2, R3, R4, R5, Nat.reduceEqDiff, Nat.reduceAdd, Nat.reduceMul, Nat.reduceSub, Nat.reduceLeDiff, Nat.reduceLT, reduceIte, reduceCtorEq, Int.reduceBNe, Int.reduceBEq, q1, q2, q3, q4, q5, hw, hw2, hd, hd2])) | ((first | refine condV_split (fun hc => ?_) (fun hc => ?_) | (with_reducible intro β hβ; (try simp only [St.box_noneA, St.tip_noneA, St.tip_set, St.box_tip, St.box_lp, St.tip_lp] at hβ); (repeat (obtain ⟨⟨_, _⟩, hβ⟩ := hβ)); (try (have hbis := apart_is (by assumption) hβ; obtain ⟨_, _⟩ := hbis)))) <;> (try simp only [↓R1, R2, R3, R4, R5, Nat.reduceEqDiff, Nat.reduceAdd, Nat.reduceMul, Nat.reduceSub, Nat.reduceLeDiff, Nat.reduceLT, reduceIte, reduceCtorEq, Int.reduceBNe, Int.reduceBEq, q1, q2, q3, q4, q5, hw, hw2, hd, hd2])) | (with_reducible refine And.intro ?_ ?_; (focus (first | omega | (intros; (repeat' (with_reducible apply And.intro)) <;> first | omega | (simp only [List.length_map]; omega))))) | (with_reducible apply And.intro))
            · rw [any_takeG _ _ hpl, hJ, hg, hb]; rfl
            · simp [subF, slot, wk_refl]
            · exact St.le_refl _
        · have hke : k = l.length - 1 := by omega
          subst hke
          have q3 : decide (((l.length - 1 + 1 : Nat) : Int) < (l.length : Int)) = false := by rw [decide_eq_false_iff_not]; omega
          have hf : falls l = false := by
            rw [List.take_of_length_le (by rw [prs_len]; omega)] at hJ
            exact hJ
          rw [hf]
          simp only [cond_false]
          simp only [q3, ↓R1, R2, R3, R4, R5, Nat.reduceEqDiff, Nat.reduceAdd, Nat.reduceMul, Nat.reduceSub, Nat.reduceLeDiff, Nat.reduceLT, reduceIte, reduceCtorEq, Int.reduceBNe, Int.reduceBEq, q1, q2, q3, q4, q5, hw, hw2, hd, hd2]
          repeat' (first | (with_reducible rw [allocV_eq]) | (refine gdV_split (fun hc => ?_) (fun hc => ?_) <;> (try simp only [hc, ↓R1, R2, R3, R4, R5, Nat.reduceEqDiff, Nat.reduceAdd, Nat.reduceMul, Nat.reduceSub, Nat.reduceLeDiff, Nat.reduceLT, reduceIte, reduceCtorEq, Int.reduceBNe, Int.reduceBEq, q1, q2, q3, q4, q5, hw, hw2, hd, hd2])) | ((first | refine condV_split (fun hc => ?_) (fun hc => ?_) | (with_reducible intro β hβ; (try simp only [St.box_noneA, St.tip_noneA, St.tip_set, St.box_tip, St.box_lp, St.tip_lp] at hβ); (repeat (obtain ⟨⟨_, _⟩, hβ⟩ := hβ)); (try (have hbis := apart_is (by assumption) hβ; obtain ⟨_, _⟩ := hbis)))) <;> (try simp only [↓R1, R2, R3, R4, R5, Nat.reduceEqDiff, Nat.reduceAdd, Nat.reduceMul, Nat.reduceSub, Nat.reduceLeDiff, Nat.reduceLT, reduceIte, reduceCtorEq, Int.reduceBNe, Int.reduceBEq, q1, q2, q3, q4, q5, hw, hw2, hd, hd2])) | (with_reducible refine And.intro ?_ ?_; (focus (first | omega | (intros; (repeat' (with_reducible apply And.intro)) <;> first | omega | (simp only [List.length_map]; omega))))) | (with_reducible apply And.intro))
          (refine endP_pu (by simp) (by first | (simp [rvsS, rvS]; done) | (simp only [rvsS, rvS, ↓R1, R2, R3, R4, R5, Nat.reduceEqDiff, Nat.reduceAdd, Nat.reduceMul, Nat.reduceSub, Nat.reduceLeDiff, Nat.reduceLT, reduceIte, reduceCtorEq, Int.reduceBNe, Int.reduceBEq, q1, q2, q3, q4, q5, hw, hw2, hd, hd2]; try simp)) (wk_of_eq ?_) (by (repeat (first | exact St.le_refl _ | (refine St.le_new ?_ (by assumption)) | (refine St.le_newT ?_ (by assumption))))))
          (simp only [resAV, rvV, List.map_cons, List.map_nil, ↓R1, R2, R3, R4, R5, Nat.reduceEqDiff, Nat.reduceAdd, Nat.reduceMul, Nat.reduceSub, Nat.reduceLeDiff, Nat.reduceLT, reduceIte, reduceCtorEq, Int.reduceBNe, Int.reduceBEq, q1, q2, q3, q4, q5, hw, hw2, hd, hd2])
end Go.Proofs.YtncadbcjikekhaaGreatDoor
namespace Go.Proofs.YtncadbcjikekhaaGreatDoor
open Go.Abs
set_option linter.all false
set_option maxRecDepth 100000
set_option maxHeartbeats 4000000 in
theorem p31 (l : List Pl) (hl : l.length ≤ 1000000) : Pu Tryz.prog 31 [.agg [.sl false l.length (l.flatMap cP)]] (.int .i64 (checkS l)) := by
  have q1 : True := trivial
  have q2 : True := trivial
  have q3 : True := trivial
  have q4 : True := trivial
  have q5 : True := trivial
  have hw : True := trivial
  have hw2 : True := trivial
  have hd : True := trivial
  have hd2 : True := trivial
  have hcl := cP_len l
  unfold checkS
  cases h0 : decide (l.length = 0) with
  | true =>
    have q1 : ((l.length : Int) == 0) = true := by rw [decide_eq_true_eq] at h0; rw [h0]; rfl
    simp only [cond_true]
    (refine Pu_intro c31 b31 (Nat.le_of_ble_eq_true rfl) fun σ => ?_; simp only [c31, ↓R1, R2, R3, R4, R5, Nat.reduceEqDiff, Nat.reduceAdd, Nat.reduceMul, Nat.reduceSub, Nat.reduceLeDiff, Nat.reduceLT, reduceIte, reduceCtorEq, Int.reduceBNe, Int.reduceBEq, q1, q2, q3, q4, q5, hw, hw2, hd, hd2])
    repeat' (first | (with_reducible rw [allocV_eq]) | (refine gdV_split (fun hc => ?_) (fun hc => ?_) <;> (try simp only [hc, ↓R1, R2, R3, R4, R5, Nat.reduceEqDiff, Nat.reduceAdd, Nat.reduceMul, Nat.reduceSub, Nat.reduceLeDiff, Nat.reduceLT, reduceIte, reduceCtorEq, Int.reduceBNe, Int.reduceBEq, q1, q2, q3, q4, q5, hw, hw2, hd, hd2])) | ((first | refine condV_split (fun hc => ?_) (fun hc => ?_) | (with_reducible intro β hβ; (try simp only [St.box_noneA, St.tip_noneA, St.tip_set, St.box_tip, St.box_lp, St.tip_lp] at hβ); (repeat (obtain ⟨⟨_, _⟩, hβ⟩ := hβ)); (try (have hbis := apart_is (by assumption) hβ; obtain ⟨_, _⟩ := hbis)))) <;> (try simp only [↓R1, R2, R3, R4, R5, Nat.reduceEqDiff, Nat.reduceAdd, Nat.reduceMul, Nat.reduceSub, Nat.reduceLeDiff, Nat.reduceLT, reduceIte, reduceCtorEq, Int.reduceBNe, Int.reduceBEq, q1, q2, q3, q4, q5, hw, hw2, hd, hd2])) | (with_reducible refine And.intro ?_ ?_; (focus (first | omega | (intros; (repeat' (with_reducible apply And.intro)) <;> first | omega | (simp only [List.length_map]; omega))))) | (with_reducible apply And.intro))
    refine endP_pu (by simp) (by first | (simp [rvsS, rvS]; done) | (simp only [rvsS, rvS, ↓R1, R2, R3, R4, R5, Nat.reduceEqDiff, Nat.reduceAdd, Nat.reduceMul, Nat.reduceSub, Nat.reduceLeDiff, Nat.reduceLT, reduceIte, reduceCtorEq, Int.reduceBNe, Int.reduceBEq, q1, q2, q3, q4, q5, hw, hw2, hd, hd2]; try simp)) (wk_of_eq (by (simp only [resAV, rvV, List.map_cons, List.map_nil, ↓R1, R2, R3, R4, R5, Nat.reduceEqDiff, Nat.reduceAdd, Nat.reduceMul, Nat.reduceSub, Nat.reduceLeDiff, Nat.reduceLT, reduceIte, reduceCtorEq, Int.reduceBNe, Int.reduceBEq, q1, q2, q3, q4, q5, hw, hw2, hd, hd2]))) (St.le_setBox (St.le_refl _) hβ)
  | false =>
    have q1 : ((l.length : Int) == 0) = false := by rw [decide_eq_false_iff_not] at h0; rw [beq_eq_false_iff_ne]; omega
    simp only [cond_false]
    cases h12 : decide (12 < l.length) with
    | true =>
      have q2 : decide ((12 : Int) < (l.length : Int)) = true := by rw [decide_eq_true_eq] at h12 ⊢; omega
      simp only [cond_true]
      (refine Pu_intro c31 b31 (Nat.le_of_ble_eq_true rfl) fun σ => ?_; simp only [c31, ↓R1, R2, R3, R4, R5, Nat.reduceEqDiff, Nat.reduceAdd, Nat.reduceMul, Nat.reduceSub, Nat.reduceLeDiff, Nat.reduceLT, reduceIte, reduceCtorEq, Int.reduceBNe, Int.reduceBEq, q1, q2, q3, q4, q5, hw, hw2, hd, hd2])
      repeat' (first | (with_reducible rw [allocV_eq]) | (refine gdV_split (fun hc => ?_) (fun hc => ?_) <;> (try simp only [hc, ↓R1, R2, R3, R4, R5, Nat.reduceEqDiff, Nat.reduceAdd, Nat.reduceMul, Nat.reduceSub, Nat.reduceLeDiff, Nat.reduceLT, reduceIte, reduceCtorEq, Int.reduceBNe, Int.reduceBEq, q1, q2, q3, q4, q5, hw, hw2, hd, hd2])) | ((first | refine condV_split (fun hc => ?_) (fun hc => ?_) | (with_reducible intro β hβ; (try simp only [St.box_noneA, St.tip_noneA, St.tip_set, St.box_tip, St.box_lp, St.tip_lp] at hβ); (repeat (obtain ⟨⟨_, _⟩, hβ⟩ := hβ)); (try (have hbis := apart_is (by assumption) hβ; obtain ⟨_, _⟩ := hbis)))) <;> (try simp only [↓R1, R2, R3, R4, R5, Nat.reduceEqDiff, Nat.reduceAdd, Nat.reduceMul, Nat.reduceSub, Nat.reduceLeDiff, Nat.reduceLT, reduceIte, reduceCtorEq, Int.reduceBNe, Int.reduceBEq, q1, q2, q3, q4, q5, hw, hw2, hd, hd2])) | (with_reducible refine And.intro ?_ ?_; (focus (first | omega | (intros; (repeat' (with_reducible apply And.intro)) <;> first | omega | (simp only [List.length_map]; omega))))) | (with_reducible apply And.intro))
      refine endP_pu (by simp) (by first | (simp [rvsS, rvS]; done) | (simp only [rvsS, rvS, ↓R1, R2, R3, R4, R5, Nat.reduceEqDiff, Nat.reduceAdd, Nat.reduceMul, Nat.reduceSub, Nat.reduceLeDiff, Nat.reduceLT, reduceIte, reduceCtorEq, Int.reduceBNe, Int.reduceBEq, q1, q2, q3, q4, q5, hw, hw2, hd, hd2]; try simp)) (wk_of_eq (by (simp only [resAV, rvV, List.map_cons, List.map_nil, ↓R1, R2, R3, R4, R5, Nat.reduceEqDiff, Nat.reduceAdd, Nat.reduceMul, Nat.reduceSub, Nat.reduceLeDiff, Nat.reduceLT, reduceIte, reduceCtorEq, Int.reduceBNe, Int.reduceBEq, q1, q2, q3, q4, q5, hw, hw2, hd, hd2]))) (St.le_setBox (St.le_refl _) hβ)
    | false =>
      have q2 : decide ((12 : Int) < (l.length : Int)) = false := by rw [decide_eq_false_iff_not] at h12 ⊢; omega
      simp only [cond_false]
      (refine Pu_intro c31 b31 (Nat.le_of_ble_eq_true rfl) fun σ => ?_; simp only [c31, ↓R1, R2, R3, R4, R5, Nat.reduceEqDiff, Nat.reduceAdd, Nat.reduceMul, Nat.reduceSub, Nat.reduceLeDiff, Nat.reduceLT, reduceIte, reduceCtorEq, Int.reduceBNe, Int.reduceBEq, q1, q2, q3, q4, q5, hw, hw2, hd, hd2])
      repeat' (first | (with_reducible rw [allocV_eq]) | (refine gdV_split (fun hc => ?_) (fun hc => ?_) <;> (try simp only [hc, ↓R1, R2, R3, R4, R5, Nat.reduceEqDiff, Nat.reduceAdd, Nat.reduceMul, Nat.reduceSub, Nat.reduceLeDiff, Nat.reduceLT, reduceIte, reduceCtorEq, Int.reduceBNe, Int.reduceBEq, q1, q2, q3, q4, q5, hw, hw2, hd, hd2])) | ((first | refine condV_split (fun hc => ?_) (fun hc => ?_) | (with_reducible intro β hβ; (try simp only [St.box_noneA, St.tip_noneA, St.tip_set, St.box_tip, St.box_lp, St.tip_lp] at hβ); (repeat (obtain ⟨⟨_, _⟩, hβ⟩ := hβ)); (try (have hbis := apart_is (by assumption) hβ; obtain ⟨_, _⟩ := hbis)))) <;> (try simp only [↓R1, R2, R3, R4, R5, Nat.reduceEqDiff, Nat.reduceAdd, Nat.reduceMul, Nat.reduceSub, Nat.reduceLeDiff, Nat.reduceLT, reduceIte, reduceCtorEq, Int.reduceBNe, Int.reduceBEq, q1, q2, q3, q4, q5, hw, hw2, hd, hd2])) | (with_reducible refine And.intro ?_ ?_; (focus (first | omega | (intros; (repeat' (with_reducible apply And.intro)) <;> first | omega | (simp only [List.length_map]; omega))))) | (with_reducible apply And.intro))
      refine loopV_for l.length (fun k => [(1, .ptr β 0), (18, .sl false l.length (l.flatMap cP)), (19, .int .i64 (l.length : Nat)), (20, .int .i64 (k : Nat))]) (fun _ => σ.setBox β [.sl false l.length (l.flatMap cP)]) (fun k => (l.take k).any plBad = false) (by simp [subF, slot, wk_refl]) (St.le_refl _) (by simp) (fun k hk hI => ?_)
      by_cases hlt : k < l.length
      · have q3 : decide ((k : Int) < (l.length : Int)) = true := by rw [decide_eq_true_eq]; omega
        have hd := cP_get l hlt
        have hw : IntKind.i64.wrap ((k : Int) + 1) = ((k + 1 : Nat) : Int) := by rw [wrap64 (by omega) (by omega)]; omega
        simp only [cP] at hd
        cases hb : plBad l[k] with
        | true =>
          have q4 := hb
          unfold plBad at q4
          rw [any_true plBad l hlt hb]
          simp only [cond_true]
          simp only [q3, ↓R1, R2, R3, R4, R5, Nat.reduceEqDiff, Nat.reduceAdd, Nat.reduceMul, Nat.reduceSub, Nat.reduceLeDiff, Nat.reduceLT, reduceIte, reduceCtorEq, Int.reduceBNe, Int.reduceBEq, q1, q2, q3, q4, q5, hw, hw2, hd, hd2]
          repeat' (first | (with_reducible rw [allocV_eq]) | (refine gdV_split (fun hc => ?_) (fun hc => ?_) <;> (try simp only [hc, ↓R1, R2, R3, R4, R5, Nat.reduceEqDiff, Nat.reduceAdd, Nat.reduceMul, Nat.reduceSub, Nat.reduceLeDiff, Nat.reduceLT, reduceIte, reduceCtorEq, Int.reduceBNe, Int.reduceBEq, q1, q2, q3, q4, q5, hw, hw2, hd, hd2])) | ((first | refine condV_split (fun hc => ?_) (fun hc => ?_) | (with_reducible intro β hβ; (try simp only [St.box_noneA, St.tip_noneA, St.tip_set, St.box_tip, St.box_lp, St.tip_lp] at hβ); (repeat (obtain ⟨⟨_, _⟩, hβ⟩ := hβ)); (try (have hbis := apart_is (by assumption) hβ; obtain ⟨_, _⟩ := hbis)))) <;> (try simp only [↓R1, R2, R3, R4, R5, Nat.reduceEqDiff, Nat.reduceAdd, Nat.reduceMul, Nat.reduceSub, Nat.reduceLeDiff, Nat.reduceLT, reduceIte, reduceCtorEq, Int.reduceBNe, Int.reduceBEq, q1, q2, q3, q4, q5, hw, hw2, hd, hd2])) | (with_reducible refine And.intro ?_ ?_; (focus (first | omega | (intros; (repeat' (with_reducible apply And.intro)) <;> first | omega | (simp only [List.length_map]; omega))))) | (with_reducible apply And.intro))
          (refine endP_pu (by simp) (by first | (simp [rvsS, rvS]; done) | (simp only [rvsS, rvS, ↓R1, R2, R3, R4, R5, Nat.reduceEqDiff, Nat.reduceAdd, Nat.reduceMul, Nat.reduceSub, Nat.reduceLeDiff, Nat.reduceLT, reduceIte, reduceCtorEq, Int.reduceBNe, Int.reduceBEq, q1, q2, q3, q4, q5, hw, hw2, hd, hd2]; try simp)) (wk_of_eq ?_) (by (repeat (first | exact St.le_refl _ | (refine St.le_new ?_ (by assumption)) | (refine St.le_newT ?_ (by assumption))))))
          (simp only [resAV, rvV, List.map_cons, List.map_nil, ↓R1, R2, R3, R4, R5, Nat.reduceEqDiff, Nat.reduceAdd, Nat.reduceMul, Nat.reduceSub, Nat.reduceLeDiff, Nat.reduceLT, reduceIte, reduceCtorEq, Int.reduceBNe, Int.reduceBEq, q1, q2, q3, q4, q5, hw, hw2, hd, hd2])
        | false =>
          have q4 := hb
          unfold plBad at q4
          simp only [q3, ↓R1, R2, R3, R4, R5, Nat.reduceEqDiff, Nat.reduceAdd, Nat.reduceMul, Nat.reduceSub, Nat.reduceLeDiff, Nat.reduceLT, reduceIte, reduceCtorEq, Int.reduceBNe, Int.reduceBEq, q1, q2, q3, q4, q5, hw, hw2, hd, hd2]
          repeat' (first | (with_reducible rw [allocV_eq]) | (refine gdV_split (fun hc => ?_) (fun hc => ?_) <;> (try simp only [hc, ↓R1, R2, R3, R4, R5, Nat.reduceEqDiff, Nat.reduceAdd, Nat.reduceMul, Nat.reduceSub, Nat.reduceLeDiff, Nat.reduceLT, reduceIte, reduceCtorEq, Int.reduceBNe, Int.reduceBEq, q1, q2, q3, q4, q5, hw, hw2, hd, hd2])) | ((first | refine condV_split (fun hc => ?_) (fun hc => ?_) | (with_reducible intro β hβ; (try simp only [St.box_noneA, St.tip_noneA, St.tip_set, St.box_tip, St.box_lp, St.tip_lp] at hβ); (repeat (obtain ⟨⟨_, _⟩, hβ⟩ := hβ)); (try (have hbis := apart_is (by assumption) hβ; obtain ⟨_, _⟩ := hbis)))) <;> (try simp only [↓R1, R2, R3, R4, R5, Nat.reduceEqDiff, Nat.reduceAdd, Nat.reduceMul, Nat.reduceSub, Nat.reduceLeDiff, Nat.reduceLT, reduceIte, reduceCtorEq, Int.reduceBNe, Int.reduceBEq, q1, q2, q3, q4, q5, hw, hw2, hd, hd2])) | (with_reducible refine And.intro ?_ ?_; (focus (first | omega | (intros; (repeat' (with_reducible apply And.intro)) <;> first | omega | (simp only [List.length_map]; omega))))) | (with_reducible apply And.intro))
          · rw [any_takeG plBad l hlt, hI, hb]; rfl
          · simp [subF, slot, wk_refl]
          · refine St.le_setBox (St.le_refl _) ?_
            first | assumption | (simp only [↓R1, R2, R3, R4, R5, Nat.reduceEqDiff, Nat.reduceAdd, Nat.reduceMul, Nat.reduceSub, Nat.reduceLeDiff, Nat.reduceLT, reduceIte, reduceCtorEq, Int.reduceBNe, Int.reduceBEq, q1, q2, q3, q4, q5, hw, hw2, hd, hd2]; assumption)
      · have hke : k = l.length := by omega
        subst hke
        have q3 : decide ((l.length : Int) < (l.length : Int)) = false := by simp
        rw [List.take_length] at hI
        rw [hI]
        simp only [cond_false]
        have hn0 : 0 < l.length := by rw [decide_eq_false_iff_not] at h0; omega
        simp only [q3, ↓R1, R2, R3, R4, R5, Nat.reduceEqDiff, Nat.reduceAdd, Nat.reduceMul, Nat.reduceSub, Nat.reduceLeDiff, Nat.reduceLT, reduceIte, reduceCtorEq, Int.reduceBNe, Int.reduceBEq, q1, q2, q3, q4, q5, hw, hw2, hd, hd2]
        repeat' (first | (with_reducible rw [allocV_eq]) | (refine gdV_split (fun hc => ?_) (fun hc => ?_) <;> (try simp only [hc, ↓R1, R2, R3, R4, R5, Nat.reduceEqDiff, Nat.reduceAdd, Nat.reduceMul, Nat.reduceSub, Nat.reduceLeDiff, Nat.reduceLT, reduceIte, reduceCtorEq, Int.reduceBNe, Int.reduceBEq, q1, q2, q3, q4, q5, hw, hw2, hd, hd2])) | ((first | refine condV_split (fun hc => ?_) (fun hc => ?_) | (with_reducible intro β hβ; (try simp only [St.box_noneA, St.tip_noneA, St.tip_set, St.box_tip, St.box_lp, St.tip_lp] at hβ); (repeat (obtain ⟨⟨_, _⟩, hβ⟩ := hβ)); (try (have hbis := apart_is (by assumption) hβ; obtain ⟨_, _⟩ := hbis)))) <;> (try simp only [↓R1, R2, R3, R4, R5, Nat.reduceEqDiff, Nat.reduceAdd, Nat.reduceMul, Nat.reduceSub, Nat.reduceLeDiff, Nat.reduceLT, reduceIte, reduceCtorEq, Int.reduceBNe, Int.reduceBEq, q1, q2, q3, q4, q5, hw, hw2, hd, hd2])) | (with_reducible refine And.intro ?_ ?_; (focus (first | omega | (intros; (repeat' (with_reducible apply And.intro)) <;> first | omega | (simp only [List.length_map]; omega))))) | (with_reducible apply And.intro))
        refine loopV_for (l.length - 1) (fun k => [(1, .ptr β 0), (5, .bool false), (6, .int .i64 ((k + 1 : Nat) : Int))]) (fun _ => σ.setBox β [.sl false l.length (l.flatMap cP)]) (fun k => ((prs l).take k).any (fun q => decide (q.2.p ≤ q.1.p)) = false) (by simp [subF, slot, wk_refl]) (St.le_refl _) (by simp) (fun k hk hJ => ?_)
        by_cases hlt : k < l.length - 1
        · have q3 : decide (((k + 1 : Nat) : Int) < (l.length : Int)) = true := by rw [decide_eq_true_eq]; omega
          have hd := cP_get l (k := k + 1) (by omega)
          have hd2 := cP_get l (k := k) (by omega)
          have hw : IntKind.i64.wrap (((k + 1 : Nat) : Int) + 1) = ((k + 1 + 1 : Nat) : Int) := by rw [wrap64 (by omega) (by omega)]; omega
          have hw2 : IntKind.i64.wrap (((k + 1 : Nat) : Int) - 1) = ((k : Nat) : Int) := by rw [wrap64 (by omega) (by omega)]; omega
          simp only [cP] at hd hd2
          have hg := prs_get l (k := k) (by omega)
          have hpl : k < (prs l).length := by rw [prs_len]; exact hlt
          cases hb : decide (l[k + 1].p ≤ l[k].p) with
          | true =>
            have q4 := hb
            have hf : falls l = true := any_true _ _ hpl (by rw [hg]; exact hb)
            rw [hf]
            simp only [cond_true]
            simp only [q3, ↓R1, R2, R3, R4, R5, Nat.reduceEqDiff, Nat.reduceAdd, Nat.reduceMul, Nat.reduceSub, Nat.reduceLeDiff, Nat.reduceLT, reduceIte, reduceCtorEq, Int.reduceBNe, Int.reduceBEq, q1, q2, q3, q4, q5, hw, hw2, hd, hd2]
            repeat' (first | (with_reducible rw [allocV_eq]) | (refine gdV_split (fun hc => ?_) (fun hc => ?_) <;> (try simp only [hc, ↓R1, R2, R3, R4, R5, Nat.reduceEqDiff, Nat.reduceAdd, Nat.reduceMul, Nat.reduceSub, Nat.reduceLeDiff, Nat.reduceLT, reduceIte, reduceCtorEq, Int.reduceBNe, Int.reduceBEq, q1, q2, q3, q4, q5, hw, hw2, hd, hd2])) | ((first | refine condV_split (fun hc => ?_) (fun hc => ?_) | (with_reducible intro β hβ; (try simp only [St.box_noneA, St.tip_noneA, St.tip_set, St.box_tip, St.box_lp, St.tip_lp] at hβ); (repeat (obtain ⟨⟨_, _⟩, hβ⟩ := hβ)); (try (have hbis := apart_is (by assumption) hβ; obtain ⟨_, _⟩ := hbis)))) <;> (try simp only [↓R1, R2, R3, R4, R5, Nat.reduceEqDiff, Nat.reduceAdd, Nat.reduceMul, Nat.reduceSub, Nat.reduceLeDiff, Nat.reduceLT, reduceIte, reduceCtorEq, Int.reduceBNe, Int.reduceBEq, q1, q2, q3, q4, q5, hw, hw2, hd, hd2])) | (with_reducible refine And.intro ?_ ?_; (focus (first | omega | (intros; (repeat' (with_reducible apply And.intro)) <;> first | omega | (simp only [List.length_map]; omega))))) | (with_reducible apply And.intro))
            (refine endP_pu (by simp) (by first | (simp [rvsS, rvS]; done) | (simp only [rvsS, rvS, ↓R1, R2, R3, R4, R5, Nat.reduceEqDiff, Nat.reduceAdd, Nat.reduceMul, Nat.reduceSub, Nat.reduceLeDiff, Nat.reduceLT, reduceIte, reduceCtorEq, Int.reduceBNe, Int.reduceBEq, q1, q2, q3, q4, q5, hw, hw2, hd, hd2]; try simp)) (wk_of_eq ?_) (by (repeat (first | exact St.le_refl _ | (refine St.le_new ?_ (by assumption)) | (refine St.le_newT ?_ (by assumption))))))
            (simp only [resAV, rvV, List.map_cons, List.map_nil, ↓R1, R2, R3, R4, R5, Nat.reduceEqDiff, Nat.reduceAdd, Nat.reduceMul, Nat.reduceSub, Nat.reduceLeDiff, Nat.reduceLT, reduceIte, reduceCtorEq, Int.reduceBNe, Int.reduceBEq, q1, q2, q3, q4, q5, hw, hw2, hd, hd2])
          | false =>
            have q4 := hb
            simp only [q3, ↓R1, R2, R3, R4, R5, Nat.reduceEqDiff, Nat.reduceAdd, Nat.reduceMul, Nat.reduceSub, Nat.reduceLeDiff, Nat.reduceLT, reduceIte, reduceCtorEq, Int.reduceBNe, Int.reduceBEq, q1, q2, q3, q4, q5, hw, hw2, hd, hd2]
            repeat' (first | (with_reducible rw [allocV_eq]) | (refine gdV_split (fun hc => ?_) (fun hc => ?_) <;> (try simp only [hc, ↓R1, R2, R3, R4, R5, Nat.reduceEqDiff, Nat.reduceAdd, Nat.reduceMul, Nat.reduceSub, Nat.reduceLeDiff, Nat.reduceLT, reduceIte, reduceCtorEq, Int.reduceBNe, Int.reduceBEq, q1, q2, q3, q4, q5, hw, hw2, hd, hd2])) | ((first | refine condV_split (fun hc => ?_) (fun hc => ?_) | (with_reducible intro β hβ; (try simp only [St.box_noneA, St.tip_noneA, St.tip_set, St.box_tip, St.box_lp, St.tip_lp] at hβ); (repeat (obtain ⟨⟨_, _⟩, hβ⟩ := hβ)); (try (have hbis := apart_is (by assumption) hβ; obtain ⟨_, _⟩ := hbis)))) <;> (try simp only [↓R1, R2, R3, R4, R5, Nat.reduceEqDiff, Nat.reduceAdd, Nat.reduceMul, Nat.reduceSub, Nat.reduceLeDiff, Nat.reduceLT, reduceIte, reduceCtorEq, Int.reduceBNe, Int.reduceBEq, q1, q2, q3, q4, q5, hw, hw2, hd, hd2])) | (with_reducible refine And.intro ?_ ?_; (focus (first | omega | (intros; (repeat' (with_reducible apply And.intro)) <;> first | omega | (simp only [List.length_map]; omega))))) | (with_reducible apply And.intro))
            · rw [any_takeG _ _ hpl, hJ, hg, hb]; rfl
            · simp [subF, slot, wk_refl]
            · exact St.le_refl _
        · have hke : k = l.length - 1 := by omega
          subst hke
          have q3 : decide (((l.length - 1 + 1 : Nat) : Int) < (l.length : Int)) = false := by rw [decide_eq_false_iff_not]; omega
          have hf : falls l = false := by
            rw [List.take_of_length_le (by rw [prs_len]; omega)] at hJ
            exact hJ
          rw [hf]
          simp only [cond_false]
          simp only [q3, ↓R1, R2, R3, R4, R5, Nat.reduceEqDiff, Nat.reduceAdd, Nat.reduceMul, Nat.reduceSub, Nat.reduceLeDiff, Nat.reduceLT, reduceIte, reduceCtorEq, Int.reduceBNe, Int.reduceBEq, q1, q2, q3, q4, q5, hw, hw2, hd, hd2]
          repeat' (first | (with_reducible rw [allocV_eq]) | (refine gdV_split (fun hc => ?_) (fun hc => ?_) <;> (try simp only [hc, ↓R1, R2, R3, R4, R5, Nat.reduceEqDiff, Nat.reduceAdd, Nat.reduceMul, Nat.reduceSub, Nat.reduceLeDiff, Nat.reduceLT, reduceIte, reduceCtorEq, Int.reduceBNe, Int.reduceBEq, q1, q2, q3, q4, q5, hw, hw2, hd, hd2])) | ((first | refine condV_split (fun hc => ?_) (fun hc => ?_) | (with_reducible intro β hβ; (try simp only [St.box_noneA, St.tip_noneA, St.tip_set, St.box_tip, St.box_lp, St.tip_lp] at hβ); (repeat (obtain ⟨⟨_, _⟩, hβ⟩ := hβ)); (try (have hbis := apart_is (by assumption) hβ; obtain ⟨_, _⟩ := hbis)))) <;> (try simp only [↓R1, R2, R3, R4, R5, Nat.reduceEqDiff, Nat.reduceAdd, Nat.reduceMul, Nat.reduceSub, Nat.reduceLeDiff, Nat.reduceLT, reduceIte, reduceCtorEq, Int.reduceBNe, Int.reduceBEq, q1, q2, q3, q4, q5, hw, hw2, hd, hd2])) | (with_reducible refine And.intro ?_ ?_; (focus (first | omega | (intros; (repeat' (with_reducible apply And.intro)) <;> first | omega | (simp only [List.length_map]; omega))))) | (with_reducible apply And.intro))
          (refine endP_pu (by simp) (by first | (simp [rvsS, rvS]; done) | (simp only [rvsS, rvS, ↓R1, R2, R3, R4, R5, Nat.reduceEqDiff, Nat.reduceAdd, Nat.reduceMul, Nat.reduceSub, Nat.reduceLeDiff, Nat.reduceLT, reduceIte, reduceCtorEq, Int.reduceBNe, Int.reduceBEq, q1, q2, q3, q4, q5, hw, hw2, hd, hd2]; try simp)) (wk_of_eq ?_) (by (repeat (first | exact St.le_refl _ | (refine St.le_new ?_ (by assumption)) | (refine St.le_newT ?_ (by assumption))))))
          (simp only [resAV, rvV, List.map_cons, List.map_nil, ↓R1, R2, R3, R4, R5, Nat.reduceEqDiff, Nat.reduceAdd, Nat.reduceMul, Nat.reduceSub, Nat.reduceLeDiff, Nat.reduceLT, reduceIte, reduceCtorEq, Int.reduceBNe, Int.reduceBEq, q1, q2, q3, q4, q5, hw, hw2, hd, hd2])
end Go.Proofs.YtncadbcjikekhaaGreatDoor
namespace Go.Proofs.YtncadbcjikekhaaGreatDoor
open Go.Abs
set_option linter.all false
set_option maxRecDepth 100000
structure Idd where
  l : Int
  n : Int
structure It where
  k : Int
  q : Int
  ids : List Idd
  at' : List Int
  va : List Int
  e : Int
  c : Int
def cId (x : Idd) : List AV := [.int .u64 x.l, .int .u64 x.n]
def cI (n : Int) : List AV := [.int .i64 n]
theorem cId_len (l : List Idd) : (l.flatMap cId).length = l.length * 2 := flat_len (f := cId) (fun _ => rfl) l
theorem cId_get (l : List Idd) {k : Nat} (h : k < l.length) : ((l.flatMap cId).drop (k * 2)).take 2 = cId l[k] := flat_get (f := cId) (s := 2) (fun _ => rfl) l k h
theorem cI_len (l : List Int) : (l.flatMap cI).length = l.length * 1 := flat_len (f := cI) (fun _ => rfl) l
theorem cI_get (l : List Int) {k : Nat} (h : k < l.length) : ((l.flatMap cI).drop (k * 1)).take 1 = cI l[k] := flat_get (f := cI) (s := 1) (fun _ => rfl) l k h
def itL (x : It) : List AV := [.int .i64 x.k, .int .i64 x.q, .sl false x.ids.length (x.ids.flatMap cId), .sl false x.at'.length (x.at'.flatMap cI), .sl false x.va.length (x.va.flatMap cI), .int .i64 x.e, .int .i64 x.c]
def countB (n : Int) : Bool := decide (1 ≤ n) && decide (n ≤ 1099511627776)
theorem p91 (n : Int) : Pu Tryz.prog 91 [.int .i64 n] (.bool (countB n)) := by
  (refine Pu_intro c91 b91 (Nat.le_of_ble_eq_true rfl) fun σ => ?_; simp only [c91, ↓R1, R2, R3, R4, R5, Nat.reduceEqDiff, Nat.reduceAdd, Nat.reduceMul, Nat.reduceSub, Nat.reduceLeDiff, Nat.reduceLT, reduceIte, reduceCtorEq, Int.reduceBNe, Int.reduceBEq])
  repeat' (first | (with_reducible rw [allocV_eq]) | (refine gdV_split (fun hc => ?_) (fun hc => ?_) <;> (try simp only [hc, ↓R1, R2, R3, R4, R5, Nat.reduceEqDiff, Nat.reduceAdd, Nat.reduceMul, Nat.reduceSub, Nat.reduceLeDiff, Nat.reduceLT, reduceIte, reduceCtorEq, Int.reduceBNe, Int.reduceBEq])) | ((first | refine condV_split (fun hc => ?_) (fun hc => ?_) | (with_reducible intro β hβ; (try simp only [St.box_noneA, St.tip_noneA, St.tip_set, St.box_tip, St.box_lp, St.tip_lp] at hβ); (repeat (obtain ⟨⟨_, _⟩, hβ⟩ := hβ)); (try (have hbis := apart_is (by assumption) hβ; obtain ⟨_, _⟩ := hbis)))) <;> (try simp only [↓R1, R2, R3, R4, R5, Nat.reduceEqDiff, Nat.reduceAdd, Nat.reduceMul, Nat.reduceSub, Nat.reduceLeDiff, Nat.reduceLT, reduceIte, reduceCtorEq, Int.reduceBNe, Int.reduceBEq])) | (with_reducible refine And.intro ?_ ?_; (focus (first | omega | (intros; (repeat' (with_reducible apply And.intro)) <;> first | omega | (simp only [List.length_map]; omega))))) | (with_reducible apply And.intro))
  (refine endP_pu (by simp) (by first | (simp [rvsS, rvS]; done) | (simp only [rvsS, rvS, ↓R1, R2, R3, R4, R5, Nat.reduceEqDiff, Nat.reduceAdd, Nat.reduceMul, Nat.reduceSub, Nat.reduceLeDiff, Nat.reduceLT, reduceIte, reduceCtorEq, Int.reduceBNe, Int.reduceBEq]; try simp)) (wk_of_eq ?_) (by (repeat (first | exact St.le_refl _ | (refine St.le_new ?_ (by assumption)) | (refine St.le_newT ?_ (by assumption))))))
  (simp only [resAV, rvV, List.map_cons, List.map_nil, ↓R1, R2, R3, R4, R5, Nat.reduceEqDiff, Nat.reduceAdd, Nat.reduceMul, Nat.reduceSub, Nat.reduceLeDiff, Nat.reduceLT, reduceIte, reduceCtorEq, Int.reduceBNe, Int.reduceBEq])
  all_goals rfl
theorem p92 (n : Int) : Pu Tryz.prog 92 [.int .i64 n] (.bool (countB n)) := by
  (refine Pu_intro c92 b92 (Nat.le_of_ble_eq_true rfl) fun σ => ?_; simp only [c92, ↓R1, R2, R3, R4, R5, Nat.reduceEqDiff, Nat.reduceAdd, Nat.reduceMul, Nat.reduceSub, Nat.reduceLeDiff, Nat.reduceLT, reduceIte, reduceCtorEq, Int.reduceBNe, Int.reduceBEq])
  repeat' (first | (with_reducible rw [allocV_eq]) | (refine gdV_split (fun hc => ?_) (fun hc => ?_) <;> (try simp only [hc, ↓R1, R2, R3, R4, R5, Nat.reduceEqDiff, Nat.reduceAdd, Nat.reduceMul, Nat.reduceSub, Nat.reduceLeDiff, Nat.reduceLT, reduceIte, reduceCtorEq, Int.reduceBNe, Int.reduceBEq])) | ((first | refine condV_split (fun hc => ?_) (fun hc => ?_) | (with_reducible intro β hβ; (try simp only [St.box_noneA, St.tip_noneA, St.tip_set, St.box_tip, St.box_lp, St.tip_lp] at hβ); (repeat (obtain ⟨⟨_, _⟩, hβ⟩ := hβ)); (try (have hbis := apart_is (by assumption) hβ; obtain ⟨_, _⟩ := hbis)))) <;> (try simp only [↓R1, R2, R3, R4, R5, Nat.reduceEqDiff, Nat.reduceAdd, Nat.reduceMul, Nat.reduceSub, Nat.reduceLeDiff, Nat.reduceLT, reduceIte, reduceCtorEq, Int.reduceBNe, Int.reduceBEq])) | (with_reducible refine And.intro ?_ ?_; (focus (first | omega | (intros; (repeat' (with_reducible apply And.intro)) <;> first | omega | (simp only [List.length_map]; omega))))) | (with_reducible apply And.intro))
  (refine endP_pu (by simp) (by first | (simp [rvsS, rvS]; done) | (simp only [rvsS, rvS, ↓R1, R2, R3, R4, R5, Nat.reduceEqDiff, Nat.reduceAdd, Nat.reduceMul, Nat.reduceSub, Nat.reduceLeDiff, Nat.reduceLT, reduceIte, reduceCtorEq, Int.reduceBNe, Int.reduceBEq]; try simp)) (wk_of_eq ?_) (by (repeat (first | exact St.le_refl _ | (refine St.le_new ?_ (by assumption)) | (refine St.le_newT ?_ (by assumption))))))
  (simp only [resAV, rvV, List.map_cons, List.map_nil, ↓R1, R2, R3, R4, R5, Nat.reduceEqDiff, Nat.reduceAdd, Nat.reduceMul, Nat.reduceSub, Nat.reduceLeDiff, Nat.reduceLT, reduceIte, reduceCtorEq, Int.reduceBNe, Int.reduceBEq])
  all_goals rfl
end Go.Proofs.YtncadbcjikekhaaGreatDoor
