/- Part 15 of the proof of EventKnown: an abstract semantics that is proved sound for the model, contracts of functions in it, and plain facts (C03 C03b). No condition. -/
import Derived.Test.YtnmlhilckjmhnaaDoorKEventKnown14
import Derived.Test.YtnmlhilckjmhnaaDoorRows
set_option linter.all false
namespace Go.Proofs.YtnmlhilckjmhnaaDoor
open Go.Abs
set_option maxRecDepth 100000
/-- partywall/partywalllaw03.EventOrder -/
def c3 : CF := ⟨(.seq (.keep [0, 1, 2] (.ops [⟨some 3, .box 2 (.t 0), none⟩, ⟨some 4, .box 2 (.t 1), none⟩, ⟨some 5, .box 2 (.t 2), none⟩, ⟨some 6, .mv (.c (.bool false)), none⟩]))
    (.seq (.keep [3, 4, 5] (.drw [⟨some 10, .ld (some 2) (.t 3), none⟩, ⟨some 11, .ld (some 2) (.t 4), none⟩, ⟨some 12, .call 10 [(.t 10), (.t 11)], none⟩, ⟨some 13, .ld (some 2) (.t 4), none⟩, ⟨some 14, .ld (some 2) (.t 5), none⟩, ⟨some 15, .call 10 [(.t 13), (.t 14)], none⟩, ⟨some 16, .ld (some 2) (.t 3), none⟩, ⟨some 17, .ld (some 2) (.t 5), none⟩, ⟨some 18, .call 10 [(.t 16), (.t 17)], none⟩, ⟨some 7, .mv (.t 12), none⟩, ⟨some 8, .mv (.t 15), none⟩, ⟨some 9, .mv (.t 18), none⟩] [1, 1, 1, 1, 1, 1, 1, 1, 1, 0, 0, 0]))
    (.seq (.keep [3, 4, 7, 8, 9] (.ops [⟨some 19, .mv (.t 7), none⟩, ⟨some 20, .bin .eql (.t 19) (.c (.int .i64 0)), none⟩, ⟨some 21, .ld (some 2) (.t 3), none⟩, ⟨some 22, .ld (some 2) (.t 4), none⟩, ⟨some 23, .eqA false [0, 0] (.t 21) (.t 22), none⟩, ⟨some 24, .eqb false (.t 20) (.t 23), none⟩, ⟨some 25, .mv (.t 24), none⟩, ⟨some 26, .ld (some 2) (.t 4), some (25, true)⟩, ⟨some 27, .ld (some 2) (.t 3), some (25, true)⟩, ⟨some 28, .call 10 [(.t 26), (.t 27)], some (25, true)⟩, ⟨some 29, .mv (.t 7), some (25, true)⟩, ⟨some 30, .un .neg (.t 29), some (25, true)⟩, ⟨some 31, .bin .eql (.t 28) (.t 30), some (25, true)⟩, ⟨some 32, .pick (.t 25) (.t 31) (.c (.bool false)), none⟩, ⟨some 33, .mv (.t 32), none⟩, ⟨some 34, .mv (.t 7), some (33, true)⟩, ⟨some 35, .bin .gtr (.t 34) (.c (.int .i64 0)), some (33, true)⟩, ⟨some 36, .mv (.t 35), some (33, true)⟩, ⟨some 37, .mv (.t 8), some (36, false)⟩, ⟨some 38, .bin .gtr (.t 37) (.c (.int .i64 0)), some (36, false)⟩, ⟨some 39, .pick (.t 36) (.c (.bool true)) (.t 38), some (33, true)⟩, ⟨some 40, .mv (.t 39), some (33, true)⟩, ⟨some 41, .mv (.t 9), some (40, false)⟩, ⟨some 42, .bin .leq (.t 41) (.c (.int .i64 0)), some (40, false)⟩, ⟨some 43, .pick (.t 40) (.c (.bool true)) (.t 42), some (33, true)⟩, ⟨some 44, .pick (.t 33) (.t 43) (.c (.bool false)), none⟩, ⟨some 45, .mv (.t 44), none⟩, ⟨some 46, .mv (.t 7), some (45, true)⟩, ⟨some 47, .bin .geq (.t 46) (.c (.int .i64 0)), some (45, true)⟩, ⟨some 48, .mv (.t 47), some (45, true)⟩, ⟨some 49, .mv (.t 8), some (48, false)⟩, ⟨some 50, .bin .gtr (.t 49) (.c (.int .i64 0)), some (48, false)⟩, ⟨some 51, .pick (.t 48) (.c (.bool true)) (.t 50), some (45, true)⟩, ⟨some 52, .mv (.t 51), some (45, true)⟩, ⟨some 53, .mv (.t 9), some (52, false)⟩, ⟨some 54, .bin .lss (.t 53) (.c (.int .i64 0)), some (52, false)⟩, ⟨some 55, .pick (.t 52) (.c (.bool true)) (.t 54), some (45, true)⟩, ⟨some 56, .pick (.t 45) (.t 55) (.c (.bool false)), none⟩, ⟨some 57, .mv (.t 56), none⟩, ⟨some 58, .call 11 [], some (57, true)⟩, ⟨some 59, .pick (.t 57) (.t 58) (.c (.bool false)), none⟩, ⟨some 6, .mv (.t 59), none⟩]))
    .ret))), [.t 6], 60⟩
theorem b3 : fB Tryd.prog 3 c3 = true := by kernel_rfl
/-- partywall/partywalllaw03.EventApart -/
def c4 : CF := ⟨(.seq (.keep [0, 1, 2, 3, 4, 5, 6] (.ops [⟨some 14, .mv (.c (.bool false)), none⟩]))
    (.seq (.keep [0, 1, 2, 3, 4, 5, 6] (.ops [⟨some 27, .mv (.t 0), none⟩, ⟨some 28, .mv (.t 2), none⟩, ⟨some 29, .mv (.t 4), none⟩, ⟨some 30, .call 12 [(.t 27), (.t 28), (.t 29)], none⟩, ⟨some 31, .mv (.t 1), none⟩, ⟨some 32, .mv (.t 3), none⟩, ⟨some 33, .mv (.t 5), none⟩, ⟨some 34, .call 12 [(.t 31), (.t 32), (.t 33)], none⟩, ⟨some 15, .alloc [.int .u64 0, .int .i64 0, .int .i64 0], none⟩, ⟨some 16, .alloc [.int .u64 0, .int .i64 0, .int .i64 0], none⟩, ⟨none, .st 3 (.t 15) (.t 30), none⟩, ⟨none, .st 3 (.t 16) (.t 34), none⟩]))
    (.seq (.keep [6, 15, 16] (.ops [⟨some 36, .ld (some 3) (.t 15), none⟩, ⟨some 37, .call 13 [(.t 36)], none⟩, ⟨some 35, .mv (.t 37), none⟩, ⟨some 38, .ext (.t 35) 0, none⟩, ⟨some 39, .ext (.t 35) 1, none⟩, ⟨some 17, .mv (.t 38), none⟩, ⟨some 18, .mv (.t 39), none⟩]))
    (.seq (.keep [6, 15, 16, 17, 18] (.ops [⟨some 41, .ld (some 3) (.t 16), none⟩, ⟨some 42, .call 13 [(.t 41)], none⟩, ⟨some 40, .mv (.t 42), none⟩, ⟨some 43, .ext (.t 40) 0, none⟩, ⟨some 44, .ext (.t 40) 1, none⟩, ⟨some 19, .mv (.t 43), none⟩, ⟨some 20, .mv (.t 44), none⟩]))
    (.seq (.keep [6, 15, 16, 17, 18, 19, 20] (.ops [⟨some 46, .ld (some 3) (.t 15), none⟩, ⟨some 47, .call 14 [(.t 46)], none⟩, ⟨some 45, .mv (.t 47), none⟩, ⟨some 48, .ext (.t 45) 0, none⟩, ⟨some 49, .ext (.t 45) 1, none⟩, ⟨some 21, .mv (.t 48), none⟩, ⟨some 22, .mv (.t 49), none⟩]))
    (.seq (.keep [6, 15, 16, 17, 18, 19, 20, 21, 22] (.ops [⟨some 51, .ld (some 3) (.t 16), none⟩, ⟨some 52, .call 14 [(.t 51)], none⟩, ⟨some 50, .mv (.t 52), none⟩, ⟨some 53, .ext (.t 50) 0, none⟩, ⟨some 54, .ext (.t 50) 1, none⟩, ⟨some 23, .mv (.t 53), none⟩, ⟨some 24, .mv (.t 54), none⟩]))
    (.seq (.keep [6, 15, 16, 17, 18, 19, 20, 21, 22, 23, 24] (.ops [⟨some 56, .ld (some 3) (.t 15), none⟩, ⟨some 57, .mv (.t 6), none⟩, ⟨some 58, .bin .rem (.t 57) (.c (.int .u64 1099511627776)), none⟩, ⟨some 59, .bin .add (.t 58) (.c (.int .u64 1)), none⟩, ⟨some 60, .mv (.t 6), none⟩, ⟨some 61, .bin .quo (.t 60) (.c (.int .u64 2)), none⟩, ⟨some 62, .bin .rem (.t 61) (.c (.int .u64 1099511627776)), none⟩, ⟨some 63, .bin .add (.t 62) (.c (.int .u64 1)), none⟩, ⟨some 64, .mv (.t 6), none⟩, ⟨some 65, .bin .rem (.t 64) (.c (.int .u64 1099511627777)), none⟩, ⟨some 66, .call 15 [(.t 56), (.t 59), (.t 63), (.t 65)], none⟩, ⟨some 55, .mv (.t 66), none⟩, ⟨some 67, .ext (.t 55) 0, none⟩, ⟨some 68, .ext (.t 55) 1, none⟩, ⟨some 25, .alloc [.int .u64 0, .int .u64 0, .int .u64 0, .int .u64 0, .int .i64 0, .int .i64 0], none⟩, ⟨none, .st 6 (.t 25) (.t 67), none⟩, ⟨some 26, .mv (.t 68), none⟩]))
    (.seq (.seq (.keep [15, 16, 17, 18, 19, 20, 21, 22, 23, 24, 25, 26] (.ops [⟨some 69, .mv (.t 18), none⟩, ⟨some 70, .bin .neq (.t 69) (.c (.int .i64 0)), none⟩, ⟨some 71, .mv (.t 70), none⟩, ⟨some 72, .mv (.t 20), some (71, false)⟩, ⟨some 73, .bin .neq (.t 72) (.c (.int .i64 0)), some (71, false)⟩, ⟨some 74, .pick (.t 71) (.c (.bool true)) (.t 73), none⟩, ⟨some 75, .mv (.t 74), none⟩, ⟨some 76, .mv (.t 22), some (75, false)⟩, ⟨some 77, .bin .neq (.t 76) (.c (.int .i64 0)), some (75, false)⟩, ⟨some 78, .pick (.t 75) (.c (.bool true)) (.t 77), none⟩, ⟨some 79, .mv (.t 78), none⟩, ⟨some 80, .mv (.t 24), some (79, false)⟩, ⟨some 81, .bin .neq (.t 80) (.c (.int .i64 0)), some (79, false)⟩, ⟨some 82, .pick (.t 79) (.c (.bool true)) (.t 81), none⟩, ⟨some 83, .mv (.t 82), none⟩, ⟨some 84, .mv (.t 26), some (83, false)⟩, ⟨some 85, .bin .neq (.t 84) (.c (.int .i64 0)), some (83, false)⟩, ⟨some 86, .pick (.t 83) (.c (.bool true)) (.t 85), none⟩]))
    (.cond (.t 86)
      (.seq (.keep [] (.ops [⟨some 14, .mv (.c (.bool false)), none⟩]))
      .ret)
      .skip))
    (.seq (.keep [15, 16, 17, 19, 21, 23, 25] (.drw [⟨some 87, .mv (.t 17), none⟩, ⟨some 88, .mv (.t 19), none⟩, ⟨some 89, .bin .eql (.t 87) (.t 88), none⟩, ⟨some 90, .ld (some 3) (.t 15), none⟩, ⟨some 91, .ld (some 3) (.t 16), none⟩, ⟨some 92, .eqA false [0, 0, 0] (.t 90) (.t 91), none⟩, ⟨some 93, .eqb false (.t 89) (.t 92), none⟩, ⟨some 94, .mv (.t 93), none⟩, ⟨some 95, .mv (.t 21), some (94, true)⟩, ⟨some 96, .mv (.t 23), some (94, true)⟩, ⟨some 97, .bin .eql (.t 95) (.t 96), some (94, true)⟩, ⟨some 98, .ld (some 3) (.t 15), some (94, true)⟩, ⟨some 99, .ld (some 3) (.t 16), some (94, true)⟩, ⟨some 100, .eqA false [0, 0, 0] (.t 98) (.t 99), some (94, true)⟩, ⟨some 101, .eqb false (.t 97) (.t 100), some (94, true)⟩, ⟨some 102, .pick (.t 94) (.t 101) (.c (.bool false)), none⟩, ⟨some 103, .mv (.t 102), none⟩, ⟨some 104, .ld (some 6) (.t 25), some (103, true)⟩, ⟨some 105, .call 16 [(.t 104)], some (103, true)⟩, ⟨some 106, .ld (some 3) (.t 15), some (103, true)⟩, ⟨some 107, .eqA false [0, 0, 0] (.t 105) (.t 106), some (103, true)⟩, ⟨some 108, .pick (.t 103) (.t 107) (.c (.bool false)), none⟩, ⟨some 109, .mv (.t 108), none⟩, ⟨some 110, .ld (some 6) (.t 25), some (109, true)⟩, ⟨some 111, .call 17 [(.t 110)], some (109, true)⟩, ⟨some 112, .bin .eql (.t 111) (.c (.int .i64 0)), some (109, true)⟩, ⟨some 113, .pick (.t 109) (.t 112) (.c (.bool false)), none⟩, ⟨some 114, .mv (.t 113), none⟩, ⟨some 115, .call 11 [], some (114, true)⟩, ⟨some 116, .pick (.t 114) (.t 115) (.c (.bool false)), none⟩, ⟨some 14, .mv (.t 116), none⟩] [0, 0, 0, 1, 1, 0, 0, 0, 0, 0, 0, 1, 1, 0, 0, 0, 0, 1, 1, 1, 0, 0, 0, 1, 1, 0, 0, 0, 1, 0, 0]))
    .ret))))))))), [.t 14], 117⟩
theorem b4 : fB Tryd.prog 4 c4 = true := by kernel_rfl
/-- partywall/partywalllaw03.EventKnown -/
def c9 : CF := ⟨(.seq (.keep [] (.ops [⟨some 0, .mv (.c (.bool false)), none⟩]))
    (.seq (.keep [] (.ops [⟨some 17, .call 23 [(.c (.str [0, 0, 0, 0, 0, 0, 1, 1, 2, 255, 255, 255, 255, 255, 255, 255, 254]))], none⟩, ⟨some 16, .mv (.t 17), none⟩, ⟨some 18, .ext (.t 16) 0, none⟩, ⟨some 19, .ext (.t 16) 1, none⟩, ⟨some 1, .alloc [.int .u64 0, .int .i64 0, .int .i64 0], none⟩, ⟨some 2, .alloc [.int .i64 0, .int .i64 0], none⟩, ⟨none, .st 3 (.t 1) (.t 18), none⟩, ⟨none, .st 2 (.t 2) (.t 19), none⟩]))
    (.seq (.seq (.keep [1, 2] (.drw [⟨some 20, .ld (some 3) (.t 1), none⟩, ⟨some 21, .call 40 [], none⟩, ⟨some 22, .eqA true [0, 0, 0] (.t 20) (.t 21), none⟩, ⟨some 23, .mv (.t 22), none⟩, ⟨some 24, .ld (some 2) (.t 2), some (23, false)⟩, ⟨some 25, .bld [.int .i64 0, .int .i64 0] [], some (23, false)⟩, ⟨some 26, .eqA true [0, 0] (.t 24) (.t 25), some (23, false)⟩, ⟨some 27, .pick (.t 23) (.c (.bool true)) (.t 26), none⟩, ⟨some 28, .mv (.t 27), none⟩, ⟨some 29, .slcS (.c (.str [0, 0, 0, 0, 0, 0, 1, 1, 2, 255, 255, 255, 255, 255, 255, 255, 254])) none (some (.c (.int .i64 8))), some (28, false)⟩, ⟨some 30, .call 41 [(.t 29), (.c (.int .i64 5)), (.c (.int .i64 8))], some (28, false)⟩, ⟨some 31, .un .not (.t 30), some (28, false)⟩, ⟨some 32, .pick (.t 28) (.c (.bool true)) (.t 31), none⟩, ⟨some 33, .mv (.t 32), none⟩, ⟨some 34, .slcS (.c (.str [0, 0, 0, 0, 0, 0, 1, 1, 2, 255, 255, 255, 255, 255, 255, 255, 254])) none (some (.c (.int .i64 12))), some (33, false)⟩, ⟨some 35, .call 41 [(.t 34), (.c (.int .i64 5)), (.c (.int .i64 9))], some (33, false)⟩, ⟨some 36, .un .not (.t 35), some (33, false)⟩, ⟨some 37, .pick (.t 33) (.c (.bool true)) (.t 36), none⟩, ⟨some 38, .mv (.t 37), none⟩, ⟨some 39, .call 41 [(.c (.str [0, 0, 0, 0, 0, 0, 1, 1, 2, 255, 255, 255, 255, 255, 255, 255, 254, 120])), (.c (.int .i64 4)), (.c (.int .i64 17))], some (38, false)⟩, ⟨some 40, .un .not (.t 39), some (38, false)⟩, ⟨some 41, .pick (.t 38) (.c (.bool true)) (.t 40), none⟩, ⟨some 42, .mv (.t 41), none⟩, ⟨some 43, .slcS (.c (.str [0, 0, 0, 0, 0, 0, 1, 1, 2, 255, 255, 255, 255, 255, 255, 255, 254])) none (some (.c (.int .i64 8))), some (42, false)⟩, ⟨some 44, .bin .add (.t 43) (.c (.str [26])), some (42, false)⟩, ⟨some 45, .call 41 [(.t 44), (.c (.int .i64 11)), (.c (.int .i64 8))], some (42, false)⟩, ⟨some 46, .un .not (.t 45), some (42, false)⟩, ⟨some 47, .pick (.t 42) (.c (.bool true)) (.t 46), none⟩, ⟨some 48, .mv (.t 47), none⟩, ⟨some 49, .call 41 [(.c (.str [])), (.c (.int .i64 5)), (.c (.int .i64 0))], some (48, false)⟩, ⟨some 50, .un .not (.t 49), some (48, false)⟩, ⟨some 51, .pick (.t 48) (.c (.bool true)) (.t 50), none⟩] [1, 1, 0, 0, 1, 0, 0, 0, 0, 0, 1, 0, 0, 0, 0, 1, 0, 0, 0, 1, 0, 0, 0, 0, 0, 1, 0, 0, 0, 1, 0, 0]))
    (.cond (.t 51)
      (.seq (.keep [] (.ops [⟨some 0, .mv (.c (.bool false)), none⟩]))
      .ret)
      .skip))
    (.seq (.keep [] (.ops [⟨some 53, .call 32 [(.c (.str [67, 32, 123, 48, 44, 56, 125, 32, 45, 50]))], none⟩, ⟨some 52, .mv (.t 53), none⟩, ⟨some 54, .ext (.t 52) 0, none⟩, ⟨some 55, .ext (.t 52) 1, none⟩, ⟨some 3, .alloc [.int .u64 0, .int .i64 0, .int .i64 0], none⟩, ⟨none, .st 3 (.t 3) (.t 54), none⟩, ⟨some 4, .mv (.t 55), none⟩]))
    (.seq (.keep [3, 4] (.ops [⟨some 57, .call 32 [(.c (.str [67, 32, 123, 56, 44, 48, 125, 32, 45, 50]))], none⟩, ⟨some 56, .mv (.t 57), none⟩, ⟨some 58, .ext (.t 56) 0, none⟩, ⟨some 59, .ext (.t 56) 1, none⟩, ⟨some 5, .alloc [.int .u64 0, .int .i64 0, .int .i64 0], none⟩, ⟨none, .st 3 (.t 5) (.t 58), none⟩, ⟨some 6, .mv (.t 59), none⟩]))
    (.seq (.keep [3, 4, 6] (.ops [⟨some 61, .call 32 [(.c (.str [67, 32, 123, 48, 44, 56, 125, 32, 45, 48]))], none⟩, ⟨some 60, .mv (.t 61), none⟩, ⟨some 62, .ext (.t 60) 0, none⟩, ⟨some 63, .ext (.t 60) 1, none⟩, ⟨some 7, .alloc [.int .u64 0, .int .i64 0, .int .i64 0], none⟩, ⟨none, .st 3 (.t 7) (.t 62), none⟩, ⟨some 8, .mv (.t 63), none⟩]))
    (.seq (.seq (.keep [3, 4, 6, 8] (.drw [⟨some 64, .ld (some 3) (.t 3), none⟩, ⟨some 65, .call 40 [], none⟩, ⟨some 66, .eqA true [0, 0, 0] (.t 64) (.t 65), none⟩, ⟨some 67, .mv (.t 66), none⟩, ⟨some 68, .mv (.t 4), some (67, false)⟩, ⟨some 69, .bin .neq (.t 68) (.c (.int .i64 0)), some (67, false)⟩, ⟨some 70, .pick (.t 67) (.c (.bool true)) (.t 69), none⟩, ⟨some 71, .mv (.t 70), none⟩, ⟨some 72, .mv (.t 6), some (71, false)⟩, ⟨some 73, .bin .neq (.t 72) (.c (.int .i64 3)), some (71, false)⟩, ⟨some 74, .pick (.t 71) (.c (.bool true)) (.t 73), none⟩, ⟨some 75, .mv (.t 74), none⟩, ⟨some 76, .mv (.t 8), some (75, false)⟩, ⟨some 77, .bin .neq (.t 76) (.c (.int .i64 3)), some (75, false)⟩, ⟨some 78, .pick (.t 75) (.c (.bool true)) (.t 77), none⟩] [1, 1, 0, 0, 0, 0, 0, 0, 0, 0, 0, 0, 0, 0, 0]))
    (.cond (.t 78)
      (.seq (.keep [] (.ops [⟨some 0, .mv (.c (.bool false)), none⟩]))
      .ret)
      .skip))
    (.seq (.keep [] (.ops [⟨some 79, .bld [.int .u64 0, .int .u64 0] [(1, 1, (.c (.int .u64 12)))], none⟩, ⟨some 9, .alloc [.int .u64 0, .int .u64 0], none⟩, ⟨none, .st 2 (.t 9) (.t 79), none⟩]))
    (.seq (.keep [9] (.ops [⟨some 81, .ld (some 2) (.t 9), none⟩, ⟨some 82, .call 34 [(.t 81)], none⟩, ⟨some 80, .mv (.t 82), none⟩, ⟨some 83, .ext (.t 80) 0, none⟩, ⟨some 84, .ext (.t 80) 1, none⟩, ⟨some 10, .mv (.t 83), none⟩, ⟨some 4, .mv (.t 84), none⟩]))
    (.seq (.keep [4, 9, 10] (.ops [⟨some 86, .call 36 [(.c (.str [123, 125, 35, 49, 50]))], none⟩, ⟨some 85, .mv (.t 86), none⟩, ⟨some 87, .ext (.t 85) 0, none⟩, ⟨some 88, .ext (.t 85) 1, none⟩, ⟨some 11, .alloc [.int .u64 0, .int .u64 0], none⟩, ⟨none, .st 2 (.t 11) (.t 87), none⟩, ⟨some 6, .mv (.t 88), none⟩]))
    (.seq (.keep [4, 6, 9, 10, 11] (.ops [⟨some 90, .call 36 [(.c (.str [123, 125, 35, 48, 49, 50]))], none⟩, ⟨some 89, .mv (.t 90), none⟩, ⟨some 91, .ext (.t 89) 0, none⟩, ⟨some 92, .ext (.t 89) 1, none⟩, ⟨some 8, .mv (.t 92), none⟩]))
    (.seq (.keep [4, 6, 8, 9, 10, 11] (.ops [⟨some 94, .call 36 [(.c (.str [123, 125, 35, 48]))], none⟩, ⟨some 93, .mv (.t 94), none⟩, ⟨some 95, .ext (.t 93) 0, none⟩, ⟨some 96, .ext (.t 93) 1, none⟩, ⟨some 12, .alloc [.int .u64 0, .int .u64 0], none⟩, ⟨none, .st 2 (.t 12) (.t 95), none⟩, ⟨some 13, .mv (.t 96), none⟩]))
    (.seq (.seq (.keep [4, 6, 8, 9, 10, 11, 13] (.ops [⟨some 97, .mv (.t 10), none⟩, ⟨some 98, .bin .neq (.t 97) (.c (.str [123, 125, 35, 49, 50])), none⟩, ⟨some 99, .mv (.t 98), none⟩, ⟨some 100, .mv (.t 4), some (99, false)⟩, ⟨some 101, .bin .neq (.t 100) (.c (.int .i64 0)), some (99, false)⟩, ⟨some 102, .pick (.t 99) (.c (.bool true)) (.t 101), none⟩, ⟨some 103, .mv (.t 102), none⟩, ⟨some 104, .ld (some 2) (.t 11), some (103, false)⟩, ⟨some 105, .ld (some 2) (.t 9), some (103, false)⟩, ⟨some 106, .eqA true [0, 0] (.t 104) (.t 105), some (103, false)⟩, ⟨some 107, .pick (.t 103) (.c (.bool true)) (.t 106), none⟩, ⟨some 108, .mv (.t 107), none⟩, ⟨some 109, .mv (.t 6), some (108, false)⟩, ⟨some 110, .bin .neq (.t 109) (.c (.int .i64 0)), some (108, false)⟩, ⟨some 111, .pick (.t 108) (.c (.bool true)) (.t 110), none⟩, ⟨some 112, .mv (.t 111), none⟩, ⟨some 113, .mv (.t 8), some (112, false)⟩, ⟨some 114, .bin .neq (.t 113) (.c (.int .i64 3)), some (112, false)⟩, ⟨some 115, .pick (.t 112) (.c (.bool true)) (.t 114), none⟩, ⟨some 116, .mv (.t 115), none⟩, ⟨some 117, .mv (.t 13), some (116, false)⟩, ⟨some 118, .bin .neq (.t 117) (.c (.int .i64 3)), some (116, false)⟩, ⟨some 119, .pick (.t 116) (.c (.bool true)) (.t 118), none⟩, ⟨some 120, .mv (.t 119), none⟩, ⟨some 121, .bld [.int .u64 0, .int .u64 0] [(1, 1, (.c (.int .u64 5)))], some (120, false)⟩, ⟨some 122, .bld [.int .u64 0, .int .u64 0] [(0, 1, (.c (.int .u64 1))), (1, 1, (.c (.int .u64 1)))], some (120, false)⟩, ⟨some 123, .call 10 [(.t 121), (.t 122)], some (120, false)⟩, ⟨some 124, .bin .neq (.t 123) (.c (.int .i64 (-1))), some (120, false)⟩, ⟨some 125, .pick (.t 120) (.c (.bool true)) (.t 124), none⟩, ⟨some 126, .mv (.t 125), none⟩, ⟨some 127, .bld [.int .u64 0, .int .u64 0] [(1, 1, (.c (.int .u64 5)))], some (126, false)⟩, ⟨some 128, .bld [.int .u64 0, .int .u64 0] [(1, 1, (.c (.int .u64 4)))], some (126, false)⟩, ⟨some 129, .call 10 [(.t 127), (.t 128)], some (126, false)⟩, ⟨some 130, .bin .neq (.t 129) (.c (.int .i64 1)), some (126, false)⟩, ⟨some 131, .pick (.t 126) (.c (.bool true)) (.t 130), none⟩]))
    (.cond (.t 131)
      (.seq (.keep [] (.ops [⟨some 0, .mv (.c (.bool false)), none⟩]))
      .ret)
      .skip))
    (.seq (.keep [] (.ops [⟨some 133, .call 27 [(.c (.int .i64 25))], none⟩, ⟨some 132, .mv (.t 133), none⟩, ⟨some 134, .ext (.t 132) 0, none⟩, ⟨some 135, .ext (.t 132) 1, none⟩, ⟨some 14, .mv (.t 134), none⟩, ⟨some 4, .mv (.t 135), none⟩]))
    (.seq (.keep [4, 14] (.ops [⟨some 137, .call 29 [(.c (.str [90]))], none⟩, ⟨some 136, .mv (.t 137), none⟩, ⟨some 138, .ext (.t 136) 0, none⟩, ⟨some 139, .ext (.t 136) 1, none⟩, ⟨some 15, .mv (.t 138), none⟩, ⟨some 6, .mv (.t 139), none⟩]))
    (.seq (.keep [4, 6, 14, 15] (.ops [⟨some 141, .call 29 [(.c (.str [122]))], none⟩, ⟨some 140, .mv (.t 141), none⟩, ⟨some 142, .ext (.t 140) 0, none⟩, ⟨some 143, .ext (.t 140) 1, none⟩, ⟨some 8, .mv (.t 143), none⟩]))
    (.seq (.keep [4, 6, 8, 14, 15] (.ops [⟨some 145, .call 27 [(.c (.int .i64 26))], none⟩, ⟨some 144, .mv (.t 145), none⟩, ⟨some 146, .ext (.t 144) 0, none⟩, ⟨some 147, .ext (.t 144) 1, none⟩, ⟨some 13, .mv (.t 147), none⟩]))
    (.seq (.seq (.keep [4, 6, 8, 13, 14, 15] (.ops [⟨some 148, .mv (.t 14), none⟩, ⟨some 149, .bin .neq (.t 148) (.c (.str [90])), none⟩, ⟨some 150, .mv (.t 149), none⟩, ⟨some 151, .mv (.t 4), some (150, false)⟩, ⟨some 152, .bin .neq (.t 151) (.c (.int .i64 0)), some (150, false)⟩, ⟨some 153, .pick (.t 150) (.c (.bool true)) (.t 152), none⟩, ⟨some 154, .mv (.t 153), none⟩, ⟨some 155, .mv (.t 15), some (154, false)⟩, ⟨some 156, .bin .neq (.t 155) (.c (.int .i64 25)), some (154, false)⟩, ⟨some 157, .pick (.t 154) (.c (.bool true)) (.t 156), none⟩, ⟨some 158, .mv (.t 157), none⟩, ⟨some 159, .mv (.t 6), some (158, false)⟩, ⟨some 160, .bin .neq (.t 159) (.c (.int .i64 0)), some (158, false)⟩, ⟨some 161, .pick (.t 158) (.c (.bool true)) (.t 160), none⟩, ⟨some 162, .mv (.t 161), none⟩, ⟨some 163, .mv (.t 8), some (162, false)⟩, ⟨some 164, .bin .neq (.t 163) (.c (.int .i64 11)), some (162, false)⟩, ⟨some 165, .pick (.t 162) (.c (.bool true)) (.t 164), none⟩, ⟨some 166, .mv (.t 165), none⟩, ⟨some 167, .mv (.t 13), some (166, false)⟩, ⟨some 168, .bin .neq (.t 167) (.c (.int .i64 11)), some (166, false)⟩, ⟨some 169, .pick (.t 166) (.c (.bool true)) (.t 168), none⟩]))
    (.cond (.t 169)
      (.seq (.keep [] (.ops [⟨some 0, .mv (.c (.bool false)), none⟩]))
      .ret)
      .skip))
    (.seq (.keep [] (.ops [⟨some 171, .bld [.int .u64 0, .int .i64 0, .int .i64 0] [(1, 1, (.c (.int .i64 26)))], none⟩, ⟨some 172, .call 15 [(.t 171), (.c (.int .u64 1)), (.c (.int .u64 1)), (.c (.int .u64 0))], none⟩, ⟨some 170, .mv (.t 172), none⟩, ⟨some 173, .ext (.t 170) 0, none⟩, ⟨some 174, .ext (.t 170) 1, none⟩, ⟨some 4, .mv (.t 174), none⟩]))
    (.seq (.keep [4] (.ops [⟨some 176, .bld [.int .u64 0, .int .i64 0, .int .i64 0] [], none⟩, ⟨some 177, .call 15 [(.t 176), (.c (.int .u64 0)), (.c (.int .u64 1)), (.c (.int .u64 0))], none⟩, ⟨some 175, .mv (.t 177), none⟩, ⟨some 178, .ext (.t 175) 0, none⟩, ⟨some 179, .ext (.t 175) 1, none⟩, ⟨some 6, .mv (.t 179), none⟩]))
    (.seq (.keep [4, 6] (.ops [⟨some 181, .bld [.int .u64 0, .int .i64 0, .int .i64 0] [], none⟩, ⟨some 182, .call 15 [(.t 181), (.c (.int .u64 1)), (.c (.int .u64 1099511627777)), (.c (.int .u64 0))], none⟩, ⟨some 180, .mv (.t 182), none⟩, ⟨some 183, .ext (.t 180) 0, none⟩, ⟨some 184, .ext (.t 180) 1, none⟩, ⟨some 8, .mv (.t 184), none⟩]))
    (.seq (.keep [4, 6, 8] (.ops [⟨some 185, .mv (.t 4), none⟩, ⟨some 186, .bin .eql (.t 185) (.c (.int .i64 11)), none⟩, ⟨some 187, .mv (.t 186), none⟩, ⟨some 188, .mv (.t 6), some (187, true)⟩, ⟨some 189, .bin .eql (.t 188) (.c (.int .i64 2)), some (187, true)⟩, ⟨some 190, .pick (.t 187) (.t 189) (.c (.bool false)), none⟩, ⟨some 191, .mv (.t 190), none⟩, ⟨some 192, .mv (.t 8), some (191, true)⟩, ⟨some 193, .bin .eql (.t 192) (.c (.int .i64 2)), some (191, true)⟩, ⟨some 194, .pick (.t 191) (.t 193) (.c (.bool false)), none⟩, ⟨some 195, .mv (.t 194), none⟩, ⟨some 196, .call 11 [], some (195, true)⟩, ⟨some 197, .pick (.t 195) (.t 196) (.c (.bool false)), none⟩, ⟨some 0, .mv (.t 197), none⟩]))
    .ret)))))))))))))))))))))), [.t 0], 198⟩
theorem b9 : fB Tryd.prog 9 c9 = true := by kernel_rfl
/-- partywall/event.Compare -/
def c10 : CF := ⟨(.seq (.keep [0, 1] (.ops [⟨some 2, .box 2 (.t 0), none⟩, ⟨some 3, .box 2 (.t 1), none⟩, ⟨some 4, .mv (.c (.int .i64 0)), none⟩]))
    (.seq (.block 0 (.seq (.keep [2, 3] (.ops [⟨some 6, .ld (some 2) (.t 2), none⟩, ⟨some 7, .ld (some 2) (.t 3), none⟩, ⟨some 8, .eqA false [0, 0] (.t 6) (.t 7), none⟩, ⟨some 5, .mv (.t 8), none⟩]))
    (.cond (.t 5)
      (.seq (.keep [] (.ops [⟨some 4, .mv (.c (.int .i64 0)), none⟩]))
      .ret)
      (.seq (.seq (.keep [2, 3] (.ops [⟨some 10, .fldA 0 (.t 2), none⟩, ⟨some 11, .ld (none) (.t 10), none⟩, ⟨some 12, .fldA 0 (.t 3), none⟩, ⟨some 13, .ld (none) (.t 12), none⟩, ⟨some 14, .bin .lss (.t 11) (.t 13), none⟩, ⟨some 9, .mv (.t 14), none⟩]))
      (.cond (.t 9)
        .skip
        (.keep [2, 3] (.ops [⟨some 15, .fldA 0 (.t 2), none⟩, ⟨some 16, .ld (none) (.t 15), none⟩, ⟨some 17, .fldA 0 (.t 3), none⟩, ⟨some 18, .ld (none) (.t 17), none⟩, ⟨some 19, .bin .eql (.t 16) (.t 18), none⟩, ⟨some 20, .mv (.t 19), none⟩, ⟨some 21, .fldA 1 (.t 2), some (20, true)⟩, ⟨some 22, .ld (none) (.t 21), some (20, true)⟩, ⟨some 23, .fldA 1 (.t 3), some (20, true)⟩, ⟨some 24, .ld (none) (.t 23), some (20, true)⟩, ⟨some 25, .bin .lss (.t 22) (.t 24), some (20, true)⟩, ⟨some 26, .pick (.t 20) (.t 25) (.c (.bool false)), none⟩, ⟨some 9, .mv (.t 26), none⟩]))))
      (.cond (.t 9)
        (.seq (.keep [] (.ops [⟨some 4, .mv (.c (.int .i64 (-1))), none⟩]))
        .ret)
        .skip)))))
    (.seq (.keep [] (.ops [⟨some 4, .mv (.c (.int .i64 1)), none⟩]))
    .ret))), [.t 4], 27⟩
theorem b10 : fB Tryd.prog 10 c10 = true := by kernel_rfl
/-- partywall/partywalllaw03.awake -/
def c11 : CF := ⟨(.seq (.keep [] (.ops [⟨some 0, .mv (.c (.bool false)), none⟩]))
    (.seq (.keep [] (.ops [⟨some 6, .call 40 [], none⟩, ⟨some 7, .call 13 [(.t 6)], none⟩, ⟨some 5, .mv (.t 7), none⟩, ⟨some 8, .ext (.t 5) 0, none⟩, ⟨some 9, .ext (.t 5) 1, none⟩, ⟨some 1, .mv (.t 8), none⟩, ⟨some 2, .mv (.t 9), none⟩]))
    (.seq (.keep [1, 2] (.ops [⟨some 11, .call 40 [], none⟩, ⟨some 12, .call 14 [(.t 11)], none⟩, ⟨some 10, .mv (.t 12), none⟩, ⟨some 13, .ext (.t 10) 0, none⟩, ⟨some 14, .ext (.t 10) 1, none⟩, ⟨some 3, .mv (.t 13), none⟩, ⟨some 4, .mv (.t 14), none⟩]))
    (.seq (.keep [1, 2, 3, 4] (.ops [⟨some 15, .mv (.t 1), none⟩, ⟨some 16, .bin .eql (.t 15) (.c (.str [0, 0, 0, 0, 0, 0, 1, 1, 2, 255, 255, 255, 255, 255, 255, 255, 254])), none⟩, ⟨some 17, .mv (.t 16), none⟩, ⟨some 18, .mv (.t 2), some (17, true)⟩, ⟨some 19, .bin .eql (.t 18) (.c (.int .i64 0)), some (17, true)⟩, ⟨some 20, .pick (.t 17) (.t 19) (.c (.bool false)), none⟩, ⟨some 21, .mv (.t 20), none⟩, ⟨some 22, .mv (.t 3), some (21, true)⟩, ⟨some 23, .bin .eql (.t 22) (.c (.str [67, 32, 123, 48, 44, 56, 125, 32, 45, 50])), some (21, true)⟩, ⟨some 24, .pick (.t 21) (.t 23) (.c (.bool false)), none⟩, ⟨some 25, .mv (.t 24), none⟩, ⟨some 26, .mv (.t 4), some (25, true)⟩, ⟨some 27, .bin .eql (.t 26) (.c (.int .i64 0)), some (25, true)⟩, ⟨some 28, .pick (.t 25) (.t 27) (.c (.bool false)), none⟩, ⟨some 0, .mv (.t 28), none⟩]))
    .ret)))), [.t 0], 29⟩
theorem b11 : fB Tryd.prog 11 c11 = true := by kernel_rfl
/-- partywall/event.Bytes -/
def c13 : CF := ⟨(.seq (.keep [0] (.ops [⟨some 1, .box 3 (.t 0), none⟩, ⟨some 2, .mv (.c (.str [])), none⟩, ⟨some 3, .mv (.c (.int .i64 0)), none⟩]))
    (.seq (.seq (.keep [1] (.ops [⟨some 6, .ld (some 3) (.t 1), none⟩, ⟨some 7, .call 25 [(.t 6)], none⟩, ⟨some 4, .mv (.t 7), none⟩]))
    (.seq (.keep [1, 4] (.ops [⟨some 8, .mv (.t 4), none⟩, ⟨some 9, .bin .neq (.t 8) (.c (.int .i64 0)), none⟩]))
    (.cond (.t 9)
      (.seq (.keep [4] (.ops [⟨some 10, .mv (.t 4), none⟩, ⟨some 2, .mv (.c (.str [])), none⟩, ⟨some 3, .mv (.t 10), none⟩]))
      .ret)
      .skip)))
    (.seq (.keep [1] (.any (.alt 0 ⟨some 11, .fldA 0 (.t 1), none⟩ (.alt 1 ⟨some 12, .ld (none) (.t 11), none⟩ (.alt 2 ⟨some 13, .call 42 [(.t 12)], none⟩ (.alt 3 ⟨some 14, .fldA 1 (.t 1), none⟩ (.alt 4 ⟨some 15, .ld (none) (.t 14), none⟩ (.alt 5 ⟨some 16, .cnv .u8 (.t 15), none⟩ (.alt 6 ⟨some 17, .mkSl 1 1 [.int .u8 0] [(0, 1, (.t 16))], none⟩ (.alt 7 ⟨some 18, .app false 5 1 1 (.t 13) (.t 17), none⟩ (.alt 8 ⟨some 5, .mv (.t 18), none⟩ .done .stop) .stop) .stop) .stop) .stop) .stop) (.alt 3 ⟨some 14, .fldA 1 (.t 1), none⟩ (.alt 2 ⟨some 13, .call 42 [(.t 12)], none⟩ (.alt 4 ⟨some 15, .ld (none) (.t 14), none⟩ (.alt 5 ⟨some 16, .cnv .u8 (.t 15), none⟩ (.alt 6 ⟨some 17, .mkSl 1 1 [.int .u8 0] [(0, 1, (.t 16))], none⟩ (.alt 7 ⟨some 18, .app false 5 1 1 (.t 13) (.t 17), none⟩ (.alt 8 ⟨some 5, .mv (.t 18), none⟩ .done .stop) .stop) .stop) .stop) .stop) (.alt 4 ⟨some 15, .ld (none) (.t 14), none⟩ (.alt 2 ⟨some 13, .call 42 [(.t 12)], none⟩ (.alt 5 ⟨some 16, .cnv .u8 (.t 15), none⟩ (.alt 6 ⟨some 17, .mkSl 1 1 [.int .u8 0] [(0, 1, (.t 16))], none⟩ (.alt 7 ⟨some 18, .app false 5 1 1 (.t 13) (.t 17), none⟩ (.alt 8 ⟨some 5, .mv (.t 18), none⟩ .done .stop) .stop) .stop) .stop) (.alt 5 ⟨some 16, .cnv .u8 (.t 15), none⟩ (.alt 2 ⟨some 13, .call 42 [(.t 12)], none⟩ (.alt 6 ⟨some 17, .mkSl 1 1 [.int .u8 0] [(0, 1, (.t 16))], none⟩ (.alt 7 ⟨some 18, .app false 5 1 1 (.t 13) (.t 17), none⟩ (.alt 8 ⟨some 5, .mv (.t 18), none⟩ .done .stop) .stop) .stop) (.alt 6 ⟨some 17, .mkSl 1 1 [.int .u8 0] [(0, 1, (.t 16))], none⟩ (.alt 2 ⟨some 13, .call 42 [(.t 12)], none⟩ (.alt 7 ⟨some 18, .app false 5 1 1 (.t 13) (.t 17), none⟩ (.alt 8 ⟨some 5, .mv (.t 18), none⟩ .done .stop) .stop) .stop) .stop)) .stop)) .stop)) .stop)) (.alt 3 ⟨some 14, .fldA 1 (.t 1), none⟩ (.alt 1 ⟨some 12, .ld (none) (.t 11), none⟩ (.alt 2 ⟨some 13, .call 42 [(.t 12)], none⟩ (.alt 4 ⟨some 15, .ld (none) (.t 14), none⟩ (.alt 5 ⟨some 16, .cnv .u8 (.t 15), none⟩ (.alt 6 ⟨some 17, .mkSl 1 1 [.int .u8 0] [(0, 1, (.t 16))], none⟩ (.alt 7 ⟨some 18, .app false 5 1 1 (.t 13) (.t 17), none⟩ (.alt 8 ⟨some 5, .mv (.t 18), none⟩ .done .stop) .stop) .stop) .stop) .stop) (.alt 4 ⟨some 15, .ld (none) (.t 14), none⟩ (.alt 2 ⟨some 13, .call 42 [(.t 12)], none⟩ (.alt 5 ⟨some 16, .cnv .u8 (.t 15), none⟩ (.alt 6 ⟨some 17, .mkSl 1 1 [.int .u8 0] [(0, 1, (.t 16))], none⟩ (.alt 7 ⟨some 18, .app false 5 1 1 (.t 13) (.t 17), none⟩ (.alt 8 ⟨some 5, .mv (.t 18), none⟩ .done .stop) .stop) .stop) .stop) (.alt 5 ⟨some 16, .cnv .u8 (.t 15), none⟩ (.alt 2 ⟨some 13, .call 42 [(.t 12)], none⟩ (.alt 6 ⟨some 17, .mkSl 1 1 [.int .u8 0] [(0, 1, (.t 16))], none⟩ (.alt 7 ⟨some 18, .app false 5 1 1 (.t 13) (.t 17), none⟩ (.alt 8 ⟨some 5, .mv (.t 18), none⟩ .done .stop) .stop) .stop) (.alt 6 ⟨some 17, .mkSl 1 1 [.int .u8 0] [(0, 1, (.t 16))], none⟩ (.alt 2 ⟨some 13, .call 42 [(.t 12)], none⟩ (.alt 7 ⟨some 18, .app false 5 1 1 (.t 13) (.t 17), none⟩ (.alt 8 ⟨some 5, .mv (.t 18), none⟩ .done .stop) .stop) .stop) .stop)) .stop)) .stop)) (.alt 4 ⟨some 15, .ld (none) (.t 14), none⟩ (.alt 1 ⟨some 12, .ld (none) (.t 11), none⟩ (.alt 2 ⟨some 13, .call 42 [(.t 12)], none⟩ (.alt 5 ⟨some 16, .cnv .u8 (.t 15), none⟩ (.alt 6 ⟨some 17, .mkSl 1 1 [.int .u8 0] [(0, 1, (.t 16))], none⟩ (.alt 7 ⟨some 18, .app false 5 1 1 (.t 13) (.t 17), none⟩ (.alt 8 ⟨some 5, .mv (.t 18), none⟩ .done .stop) .stop) .stop) .stop) (.alt 5 ⟨some 16, .cnv .u8 (.t 15), none⟩ (.alt 2 ⟨some 13, .call 42 [(.t 12)], none⟩ (.alt 6 ⟨some 17, .mkSl 1 1 [.int .u8 0] [(0, 1, (.t 16))], none⟩ (.alt 7 ⟨some 18, .app false 5 1 1 (.t 13) (.t 17), none⟩ (.alt 8 ⟨some 5, .mv (.t 18), none⟩ .done .stop) .stop) .stop) (.alt 6 ⟨some 17, .mkSl 1 1 [.int .u8 0] [(0, 1, (.t 16))], none⟩ (.alt 2 ⟨some 13, .call 42 [(.t 12)], none⟩ (.alt 7 ⟨some 18, .app false 5 1 1 (.t 13) (.t 17), none⟩ (.alt 8 ⟨some 5, .mv (.t 18), none⟩ .done .stop) .stop) .stop) .stop)) .stop)) (.alt 5 ⟨some 16, .cnv .u8 (.t 15), none⟩ (.alt 1 ⟨some 12, .ld (none) (.t 11), none⟩ (.alt 2 ⟨some 13, .call 42 [(.t 12)], none⟩ (.alt 6 ⟨some 17, .mkSl 1 1 [.int .u8 0] [(0, 1, (.t 16))], none⟩ (.alt 7 ⟨some 18, .app false 5 1 1 (.t 13) (.t 17), none⟩ (.alt 8 ⟨some 5, .mv (.t 18), none⟩ .done .stop) .stop) .stop) (.alt 6 ⟨some 17, .mkSl 1 1 [.int .u8 0] [(0, 1, (.t 16))], none⟩ (.alt 2 ⟨some 13, .call 42 [(.t 12)], none⟩ (.alt 7 ⟨some 18, .app false 5 1 1 (.t 13) (.t 17), none⟩ (.alt 8 ⟨some 5, .mv (.t 18), none⟩ .done .stop) .stop) .stop) .stop)) (.alt 6 ⟨some 17, .mkSl 1 1 [.int .u8 0] [(0, 1, (.t 16))], none⟩ (.alt 1 ⟨some 12, .ld (none) (.t 11), none⟩ (.alt 2 ⟨some 13, .call 42 [(.t 12)], none⟩ (.alt 7 ⟨some 18, .app false 5 1 1 (.t 13) (.t 17), none⟩ (.alt 8 ⟨some 5, .mv (.t 18), none⟩ .done .stop) .stop) .stop) .stop) .stop)) .stop)) .stop)) .stop)) (.alt 3 ⟨some 14, .fldA 1 (.t 1), none⟩ (.alt 0 ⟨some 11, .fldA 0 (.t 1), none⟩ (.alt 1 ⟨some 12, .ld (none) (.t 11), none⟩ (.alt 2 ⟨some 13, .call 42 [(.t 12)], none⟩ (.alt 4 ⟨some 15, .ld (none) (.t 14), none⟩ (.alt 5 ⟨some 16, .cnv .u8 (.t 15), none⟩ (.alt 6 ⟨some 17, .mkSl 1 1 [.int .u8 0] [(0, 1, (.t 16))], none⟩ (.alt 7 ⟨some 18, .app false 5 1 1 (.t 13) (.t 17), none⟩ (.alt 8 ⟨some 5, .mv (.t 18), none⟩ .done .stop) .stop) .stop) .stop) .stop) (.alt 4 ⟨some 15, .ld (none) (.t 14), none⟩ (.alt 2 ⟨some 13, .call 42 [(.t 12)], none⟩ (.alt 5 ⟨some 16, .cnv .u8 (.t 15), none⟩ (.alt 6 ⟨some 17, .mkSl 1 1 [.int .u8 0] [(0, 1, (.t 16))], none⟩ (.alt 7 ⟨some 18, .app false 5 1 1 (.t 13) (.t 17), none⟩ (.alt 8 ⟨some 5, .mv (.t 18), none⟩ .done .stop) .stop) .stop) .stop) (.alt 5 ⟨some 16, .cnv .u8 (.t 15), none⟩ (.alt 2 ⟨some 13, .call 42 [(.t 12)], none⟩ (.alt 6 ⟨some 17, .mkSl 1 1 [.int .u8 0] [(0, 1, (.t 16))], none⟩ (.alt 7 ⟨some 18, .app false 5 1 1 (.t 13) (.t 17), none⟩ (.alt 8 ⟨some 5, .mv (.t 18), none⟩ .done .stop) .stop) .stop) (.alt 6 ⟨some 17, .mkSl 1 1 [.int .u8 0] [(0, 1, (.t 16))], none⟩ (.alt 2 ⟨some 13, .call 42 [(.t 12)], none⟩ (.alt 7 ⟨some 18, .app false 5 1 1 (.t 13) (.t 17), none⟩ (.alt 8 ⟨some 5, .mv (.t 18), none⟩ .done .stop) .stop) .stop) .stop)) .stop)) .stop)) (.alt 4 ⟨some 15, .ld (none) (.t 14), none⟩ (.alt 1 ⟨some 12, .ld (none) (.t 11), none⟩ (.alt 2 ⟨some 13, .call 42 [(.t 12)], none⟩ (.alt 5 ⟨some 16, .cnv .u8 (.t 15), none⟩ (.alt 6 ⟨some 17, .mkSl 1 1 [.int .u8 0] [(0, 1, (.t 16))], none⟩ (.alt 7 ⟨some 18, .app false 5 1 1 (.t 13) (.t 17), none⟩ (.alt 8 ⟨some 5, .mv (.t 18), none⟩ .done .stop) .stop) .stop) .stop) (.alt 5 ⟨some 16, .cnv .u8 (.t 15), none⟩ (.alt 2 ⟨some 13, .call 42 [(.t 12)], none⟩ (.alt 6 ⟨some 17, .mkSl 1 1 [.int .u8 0] [(0, 1, (.t 16))], none⟩ (.alt 7 ⟨some 18, .app false 5 1 1 (.t 13) (.t 17), none⟩ (.alt 8 ⟨some 5, .mv (.t 18), none⟩ .done .stop) .stop) .stop) (.alt 6 ⟨some 17, .mkSl 1 1 [.int .u8 0] [(0, 1, (.t 16))], none⟩ (.alt 2 ⟨some 13, .call 42 [(.t 12)], none⟩ (.alt 7 ⟨some 18, .app false 5 1 1 (.t 13) (.t 17), none⟩ (.alt 8 ⟨some 5, .mv (.t 18), none⟩ .done .stop) .stop) .stop) .stop)) .stop)) (.alt 5 ⟨some 16, .cnv .u8 (.t 15), none⟩ (.alt 1 ⟨some 12, .ld (none) (.t 11), none⟩ (.alt 2 ⟨some 13, .call 42 [(.t 12)], none⟩ (.alt 6 ⟨some 17, .mkSl 1 1 [.int .u8 0] [(0, 1, (.t 16))], none⟩ (.alt 7 ⟨some 18, .app false 5 1 1 (.t 13) (.t 17), none⟩ (.alt 8 ⟨some 5, .mv (.t 18), none⟩ .done .stop) .stop) .stop) (.alt 6 ⟨some 17, .mkSl 1 1 [.int .u8 0] [(0, 1, (.t 16))], none⟩ (.alt 2 ⟨some 13, .call 42 [(.t 12)], none⟩ (.alt 7 ⟨some 18, .app false 5 1 1 (.t 13) (.t 17), none⟩ (.alt 8 ⟨some 5, .mv (.t 18), none⟩ .done .stop) .stop) .stop) .stop)) (.alt 6 ⟨some 17, .mkSl 1 1 [.int .u8 0] [(0, 1, (.t 16))], none⟩ (.alt 1 ⟨some 12, .ld (none) (.t 11), none⟩ (.alt 2 ⟨some 13, .call 42 [(.t 12)], none⟩ (.alt 7 ⟨some 18, .app false 5 1 1 (.t 13) (.t 17), none⟩ (.alt 8 ⟨some 5, .mv (.t 18), none⟩ .done .stop) .stop) .stop) .stop) .stop)) .stop)) .stop)) (.alt 4 ⟨some 15, .ld (none) (.t 14), none⟩ (.alt 0 ⟨some 11, .fldA 0 (.t 1), none⟩ (.alt 1 ⟨some 12, .ld (none) (.t 11), none⟩ (.alt 2 ⟨some 13, .call 42 [(.t 12)], none⟩ (.alt 5 ⟨some 16, .cnv .u8 (.t 15), none⟩ (.alt 6 ⟨some 17, .mkSl 1 1 [.int .u8 0] [(0, 1, (.t 16))], none⟩ (.alt 7 ⟨some 18, .app false 5 1 1 (.t 13) (.t 17), none⟩ (.alt 8 ⟨some 5, .mv (.t 18), none⟩ .done .stop) .stop) .stop) .stop) (.alt 5 ⟨some 16, .cnv .u8 (.t 15), none⟩ (.alt 2 ⟨some 13, .call 42 [(.t 12)], none⟩ (.alt 6 ⟨some 17, .mkSl 1 1 [.int .u8 0] [(0, 1, (.t 16))], none⟩ (.alt 7 ⟨some 18, .app false 5 1 1 (.t 13) (.t 17), none⟩ (.alt 8 ⟨some 5, .mv (.t 18), none⟩ .done .stop) .stop) .stop) (.alt 6 ⟨some 17, .mkSl 1 1 [.int .u8 0] [(0, 1, (.t 16))], none⟩ (.alt 2 ⟨some 13, .call 42 [(.t 12)], none⟩ (.alt 7 ⟨some 18, .app false 5 1 1 (.t 13) (.t 17), none⟩ (.alt 8 ⟨some 5, .mv (.t 18), none⟩ .done .stop) .stop) .stop) .stop)) .stop)) (.alt 5 ⟨some 16, .cnv .u8 (.t 15), none⟩ (.alt 1 ⟨some 12, .ld (none) (.t 11), none⟩ (.alt 2 ⟨some 13, .call 42 [(.t 12)], none⟩ (.alt 6 ⟨some 17, .mkSl 1 1 [.int .u8 0] [(0, 1, (.t 16))], none⟩ (.alt 7 ⟨some 18, .app false 5 1 1 (.t 13) (.t 17), none⟩ (.alt 8 ⟨some 5, .mv (.t 18), none⟩ .done .stop) .stop) .stop) (.alt 6 ⟨some 17, .mkSl 1 1 [.int .u8 0] [(0, 1, (.t 16))], none⟩ (.alt 2 ⟨some 13, .call 42 [(.t 12)], none⟩ (.alt 7 ⟨some 18, .app false 5 1 1 (.t 13) (.t 17), none⟩ (.alt 8 ⟨some 5, .mv (.t 18), none⟩ .done .stop) .stop) .stop) .stop)) (.alt 6 ⟨some 17, .mkSl 1 1 [.int .u8 0] [(0, 1, (.t 16))], none⟩ (.alt 1 ⟨some 12, .ld (none) (.t 11), none⟩ (.alt 2 ⟨some 13, .call 42 [(.t 12)], none⟩ (.alt 7 ⟨some 18, .app false 5 1 1 (.t 13) (.t 17), none⟩ (.alt 8 ⟨some 5, .mv (.t 18), none⟩ .done .stop) .stop) .stop) .stop) .stop)) .stop)) (.alt 5 ⟨some 16, .cnv .u8 (.t 15), none⟩ (.alt 0 ⟨some 11, .fldA 0 (.t 1), none⟩ (.alt 1 ⟨some 12, .ld (none) (.t 11), none⟩ (.alt 2 ⟨some 13, .call 42 [(.t 12)], none⟩ (.alt 6 ⟨some 17, .mkSl 1 1 [.int .u8 0] [(0, 1, (.t 16))], none⟩ (.alt 7 ⟨some 18, .app false 5 1 1 (.t 13) (.t 17), none⟩ (.alt 8 ⟨some 5, .mv (.t 18), none⟩ .done .stop) .stop) .stop) (.alt 6 ⟨some 17, .mkSl 1 1 [.int .u8 0] [(0, 1, (.t 16))], none⟩ (.alt 2 ⟨some 13, .call 42 [(.t 12)], none⟩ (.alt 7 ⟨some 18, .app false 5 1 1 (.t 13) (.t 17), none⟩ (.alt 8 ⟨some 5, .mv (.t 18), none⟩ .done .stop) .stop) .stop) .stop)) (.alt 6 ⟨some 17, .mkSl 1 1 [.int .u8 0] [(0, 1, (.t 16))], none⟩ (.alt 1 ⟨some 12, .ld (none) (.t 11), none⟩ (.alt 2 ⟨some 13, .call 42 [(.t 12)], none⟩ (.alt 7 ⟨some 18, .app false 5 1 1 (.t 13) (.t 17), none⟩ (.alt 8 ⟨some 5, .mv (.t 18), none⟩ .done .stop) .stop) .stop) .stop) .stop)) (.alt 6 ⟨some 17, .mkSl 1 1 [.int .u8 0] [(0, 1, (.t 16))], none⟩ (.alt 0 ⟨some 11, .fldA 0 (.t 1), none⟩ (.alt 1 ⟨some 12, .ld (none) (.t 11), none⟩ (.alt 2 ⟨some 13, .call 42 [(.t 12)], none⟩ (.alt 7 ⟨some 18, .app false 5 1 1 (.t 13) (.t 17), none⟩ (.alt 8 ⟨some 5, .mv (.t 18), none⟩ .done .stop) .stop) .stop) .stop) .stop) .stop)) .stop)) .stop)) .stop))))
    (.seq (.keep [1, 5] (.ops [⟨some 19, .mv (.t 5), none⟩, ⟨some 20, .fldA 2 (.t 1), none⟩, ⟨some 21, .ld (none) (.t 20), none⟩, ⟨some 22, .call 43 [(.t 21)], none⟩, ⟨some 23, .app false 5 1 1 (.t 19) (.t 22), none⟩, ⟨some 24, .b2s (.t 23), none⟩, ⟨some 2, .mv (.t 24), none⟩, ⟨some 3, .mv (.c (.int .i64 0)), none⟩]))
    .ret)))), [.t 2, .t 3], 25⟩
theorem b13 : fB Tryd.prog 13 c13 = true := by kernel_rfl
/-- partywall/event.Text -/
def c14 : CF := ⟨(.seq (.keep [0] (.ops [⟨some 1, .box 3 (.t 0), none⟩, ⟨some 2, .mv (.c (.str [])), none⟩, ⟨some 3, .mv (.c (.int .i64 0)), none⟩]))
    (.seq (.keep [1] (.ops [⟨some 7, .fldA 1 (.t 1), none⟩, ⟨some 8, .ld (none) (.t 7), none⟩, ⟨some 9, .call 27 [(.t 8)], none⟩, ⟨some 6, .mv (.t 9), none⟩, ⟨some 10, .ext (.t 6) 0, none⟩, ⟨some 11, .ext (.t 6) 1, none⟩, ⟨some 4, .mv (.t 10), none⟩, ⟨some 5, .mv (.t 11), none⟩]))
    (.seq (.seq (.keep [1, 4, 5] (.ops [⟨some 12, .mv (.t 5), none⟩, ⟨some 13, .bin .neq (.t 12) (.c (.int .i64 0)), none⟩]))
    (.cond (.t 13)
      (.seq (.keep [5] (.ops [⟨some 14, .mv (.t 5), none⟩, ⟨some 2, .mv (.c (.str [])), none⟩, ⟨some 3, .mv (.t 14), none⟩]))
      .ret)
      .skip))
    (.seq (.keep [1, 4] (.drw [⟨some 15, .mv (.t 4), none⟩, ⟨some 16, .bin .add (.t 15) (.c (.str [32])), none⟩, ⟨some 17, .fldA 0 (.t 1), none⟩, ⟨some 18, .ld (none) (.t 17), none⟩, ⟨some 19, .call 44 [(.t 18)], none⟩, ⟨some 20, .bin .add (.t 16) (.t 19), none⟩, ⟨some 21, .bin .add (.t 20) (.c (.str [32])), none⟩, ⟨some 22, .fldA 2 (.t 1), none⟩, ⟨some 23, .ld (none) (.t 22), none⟩, ⟨some 24, .call 45 [(.t 23)], none⟩, ⟨some 25, .bin .add (.t 21) (.t 24), none⟩, ⟨some 2, .mv (.t 25), none⟩, ⟨some 3, .mv (.c (.int .i64 0)), none⟩] [0, 0, 0, 1, 1, 0, 0, 0, 1, 1, 0, 0, 0]))
    .ret)))), [.t 2, .t 3], 26⟩
theorem b14 : fB Tryd.prog 14 c14 = true := by kernel_rfl
/-- partywall/event.Store -/
def c15 : CF := ⟨(.seq (.keep [0, 1, 2, 3] (.ops [⟨some 4, .box 3 (.t 0), none⟩, ⟨some 8, .alloc [.int .u64 0, .int .u64 0, .int .u64 0, .int .u64 0, .int .i64 0, .int .i64 0], none⟩, ⟨some 9, .mv (.c (.int .i64 0)), none⟩]))
    (.seq (.keep [1, 2, 3, 4, 8] (.ops [⟨some 12, .fldA 0 (.t 4), none⟩, ⟨some 13, .ld (none) (.t 12), none⟩, ⟨some 14, .mv (.t 1), none⟩, ⟨some 15, .bld [.int .u64 0, .int .u64 0] [(0, 1, (.t 13)), (1, 1, (.t 14))], none⟩, ⟨some 16, .mv (.t 2), none⟩, ⟨some 17, .mv (.t 3), none⟩, ⟨some 18, .fldA 1 (.t 4), none⟩, ⟨some 19, .ld (none) (.t 18), none⟩, ⟨some 20, .fldA 2 (.t 4), none⟩, ⟨some 21, .ld (none) (.t 20), none⟩, ⟨some 22, .bld [.int .u64 0, .int .u64 0, .int .u64 0, .int .u64 0, .int .i64 0, .int .i64 0] [(0, 2, (.t 15)), (2, 1, (.t 16)), (3, 1, (.t 17)), (4, 1, (.t 19)), (5, 1, (.t 21))], none⟩, ⟨some 10, .alloc [.int .u64 0, .int .u64 0, .int .u64 0, .int .u64 0, .int .i64 0, .int .i64 0], none⟩, ⟨none, .st 6 (.t 10) (.t 22), none⟩]))
    (.seq (.keep [4, 8, 10] (.ops [⟨some 23, .ld (some 3) (.t 4), none⟩, ⟨some 24, .call 25 [(.t 23)], none⟩, ⟨some 11, .mv (.t 24), none⟩]))
    (.seq (.seq (.keep [8, 10, 11] (.ops [⟨some 25, .mv (.t 11), none⟩, ⟨some 26, .bin .eql (.t 25) (.c (.int .i64 0)), none⟩]))
    (.cond (.t 26)
      (.keep [8, 10] (.ops [⟨some 27, .ld (some 6) (.t 10), none⟩, ⟨some 28, .call 17 [(.t 27)], none⟩, ⟨some 11, .mv (.t 28), none⟩]))
      .skip))
    (.seq (.seq (.keep [8, 10, 11] (.ops [⟨some 29, .mv (.t 11), none⟩, ⟨some 30, .bin .neq (.t 29) (.c (.int .i64 0)), none⟩]))
    (.cond (.t 30)
      (.seq (.keep [8, 11] (.ops [⟨some 31, .bld [.int .u64 0, .int .u64 0, .int .u64 0, .int .u64 0, .int .i64 0, .int .i64 0] [], none⟩, ⟨some 32, .mv (.t 11), none⟩, ⟨none, .st 6 (.t 8) (.t 31), none⟩, ⟨some 9, .mv (.t 32), none⟩]))
      .ret)
      .skip))
    (.seq (.keep [8, 10] (.ops [⟨some 33, .ld (some 6) (.t 10), none⟩, ⟨none, .st 6 (.t 8) (.t 33), none⟩, ⟨some 9, .mv (.c (.int .i64 0)), none⟩]))
    .ret)))))), [.cl 8 (some 6), .t 9], 34⟩
theorem b15 : fB Tryd.prog 15 c15 = true := by kernel_rfl
/-- partywall/event.Of -/
def c16 : CF := ⟨(.seq (.keep [0] (.ops [⟨some 1, .box 6 (.t 0), none⟩, ⟨some 2, .alloc [.int .u64 0, .int .i64 0, .int .i64 0], none⟩]))
    (.seq (.keep [1, 2] (.ops [⟨some 3, .fldA 0 (.t 1), none⟩, ⟨some 4, .fldA 0 (.t 3), none⟩, ⟨some 5, .ld (none) (.t 4), none⟩, ⟨some 6, .fldA 4 (.t 1), none⟩, ⟨some 7, .ld (none) (.t 6), none⟩, ⟨some 8, .fldA 5 (.t 1), none⟩, ⟨some 9, .ld (none) (.t 8), none⟩, ⟨some 10, .bld [.int .u64 0, .int .i64 0, .int .i64 0] [(0, 1, (.t 5)), (1, 1, (.t 7)), (2, 1, (.t 9))], none⟩, ⟨none, .st 3 (.t 2) (.t 10), none⟩]))
    .ret)), [.cl 2 (some 3)], 11⟩
theorem b16 : fB Tryd.prog 16 c16 = true := by kernel_rfl
/-- partywall/event.Sound -/
def c17 : CF := ⟨(.seq (.keep [0] (.ops [⟨some 1, .box 6 (.t 0), none⟩, ⟨some 2, .mv (.c (.int .i64 0)), none⟩]))
    (.seq (.keep [1] (.ops [⟨some 4, .fldA 0 (.t 1), none⟩, ⟨some 5, .ld (some 2) (.t 4), none⟩, ⟨some 6, .call 38 [(.t 5)], none⟩, ⟨some 3, .mv (.t 6), none⟩]))
    (.seq (.seq (.keep [1, 3] (.ops [⟨some 7, .mv (.t 3), none⟩, ⟨some 8, .bin .eql (.t 7) (.c (.int .i64 0)), none⟩]))
    (.cond (.t 8)
      (.keep [1] (.ops [⟨some 9, .ld (some 6) (.t 1), none⟩, ⟨some 10, .call 16 [(.t 9)], none⟩, ⟨some 11, .call 25 [(.t 10)], none⟩, ⟨some 3, .mv (.t 11), none⟩]))
      .skip))
    (.seq (.seq (.keep [1, 3] (.ops [⟨some 12, .mv (.t 3), none⟩, ⟨some 13, .bin .eql (.t 12) (.c (.int .i64 0)), none⟩, ⟨some 14, .mv (.t 13), none⟩, ⟨some 15, .fldA 2 (.t 1), some (14, true)⟩, ⟨some 16, .ld (none) (.t 15), some (14, true)⟩, ⟨some 17, .bin .lss (.t 16) (.c (.int .u64 1)), some (14, true)⟩, ⟨some 18, .mv (.t 17), some (14, true)⟩, ⟨some 19, .fldA 2 (.t 1), some (18, false)⟩, ⟨some 20, .ld (none) (.t 19), some (18, false)⟩, ⟨some 21, .bin .gtr (.t 20) (.c (.int .u64 1099511627776)), some (18, false)⟩, ⟨some 22, .pick (.t 18) (.c (.bool true)) (.t 21), some (14, true)⟩, ⟨some 23, .mv (.t 22), some (14, true)⟩, ⟨some 24, .fldA 3 (.t 1), some (23, false)⟩, ⟨some 25, .ld (none) (.t 24), some (23, false)⟩, ⟨some 26, .bin .gtr (.t 25) (.c (.int .u64 1099511627776)), some (23, false)⟩, ⟨some 27, .pick (.t 23) (.c (.bool true)) (.t 26), some (14, true)⟩, ⟨some 28, .pick (.t 14) (.t 27) (.c (.bool false)), none⟩]))
    (.cond (.t 28)
      (.keep [] (.ops [⟨some 3, .mv (.c (.int .i64 2)), none⟩]))
      .skip))
    (.seq (.keep [3] (.ops [⟨some 29, .mv (.t 3), none⟩, ⟨some 2, .mv (.t 29), none⟩]))
    .ret))))), [.t 2], 30⟩
theorem b17 : fB Tryd.prog 17 c17 = true := by kernel_rfl
/-- partywall/event.Parse -/
def c23 : CF := ⟨(.seq (.keep [0] (.ops [⟨some 2, .alloc [.int .u64 0, .int .i64 0, .int .i64 0], none⟩, ⟨some 3, .alloc [.int .i64 0, .int .i64 0], none⟩]))
    (.seq (.keep [0, 2, 3] (.ops [⟨some 6, .mv (.t 0), none⟩, ⟨some 7, .call 47 [(.t 6)], none⟩, ⟨some 8, .bld [.str [], .int .i64 0, .int .i64 0, .int .i64 0, .int .u64 0, .int .i64 0, .int .i64 0] [(0, 4, (.t 7))], none⟩, ⟨some 9, .box 7 (.t 8), none⟩, ⟨some 4, .mv (.t 9), none⟩]))
    (.seq (.keep [2, 3, 4] (.ops [⟨some 10, .mv (.t 4), none⟩, ⟨some 11, .mv (.t 4), none⟩, ⟨some 12, .call 48 [(.t 11), (.c (.int .i64 8))], none⟩, ⟨some 13, .nilc (.t 10), none⟩, ⟨some 14, .fldA 4 (.t 13), none⟩, ⟨some 15, .fldA 0 (.t 14), none⟩, ⟨none, .st 1 (.t 15) (.t 12), none⟩]))
    (.seq (.keep [2, 3, 4] (.ops [⟨some 16, .mv (.t 4), none⟩, ⟨some 17, .mv (.t 4), none⟩, ⟨some 18, .call 48 [(.t 17), (.c (.int .i64 1))], none⟩, ⟨some 19, .cnv .i64 (.t 18), none⟩, ⟨some 20, .nilc (.t 16), none⟩, ⟨some 21, .fldA 4 (.t 20), none⟩, ⟨some 22, .fldA 1 (.t 21), none⟩, ⟨none, .st 1 (.t 22) (.t 19), none⟩]))
    (.seq (.seq (.keep [2, 3, 4] (.ops [⟨some 23, .mv (.t 4), none⟩, ⟨some 24, .nilc (.t 23), none⟩, ⟨some 25, .fldA 4 (.t 24), none⟩, ⟨some 26, .ld (some 3) (.t 25), none⟩, ⟨some 27, .call 25 [(.t 26)], none⟩, ⟨some 28, .bin .neq (.t 27) (.c (.int .i64 0)), none⟩]))
    (.cond (.t 28)
      (.keep [2, 3, 4] (.ops [⟨some 29, .mv (.t 4), none⟩, ⟨some 30, .mv (.t 4), none⟩, ⟨some 31, .nilc (.t 30), none⟩, ⟨some 32, .fldA 0 (.t 31), none⟩, ⟨some 33, .ld (some 4) (.t 32), none⟩, ⟨some 34, .call 49 [(.t 33), (.c (.int .i64 11)), (.c (.int .i64 8))], none⟩, ⟨some 35, .nilc (.t 29), none⟩, ⟨some 36, .fldA 0 (.t 35), none⟩, ⟨none, .st 4 (.t 36) (.t 34), none⟩]))
      .skip))
    (.seq (.keep [2, 3, 4] (.ops [⟨some 37, .mv (.t 4), none⟩, ⟨some 38, .mv (.t 4), none⟩, ⟨some 39, .call 48 [(.t 38), (.c (.int .i64 8))], none⟩, ⟨some 40, .cnv .i64 (.t 39), none⟩, ⟨some 41, .nilc (.t 37), none⟩, ⟨some 42, .fldA 4 (.t 41), none⟩, ⟨some 43, .fldA 2 (.t 42), none⟩, ⟨none, .st 1 (.t 43) (.t 40), none⟩]))
    (.seq (.seq (.keep [2, 3, 4] (.ops [⟨some 44, .mv (.t 4), none⟩, ⟨some 45, .nilc (.t 44), none⟩, ⟨some 46, .fldA 0 (.t 45), none⟩, ⟨some 47, .ld (some 4) (.t 46), none⟩, ⟨some 48, .call 50 [(.t 47)], none⟩, ⟨some 5, .alloc [.int .i64 0, .int .i64 0], none⟩, ⟨none, .st 2 (.t 5) (.t 48), none⟩]))
    (.seq (.keep [2, 3, 4, 5] (.ops [⟨some 49, .fldA 0 (.t 5), none⟩, ⟨some 50, .ld (none) (.t 49), none⟩, ⟨some 51, .bin .neq (.t 50) (.c (.int .i64 0)), none⟩]))
    (.cond (.t 51)
      (.seq (.keep [2, 3, 5] (.any (.alt 0 ⟨some 52, .bld [.int .u64 0, .int .i64 0, .int .i64 0] [], none⟩ (.alt 1 ⟨some 53, .ld (some 2) (.t 5), none⟩ (.alt 2 ⟨none, .st 3 (.t 2) (.t 52), none⟩ (.alt 3 ⟨none, .st 2 (.t 3) (.t 53), none⟩ .done .stop) .stop) (.alt 2 ⟨none, .st 3 (.t 2) (.t 52), none⟩ (.alt 1 ⟨some 53, .ld (some 2) (.t 5), none⟩ (.alt 3 ⟨none, .st 2 (.t 3) (.t 53), none⟩ .done .stop) .stop) .stop)) (.alt 1 ⟨some 53, .ld (some 2) (.t 5), none⟩ (.alt 0 ⟨some 52, .bld [.int .u64 0, .int .i64 0, .int .i64 0] [], none⟩ (.alt 2 ⟨none, .st 3 (.t 2) (.t 52), none⟩ (.alt 3 ⟨none, .st 2 (.t 3) (.t 53), none⟩ .done .stop) .stop) .stop) .stop))))
      .ret)
      .skip)))
    (.seq (.keep [2, 3, 4] (.ops [⟨some 54, .mv (.t 4), none⟩, ⟨some 55, .nilc (.t 54), none⟩, ⟨some 56, .fldA 4 (.t 55), none⟩, ⟨some 57, .ld (some 3) (.t 56), none⟩, ⟨some 58, .bld [.int .i64 0, .int .i64 0] [], none⟩, ⟨none, .st 3 (.t 2) (.t 57), none⟩, ⟨none, .st 2 (.t 3) (.t 58), none⟩]))
    .ret)))))))), [.cl 2 (some 3), .cl 3 (some 2)], 59⟩
theorem b23 : fB Tryd.prog 23 c23 = true := by kernel_rfl
/-- partywall/event.Check -/
def c25 : CF := ⟨(.seq (.keep [0] (.ops [⟨some 1, .box 3 (.t 0), none⟩, ⟨some 2, .mv (.c (.int .i64 0)), none⟩]))
    (.seq (.seq (.keep [1] (.ops [⟨some 3, .fldA 1 (.t 1), none⟩, ⟨some 4, .ld (none) (.t 3), none⟩, ⟨some 5, .bin .lss (.t 4) (.c (.int .i64 0)), none⟩, ⟨some 6, .mv (.t 5), none⟩, ⟨some 7, .fldA 1 (.t 1), some (6, false)⟩, ⟨some 8, .ld (none) (.t 7), some (6, false)⟩, ⟨some 9, .bin .geq (.t 8) (.c (.int .i64 26)), some (6, false)⟩, ⟨some 10, .pick (.t 6) (.c (.bool true)) (.t 9), none⟩]))
    (.cond (.t 10)
      (.seq (.keep [] (.ops [⟨some 2, .mv (.c (.int .i64 11)), none⟩]))
      .ret)
      .skip))
    (.seq (.keep [] (.ops [⟨some 2, .mv (.c (.int .i64 0)), none⟩]))
    .ret))), [.t 2], 11⟩
theorem b25 : fB Tryd.prog 25 c25 = true := by kernel_rfl
/-- partywall/event.Letter -/
def c27 : CF := ⟨(.seq (.keep [0] (.ops [⟨some 2, .mv (.c (.str [])), none⟩, ⟨some 3, .mv (.c (.int .i64 0)), none⟩]))
    (.seq (.seq (.keep [0] (.ops [⟨some 4, .mv (.t 0), none⟩, ⟨some 5, .bin .lss (.t 4) (.c (.int .i64 0)), none⟩, ⟨some 6, .mv (.t 5), none⟩, ⟨some 7, .mv (.t 0), some (6, false)⟩, ⟨some 8, .bin .geq (.t 7) (.c (.int .i64 26)), some (6, false)⟩, ⟨some 9, .pick (.t 6) (.c (.bool true)) (.t 8), none⟩]))
    (.cond (.t 9)
      (.seq (.keep [] (.ops [⟨some 2, .mv (.c (.str [])), none⟩, ⟨some 3, .mv (.c (.int .i64 11)), none⟩]))
      .ret)
      .skip))
    (.seq (.keep [0] (.ops [⟨some 10, .mv (.t 0), none⟩, ⟨some 11, .mv (.t 0), none⟩, ⟨some 12, .bin .add (.t 11) (.c (.int .i64 1)), none⟩, ⟨some 13, .slcS (.c (.str [65, 66, 67, 68, 69, 70, 71, 72, 73, 74, 75, 76, 77, 78, 79, 80, 81, 82, 83, 84, 85, 86, 87, 88, 89, 90])) (some (.t 10)) (some (.t 12)), none⟩, ⟨some 2, .mv (.t 13), none⟩, ⟨some 3, .mv (.c (.int .i64 0)), none⟩]))
    .ret))), [.t 2, .t 3], 14⟩
theorem b27 : fB Tryd.prog 27 c27 = true := by kernel_rfl
/-- partywall/event.Read -/
def c32 : CF := ⟨(.seq (.keep [0] (.ops [⟨some 2, .alloc [.int .u64 0, .int .i64 0, .int .i64 0], none⟩, ⟨some 3, .mv (.c (.int .i64 0)), none⟩]))
    (.seq (.keep [0, 2] (.ops [⟨some 14, .mv (.t 0), none⟩, ⟨some 15, .call 54 [(.t 14), (.c (.str [32]))], none⟩, ⟨some 4, .mv (.t 15), none⟩]))
    (.seq (.seq (.keep [0, 2, 4] (.ops [⟨some 16, .mv (.t 4), none⟩, ⟨some 17, .len (.t 16), none⟩, ⟨some 18, .bin .neq (.t 17) (.c (.int .i64 3)), none⟩]))
    (.cond (.t 18)
      (.seq (.keep [2] (.ops [⟨some 19, .bld [.int .u64 0, .int .i64 0, .int .i64 0] [], none⟩, ⟨none, .st 3 (.t 2) (.t 19), none⟩, ⟨some 3, .mv (.c (.int .i64 3)), none⟩]))
      .ret)
      .skip))
    (.seq (.keep [0, 2, 4] (.ops [⟨some 21, .mv (.t 4), none⟩, ⟨some 22, .ixA 1 (.t 21) (.c (.int .i64 0)), none⟩, ⟨some 23, .ld (none) (.t 22), none⟩, ⟨some 24, .call 29 [(.t 23)], none⟩, ⟨some 20, .mv (.t 24), none⟩, ⟨some 25, .ext (.t 20) 0, none⟩, ⟨some 26, .ext (.t 20) 1, none⟩, ⟨some 5, .mv (.t 25), none⟩, ⟨some 6, .mv (.t 26), none⟩]))
    (.seq (.keep [0, 2, 4, 5, 6] (.ops [⟨some 28, .mv (.t 4), none⟩, ⟨some 29, .ixA 1 (.t 28) (.c (.int .i64 1)), none⟩, ⟨some 30, .ld (none) (.t 29), none⟩, ⟨some 31, .call 55 [(.t 30)], none⟩, ⟨some 27, .mv (.t 31), none⟩, ⟨some 32, .ext (.t 27) 0, none⟩, ⟨some 33, .ext (.t 27) 1, none⟩, ⟨some 8, .alloc [.int .i64 0, .int .i64 0], none⟩, ⟨some 7, .mv (.t 32), none⟩, ⟨none, .st 2 (.t 8) (.t 33), none⟩]))
    (.seq (.keep [0, 2, 4, 5, 6, 7, 8] (.ops [⟨some 35, .mv (.t 4), none⟩, ⟨some 36, .ixA 1 (.t 35) (.c (.int .i64 2)), none⟩, ⟨some 37, .ld (none) (.t 36), none⟩, ⟨some 38, .call 56 [(.t 37)], none⟩, ⟨some 34, .mv (.t 38), none⟩, ⟨some 39, .ext (.t 34) 0, none⟩, ⟨some 40, .ext (.t 34) 1, none⟩, ⟨some 9, .mv (.t 39), none⟩, ⟨some 10, .mv (.t 40), none⟩]))
    (.seq (.keep [0, 2, 5, 6, 7, 8, 9, 10] (.ops [⟨some 41, .mv (.t 7), none⟩, ⟨some 42, .mv (.t 5), none⟩, ⟨some 43, .mv (.t 9), none⟩, ⟨some 44, .bld [.int .u64 0, .int .i64 0, .int .i64 0] [(0, 1, (.t 41)), (1, 1, (.t 42)), (2, 1, (.t 43))], none⟩, ⟨some 11, .alloc [.int .u64 0, .int .i64 0, .int .i64 0], none⟩, ⟨none, .st 3 (.t 11) (.t 44), none⟩]))
    (.seq (.seq (.keep [0, 2, 6, 8, 10, 11] (.ops [⟨some 45, .mv (.t 6), none⟩, ⟨some 46, .bin .neq (.t 45) (.c (.int .i64 0)), none⟩, ⟨some 47, .mv (.t 46), none⟩, ⟨some 48, .fldA 0 (.t 8), some (47, false)⟩, ⟨some 49, .ld (none) (.t 48), some (47, false)⟩, ⟨some 50, .bin .neq (.t 49) (.c (.int .i64 0)), some (47, false)⟩, ⟨some 51, .pick (.t 47) (.c (.bool true)) (.t 50), none⟩, ⟨some 52, .mv (.t 51), none⟩, ⟨some 53, .mv (.t 10), some (52, false)⟩, ⟨some 54, .bin .neq (.t 53) (.c (.int .i64 0)), some (52, false)⟩, ⟨some 55, .pick (.t 52) (.c (.bool true)) (.t 54), none⟩]))
    (.cond (.t 55)
      (.seq (.keep [2] (.ops [⟨some 56, .bld [.int .u64 0, .int .i64 0, .int .i64 0] [], none⟩, ⟨none, .st 3 (.t 2) (.t 56), none⟩, ⟨some 3, .mv (.c (.int .i64 3)), none⟩]))
      .ret)
      .skip))
    (.seq (.seq (.keep [0, 2, 11] (.ops [⟨some 58, .ld (some 3) (.t 11), none⟩, ⟨some 59, .call 14 [(.t 58)], none⟩, ⟨some 57, .mv (.t 59), none⟩, ⟨some 60, .ext (.t 57) 0, none⟩, ⟨some 61, .ext (.t 57) 1, none⟩, ⟨some 12, .mv (.t 60), none⟩, ⟨some 13, .mv (.t 61), none⟩]))
    (.seq (.keep [0, 2, 11, 12, 13] (.ops [⟨some 62, .mv (.t 13), none⟩, ⟨some 63, .bin .neq (.t 62) (.c (.int .i64 0)), none⟩, ⟨some 64, .mv (.t 63), none⟩, ⟨some 65, .mv (.t 12), some (64, false)⟩, ⟨some 66, .mv (.t 0), some (64, false)⟩, ⟨some 67, .bin .neq (.t 65) (.t 66), some (64, false)⟩, ⟨some 68, .pick (.t 64) (.c (.bool true)) (.t 67), none⟩]))
    (.cond (.t 68)
      (.seq (.keep [2] (.ops [⟨some 69, .bld [.int .u64 0, .int .i64 0, .int .i64 0] [], none⟩, ⟨none, .st 3 (.t 2) (.t 69), none⟩, ⟨some 3, .mv (.c (.int .i64 3)), none⟩]))
      .ret)
      .skip)))
    (.seq (.keep [2, 11] (.ops [⟨some 70, .ld (some 3) (.t 11), none⟩, ⟨none, .st 3 (.t 2) (.t 70), none⟩, ⟨some 3, .mv (.c (.int .i64 0)), none⟩]))
    .ret)))))))))), [.cl 2 (some 3), .t 3], 71⟩
theorem b32 : fB Tryd.prog 32 c32 = true := by kernel_rfl
/-- partywall/event.IdText -/
def c34 : CF := ⟨(.seq (.keep [0] (.ops [⟨some 1, .box 2 (.t 0), none⟩, ⟨some 2, .mv (.c (.str [])), none⟩, ⟨some 3, .mv (.c (.int .i64 0)), none⟩]))
    (.seq (.seq (.keep [1] (.ops [⟨some 5, .ld (some 2) (.t 1), none⟩, ⟨some 6, .call 38 [(.t 5)], none⟩, ⟨some 4, .mv (.t 6), none⟩]))
    (.seq (.keep [1, 4] (.ops [⟨some 7, .mv (.t 4), none⟩, ⟨some 8, .bin .neq (.t 7) (.c (.int .i64 0)), none⟩]))
    (.cond (.t 8)
      (.seq (.keep [4] (.ops [⟨some 9, .mv (.t 4), none⟩, ⟨some 2, .mv (.c (.str [])), none⟩, ⟨some 3, .mv (.t 9), none⟩]))
      .ret)
      .skip)))
    (.seq (.keep [1] (.drw [⟨some 10, .fldA 0 (.t 1), none⟩, ⟨some 11, .ld (none) (.t 10), none⟩, ⟨some 12, .call 44 [(.t 11)], none⟩, ⟨some 13, .bin .add (.t 12) (.c (.str [35])), none⟩, ⟨some 14, .fldA 1 (.t 1), none⟩, ⟨some 15, .ld (none) (.t 14), none⟩, ⟨some 16, .cnv .i64 (.t 15), none⟩, ⟨some 17, .call 45 [(.t 16)], none⟩, ⟨some 18, .bin .add (.t 13) (.t 17), none⟩, ⟨some 2, .mv (.t 18), none⟩, ⟨some 3, .mv (.c (.int .i64 0)), none⟩] [0, 1, 1, 0, 0, 1, 0, 1, 0, 0, 0]))
    .ret))), [.t 2, .t 3], 19⟩
theorem b34 : fB Tryd.prog 34 c34 = true := by kernel_rfl
/-- partywall/event.ReadId -/
def c36 : CF := ⟨(.seq (.keep [0] (.ops [⟨some 2, .alloc [.int .u64 0, .int .u64 0], none⟩, ⟨some 3, .mv (.c (.int .i64 0)), none⟩]))
    (.seq (.keep [0, 2] (.ops [⟨some 15, .mv (.t 0), none⟩, ⟨some 16, .call 61 [(.t 15), (.c (.str [35]))], none⟩, ⟨some 14, .mv (.t 16), none⟩, ⟨some 17, .ext (.t 14) 0, none⟩, ⟨some 18, .ext (.t 14) 1, none⟩, ⟨some 19, .ext (.t 14) 2, none⟩, ⟨some 4, .mv (.t 17), none⟩, ⟨some 5, .mv (.t 18), none⟩, ⟨some 6, .mv (.t 19), none⟩]))
    (.seq (.keep [0, 2, 4, 5] (.ops [⟨some 21, .mv (.t 4), none⟩, ⟨some 22, .call 55 [(.t 21)], none⟩, ⟨some 20, .mv (.t 22), none⟩, ⟨some 23, .ext (.t 20) 0, none⟩, ⟨some 24, .ext (.t 20) 1, none⟩, ⟨some 8, .alloc [.int .i64 0, .int .i64 0], none⟩, ⟨some 7, .mv (.t 23), none⟩, ⟨none, .st 2 (.t 8) (.t 24), none⟩]))
    (.seq (.keep [0, 2, 5, 7, 8] (.ops [⟨some 26, .mv (.t 5), none⟩, ⟨some 27, .call 62 [(.t 26), (.c (.int .u64 1099511627776))], none⟩, ⟨some 25, .mv (.t 27), none⟩, ⟨some 28, .ext (.t 25) 0, none⟩, ⟨some 29, .ext (.t 25) 1, none⟩, ⟨some 9, .mv (.t 28), none⟩, ⟨some 10, .mv (.t 29), none⟩]))
    (.seq (.keep [0, 2, 7, 8, 9, 10] (.ops [⟨some 30, .mv (.t 7), none⟩, ⟨some 31, .mv (.t 9), none⟩, ⟨some 32, .bld [.int .u64 0, .int .u64 0] [(0, 1, (.t 30)), (1, 1, (.t 31))], none⟩, ⟨some 11, .alloc [.int .u64 0, .int .u64 0], none⟩, ⟨none, .st 2 (.t 11) (.t 32), none⟩]))
    (.seq (.seq (.keep [0, 2, 8, 10, 11] (.ops [⟨some 33, .fldA 0 (.t 8), none⟩, ⟨some 34, .ld (none) (.t 33), none⟩, ⟨some 35, .bin .neq (.t 34) (.c (.int .i64 0)), none⟩, ⟨some 36, .mv (.t 35), none⟩, ⟨some 37, .mv (.t 10), some (36, false)⟩, ⟨some 38, .bin .neq (.t 37) (.c (.int .i64 0)), some (36, false)⟩, ⟨some 39, .pick (.t 36) (.c (.bool true)) (.t 38), none⟩]))
    (.cond (.t 39)
      (.seq (.keep [2] (.ops [⟨some 40, .bld [.int .u64 0, .int .u64 0] [], none⟩, ⟨none, .st 2 (.t 2) (.t 40), none⟩, ⟨some 3, .mv (.c (.int .i64 3)), none⟩]))
      .ret)
      .skip))
    (.seq (.seq (.keep [0, 2, 11] (.ops [⟨some 42, .ld (some 2) (.t 11), none⟩, ⟨some 43, .call 34 [(.t 42)], none⟩, ⟨some 41, .mv (.t 43), none⟩, ⟨some 44, .ext (.t 41) 0, none⟩, ⟨some 45, .ext (.t 41) 1, none⟩, ⟨some 12, .mv (.t 44), none⟩, ⟨some 13, .mv (.t 45), none⟩]))
    (.seq (.keep [0, 2, 11, 12, 13] (.ops [⟨some 46, .mv (.t 13), none⟩, ⟨some 47, .bin .neq (.t 46) (.c (.int .i64 0)), none⟩, ⟨some 48, .mv (.t 47), none⟩, ⟨some 49, .mv (.t 12), some (48, false)⟩, ⟨some 50, .mv (.t 0), some (48, false)⟩, ⟨some 51, .bin .neq (.t 49) (.t 50), some (48, false)⟩, ⟨some 52, .pick (.t 48) (.c (.bool true)) (.t 51), none⟩]))
    (.cond (.t 52)
      (.seq (.keep [2] (.ops [⟨some 53, .bld [.int .u64 0, .int .u64 0] [], none⟩, ⟨none, .st 2 (.t 2) (.t 53), none⟩, ⟨some 3, .mv (.c (.int .i64 3)), none⟩]))
      .ret)
      .skip)))
    (.seq (.keep [2, 11] (.ops [⟨some 54, .ld (some 2) (.t 11), none⟩, ⟨none, .st 2 (.t 2) (.t 54), none⟩, ⟨some 3, .mv (.c (.int .i64 0)), none⟩]))
    .ret)))))))), [.cl 2 (some 2), .t 3], 55⟩
theorem b36 : fB Tryd.prog 36 c36 = true := by kernel_rfl
/-- partywall/event.CheckId -/
def c38 : CF := ⟨(.seq (.keep [0] (.ops [⟨some 1, .box 2 (.t 0), none⟩, ⟨some 2, .mv (.c (.int .i64 0)), none⟩]))
    (.seq (.seq (.keep [1] (.ops [⟨some 3, .fldA 1 (.t 1), none⟩, ⟨some 4, .ld (none) (.t 3), none⟩, ⟨some 5, .bin .lss (.t 4) (.c (.int .u64 1)), none⟩, ⟨some 6, .mv (.t 5), none⟩, ⟨some 7, .fldA 1 (.t 1), some (6, false)⟩, ⟨some 8, .ld (none) (.t 7), some (6, false)⟩, ⟨some 9, .bin .gtr (.t 8) (.c (.int .u64 1099511627776)), some (6, false)⟩, ⟨some 10, .pick (.t 6) (.c (.bool true)) (.t 9), none⟩]))
    (.cond (.t 10)
      (.seq (.keep [] (.ops [⟨some 2, .mv (.c (.int .i64 2)), none⟩]))
      .ret)
      .skip))
    (.seq (.keep [] (.ops [⟨some 2, .mv (.c (.int .i64 0)), none⟩]))
    .ret))), [.t 2], 11⟩
theorem b38 : fB Tryd.prog 38 c38 = true := by kernel_rfl
/-- partywall/partywalllaw03.some -/
def c40 : CF := ⟨(.seq (.keep [] (.ops [⟨some 0, .alloc [.int .u64 0, .int .i64 0, .int .i64 0], none⟩]))
    (.seq (.keep [0] (.ops [⟨some 1, .bld [.int .u64 0, .int .i64 0, .int .i64 0] [(0, 1, (.c (.int .u64 257))), (1, 1, (.c (.int .i64 2))), (2, 1, (.c (.int .i64 (-2))))], none⟩, ⟨none, .st 3 (.t 0) (.t 1), none⟩]))
    .ret)), [.cl 0 (some 3)], 2⟩
theorem b40 : fB Tryd.prog 40 c40 = true := by kernel_rfl
/-- partywall/partywalllaw03.faulty -/
def c41 : CF := ⟨(.seq (.keep [0, 1, 2] (.ops [⟨some 6, .mv (.c (.bool false)), none⟩]))
    (.seq (.keep [0, 1, 2] (.ops [⟨some 10, .mv (.t 0), none⟩, ⟨some 11, .call 23 [(.t 10)], none⟩, ⟨some 9, .mv (.t 11), none⟩, ⟨some 12, .ext (.t 9) 0, none⟩, ⟨some 13, .ext (.t 9) 1, none⟩, ⟨some 7, .alloc [.int .u64 0, .int .i64 0, .int .i64 0], none⟩, ⟨some 8, .alloc [.int .i64 0, .int .i64 0], none⟩, ⟨none, .st 3 (.t 7) (.t 12), none⟩, ⟨none, .st 2 (.t 8) (.t 13), none⟩]))
    (.seq (.keep [1, 2, 7, 8] (.ops [⟨some 14, .ld (some 3) (.t 7), none⟩, ⟨some 15, .bld [.int .u64 0, .int .i64 0, .int .i64 0] [], none⟩, ⟨some 16, .eqA false [0, 0, 0] (.t 14) (.t 15), none⟩, ⟨some 17, .mv (.t 16), none⟩, ⟨some 18, .ld (some 2) (.t 8), some (17, true)⟩, ⟨some 19, .mv (.t 1), some (17, true)⟩, ⟨some 20, .mv (.t 2), some (17, true)⟩, ⟨some 21, .bld [.int .i64 0, .int .i64 0] [(0, 1, (.t 19)), (1, 1, (.t 20))], some (17, true)⟩, ⟨some 22, .eqA false [0, 0] (.t 18) (.t 21), some (17, true)⟩, ⟨some 23, .pick (.t 17) (.t 22) (.c (.bool false)), none⟩, ⟨some 6, .mv (.t 23), none⟩]))
    .ret))), [.t 6], 24⟩
theorem b41 : fB Tryd.prog 41 c41 = true := by kernel_rfl
/-- partywall/event.octets[uint64] -/
def c42 : CF := ⟨(.seq (.keep [0] (.ops [⟨some 2, .mv (.c .nils), none⟩]))
    (.seq (.keep [0] (.ops [⟨some 6, .mv (.t 0), none⟩, ⟨some 3, .mv (.t 6), none⟩]))
    (.seq (.keep [3] (.ops [⟨some 4, .mv (.c .nils), none⟩]))
    (.seq (.seq (.keep [3, 4] (.ops [⟨some 5, .mv (.c (.int .i64 56)), none⟩]))
    (.block 0 (.loop (.seq (.seq (.keep [3, 4, 5] (.ops [⟨some 7, .mv (.t 5), none⟩, ⟨some 8, .bin .geq (.t 7) (.c (.int .i64 0)), none⟩]))
    (.cond (.t 8)
      .skip
      (.exit 0)))
    (.seq (.block 1 (.keep [3, 4, 5] (.ops [⟨some 11, .mv (.t 4), none⟩, ⟨some 12, .mv (.t 3), none⟩, ⟨some 13, .mv (.t 5), none⟩, ⟨some 14, .bin .shr (.t 12) (.t 13), none⟩, ⟨some 15, .cnv .u8 (.t 14), none⟩, ⟨some 16, .mkSl 1 1 [.int .u8 0] [(0, 1, (.t 15))], none⟩, ⟨some 17, .app false 5 1 1 (.t 11) (.t 16), none⟩, ⟨some 4, .mv (.t 17), none⟩])))
    (.keep [3, 4, 5] (.ops [⟨some 9, .mv (.t 5), none⟩, ⟨some 10, .bin .sub (.t 9) (.c (.int .i64 8)), none⟩, ⟨some 5, .mv (.t 10), none⟩])))))))
    (.seq (.keep [4] (.ops [⟨some 18, .mv (.t 4), none⟩, ⟨some 2, .mv (.t 18), none⟩]))
    .ret))))), [.t 2], 19⟩
theorem b42 : fB Tryd.prog 42 c42 = true := by kernel_rfl
/-- partywall/event.octets[int64] -/
def c43 : CF := ⟨(.seq (.keep [0] (.ops [⟨some 2, .mv (.c .nils), none⟩]))
    (.seq (.keep [0] (.ops [⟨some 6, .mv (.t 0), none⟩, ⟨some 7, .cnv .u64 (.t 6), none⟩, ⟨some 3, .mv (.t 7), none⟩]))
    (.seq (.keep [3] (.ops [⟨some 4, .mv (.c .nils), none⟩]))
    (.seq (.seq (.keep [3, 4] (.ops [⟨some 5, .mv (.c (.int .i64 56)), none⟩]))
    (.block 0 (.loop (.seq (.seq (.keep [3, 4, 5] (.ops [⟨some 8, .mv (.t 5), none⟩, ⟨some 9, .bin .geq (.t 8) (.c (.int .i64 0)), none⟩]))
    (.cond (.t 9)
      .skip
      (.exit 0)))
    (.seq (.block 1 (.keep [3, 4, 5] (.ops [⟨some 12, .mv (.t 4), none⟩, ⟨some 13, .mv (.t 3), none⟩, ⟨some 14, .mv (.t 5), none⟩, ⟨some 15, .bin .shr (.t 13) (.t 14), none⟩, ⟨some 16, .cnv .u8 (.t 15), none⟩, ⟨some 17, .mkSl 1 1 [.int .u8 0] [(0, 1, (.t 16))], none⟩, ⟨some 18, .app false 5 1 1 (.t 12) (.t 17), none⟩, ⟨some 4, .mv (.t 18), none⟩])))
    (.keep [3, 4, 5] (.ops [⟨some 10, .mv (.t 5), none⟩, ⟨some 11, .bin .sub (.t 10) (.c (.int .i64 8)), none⟩, ⟨some 5, .mv (.t 11), none⟩])))))))
    (.seq (.keep [4] (.ops [⟨some 19, .mv (.t 4), none⟩, ⟨some 2, .mv (.t 19), none⟩]))
    .ret))))), [.t 2], 20⟩
theorem b43 : fB Tryd.prog 43 c43 = true := by kernel_rfl
/-- partywall/label.Text -/
def c44 : CF := ⟨(.seq (.keep [0] (.ops [⟨some 2, .mv (.c (.str [])), none⟩]))
    (.seq (.keep [0, 2] (.ops [⟨some 3, .alloc [.nils], none⟩]))
    (.seq (.seq (.keep [0, 2, 3] (.ops [⟨some 5, .mv (.t 0), none⟩, ⟨some 6, .call 63 [(.t 5)], none⟩]))
    (.block 0 (.rfun (.t 6) [7]
      (.keep [3, 7] (.ops [⟨some 4, .mv (.t 7), none⟩]))
      (.block 1 (.keep [3, 4] (.drw [⟨some 8, .ld (none) (.t 3), none⟩, ⟨some 9, .mv (.t 4), none⟩, ⟨some 10, .call 64 [(.t 9)], none⟩, ⟨some 11, .mkSl 1 1 [.str []] [(0, 1, (.t 10))], none⟩, ⟨some 12, .app true 9 1 16 (.t 8) (.t 11), none⟩, ⟨none, .st 1 (.t 3) (.t 12), none⟩] [1, 0, 1, 0, 4, 2]))))))
    (.seq (.keep [3] (.ops [⟨some 13, .ld (none) (.t 3), none⟩, ⟨some 14, .call 65 [(.t 13), (.c (.str [44]))], none⟩, ⟨some 15, .bin .add (.c (.str [123])) (.t 14), none⟩, ⟨some 16, .bin .add (.t 15) (.c (.str [125])), none⟩, ⟨some 2, .mv (.t 16), none⟩]))
    .ret)))), [.t 2], 17⟩
theorem b44 : fB Tryd.prog 44 c44 = true := by kernel_rfl
/-- partywall/sums.Text -/
def c45 : CF := ⟨(.seq (.keep [0] (.ops [⟨some 2, .mv (.c (.str [])), none⟩]))
    (.seq (.keep [0] (.ops [⟨some 3, .mv (.t 0), none⟩, ⟨some 4, .call 66 [(.t 3), (.c (.int .i64 10))], none⟩, ⟨some 2, .mv (.t 4), none⟩]))
    .ret)), [.t 2], 5⟩
theorem b45 : fB Tryd.prog 45 c45 = true := by kernel_rfl
/-- partywall/wire.Read -/
def c47 : CF := ⟨(.seq (.keep [0] (.ops [⟨some 2, .alloc [.str [], .int .i64 0, .int .i64 0, .int .i64 0], none⟩]))
    (.seq (.keep [0, 2] (.ops [⟨some 3, .mv (.t 0), none⟩, ⟨some 4, .bld [.str [], .int .i64 0, .int .i64 0, .int .i64 0] [(0, 1, (.t 3))], none⟩, ⟨none, .st 4 (.t 2) (.t 4), none⟩]))
    .ret)), [.cl 2 (some 4)], 5⟩
theorem b47 : fB Tryd.prog 47 c47 = true := by kernel_rfl
/-- (*partywall/event.reader).number -/
def c48 : CF := ⟨(.seq (.keep [0, 1] (.ops [⟨some 4, .mv (.c (.int .u64 0)), none⟩]))
    (.seq (.keep [0, 1] (.ops [⟨some 8, .mv (.t 0), none⟩, ⟨some 9, .nilc (.t 8), none⟩, ⟨some 10, .fldA 0 (.t 9), none⟩, ⟨some 11, .ld (some 4) (.t 10), none⟩, ⟨some 12, .mv (.t 1), none⟩, ⟨some 13, .call 67 [(.t 11), (.t 12)], none⟩, ⟨some 7, .mv (.t 13), none⟩, ⟨some 14, .ext (.t 7) 0, none⟩, ⟨some 15, .ext (.t 7) 1, none⟩, ⟨some 5, .alloc [.str [], .int .i64 0, .int .i64 0, .int .i64 0], none⟩, ⟨none, .st 4 (.t 5) (.t 14), none⟩, ⟨some 6, .mv (.t 15), none⟩]))
    (.seq (.keep [0, 5, 6] (.ops [⟨some 16, .mv (.t 0), none⟩, ⟨some 17, .ld (some 4) (.t 5), none⟩, ⟨some 18, .nilc (.t 16), none⟩, ⟨some 19, .fldA 0 (.t 18), none⟩, ⟨none, .st 4 (.t 19) (.t 17), none⟩]))
    (.seq (.keep [6] (.ops [⟨some 20, .mv (.t 6), none⟩, ⟨some 4, .mv (.t 20), none⟩]))
    .ret)))), [.t 4], 21⟩
theorem b48 : fB Tryd.prog 48 c48 = true := by kernel_rfl
/-- partywall/wire.Fail -/
def c49 : CF := ⟨(.seq (.keep [0, 1, 2] (.ops [⟨some 3, .box 4 (.t 0), none⟩, ⟨some 6, .alloc [.str [], .int .i64 0, .int .i64 0, .int .i64 0], none⟩]))
    (.seq (.keep [1, 2, 3, 6] (.ops [⟨some 8, .ld (some 4) (.t 3), none⟩, ⟨some 9, .call 68 [(.t 8)], none⟩, ⟨some 7, .mv (.t 9), none⟩]))
    (.seq (.seq (.keep [1, 2, 6, 7] (.ops [⟨some 10, .mv (.t 1), none⟩, ⟨some 11, .bin .lss (.t 10) (.c (.int .i64 1)), none⟩, ⟨some 12, .mv (.t 11), none⟩, ⟨some 13, .mv (.t 1), some (12, false)⟩, ⟨some 14, .bin .gtr (.t 13) (.c (.int .i64 23)), some (12, false)⟩, ⟨some 15, .pick (.t 12) (.c (.bool true)) (.t 14), none⟩]))
    (.cond (.t 15)
      (.keep [2, 6, 7] (.ops [⟨some 1, .mv (.c (.int .i64 3)), none⟩]))
      .skip))
    (.seq (.keep [1, 2, 6, 7] (.ops [⟨some 16, .mv (.t 7), none⟩, ⟨some 17, .mv (.t 1), none⟩, ⟨some 18, .mv (.t 2), none⟩, ⟨some 19, .mm true (.t 18) (.c (.int .i64 0)), none⟩, ⟨some 20, .mv (.t 7), none⟩, ⟨some 21, .nilc (.t 20), none⟩, ⟨some 22, .fldA 0 (.t 21), none⟩, ⟨some 23, .fldA 0 (.t 22), none⟩, ⟨some 24, .ld (none) (.t 23), none⟩, ⟨some 25, .lenS (.t 24), none⟩, ⟨some 26, .mm false (.t 19) (.t 25), none⟩, ⟨some 27, .call 69 [(.t 16), (.t 17), (.t 26)], none⟩]))
    (.seq (.keep [6, 7] (.ops [⟨some 28, .mv (.t 7), none⟩, ⟨some 29, .nilc (.t 28), none⟩, ⟨some 30, .fldA 0 (.t 29), none⟩, ⟨some 31, .ld (some 4) (.t 30), none⟩, ⟨none, .st 4 (.t 6) (.t 31), none⟩]))
    .ret))))), [.cl 6 (some 4)], 32⟩
theorem b49 : fB Tryd.prog 49 c49 = true := by kernel_rfl
/-- partywall/wire.End -/
def c50 : CF := ⟨(.seq (.keep [0] (.ops [⟨some 1, .box 4 (.t 0), none⟩, ⟨some 2, .alloc [.int .i64 0, .int .i64 0], none⟩]))
    (.seq (.keep [1, 2] (.ops [⟨some 4, .ld (some 4) (.t 1), none⟩, ⟨some 5, .call 68 [(.t 4)], none⟩, ⟨some 3, .mv (.t 5), none⟩]))
    (.seq (.seq (.keep [2, 3] (.drw [⟨some 6, .mv (.t 3), none⟩, ⟨some 7, .nilc (.t 6), none⟩, ⟨some 8, .fldA 0 (.t 7), none⟩, ⟨some 9, .fldA 1 (.t 8), none⟩, ⟨some 10, .ld (none) (.t 9), none⟩, ⟨some 11, .mv (.t 3), none⟩, ⟨some 12, .nilc (.t 11), none⟩, ⟨some 13, .fldA 0 (.t 12), none⟩, ⟨some 14, .fldA 0 (.t 13), none⟩, ⟨some 15, .ld (none) (.t 14), none⟩, ⟨some 16, .lenS (.t 15), none⟩, ⟨some 17, .bin .lss (.t 10) (.t 16), none⟩] [0, 0, 0, 0, 1, 0, 0, 0, 0, 1, 0, 0]))
    (.cond (.t 17)
      (.keep [2, 3] (.ops [⟨some 18, .mv (.t 3), none⟩, ⟨some 19, .mv (.t 3), none⟩, ⟨some 20, .nilc (.t 19), none⟩, ⟨some 21, .fldA 0 (.t 20), none⟩, ⟨some 22, .fldA 1 (.t 21), none⟩, ⟨some 23, .ld (none) (.t 22), none⟩, ⟨some 24, .call 69 [(.t 18), (.c (.int .i64 4)), (.t 23)], none⟩]))
      .skip))
    (.seq (.keep [2, 3] (.ops [⟨some 25, .mv (.t 3), none⟩, ⟨some 26, .nilc (.t 25), none⟩, ⟨some 27, .fldA 0 (.t 26), none⟩, ⟨some 28, .fldA 2 (.t 27), none⟩, ⟨some 29, .ld (some 2) (.t 28), none⟩, ⟨none, .st 2 (.t 2) (.t 29), none⟩]))
    .ret)))), [.cl 2 (some 2)], 30⟩
theorem b50 : fB Tryd.prog 50 c50 = true := by kernel_rfl
/-- partywall/label.Parse -/
def c55 : CF := ⟨(.seq (.keep [0] (.ops [⟨some 2, .mv (.c (.int .u64 0)), none⟩, ⟨some 3, .alloc [.int .i64 0, .int .i64 0], none⟩]))
    (.seq (.keep [0, 3] (.ops [⟨some 8, .mv (.t 0), none⟩, ⟨some 9, .call 73 [(.t 8)], none⟩, ⟨some 7, .mv (.t 9), none⟩, ⟨some 10, .ext (.t 7) 0, none⟩, ⟨some 11, .ext (.t 7) 1, none⟩, ⟨some 12, .ext (.t 7) 2, none⟩, ⟨some 6, .alloc [.int .i64 0, .int .i64 0], none⟩, ⟨some 4, .mv (.t 10), none⟩, ⟨some 5, .mv (.t 11), none⟩, ⟨none, .st 2 (.t 6) (.t 12), none⟩]))
    (.seq (.block 0 (.seq (.keep [0, 3, 4, 5, 6] (.ops [⟨some 14, .fldA 0 (.t 6), none⟩, ⟨some 15, .ld (none) (.t 14), none⟩, ⟨some 16, .bin .neq (.t 15) (.c (.int .i64 0)), none⟩, ⟨some 13, .mv (.t 16), none⟩]))
    (.cond (.t 13)
      (.seq (.keep [3, 6] (.drw [⟨some 17, .ld (some 2) (.t 6), none⟩, ⟨some 2, .mv (.c (.int .u64 0)), none⟩, ⟨none, .st 2 (.t 3) (.t 17), none⟩] [1, 0, 2]))
      .ret)
      (.seq (.keep [0, 3, 4, 5] (.ops [⟨some 19, .mv (.t 5), none⟩, ⟨some 20, .mv (.t 0), none⟩, ⟨some 21, .lenS (.t 20), none⟩, ⟨some 22, .bin .lss (.t 19) (.t 21), none⟩, ⟨some 18, .mv (.t 22), none⟩]))
      (.cond (.t 18)
        (.seq (.keep [3, 5] (.ops [⟨some 23, .mv (.t 5), none⟩, ⟨some 24, .bld [.int .i64 0, .int .i64 0] [(0, 1, (.c (.int .i64 4))), (1, 1, (.t 23))], none⟩, ⟨some 2, .mv (.c (.int .u64 0)), none⟩, ⟨none, .st 2 (.t 3) (.t 24), none⟩]))
        .ret)
        .skip)))))
    (.seq (.keep [3, 4] (.ops [⟨some 25, .mv (.t 4), none⟩, ⟨some 26, .bld [.int .i64 0, .int .i64 0] [], none⟩, ⟨some 2, .mv (.t 25), none⟩, ⟨none, .st 2 (.t 3) (.t 26), none⟩]))
    .ret)))), [.t 2, .cl 3 (some 2)], 27⟩
theorem b55 : fB Tryd.prog 55 c55 = true := by kernel_rfl
/-- partywall/sums.Int -/
def c56 : CF := ⟨(.seq (.keep [0] (.ops [⟨some 2, .mv (.c (.int .i64 0)), none⟩, ⟨some 3, .mv (.c (.int .i64 0)), none⟩]))
    (.seq (.keep [0] (.ops [⟨some 9, .mv (.t 0), none⟩, ⟨some 10, .lenS (.t 9), none⟩, ⟨some 11, .bin .gtr (.t 10) (.c (.int .i64 0)), none⟩, ⟨some 12, .mv (.t 11), none⟩, ⟨some 13, .mv (.t 0), some (12, true)⟩, ⟨some 14, .ixS (.t 13) (.c (.int .i64 0)), some (12, true)⟩, ⟨some 15, .bin .eql (.t 14) (.c (.int .u8 45)), some (12, true)⟩, ⟨some 16, .pick (.t 12) (.t 15) (.c (.bool false)), none⟩, ⟨some 4, .mv (.t 16), none⟩]))
    (.seq (.keep [0, 4] (.ops [⟨some 17, .mv (.t 0), none⟩, ⟨some 5, .mv (.t 17), none⟩]))
    (.seq (.seq (.keep [0, 4, 5] (.ops [⟨some 18, .mv (.t 4), none⟩]))
    (.cond (.t 18)
      (.keep [0, 4] (.ops [⟨some 19, .mv (.t 0), none⟩, ⟨some 20, .slcS (.t 19) (some (.c (.int .i64 1))) none, none⟩, ⟨some 5, .mv (.t 20), none⟩]))
      .skip))
    (.seq (.keep [4, 5] (.ops [⟨some 22, .mv (.t 5), none⟩, ⟨some 23, .call 74 [(.t 22)], none⟩, ⟨some 21, .mv (.t 23), none⟩, ⟨some 24, .ext (.t 21) 0, none⟩, ⟨some 25, .ext (.t 21) 1, none⟩, ⟨some 26, .ext (.t 21) 2, none⟩, ⟨some 6, .mv (.t 24), none⟩, ⟨some 7, .mv (.t 25), none⟩, ⟨some 8, .mv (.t 26), none⟩]))
    (.seq (.block 0 (.seq (.keep [4, 5, 6, 7, 8] (.ops [⟨some 28, .mv (.t 8), none⟩, ⟨some 29, .un .not (.t 28), none⟩, ⟨some 30, .mv (.t 29), none⟩, ⟨some 31, .mv (.t 4), some (30, false)⟩, ⟨some 32, .mv (.t 31), some (30, false)⟩, ⟨some 33, .mv (.t 5), some (32, true)⟩, ⟨some 34, .bin .eql (.t 33) (.c (.str [48])), some (32, true)⟩, ⟨some 35, .pick (.t 32) (.t 34) (.c (.bool false)), some (30, false)⟩, ⟨some 36, .pick (.t 30) (.c (.bool true)) (.t 35), none⟩, ⟨some 27, .mv (.t 36), none⟩]))
    (.cond (.t 27)
      (.seq (.keep [] (.ops [⟨some 2, .mv (.c (.int .i64 0)), none⟩, ⟨some 3, .mv (.c (.int .i64 3)), none⟩]))
      .ret)
      (.seq (.keep [4, 6, 7] (.ops [⟨some 38, .mv (.t 7), none⟩, ⟨some 39, .mv (.t 38), none⟩, ⟨some 40, .mv (.t 6), some (39, false)⟩, ⟨some 41, .bin .gtr (.t 40) (.c (.int .u64 9223372036854775808)), some (39, false)⟩, ⟨some 42, .pick (.t 39) (.c (.bool true)) (.t 41), none⟩, ⟨some 43, .mv (.t 42), none⟩, ⟨some 44, .mv (.t 6), some (43, false)⟩, ⟨some 45, .bin .eql (.t 44) (.c (.int .u64 9223372036854775808)), some (43, false)⟩, ⟨some 46, .mv (.t 45), some (43, false)⟩, ⟨some 47, .mv (.t 4), some (46, true)⟩, ⟨some 48, .un .not (.t 47), some (46, true)⟩, ⟨some 49, .pick (.t 46) (.t 48) (.c (.bool false)), some (43, false)⟩, ⟨some 50, .pick (.t 43) (.c (.bool true)) (.t 49), none⟩, ⟨some 37, .mv (.t 50), none⟩]))
      (.cond (.t 37)
        (.seq (.keep [] (.ops [⟨some 2, .mv (.c (.int .i64 0)), none⟩, ⟨some 3, .mv (.c (.int .i64 2)), none⟩]))
        .ret)
        (.seq (.keep [4, 6] (.ops [⟨some 52, .mv (.t 4), none⟩, ⟨some 51, .mv (.t 52), none⟩]))
        (.cond (.t 51)
          (.seq (.keep [6] (.ops [⟨some 53, .mv (.t 6), none⟩, ⟨some 54, .un .neg (.t 53), none⟩, ⟨some 55, .cnv .i64 (.t 54), none⟩, ⟨some 2, .mv (.t 55), none⟩, ⟨some 3, .mv (.c (.int .i64 0)), none⟩]))
          .ret)
          .skip)))))))
    (.seq (.keep [6] (.ops [⟨some 56, .mv (.t 6), none⟩, ⟨some 57, .cnv .i64 (.t 56), none⟩, ⟨some 2, .mv (.t 57), none⟩, ⟨some 3, .mv (.c (.int .i64 0)), none⟩]))
    .ret))))))), [.t 2, .t 3], 58⟩
theorem b56 : fB Tryd.prog 56 c56 = true := by kernel_rfl
/-- partywall/sums.Nat -/
def c62 : CF := ⟨(.seq (.keep [0, 1] (.ops [⟨some 4, .mv (.c (.int .u64 0)), none⟩, ⟨some 5, .mv (.c (.int .i64 0)), none⟩]))
    (.seq (.keep [0, 1] (.ops [⟨some 10, .mv (.t 0), none⟩, ⟨some 11, .call 74 [(.t 10)], none⟩, ⟨some 9, .mv (.t 11), none⟩, ⟨some 12, .ext (.t 9) 0, none⟩, ⟨some 13, .ext (.t 9) 1, none⟩, ⟨some 14, .ext (.t 9) 2, none⟩, ⟨some 6, .mv (.t 12), none⟩, ⟨some 7, .mv (.t 13), none⟩, ⟨some 8, .mv (.t 14), none⟩]))
    (.seq (.block 0 (.seq (.keep [1, 6, 7, 8] (.ops [⟨some 16, .mv (.t 8), none⟩, ⟨some 17, .un .not (.t 16), none⟩, ⟨some 15, .mv (.t 17), none⟩]))
    (.cond (.t 15)
      (.seq (.keep [] (.ops [⟨some 4, .mv (.c (.int .u64 0)), none⟩, ⟨some 5, .mv (.c (.int .i64 3)), none⟩]))
      .ret)
      (.seq (.keep [1, 6, 7] (.ops [⟨some 19, .mv (.t 7), none⟩, ⟨some 20, .mv (.t 19), none⟩, ⟨some 21, .mv (.t 6), some (20, false)⟩, ⟨some 22, .mv (.t 1), some (20, false)⟩, ⟨some 23, .bin .gtr (.t 21) (.t 22), some (20, false)⟩, ⟨some 24, .pick (.t 20) (.c (.bool true)) (.t 23), none⟩, ⟨some 18, .mv (.t 24), none⟩]))
      (.cond (.t 18)
        (.seq (.keep [] (.ops [⟨some 4, .mv (.c (.int .u64 0)), none⟩, ⟨some 5, .mv (.c (.int .i64 2)), none⟩]))
        .ret)
        .skip)))))
    (.seq (.keep [6] (.ops [⟨some 25, .mv (.t 6), none⟩, ⟨some 4, .mv (.t 25), none⟩, ⟨some 5, .mv (.c (.int .i64 0)), none⟩]))
    .ret)))), [.t 4, .t 5], 26⟩
theorem b62 : fB Tryd.prog 62 c62 = true := by kernel_rfl
/-- partywall/label.each -/
def c63 : CF := ⟨(.seq (.keep [0] (.ops [⟨some 1, .box 1 (.t 0), none⟩, ⟨some 2, .mv (.c .nilf), none⟩]))
    (.seq (.keep [1] (.ops [⟨some 3, .mkF 77 [(.t 1)], none⟩, ⟨some 2, .mv (.t 3), none⟩]))
    .ret)), [.t 2], 4⟩
theorem b63 : fB Tryd.prog 63 c63 = true := by kernel_rfl
/-- partywall/wire.Uint -/
def c67 : CF := ⟨(.seq (.keep [0, 1] (.ops [⟨some 2, .box 4 (.t 0), none⟩, ⟨some 4, .alloc [.str [], .int .i64 0, .int .i64 0, .int .i64 0], none⟩, ⟨some 5, .mv (.c (.int .u64 0)), none⟩]))
    (.seq (.keep [1, 2, 4] (.ops [⟨some 8, .ld (some 4) (.t 2), none⟩, ⟨some 9, .call 68 [(.t 8)], none⟩, ⟨some 6, .mv (.t 9), none⟩]))
    (.seq (.seq (.keep [1, 4, 6] (.ops [⟨some 10, .mv (.t 1), none⟩, ⟨some 11, .call 84 [(.t 10)], none⟩, ⟨some 12, .un .not (.t 11), none⟩]))
    (.cond (.t 12)
      (.keep [1, 4, 6] (.ops [⟨some 13, .mv (.t 6), none⟩, ⟨some 14, .mv (.t 6), none⟩, ⟨some 15, .nilc (.t 14), none⟩, ⟨some 16, .fldA 0 (.t 15), none⟩, ⟨some 17, .fldA 1 (.t 16), none⟩, ⟨some 18, .ld (none) (.t 17), none⟩, ⟨some 19, .call 69 [(.t 13), (.c (.int .i64 2)), (.t 18)], none⟩]))
      .skip))
    (.seq (.seq (.keep [1, 4, 6] (.ops [⟨some 20, .mv (.t 6), none⟩, ⟨some 21, .call 85 [(.t 20)], none⟩, ⟨some 22, .un .not (.t 21), none⟩]))
    (.cond (.t 22)
      (.seq (.keep [4, 6] (.ops [⟨some 23, .mv (.t 6), none⟩, ⟨some 24, .nilc (.t 23), none⟩, ⟨some 25, .fldA 0 (.t 24), none⟩, ⟨some 26, .ld (some 4) (.t 25), none⟩, ⟨none, .st 4 (.t 4) (.t 26), none⟩, ⟨some 5, .mv (.c (.int .u64 0)), none⟩]))
      .ret)
      .skip))
    (.seq (.keep [1, 4, 6] (.ops [⟨some 27, .mv (.t 6), none⟩, ⟨some 28, .mv (.t 1), none⟩, ⟨some 29, .call 86 [(.t 27), (.t 28)], none⟩, ⟨some 7, .mv (.t 29), none⟩]))
    (.seq (.keep [4, 6, 7] (.drw [⟨some 30, .mv (.t 6), none⟩, ⟨some 31, .nilc (.t 30), none⟩, ⟨some 32, .fldA 0 (.t 31), none⟩, ⟨some 33, .ld (some 4) (.t 32), none⟩, ⟨some 34, .mv (.t 7), none⟩, ⟨some 35, .call 87 [(.t 34)], none⟩, ⟨none, .st 4 (.t 4) (.t 33), none⟩, ⟨some 5, .mv (.t 35), none⟩] [0, 0, 0, 1, 0, 1, 2, 0]))
    .ret)))))), [.cl 4 (some 4), .t 5], 36⟩
theorem b67 : fB Tryd.prog 67 c67 = true := by kernel_rfl
/-- partywall/wire.use -/
def c68 : CF := ⟨(.seq (.keep [0] (.ops [⟨some 1, .box 4 (.t 0), none⟩, ⟨some 2, .mv (.c .nilp), none⟩]))
    (.seq (.keep [1] (.ops [⟨some 4, .fldA 1 (.t 1), none⟩, ⟨some 5, .ld (none) (.t 4), none⟩, ⟨some 6, .bin .geq (.t 5) (.c (.int .i64 0)), none⟩, ⟨some 7, .mv (.t 6), none⟩, ⟨some 8, .fldA 1 (.t 1), some (7, true)⟩, ⟨some 9, .ld (none) (.t 8), some (7, true)⟩, ⟨some 10, .fldA 0 (.t 1), some (7, true)⟩, ⟨some 11, .ld (none) (.t 10), some (7, true)⟩, ⟨some 12, .lenS (.t 11), some (7, true)⟩, ⟨some 13, .bin .leq (.t 9) (.t 12), some (7, true)⟩, ⟨some 14, .pick (.t 7) (.t 13) (.c (.bool false)), none⟩, ⟨some 3, .mv (.t 14), none⟩]))
    (.seq (.seq (.keep [1, 3] (.ops [⟨some 15, .fldA 2 (.t 1), none⟩, ⟨some 16, .fldA 0 (.t 15), none⟩, ⟨some 17, .ld (none) (.t 16), none⟩, ⟨some 18, .bin .eql (.t 17) (.c (.int .i64 0)), none⟩]))
    (.cond (.t 18)
      (.keep [1, 3] (.ops [⟨some 19, .mv (.t 3), none⟩, ⟨some 20, .mv (.t 19), none⟩, ⟨some 21, .fldA 2 (.t 1), some (20, true)⟩, ⟨some 22, .fldA 1 (.t 21), some (20, true)⟩, ⟨some 23, .ld (none) (.t 22), some (20, true)⟩, ⟨some 24, .bin .eql (.t 23) (.c (.int .i64 0)), some (20, true)⟩, ⟨some 25, .pick (.t 20) (.t 24) (.c (.bool false)), none⟩, ⟨some 3, .mv (.t 25), none⟩]))
      (.keep [1, 3] (.ops [⟨some 26, .mv (.t 3), none⟩, ⟨some 27, .mv (.t 26), none⟩, ⟨some 28, .fldA 2 (.t 1), some (27, true)⟩, ⟨some 29, .fldA 0 (.t 28), some (27, true)⟩, ⟨some 30, .ld (none) (.t 29), some (27, true)⟩, ⟨some 31, .bin .geq (.t 30) (.c (.int .i64 1)), some (27, true)⟩, ⟨some 32, .pick (.t 27) (.t 31) (.c (.bool false)), none⟩, ⟨some 33, .mv (.t 32), none⟩, ⟨some 34, .fldA 2 (.t 1), some (33, true)⟩, ⟨some 35, .fldA 0 (.t 34), some (33, true)⟩, ⟨some 36, .ld (none) (.t 35), some (33, true)⟩, ⟨some 37, .bin .leq (.t 36) (.c (.int .i64 23)), some (33, true)⟩, ⟨some 38, .pick (.t 33) (.t 37) (.c (.bool false)), none⟩, ⟨some 39, .mv (.t 38), none⟩, ⟨some 40, .fldA 2 (.t 1), some (39, true)⟩, ⟨some 41, .fldA 1 (.t 40), some (39, true)⟩, ⟨some 42, .ld (none) (.t 41), some (39, true)⟩, ⟨some 43, .bin .geq (.t 42) (.c (.int .i64 0)), some (39, true)⟩, ⟨some 44, .pick (.t 39) (.t 43) (.c (.bool false)), none⟩, ⟨some 45, .mv (.t 44), none⟩, ⟨some 46, .fldA 2 (.t 1), some (45, true)⟩, ⟨some 47, .fldA 1 (.t 46), some (45, true)⟩, ⟨some 48, .ld (none) (.t 47), some (45, true)⟩, ⟨some 49, .fldA 0 (.t 1), some (45, true)⟩, ⟨some 50, .ld (none) (.t 49), some (45, true)⟩, ⟨some 51, .lenS (.t 50), some (45, true)⟩, ⟨some 52, .bin .leq (.t 48) (.t 51), some (45, true)⟩, ⟨some 53, .pick (.t 45) (.t 52) (.c (.bool false)), none⟩, ⟨some 3, .mv (.t 53), none⟩]))))
    (.seq (.seq (.keep [1, 3] (.ops [⟨some 54, .mv (.t 3), none⟩, ⟨some 55, .un .not (.t 54), none⟩]))
    (.cond (.t 55)
      (.keep [1] (.ops [⟨some 56, .bld [.int .i64 0, .int .i64 0] [(0, 1, (.c (.int .i64 10)))], none⟩, ⟨some 57, .bld [.str [], .int .i64 0, .int .i64 0, .int .i64 0] [(2, 2, (.t 56))], none⟩, ⟨none, .st 4 (.t 1) (.t 57), none⟩]))
      .skip))
    (.seq (.keep [1] (.ops [⟨some 58, .ld (some 4) (.t 1), none⟩, ⟨some 59, .bld [.str [], .int .i64 0, .int .i64 0, .int .i64 0] [(0, 4, (.t 58))], none⟩, ⟨some 60, .box 4 (.t 59), none⟩, ⟨some 2, .mv (.t 60), none⟩]))
    .ret))))), [.t 2], 61⟩
theorem b68 : fB Tryd.prog 68 c68 = true := by kernel_rfl
/-- (*partywall/wire.reading).fail -/
def c69 : CF := ⟨(.seq (.keep [0, 1, 2] (.ops [⟨some 6, .mv (.t 0), none⟩, ⟨some 7, .call 85 [(.t 6)], none⟩]))
    (.cond (.t 7)
      (.keep [0, 1, 2] (.ops [⟨some 8, .mv (.t 0), none⟩, ⟨some 9, .mv (.t 1), none⟩, ⟨some 10, .mv (.t 2), none⟩, ⟨some 11, .bld [.int .i64 0, .int .i64 0] [(0, 1, (.t 9)), (1, 1, (.t 10))], none⟩, ⟨some 12, .nilc (.t 8), none⟩, ⟨some 13, .fldA 0 (.t 12), none⟩, ⟨some 14, .fldA 2 (.t 13), none⟩, ⟨none, .st 2 (.t 14) (.t 11), none⟩]))
      .skip)), [], 15⟩
theorem b69 : fB Tryd.prog 69 c69 = true := by kernel_rfl
/-- partywall/label.Read -/
def c73 : CF := ⟨(.seq (.keep [0] (.ops [⟨some 2, .mv (.c (.int .u64 0)), none⟩, ⟨some 3, .mv (.c (.int .i64 0)), none⟩, ⟨some 4, .alloc [.int .i64 0, .int .i64 0], none⟩]))
    (.scope (.seq (.keep [0, 2, 4] (.ops [⟨some 5, .mv (.f 92), none⟩]))
    (.seq (.seq (.keep [0, 2, 4, 5] (.ops [⟨some 10, .mv (.t 0), none⟩, ⟨some 11, .bin .eql (.t 10) (.c (.str [])), none⟩, ⟨some 12, .mv (.t 11), none⟩, ⟨some 13, .mv (.t 0), some (12, false)⟩, ⟨some 14, .ixS (.t 13) (.c (.int .i64 0)), some (12, false)⟩, ⟨some 15, .bin .neq (.t 14) (.c (.int .u8 123)), some (12, false)⟩, ⟨some 16, .pick (.t 12) (.c (.bool true)) (.t 15), none⟩]))
    (.cond (.t 16)
      (.seq (.keep [4, 5] (.ops [⟨some 17, .mv (.t 5), none⟩, ⟨some 18, .callv (.t 17) [(.c (.int .i64 3)), (.c (.int .i64 0))], none⟩, ⟨some 19, .ext (.t 18) 0, none⟩, ⟨some 20, .ext (.t 18) 1, none⟩, ⟨some 21, .ext (.t 18) 2, none⟩, ⟨some 2, .mv (.t 19), none⟩, ⟨some 3, .mv (.t 20), none⟩, ⟨none, .st 2 (.t 4) (.t 21), none⟩]))
      .ret)
      .skip))
    (.seq (.seq (.keep [0, 2, 4, 5] (.ops [⟨some 22, .mv (.t 0), none⟩, ⟨some 23, .lenS (.t 22), none⟩, ⟨some 24, .bin .gtr (.t 23) (.c (.int .i64 1)), none⟩, ⟨some 25, .mv (.t 24), none⟩, ⟨some 26, .mv (.t 0), some (25, true)⟩, ⟨some 27, .ixS (.t 26) (.c (.int .i64 1)), some (25, true)⟩, ⟨some 28, .bin .eql (.t 27) (.c (.int .u8 125)), some (25, true)⟩, ⟨some 29, .pick (.t 25) (.t 28) (.c (.bool false)), none⟩]))
    (.cond (.t 29)
      (.seq (.keep [4] (.ops [⟨some 30, .bld [.int .i64 0, .int .i64 0] [], none⟩, ⟨some 2, .mv (.c (.int .u64 0)), none⟩, ⟨some 3, .mv (.c (.int .i64 2)), none⟩, ⟨none, .st 2 (.t 4) (.t 30), none⟩]))
      .ret)
      .skip))
    (.seq (.keep [0, 2, 4, 5] (.ops [⟨some 6, .mv (.c (.int .i64 (-1))), none⟩, ⟨some 7, .mv (.c (.int .i64 1)), none⟩]))
    (.seq .skip
    (.seq (.block 0 (.loop (.block 1 (.seq (.keep [0, 2, 4, 5, 6, 7] (.ops [⟨some 31, .mv (.t 7), none⟩, ⟨some 8, .mv (.t 31), none⟩, ⟨some 9, .mv (.c (.int .i64 0)), none⟩]))
    (.seq (.block 2 (.loop (.seq (.seq (.keep [0, 2, 4, 5, 6, 7, 8, 9] (.ops [⟨some 32, .mv (.t 7), none⟩, ⟨some 33, .mv (.t 0), none⟩, ⟨some 34, .lenS (.t 33), none⟩, ⟨some 35, .bin .lss (.t 32) (.t 34), none⟩, ⟨some 36, .mv (.t 35), none⟩, ⟨some 37, .mv (.t 0), some (36, true)⟩, ⟨some 38, .mv (.t 7), some (36, true)⟩, ⟨some 39, .ixS (.t 37) (.t 38), some (36, true)⟩, ⟨some 40, .call 93 [(.t 39)], some (36, true)⟩, ⟨some 41, .pick (.t 36) (.t 40) (.c (.bool false)), none⟩]))
    (.cond (.t 41)
      .skip
      (.exit 2)))
    (.block 3 (.seq (.seq (.keep [0, 2, 4, 5, 6, 7, 8, 9] (.ops [⟨some 42, .mv (.t 7), none⟩, ⟨some 43, .mv (.t 8), none⟩, ⟨some 44, .bin .gtr (.t 42) (.t 43), none⟩, ⟨some 45, .mv (.t 44), none⟩, ⟨some 46, .mv (.t 0), some (45, true)⟩, ⟨some 47, .mv (.t 8), some (45, true)⟩, ⟨some 48, .ixS (.t 46) (.t 47), some (45, true)⟩, ⟨some 49, .bin .eql (.t 48) (.c (.int .u8 48)), some (45, true)⟩, ⟨some 50, .pick (.t 45) (.t 49) (.c (.bool false)), none⟩]))
    (.cond (.t 50)
      (.seq (.keep [4, 5, 7] (.ops [⟨some 51, .mv (.t 5), none⟩, ⟨some 52, .mv (.t 7), none⟩, ⟨some 53, .callv (.t 51) [(.c (.int .i64 3)), (.t 52)], none⟩, ⟨some 54, .ext (.t 53) 0, none⟩, ⟨some 55, .ext (.t 53) 1, none⟩, ⟨some 56, .ext (.t 53) 2, none⟩, ⟨some 2, .mv (.t 54), none⟩, ⟨some 3, .mv (.t 55), none⟩, ⟨none, .st 2 (.t 4) (.t 56), none⟩]))
      .ret)
      .skip))
    (.seq (.keep [0, 2, 4, 5, 6, 7, 8, 9] (.ops [⟨some 57, .mv (.t 9), none⟩, ⟨some 58, .bin .mul (.c (.int .i64 10)) (.t 57), none⟩, ⟨some 59, .mv (.t 0), none⟩, ⟨some 60, .mv (.t 7), none⟩, ⟨some 61, .ixS (.t 59) (.t 60), none⟩, ⟨some 62, .bin .sub (.t 61) (.c (.int .u8 48)), none⟩, ⟨some 63, .cnv .i64 (.t 62), none⟩, ⟨some 64, .bin .add (.t 58) (.t 63), none⟩, ⟨some 65, .mm false (.c (.int .i64 1000)) (.t 64), none⟩, ⟨some 9, .mv (.t 65), none⟩]))
    (.keep [0, 2, 4, 5, 6, 7, 8, 9] (.ops [⟨some 66, .mv (.t 7), none⟩, ⟨some 67, .bin .add (.t 66) (.c (.int .i64 1)), none⟩, ⟨some 7, .mv (.t 67), none⟩]))))))))
    (.seq (.block 4 (.seq (.keep [0, 2, 4, 5, 6, 7, 8, 9] (.ops [⟨some 69, .mv (.t 7), none⟩, ⟨some 70, .mv (.t 8), none⟩, ⟨some 71, .bin .eql (.t 69) (.t 70), none⟩, ⟨some 68, .mv (.t 71), none⟩]))
    (.cond (.t 68)
      (.seq (.keep [4, 5, 7] (.ops [⟨some 72, .mv (.t 5), none⟩, ⟨some 73, .mv (.t 7), none⟩, ⟨some 74, .callv (.t 72) [(.c (.int .i64 3)), (.t 73)], none⟩, ⟨some 75, .ext (.t 74) 0, none⟩, ⟨some 76, .ext (.t 74) 1, none⟩, ⟨some 77, .ext (.t 74) 2, none⟩, ⟨some 2, .mv (.t 75), none⟩, ⟨some 3, .mv (.t 76), none⟩, ⟨none, .st 2 (.t 4) (.t 77), none⟩]))
      .ret)
      (.seq (.keep [0, 2, 4, 5, 6, 7, 8, 9] (.ops [⟨some 79, .mv (.t 9), none⟩, ⟨some 80, .bin .gtr (.t 79) (.c (.int .i64 63)), none⟩, ⟨some 78, .mv (.t 80), none⟩]))
      (.cond (.t 78)
        (.seq (.keep [4, 5, 8] (.ops [⟨some 81, .mv (.t 5), none⟩, ⟨some 82, .mv (.t 8), none⟩, ⟨some 83, .callv (.t 81) [(.c (.int .i64 2)), (.t 82)], none⟩, ⟨some 84, .ext (.t 83) 0, none⟩, ⟨some 85, .ext (.t 83) 1, none⟩, ⟨some 86, .ext (.t 83) 2, none⟩, ⟨some 2, .mv (.t 84), none⟩, ⟨some 3, .mv (.t 85), none⟩, ⟨none, .st 2 (.t 4) (.t 86), none⟩]))
        .ret)
        (.seq (.keep [0, 2, 4, 5, 6, 7, 8, 9] (.ops [⟨some 88, .mv (.t 9), none⟩, ⟨some 89, .mv (.t 6), none⟩, ⟨some 90, .bin .leq (.t 88) (.t 89), none⟩, ⟨some 87, .mv (.t 90), none⟩]))
        (.cond (.t 87)
          (.seq (.keep [4, 5, 8] (.ops [⟨some 91, .mv (.t 5), none⟩, ⟨some 92, .mv (.t 8), none⟩, ⟨some 93, .callv (.t 91) [(.c (.int .i64 9)), (.t 92)], none⟩, ⟨some 94, .ext (.t 93) 0, none⟩, ⟨some 95, .ext (.t 93) 1, none⟩, ⟨some 96, .ext (.t 93) 2, none⟩, ⟨some 2, .mv (.t 94), none⟩, ⟨some 3, .mv (.t 95), none⟩, ⟨none, .st 2 (.t 4) (.t 96), none⟩]))
          .ret)
          .skip)))))))
    (.seq (.keep [0, 2, 4, 5, 7, 9] (.ops [⟨some 97, .mv (.t 2), none⟩, ⟨some 98, .mv (.t 9), none⟩, ⟨some 99, .cnv .u64 (.t 98), none⟩, ⟨some 100, .bin .shl (.c (.int .u64 1)) (.t 99), none⟩, ⟨some 101, .bin .or (.t 97) (.t 100), none⟩, ⟨some 2, .mv (.t 101), none⟩]))
    (.seq (.keep [0, 2, 4, 5, 7, 9] (.ops [⟨some 102, .mv (.t 9), none⟩, ⟨some 6, .mv (.t 102), none⟩]))
    (.seq (.block 5 (.seq (.keep [0, 2, 4, 5, 6, 7] (.ops [⟨some 104, .mv (.t 7), none⟩, ⟨some 105, .mv (.t 0), none⟩, ⟨some 106, .lenS (.t 105), none⟩, ⟨some 107, .bin .eql (.t 104) (.t 106), none⟩, ⟨some 103, .mv (.t 107), none⟩]))
    (.cond (.t 103)
      (.seq (.keep [4, 5, 7] (.ops [⟨some 108, .mv (.t 5), none⟩, ⟨some 109, .mv (.t 7), none⟩, ⟨some 110, .callv (.t 108) [(.c (.int .i64 3)), (.t 109)], none⟩, ⟨some 111, .ext (.t 110) 0, none⟩, ⟨some 112, .ext (.t 110) 1, none⟩, ⟨some 113, .ext (.t 110) 2, none⟩, ⟨some 2, .mv (.t 111), none⟩, ⟨some 3, .mv (.t 112), none⟩, ⟨none, .st 2 (.t 4) (.t 113), none⟩]))
      .ret)
      (.seq (.keep [0, 2, 4, 5, 6, 7] (.ops [⟨some 115, .mv (.t 0), none⟩, ⟨some 116, .mv (.t 7), none⟩, ⟨some 117, .ixS (.t 115) (.t 116), none⟩, ⟨some 118, .bin .eql (.t 117) (.c (.int .u8 125)), none⟩, ⟨some 114, .mv (.t 118), none⟩]))
      (.cond (.t 114)
        (.exit 0)
        (.seq (.keep [0, 2, 4, 5, 6, 7] (.ops [⟨some 120, .mv (.t 0), none⟩, ⟨some 121, .mv (.t 7), none⟩, ⟨some 122, .ixS (.t 120) (.t 121), none⟩, ⟨some 123, .bin .neq (.t 122) (.c (.int .u8 44)), none⟩, ⟨some 119, .mv (.t 123), none⟩]))
        (.cond (.t 119)
          (.seq (.keep [4, 5, 7] (.ops [⟨some 124, .mv (.t 5), none⟩, ⟨some 125, .mv (.t 7), none⟩, ⟨some 126, .callv (.t 124) [(.c (.int .i64 3)), (.t 125)], none⟩, ⟨some 127, .ext (.t 126) 0, none⟩, ⟨some 128, .ext (.t 126) 1, none⟩, ⟨some 129, .ext (.t 126) 2, none⟩, ⟨some 2, .mv (.t 127), none⟩, ⟨some 3, .mv (.t 128), none⟩, ⟨none, .st 2 (.t 4) (.t 129), none⟩]))
          .ret)
          .skip)))))))
    (.keep [0, 2, 4, 5, 6, 7] (.ops [⟨some 130, .mv (.t 7), none⟩, ⟨some 131, .bin .add (.t 130) (.c (.int .i64 1)), none⟩, ⟨some 7, .mv (.t 131), none⟩])))))))))))
    (.seq (.keep [2, 4, 7] (.ops [⟨some 132, .mv (.t 2), none⟩, ⟨some 133, .mv (.t 7), none⟩, ⟨some 134, .bin .add (.t 133) (.c (.int .i64 1)), none⟩, ⟨some 135, .bld [.int .i64 0, .int .i64 0] [], none⟩, ⟨some 2, .mv (.t 132), none⟩, ⟨some 3, .mv (.t 134), none⟩, ⟨none, .st 2 (.t 4) (.t 135), none⟩]))
    .ret))))))))), [.t 2, .t 3, .cl 4 (some 2)], 136⟩
theorem b73 : fB Tryd.prog 73 c73 = true := by kernel_rfl
/-- partywall/sums.digits -/
def c74 : CF := ⟨(.seq (.keep [0] (.ops [⟨some 2, .mv (.c (.int .u64 0)), none⟩, ⟨some 3, .mv (.c (.bool false)), none⟩, ⟨some 4, .mv (.c (.bool false)), none⟩]))
    (.seq (.seq (.keep [0, 2, 3] (.ops [⟨some 10, .mv (.t 0), none⟩, ⟨some 11, .bin .eql (.t 10) (.c (.str [])), none⟩, ⟨some 12, .mv (.t 11), none⟩, ⟨some 13, .mv (.t 0), some (12, false)⟩, ⟨some 14, .lenS (.t 13), some (12, false)⟩, ⟨some 15, .bin .gtr (.t 14) (.c (.int .i64 1)), some (12, false)⟩, ⟨some 16, .mv (.t 15), some (12, false)⟩, ⟨some 17, .mv (.t 0), some (16, true)⟩, ⟨some 18, .ixS (.t 17) (.c (.int .i64 0)), some (16, true)⟩, ⟨some 19, .bin .eql (.t 18) (.c (.int .u8 48)), some (16, true)⟩, ⟨some 20, .pick (.t 16) (.t 19) (.c (.bool false)), some (12, false)⟩, ⟨some 21, .pick (.t 12) (.c (.bool true)) (.t 20), none⟩]))
    (.cond (.t 21)
      (.seq (.keep [] (.ops [⟨some 2, .mv (.c (.int .u64 0)), none⟩, ⟨some 3, .mv (.c (.bool false)), none⟩, ⟨some 4, .mv (.c (.bool false)), none⟩]))
      .ret)
      .skip))
    (.seq (.seq (.keep [0, 2, 3] (.ops [⟨some 22, .mv (.t 0), none⟩, ⟨some 23, .lenS (.t 22), none⟩, ⟨some 24, .mv (.c (.int .i64 0)), none⟩]))
    (.block 0 (.loop (.seq (.keep [0, 2, 3, 23, 24] (.ops [⟨some 25, .bin .lss (.t 24) (.t 23), none⟩]))
    (.seq (.cond (.t 25)
      .skip
      (.exit 0))
    (.seq (.block 1 (.seq (.keep [0, 2, 3, 23, 24] (.ops [⟨some 26, .mv (.t 24), none⟩, ⟨some 5, .mv (.t 26), none⟩]))
    (.seq (.seq (.keep [0, 2, 3, 5, 23, 24] (.ops [⟨some 27, .mv (.t 0), none⟩, ⟨some 28, .mv (.t 5), none⟩, ⟨some 29, .ixS (.t 27) (.t 28), none⟩, ⟨some 30, .bin .lss (.t 29) (.c (.int .u8 48)), none⟩, ⟨some 31, .mv (.t 30), none⟩, ⟨some 32, .mv (.t 0), some (31, false)⟩, ⟨some 33, .mv (.t 5), some (31, false)⟩, ⟨some 34, .ixS (.t 32) (.t 33), some (31, false)⟩, ⟨some 35, .bin .gtr (.t 34) (.c (.int .u8 57)), some (31, false)⟩, ⟨some 36, .pick (.t 31) (.c (.bool true)) (.t 35), none⟩]))
    (.cond (.t 36)
      (.seq (.keep [] (.ops [⟨some 2, .mv (.c (.int .u64 0)), none⟩, ⟨some 3, .mv (.c (.bool false)), none⟩, ⟨some 4, .mv (.c (.bool false)), none⟩]))
      .ret)
      .skip))
    (.seq (.keep [0, 2, 3, 5, 23, 24] (.ops [⟨some 38, .mv (.t 2), none⟩, ⟨some 39, .call 94 [(.t 38), (.c (.int .u64 10))], none⟩, ⟨some 37, .mv (.t 39), none⟩, ⟨some 40, .ext (.t 37) 0, none⟩, ⟨some 41, .ext (.t 37) 1, none⟩, ⟨some 6, .mv (.t 40), none⟩, ⟨some 7, .mv (.t 41), none⟩]))
    (.seq (.keep [0, 3, 5, 6, 7, 23, 24] (.ops [⟨some 43, .mv (.t 7), none⟩, ⟨some 44, .mv (.t 0), none⟩, ⟨some 45, .mv (.t 5), none⟩, ⟨some 46, .ixS (.t 44) (.t 45), none⟩, ⟨some 47, .bin .sub (.t 46) (.c (.int .u8 48)), none⟩, ⟨some 48, .cnv .u64 (.t 47), none⟩, ⟨some 49, .call 95 [(.t 43), (.t 48), (.c (.int .u64 0))], none⟩, ⟨some 42, .mv (.t 49), none⟩, ⟨some 50, .ext (.t 42) 0, none⟩, ⟨some 51, .ext (.t 42) 1, none⟩, ⟨some 8, .mv (.t 50), none⟩, ⟨some 9, .mv (.t 51), none⟩]))
    (.seq (.keep [0, 3, 6, 8, 9, 23, 24] (.ops [⟨some 52, .mv (.t 3), none⟩, ⟨some 53, .mv (.t 52), none⟩, ⟨some 54, .mv (.t 6), some (53, false)⟩, ⟨some 55, .bin .neq (.t 54) (.c (.int .u64 0)), some (53, false)⟩, ⟨some 56, .pick (.t 53) (.c (.bool true)) (.t 55), none⟩, ⟨some 57, .mv (.t 56), none⟩, ⟨some 58, .mv (.t 9), some (57, false)⟩, ⟨some 59, .bin .neq (.t 58) (.c (.int .u64 0)), some (57, false)⟩, ⟨some 60, .pick (.t 57) (.c (.bool true)) (.t 59), none⟩, ⟨some 3, .mv (.t 60), none⟩]))
    (.keep [0, 3, 8, 23, 24] (.ops [⟨some 61, .mv (.t 8), none⟩, ⟨some 2, .mv (.t 61), none⟩]))))))))
    (.keep [0, 2, 3, 23, 24] (.ops [⟨some 62, .bin .add (.t 24) (.c (.int .i64 1)), none⟩, ⟨some 24, .mv (.t 62), none⟩]))))))))
    (.seq (.keep [2, 3] (.ops [⟨some 63, .mv (.t 2), none⟩, ⟨some 64, .mv (.t 3), none⟩, ⟨some 2, .mv (.t 63), none⟩, ⟨some 3, .mv (.t 64), none⟩, ⟨some 4, .mv (.c (.bool true)), none⟩]))
    .ret)))), [.t 2, .t 3, .t 4], 65⟩
theorem b74 : fB Tryd.prog 74 c74 = true := by kernel_rfl
/-- partywall/label.each$1 -/
def c77 : CF := ⟨(.block 0 (.loop (.seq (.seq (.keep [0, 1] (.ops [⟨some 3, .ld (none) (.t 1), none⟩, ⟨some 4, .bin .neq (.t 3) (.c (.int .u64 0)), none⟩]))
    (.cond (.t 4)
      .skip
      (.exit 0)))
    (.seq (.block 1 (.seq (.keep [0, 1] (.ops [⟨some 9, .mv (.t 0), none⟩, ⟨some 10, .ld (none) (.t 1), none⟩, ⟨some 11, .call 78 [(.t 10)], none⟩, ⟨some 12, .callv (.t 9) [(.t 11)], none⟩, ⟨some 13, .un .not (.t 12), none⟩]))
    (.cond (.t 13)
      .ret
      .skip)))
    (.keep [0, 1] (.ops [⟨some 5, .ld (none) (.t 1), none⟩, ⟨some 6, .ld (none) (.t 1), none⟩, ⟨some 7, .bin .sub (.t 6) (.c (.int .u64 1)), none⟩, ⟨some 8, .bin .and (.t 5) (.t 7), none⟩, ⟨none, .st 1 (.t 1) (.t 8), none⟩])))))), [], 14⟩
theorem b77 : fB Tryd.prog 77 c77 = true := by kernel_rfl
/-- math/bits.TrailingZeros64 -/
def c78 : CF := ⟨(.seq (.keep [0] (.ops [⟨some 2, .mv (.c (.int .i64 0)), none⟩]))
    (.seq (.seq (.keep [0] (.ops [⟨some 3, .mv (.t 0), none⟩, ⟨some 4, .bin .eql (.t 3) (.c (.int .u64 0)), none⟩]))
    (.cond (.t 4)
      (.seq (.keep [] (.ops [⟨some 2, .mv (.c (.int .i64 64)), none⟩]))
      .ret)
      .skip))
    (.seq (.keep [0] (.ops [⟨some 5, .mv (.t 0), none⟩, ⟨some 6, .mv (.t 0), none⟩, ⟨some 7, .un .neg (.t 6), none⟩, ⟨some 8, .bin .and (.t 5) (.t 7), none⟩, ⟨some 9, .bin .mul (.t 8) (.c (.int .u64 285870213051353865)), none⟩, ⟨some 10, .bin .shr (.t 9) (.c (.int .u64 58)), none⟩, ⟨some 11, .ixP 64 1 (.g 0) (.t 10), none⟩, ⟨some 12, .ld (none) (.t 11), none⟩, ⟨some 13, .cnv .i64 (.t 12), none⟩, ⟨some 2, .mv (.t 13), none⟩]))
    .ret))), [.t 2], 14⟩
theorem b78 : fB Tryd.prog 78 c78 = true := by kernel_rfl
/-- partywall/wire.sized -/
def c84 : CF := ⟨(.seq (.keep [0] (.ops [⟨some 2, .mv (.c (.bool false)), none⟩]))
    (.seq (.keep [0] (.ops [⟨some 3, .mv (.t 0), none⟩, ⟨some 4, .bin .eql (.t 3) (.c (.int .i64 1)), none⟩, ⟨some 5, .mv (.t 4), none⟩, ⟨some 6, .mv (.t 0), some (5, false)⟩, ⟨some 7, .bin .eql (.t 6) (.c (.int .i64 2)), some (5, false)⟩, ⟨some 8, .pick (.t 5) (.c (.bool true)) (.t 7), none⟩, ⟨some 9, .mv (.t 8), none⟩, ⟨some 10, .mv (.t 0), some (9, false)⟩, ⟨some 11, .bin .eql (.t 10) (.c (.int .i64 4)), some (9, false)⟩, ⟨some 12, .pick (.t 9) (.c (.bool true)) (.t 11), none⟩, ⟨some 13, .mv (.t 12), none⟩, ⟨some 14, .mv (.t 0), some (13, false)⟩, ⟨some 15, .bin .eql (.t 14) (.c (.int .i64 8)), some (13, false)⟩, ⟨some 16, .pick (.t 13) (.c (.bool true)) (.t 15), none⟩, ⟨some 2, .mv (.t 16), none⟩]))
    .ret)), [.t 2], 17⟩
theorem b84 : fB Tryd.prog 84 c84 = true := by kernel_rfl
/-- (*partywall/wire.reading).fine -/
def c85 : CF := ⟨(.seq (.keep [0] (.ops [⟨some 2, .mv (.c (.bool false)), none⟩]))
    (.seq (.keep [0] (.ops [⟨some 3, .mv (.t 0), none⟩, ⟨some 4, .nilc (.t 3), none⟩, ⟨some 5, .fldA 0 (.t 4), none⟩, ⟨some 6, .fldA 2 (.t 5), none⟩, ⟨some 7, .fldA 0 (.t 6), none⟩, ⟨some 8, .ld (none) (.t 7), none⟩, ⟨some 9, .bin .eql (.t 8) (.c (.int .i64 0)), none⟩, ⟨some 2, .mv (.t 9), none⟩]))
    .ret)), [.t 2], 10⟩
theorem b85 : fB Tryd.prog 85 c85 = true := by kernel_rfl
/-- (*partywall/wire.reading).take -/
def c86 : CF := ⟨(.seq (.keep [0, 1] (.ops [⟨some 4, .mv (.c (.str [])), none⟩]))
    (.seq (.seq (.keep [0, 1] (.ops [⟨some 5, .mv (.t 1), none⟩, ⟨some 6, .bin .lss (.t 5) (.c (.int .i64 0)), none⟩]))
    (.cond (.t 6)
      (.keep [0, 1] (.ops [⟨some 7, .mv (.t 0), none⟩, ⟨some 8, .mv (.t 0), none⟩, ⟨some 9, .nilc (.t 8), none⟩, ⟨some 10, .fldA 0 (.t 9), none⟩, ⟨some 11, .fldA 1 (.t 10), none⟩, ⟨some 12, .ld (none) (.t 11), none⟩, ⟨some 13, .call 69 [(.t 7), (.c (.int .i64 2)), (.t 12)], none⟩]))
      (.seq (.keep [0, 1] (.drw [⟨some 14, .mv (.t 1), none⟩, ⟨some 15, .mv (.t 0), none⟩, ⟨some 16, .nilc (.t 15), none⟩, ⟨some 17, .fldA 0 (.t 16), none⟩, ⟨some 18, .fldA 0 (.t 17), none⟩, ⟨some 19, .ld (none) (.t 18), none⟩, ⟨some 20, .lenS (.t 19), none⟩, ⟨some 21, .mv (.t 0), none⟩, ⟨some 22, .nilc (.t 21), none⟩, ⟨some 23, .fldA 0 (.t 22), none⟩, ⟨some 24, .fldA 1 (.t 23), none⟩, ⟨some 25, .ld (none) (.t 24), none⟩, ⟨some 26, .bin .sub (.t 20) (.t 25), none⟩, ⟨some 27, .bin .gtr (.t 14) (.t 26), none⟩] [0, 0, 0, 0, 0, 1, 0, 0, 0, 0, 0, 1, 0, 0]))
      (.cond (.t 27)
        (.keep [0, 1] (.ops [⟨some 28, .mv (.t 0), none⟩, ⟨some 29, .mv (.t 0), none⟩, ⟨some 30, .nilc (.t 29), none⟩, ⟨some 31, .fldA 0 (.t 30), none⟩, ⟨some 32, .fldA 1 (.t 31), none⟩, ⟨some 33, .ld (none) (.t 32), none⟩, ⟨some 34, .call 69 [(.t 28), (.c (.int .i64 5)), (.t 33)], none⟩]))
        .skip))))
    (.seq (.seq (.keep [0, 1] (.ops [⟨some 35, .mv (.t 0), none⟩, ⟨some 36, .call 85 [(.t 35)], none⟩, ⟨some 37, .un .not (.t 36), none⟩]))
    (.cond (.t 37)
      (.seq (.keep [] (.ops [⟨some 4, .mv (.c (.str [])), none⟩]))
      .ret)
      .skip))
    (.seq (.keep [0, 1] (.ops [⟨some 38, .mv (.t 0), none⟩, ⟨some 39, .nilc (.t 38), none⟩, ⟨some 40, .fldA 0 (.t 39), none⟩, ⟨some 41, .fldA 1 (.t 40), none⟩, ⟨some 42, .ld (none) (.t 41), none⟩, ⟨some 43, .mv (.t 1), none⟩, ⟨some 44, .bin .add (.t 42) (.t 43), none⟩, ⟨some 45, .nilc (.t 38), none⟩, ⟨some 46, .fldA 0 (.t 45), none⟩, ⟨some 47, .fldA 1 (.t 46), none⟩, ⟨none, .st 1 (.t 47) (.t 44), none⟩]))
    (.seq (.keep [0, 1] (.drw [⟨some 48, .mv (.t 0), none⟩, ⟨some 49, .nilc (.t 48), none⟩, ⟨some 50, .fldA 0 (.t 49), none⟩, ⟨some 51, .fldA 0 (.t 50), none⟩, ⟨some 52, .ld (none) (.t 51), none⟩, ⟨some 53, .mv (.t 0), none⟩, ⟨some 54, .nilc (.t 53), none⟩, ⟨some 55, .fldA 0 (.t 54), none⟩, ⟨some 56, .fldA 1 (.t 55), none⟩, ⟨some 57, .ld (none) (.t 56), none⟩, ⟨some 58, .mv (.t 1), none⟩, ⟨some 59, .bin .sub (.t 57) (.t 58), none⟩, ⟨some 60, .mv (.t 0), none⟩, ⟨some 61, .nilc (.t 60), none⟩, ⟨some 62, .fldA 0 (.t 61), none⟩, ⟨some 63, .fldA 1 (.t 62), none⟩, ⟨some 64, .ld (none) (.t 63), none⟩, ⟨some 65, .slcS (.t 52) (some (.t 59)) (some (.t 64)), none⟩, ⟨some 4, .mv (.t 65), none⟩] [0, 0, 0, 0, 1, 0, 0, 0, 0, 1, 0, 0, 0, 0, 0, 0, 1, 0, 0]))
    .ret))))), [.t 4], 66⟩
theorem b86 : fB Tryd.prog 86 c86 = true := by kernel_rfl
/-- partywall/wire.number[uint64] -/
def c87 : CF := ⟨(.seq (.keep [0] (.ops [⟨some 2, .mv (.c (.int .u64 0)), none⟩]))
    (.seq (.keep [0] (.ops [⟨some 3, .mv (.c (.int .u64 0)), none⟩]))
    (.seq (.seq (.keep [0, 3] (.ops [⟨some 6, .mv (.t 0), none⟩, ⟨some 7, .s2b (.t 6), none⟩, ⟨some 8, .len (.t 7), none⟩, ⟨some 9, .mv (.c (.int .i64 0)), none⟩]))
    (.block 0 (.loop (.seq (.keep [3, 7, 8, 9] (.ops [⟨some 10, .bin .lss (.t 9) (.t 8), none⟩]))
    (.seq (.cond (.t 10)
      .skip
      (.exit 0))
    (.seq (.block 1 (.seq (.keep [3, 7, 8, 9] (.ops [⟨some 11, .ixA 1 (.t 7) (.t 9), none⟩, ⟨some 12, .ld (none) (.t 11), none⟩, ⟨some 5, .mv (.t 12), none⟩]))
    (.keep [3, 5, 7, 8, 9] (.ops [⟨some 13, .mv (.t 3), none⟩, ⟨some 14, .bin .shl (.t 13) (.c (.int .u64 8)), none⟩, ⟨some 15, .mv (.t 5), none⟩, ⟨some 16, .cnv .u64 (.t 15), none⟩, ⟨some 17, .bin .or (.t 14) (.t 16), none⟩, ⟨some 3, .mv (.t 17), none⟩]))))
    (.keep [3, 7, 8, 9] (.ops [⟨some 18, .bin .add (.t 9) (.c (.int .i64 1)), none⟩, ⟨some 9, .mv (.t 18), none⟩]))))))))
    (.seq (.keep [3] (.ops [⟨some 19, .mv (.t 3), none⟩, ⟨some 2, .mv (.t 19), none⟩]))
    .ret)))), [.t 2], 20⟩
theorem b87 : fB Tryd.prog 87 c87 = true := by kernel_rfl
/-- partywall/label.Read$1 -/
def c92 : CF := ⟨(.seq (.keep [0, 1] (.ops [⟨some 4, .mv (.c (.int .u64 0)), none⟩, ⟨some 5, .mv (.c (.int .i64 0)), none⟩, ⟨some 6, .alloc [.int .i64 0, .int .i64 0], none⟩]))
    (.seq (.keep [0, 1, 6] (.ops [⟨some 7, .mv (.t 0), none⟩, ⟨some 8, .mv (.t 1), none⟩, ⟨some 9, .bld [.int .i64 0, .int .i64 0] [(0, 1, (.t 7)), (1, 1, (.t 8))], none⟩, ⟨some 4, .mv (.c (.int .u64 0)), none⟩, ⟨some 5, .mv (.c (.int .i64 0)), none⟩, ⟨none, .st 2 (.t 6) (.t 9), none⟩]))
    .ret)), [.t 4, .t 5, .cl 6 (some 2)], 10⟩
theorem b92 : fB Tryd.prog 92 c92 = true := by kernel_rfl
/-- partywall/label.digit -/
def c93 : CF := ⟨(.seq (.keep [0] (.ops [⟨some 2, .mv (.c (.bool false)), none⟩]))
    (.seq (.keep [0] (.ops [⟨some 3, .mv (.t 0), none⟩, ⟨some 4, .bin .geq (.t 3) (.c (.int .u8 48)), none⟩, ⟨some 5, .mv (.t 4), none⟩, ⟨some 6, .mv (.t 0), some (5, true)⟩, ⟨some 7, .bin .leq (.t 6) (.c (.int .u8 57)), some (5, true)⟩, ⟨some 8, .pick (.t 5) (.t 7) (.c (.bool false)), none⟩, ⟨some 2, .mv (.t 8), none⟩]))
    .ret)), [.t 2], 9⟩
theorem b93 : fB Tryd.prog 93 c93 = true := by kernel_rfl
end Go.Proofs.YtnmlhilckjmhnaaDoor
namespace Go.Proofs.YtnmlhilckjmhnaaDoor
open Go.Abs
set_option maxRecDepth 100000
/-- strings.Cut -/
def c61 : CF := ⟨(.seq (.keep [0, 1] (.ops [⟨some 4, .mv (.c (.str [])), none⟩, ⟨some 5, .mv (.c (.str [])), none⟩, ⟨some 6, .mv (.c (.bool false)), none⟩]))
    (.seq (.keep [0, 1] (.ops [⟨some 7, .mv (.t 0), none⟩, ⟨some 8, .mv (.t 1), none⟩, ⟨some 9, .call 76 [(.t 7), (.t 8)], none⟩, ⟨some 10, .ext (.t 9) 0, none⟩, ⟨some 11, .ext (.t 9) 1, none⟩, ⟨some 12, .ext (.t 9) 2, none⟩, ⟨some 4, .mv (.t 10), none⟩, ⟨some 5, .mv (.t 11), none⟩, ⟨some 6, .mv (.t 12), none⟩]))
    .ret)), [.t 4, .t 5, .t 6], 13⟩
theorem b61 : fB Tryd.prog 61 c61 = true := by kernel_rfl
/-- internal/stringslite.Cut -/
def c76 : CF := ⟨(.seq (.keep [0, 1] (.ops [⟨some 4, .mv (.c (.str [])), none⟩, ⟨some 5, .mv (.c (.str [])), none⟩, ⟨some 6, .mv (.c (.bool false)), none⟩]))
    (.seq (.seq (.keep [0, 1] (.ops [⟨some 8, .mv (.t 0), none⟩, ⟨some 9, .mv (.t 1), none⟩, ⟨some 10, .call 98 [(.t 8), (.t 9)], none⟩, ⟨some 7, .mv (.t 10), none⟩]))
    (.seq (.keep [0, 1, 7] (.ops [⟨some 11, .mv (.t 7), none⟩, ⟨some 12, .bin .geq (.t 11) (.c (.int .i64 0)), none⟩]))
    (.cond (.t 12)
      (.seq (.keep [0, 1, 7] (.drw [⟨some 13, .mv (.t 0), none⟩, ⟨some 14, .mv (.t 7), none⟩, ⟨some 15, .slcS (.t 13) none (some (.t 14)), none⟩, ⟨some 16, .mv (.t 0), none⟩, ⟨some 17, .mv (.t 7), none⟩, ⟨some 18, .mv (.t 1), none⟩, ⟨some 19, .lenS (.t 18), none⟩, ⟨some 20, .bin .add (.t 17) (.t 19), none⟩, ⟨some 21, .slcS (.t 16) (some (.t 20)) none, none⟩, ⟨some 4, .mv (.t 15), none⟩, ⟨some 5, .mv (.t 21), none⟩, ⟨some 6, .mv (.c (.bool true)), none⟩] [0, 0, 0, 0, 0, 0, 0, 0, 0, 0, 0, 0]))
      .ret)
      .skip)))
    (.seq (.keep [0] (.ops [⟨some 22, .mv (.t 0), none⟩, ⟨some 4, .mv (.t 22), none⟩, ⟨some 5, .mv (.c (.str [])), none⟩, ⟨some 6, .mv (.c (.bool false)), none⟩]))
    .ret))), [.t 4, .t 5, .t 6], 23⟩
theorem b76 : fB Tryd.prog 76 c76 = true := by kernel_rfl
end Go.Proofs.YtnmlhilckjmhnaaDoor
