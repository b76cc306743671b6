import Derived.Test.YtelmgkneacbneaaRows
import Derived.Test.YtelmgkneacbneaaAbs13
namespace Go.Proofs.Ytelmgkneacbneaa
open Go.Abs

/-- partywall/partywalllaw26.light -/
def c8 : CF := ⟨(.seq (.keep [0] (.ops [⟨some 2, .mv (.c (.bool false)), none⟩]))
    (.seq (.seq (.keep [0] (.ops [⟨some 4, .mv (.t 0), none⟩, ⟨some 5, .len (.t 4), none⟩, ⟨some 6, .bin .gtr (.t 5) (.c (.int .i64 80)), none⟩]))
    (.cond (.t 6)
      (.seq (.keep [] (.ops [⟨some 2, .mv (.c (.bool false)), none⟩]))
      .ret)
      .skip))
    (.seq (.seq (.keep [0] (.ops [⟨some 3, .mv (.c (.int .i64 0)), none⟩]))
    (.block 0 (.loop (.seq (.seq (.keep [0, 3] (.ops [⟨some 7, .mv (.t 3), none⟩, ⟨some 8, .mv (.t 0), none⟩, ⟨some 9, .len (.t 8), none⟩, ⟨some 10, .bin .lss (.t 7) (.t 9), none⟩]))
    (.cond (.t 10)
      .skip
      (.exit 0)))
    (.seq (.block 1 (.seq (.keep [0, 3] (.ops [⟨some 13, .mv (.t 0), none⟩, ⟨some 14, .mv (.t 3), none⟩, ⟨some 15, .ixA 7 (.t 13) (.t 14), none⟩, ⟨some 16, .fldA 2 (.t 15), none⟩, ⟨some 17, .ld (none) (.t 16), none⟩, ⟨some 18, .len (.t 17), none⟩, ⟨some 19, .bin .gtr (.t 18) (.c (.int .i64 14)), none⟩, ⟨some 20, .mv (.t 19), none⟩, ⟨some 21, .mv (.t 0), some (20, false)⟩, ⟨some 22, .mv (.t 3), some (20, false)⟩, ⟨some 23, .ixA 7 (.t 21) (.t 22), some (20, false)⟩, ⟨some 24, .fldA 3 (.t 23), some (20, false)⟩, ⟨some 25, .ld (none) (.t 24), some (20, false)⟩, ⟨some 26, .len (.t 25), some (20, false)⟩, ⟨some 27, .bin .gtr (.t 26) (.c (.int .i64 14)), some (20, false)⟩, ⟨some 28, .pick (.t 20) (.c (.bool true)) (.t 27), none⟩, ⟨some 29, .mv (.t 28), none⟩, ⟨some 30, .mv (.t 0), some (29, false)⟩, ⟨some 31, .mv (.t 3), some (29, false)⟩, ⟨some 32, .ixA 7 (.t 30) (.t 31), some (29, false)⟩, ⟨some 33, .fldA 4 (.t 32), some (29, false)⟩, ⟨some 34, .ld (none) (.t 33), some (29, false)⟩, ⟨some 35, .len (.t 34), some (29, false)⟩, ⟨some 36, .bin .gtr (.t 35) (.c (.int .i64 14)), some (29, false)⟩, ⟨some 37, .pick (.t 29) (.c (.bool true)) (.t 36), none⟩]))
    (.cond (.t 37)
      (.seq (.keep [] (.ops [⟨some 2, .mv (.c (.bool false)), none⟩]))
      .ret)
      .skip)))
    (.keep [0, 3] (.ops [⟨some 11, .mv (.t 3), none⟩, ⟨some 12, .bin .add (.t 11) (.c (.int .i64 1)), none⟩, ⟨some 3, .mv (.t 12), none⟩])))))))
    (.seq (.keep [] (.ops [⟨some 2, .mv (.c (.bool true)), none⟩]))
    .ret)))), [.t 2], 38⟩
theorem b8 : fB Try.prog 8 c8 = true := by kernel_rfl

/-- partywall/partywalllaw26.own -/
def c10 : CF := ⟨(.seq (.keep [0] (.ops [⟨some 1, .box 3 (.t 0), none⟩, ⟨some 2, .alloc [.int .i64 0, .nils, .int .i64 0], none⟩]))
    (.seq (.keep [1, 2] (.ops [⟨some 3, .fldA 1 (.t 1), none⟩, ⟨some 4, .ld (none) (.t 3), none⟩, ⟨some 5, .call 11 [(.t 4)], none⟩, ⟨some 6, .fldA 1 (.t 1), none⟩, ⟨none, .st 1 (.t 6) (.t 5), none⟩]))
    (.seq (.keep [1, 2] (.ops [⟨some 7, .ld (some 3) (.t 1), none⟩, ⟨none, .st 3 (.t 2) (.t 7), none⟩]))
    .ret))), [.cl 2 (some 3)], 8⟩
theorem b10 : fB Try.prog 10 c10 = true := by kernel_rfl

/-- partywall/partywallkit.OwnItems -/
def c11 : CF := ⟨(.seq (.keep [0] (.ops [⟨some 2, .mv (.c .nils), none⟩]))
    (.seq (.keep [0] (.ops [⟨some 5, .mkSl 7 0 [] [], none⟩, ⟨some 3, .mv (.t 5), none⟩]))
    (.seq (.seq (.keep [0, 3] (.ops [⟨some 4, .mv (.c (.int .i64 0)), none⟩]))
    (.block 0 (.loop (.seq (.seq (.keep [0, 3, 4] (.ops [⟨some 6, .mv (.t 4), none⟩, ⟨some 7, .mv (.t 0), none⟩, ⟨some 8, .len (.t 7), none⟩, ⟨some 9, .bin .lss (.t 6) (.t 8), none⟩]))
    (.cond (.t 9)
      .skip
      (.exit 0)))
    (.seq (.block 1 (.keep [0, 3, 4] (.ops [⟨some 12, .mv (.t 3), none⟩, ⟨some 13, .mv (.t 0), none⟩, ⟨some 14, .mv (.t 4), none⟩, ⟨some 15, .ixA 7 (.t 13) (.t 14), none⟩, ⟨some 16, .ld (some 7) (.t 15), none⟩, ⟨some 17, .call 36 [(.t 16)], none⟩, ⟨some 18, .mkSl 7 1 [.int .i64 0, .int .i64 0, .nils, .nils, .nils, .int .i64 0, .int .i64 0] [(0, 7, (.t 17))], none⟩, ⟨some 19, .app false 42 7 104 (.t 12) (.t 18), none⟩, ⟨some 3, .mv (.t 19), none⟩])))
    (.keep [0, 3, 4] (.ops [⟨some 10, .mv (.t 4), none⟩, ⟨some 11, .bin .add (.t 10) (.c (.int .i64 1)), none⟩, ⟨some 4, .mv (.t 11), none⟩])))))))
    (.seq (.keep [3] (.ops [⟨some 20, .mv (.t 3), none⟩, ⟨some 2, .mv (.t 20), none⟩]))
    .ret)))), [.t 2], 21⟩
theorem b11 : fB Try.prog 11 c11 = true := by kernel_rfl

/-- partywall/queue.New -/
def c12 : CF := ⟨(.seq (.keep [0] (.ops [⟨some 2, .alloc [.int .i64 0, .nils, .int .i64 0], none⟩, ⟨some 3, .mv (.c (.int .i64 0)), none⟩]))
    (.seq (.seq (.keep [0, 2] (.ops [⟨some 4, .mv (.t 0), none⟩, ⟨some 5, .bin .lss (.t 4) (.c (.int .i64 0)), none⟩, ⟨some 6, .mv (.t 5), none⟩, ⟨some 7, .mv (.t 0), some (6, false)⟩, ⟨some 8, .bin .gtr (.t 7) (.c (.int .i64 64)), some (6, false)⟩, ⟨some 9, .pick (.t 6) (.c (.bool true)) (.t 8), none⟩]))
    (.cond (.t 9)
      (.seq (.keep [2] (.ops [⟨some 10, .bld [.int .i64 0, .nils, .int .i64 0] [], none⟩, ⟨none, .st 3 (.t 2) (.t 10), none⟩, ⟨some 3, .mv (.c (.int .i64 2)), none⟩]))
      .ret)
      .skip))
    (.seq (.keep [0, 2] (.ops [⟨some 11, .mv (.t 0), none⟩, ⟨some 12, .bld [.int .i64 0, .nils, .int .i64 0] [(0, 1, (.t 11))], none⟩, ⟨none, .st 3 (.t 2) (.t 12), none⟩, ⟨some 3, .mv (.c (.int .i64 0)), none⟩]))
    .ret))), [.cl 2 (some 3), .t 3], 13⟩
theorem b12 : fB Try.prog 12 c12 = true := by kernel_rfl

/-- partywall/partywallref26.New -/
def c13 : CF := ⟨(.seq (.keep [0] (.ops [⟨some 2, .alloc [.int .i64 0, .nils, .int .i64 0], none⟩, ⟨some 3, .mv (.c (.int .i64 0)), none⟩]))
    (.seq (.seq (.keep [0, 2] (.ops [⟨some 4, .mv (.t 0), none⟩, ⟨some 5, .bin .lss (.t 4) (.c (.int .i64 0)), none⟩, ⟨some 6, .mv (.t 5), none⟩, ⟨some 7, .mv (.t 0), some (6, false)⟩, ⟨some 8, .bin .gtr (.t 7) (.c (.int .i64 64)), some (6, false)⟩, ⟨some 9, .pick (.t 6) (.c (.bool true)) (.t 8), none⟩]))
    (.cond (.t 9)
      (.seq (.keep [2] (.ops [⟨some 10, .bld [.int .i64 0, .nils, .int .i64 0] [], none⟩, ⟨none, .st 3 (.t 2) (.t 10), none⟩, ⟨some 3, .mv (.c (.int .i64 2)), none⟩]))
      .ret)
      .skip))
    (.seq (.keep [0, 2] (.ops [⟨some 11, .mv (.t 0), none⟩, ⟨some 12, .bld [.int .i64 0, .nils, .int .i64 0] [(0, 1, (.t 11))], none⟩, ⟨none, .st 3 (.t 2) (.t 12), none⟩, ⟨some 3, .mv (.c (.int .i64 0)), none⟩]))
    .ret))), [.cl 2 (some 3), .t 3], 13⟩
theorem b13 : fB Try.prog 13 c13 = true := by kernel_rfl

/-- partywall/partywalllaw26.equal -/
def c14 : CF := ⟨(.seq (.keep [0, 1] (.ops [⟨some 2, .box 3 (.t 0), none⟩, ⟨some 3, .box 3 (.t 1), none⟩, ⟨some 4, .mv (.c (.bool false)), none⟩]))
    (.seq (.keep [2, 3] (.ops [⟨some 5, .fldA 0 (.t 2), none⟩, ⟨some 6, .ld (none) (.t 5), none⟩, ⟨some 7, .fldA 0 (.t 3), none⟩, ⟨some 8, .ld (none) (.t 7), none⟩, ⟨some 9, .bin .eql (.t 6) (.t 8), none⟩, ⟨some 10, .mv (.t 9), none⟩, ⟨some 11, .fldA 2 (.t 2), some (10, true)⟩, ⟨some 12, .ld (none) (.t 11), some (10, true)⟩, ⟨some 13, .fldA 2 (.t 3), some (10, true)⟩, ⟨some 14, .ld (none) (.t 13), some (10, true)⟩, ⟨some 15, .bin .eql (.t 12) (.t 14), some (10, true)⟩, ⟨some 16, .pick (.t 10) (.t 15) (.c (.bool false)), none⟩, ⟨some 17, .mv (.t 16), none⟩, ⟨some 18, .fldA 1 (.t 2), some (17, true)⟩, ⟨some 19, .ld (none) (.t 18), some (17, true)⟩, ⟨some 20, .fldA 1 (.t 3), some (17, true)⟩, ⟨some 21, .ld (none) (.t 20), some (17, true)⟩, ⟨some 22, .call 23 [(.t 19), (.t 21)], some (17, true)⟩, ⟨some 23, .pick (.t 17) (.t 22) (.c (.bool false)), none⟩, ⟨some 4, .mv (.t 23), none⟩]))
    .ret)), [.t 4], 24⟩
theorem b14 : fB Try.prog 14 c14 = true := by kernel_rfl

/-- partywall/queue.Check -/
def c15 : CF := ⟨(.seq (.keep [0] (.ops [⟨some 1, .box 3 (.t 0), none⟩, ⟨some 2, .mv (.c (.int .i64 0)), none⟩]))
    (.seq (.block 0 (.seq (.keep [1] (.ops [⟨some 4, .fldA 0 (.t 1), none⟩, ⟨some 5, .ld (none) (.t 4), none⟩, ⟨some 6, .bin .lss (.t 5) (.c (.int .i64 0)), none⟩, ⟨some 7, .mv (.t 6), none⟩, ⟨some 8, .fldA 0 (.t 1), some (7, false)⟩, ⟨some 9, .ld (none) (.t 8), some (7, false)⟩, ⟨some 10, .bin .gtr (.t 9) (.c (.int .i64 64)), some (7, false)⟩, ⟨some 11, .pick (.t 7) (.c (.bool true)) (.t 10), none⟩, ⟨some 12, .mv (.t 11), none⟩, ⟨some 13, .fldA 2 (.t 1), some (12, false)⟩, ⟨some 14, .ld (none) (.t 13), some (12, false)⟩, ⟨some 15, .bin .lss (.t 14) (.c (.int .i64 0)), some (12, false)⟩, ⟨some 16, .pick (.t 12) (.c (.bool true)) (.t 15), none⟩, ⟨some 17, .mv (.t 16), none⟩, ⟨some 18, .fldA 2 (.t 1), some (17, false)⟩, ⟨some 19, .ld (none) (.t 18), some (17, false)⟩, ⟨some 20, .bin .gtr (.t 19) (.c (.int .i64 1099511627776)), some (17, false)⟩, ⟨some 21, .pick (.t 17) (.c (.bool true)) (.t 20), none⟩, ⟨some 3, .mv (.t 21), none⟩]))
    (.cond (.t 3)
      (.seq (.keep [] (.ops [⟨some 2, .mv (.c (.int .i64 2)), none⟩]))
      .ret)
      (.seq (.keep [1] (.ops [⟨some 23, .fldA 1 (.t 1), none⟩, ⟨some 24, .ld (none) (.t 23), none⟩, ⟨some 25, .len (.t 24), none⟩, ⟨some 26, .fldA 0 (.t 1), none⟩, ⟨some 27, .ld (none) (.t 26), none⟩, ⟨some 28, .bin .gtr (.t 25) (.t 27), none⟩, ⟨some 22, .mv (.t 28), none⟩]))
      (.cond (.t 22)
        (.seq (.keep [] (.ops [⟨some 2, .mv (.c (.int .i64 6)), none⟩]))
        .ret)
        .skip)))))
    (.seq (.keep [1] (.ops [⟨some 29, .fldA 1 (.t 1), none⟩, ⟨some 30, .ld (none) (.t 29), none⟩, ⟨some 31, .call 37 [(.t 30)], none⟩, ⟨some 2, .mv (.t 31), none⟩]))
    .ret))), [.t 2], 32⟩
theorem b15 : fB Try.prog 15 c15 = true := by kernel_rfl

/-- partywall/partywallref26.Check -/
def c16 : CF := ⟨(.seq (.keep [0] (.ops [⟨some 1, .box 3 (.t 0), none⟩, ⟨some 2, .mv (.c (.int .i64 0)), none⟩]))
    (.seq (.block 0 (.seq (.keep [1] (.ops [⟨some 4, .fldA 0 (.t 1), none⟩, ⟨some 5, .ld (none) (.t 4), none⟩, ⟨some 6, .bin .lss (.t 5) (.c (.int .i64 0)), none⟩, ⟨some 7, .mv (.t 6), none⟩, ⟨some 8, .fldA 0 (.t 1), some (7, false)⟩, ⟨some 9, .ld (none) (.t 8), some (7, false)⟩, ⟨some 10, .bin .gtr (.t 9) (.c (.int .i64 64)), some (7, false)⟩, ⟨some 11, .pick (.t 7) (.c (.bool true)) (.t 10), none⟩, ⟨some 12, .mv (.t 11), none⟩, ⟨some 13, .fldA 2 (.t 1), some (12, false)⟩, ⟨some 14, .ld (none) (.t 13), some (12, false)⟩, ⟨some 15, .bin .lss (.t 14) (.c (.int .i64 0)), some (12, false)⟩, ⟨some 16, .pick (.t 12) (.c (.bool true)) (.t 15), none⟩, ⟨some 17, .mv (.t 16), none⟩, ⟨some 18, .fldA 2 (.t 1), some (17, false)⟩, ⟨some 19, .ld (none) (.t 18), some (17, false)⟩, ⟨some 20, .bin .gtr (.t 19) (.c (.int .i64 1099511627776)), some (17, false)⟩, ⟨some 21, .pick (.t 17) (.c (.bool true)) (.t 20), none⟩, ⟨some 3, .mv (.t 21), none⟩]))
    (.cond (.t 3)
      (.seq (.keep [] (.ops [⟨some 2, .mv (.c (.int .i64 2)), none⟩]))
      .ret)
      (.seq (.keep [1] (.ops [⟨some 23, .fldA 1 (.t 1), none⟩, ⟨some 24, .ld (none) (.t 23), none⟩, ⟨some 25, .len (.t 24), none⟩, ⟨some 26, .fldA 0 (.t 1), none⟩, ⟨some 27, .ld (none) (.t 26), none⟩, ⟨some 28, .bin .gtr (.t 25) (.t 27), none⟩, ⟨some 22, .mv (.t 28), none⟩]))
      (.cond (.t 22)
        (.seq (.keep [] (.ops [⟨some 2, .mv (.c (.int .i64 6)), none⟩]))
        .ret)
        .skip)))))
    (.seq (.keep [1] (.ops [⟨some 29, .fldA 1 (.t 1), none⟩, ⟨some 30, .ld (none) (.t 29), none⟩, ⟨some 31, .call 38 [(.t 30)], none⟩, ⟨some 2, .mv (.t 31), none⟩]))
    .ret))), [.t 2], 32⟩
theorem b16 : fB Try.prog 16 c16 = true := by kernel_rfl

/-- partywall/queue.PutAll -/
def c17 : CF := ⟨(.seq (.keep [0, 1] (.ops [⟨some 2, .box 3 (.t 0), none⟩, ⟨some 4, .alloc [.int .i64 0, .nils, .int .i64 0], none⟩, ⟨some 5, .mv (.c (.int .i64 0)), none⟩, ⟨some 6, .mv (.c (.int .i64 0)), none⟩]))
    (.seq (.keep [1, 2, 4] (.ops [⟨some 12, .ld (some 3) (.t 2), none⟩, ⟨some 13, .call 15 [(.t 12)], none⟩, ⟨some 7, .mv (.t 13), none⟩]))
    (.seq (.seq (.keep [1, 2, 4, 7] (.ops [⟨some 14, .mv (.t 7), none⟩, ⟨some 15, .bin .eql (.t 14) (.c (.int .i64 0)), none⟩]))
    (.cond (.t 15)
      (.keep [1, 2, 4] (.ops [⟨some 16, .mv (.t 1), none⟩, ⟨some 17, .call 37 [(.t 16)], none⟩, ⟨some 7, .mv (.t 17), none⟩]))
      .skip))
    (.seq (.seq (.keep [1, 2, 4, 7] (.ops [⟨some 18, .mv (.t 7), none⟩, ⟨some 19, .bin .neq (.t 18) (.c (.int .i64 0)), none⟩]))
    (.cond (.t 19)
      (.seq (.keep [4, 7] (.ops [⟨some 20, .bld [.int .i64 0, .nils, .int .i64 0] [], none⟩, ⟨some 21, .mv (.t 7), none⟩, ⟨none, .st 3 (.t 4) (.t 20), none⟩, ⟨some 5, .mv (.c (.int .i64 0)), none⟩, ⟨some 6, .mv (.t 21), none⟩]))
      .ret)
      .skip))
    (.seq (.keep [1, 2, 4] (.ops [⟨some 22, .ld (some 3) (.t 2), none⟩, ⟨some 23, .bld [.int .i64 0, .nils, .int .i64 0] [(0, 3, (.t 22))], none⟩, ⟨some 8, .alloc [.int .i64 0, .nils, .int .i64 0], none⟩, ⟨none, .st 3 (.t 8) (.t 23), none⟩, ⟨some 9, .mv (.c (.int .u64 0)), none⟩]))
    (.seq (.seq (.keep [1, 4, 8, 9] (.ops [⟨some 24, .mv (.t 1), none⟩, ⟨some 25, .len (.t 24), none⟩, ⟨some 26, .mv (.c (.int .i64 0)), none⟩]))
    (.block 0 (.loop (.seq (.keep [4, 8, 9, 24, 25, 26] (.ops [⟨some 27, .bin .lss (.t 26) (.t 25), none⟩]))
    (.seq (.cond (.t 27)
      .skip
      (.exit 0))
    (.seq (.block 1 (.seq (.keep [4, 8, 9, 24, 25, 26] (.ops [⟨some 28, .ixA 7 (.t 24) (.t 26), none⟩, ⟨some 29, .ld (some 7) (.t 28), none⟩, ⟨some 11, .alloc [.int .i64 0, .int .i64 0, .nils, .nils, .nils, .int .i64 0, .int .i64 0], none⟩, ⟨none, .st 7 (.t 11) (.t 29), none⟩]))
    (.seq (.keep [4, 8, 9, 11, 24, 25, 26] (.ops [⟨some 30, .ld (some 7) (.t 11), none⟩, ⟨some 31, .call 39 [(.t 8), (.t 30)], none⟩]))
    (.cond (.t 31)
      (.keep [4, 8, 9, 24, 25, 26] (.ops [⟨some 32, .mv (.t 9), none⟩, ⟨some 33, .bin .add (.t 32) (.c (.int .u64 1)), none⟩, ⟨some 9, .mv (.t 33), none⟩]))
      .skip))))
    (.keep [4, 8, 9, 24, 25, 26] (.ops [⟨some 34, .bin .add (.t 26) (.c (.int .i64 1)), none⟩, ⟨some 26, .mv (.t 34), none⟩]))))))))
    (.seq (.keep [4, 8, 9] (.ops [⟨some 35, .fldA 0 (.t 8), none⟩, ⟨some 36, .ld (some 3) (.t 35), none⟩, ⟨some 37, .mv (.t 9), none⟩, ⟨some 38, .cnv .i64 (.t 37), none⟩, ⟨none, .st 3 (.t 4) (.t 36), none⟩, ⟨some 5, .mv (.t 38), none⟩, ⟨some 6, .mv (.c (.int .i64 0)), none⟩]))
    .ret))))))), [.cl 4 (some 3), .t 5, .t 6], 39⟩
theorem b17 : fB Try.prog 17 c17 = true := by kernel_rfl

/-- partywall/partywallref26.PutAll -/
def c18 : CF := ⟨(.seq (.keep [0, 1] (.ops [⟨some 2, .box 3 (.t 0), none⟩, ⟨some 4, .alloc [.int .i64 0, .nils, .int .i64 0], none⟩, ⟨some 5, .mv (.c (.int .i64 0)), none⟩, ⟨some 6, .mv (.c (.int .i64 0)), none⟩]))
    (.seq (.keep [1, 2, 4] (.ops [⟨some 12, .ld (some 3) (.t 2), none⟩, ⟨some 13, .mv (.t 1), none⟩, ⟨some 14, .call 40 [(.t 12), (.t 13)], none⟩, ⟨some 7, .mv (.t 14), none⟩]))
    (.seq (.seq (.keep [1, 2, 4, 7] (.ops [⟨some 15, .mv (.t 7), none⟩, ⟨some 16, .bin .neq (.t 15) (.c (.int .i64 0)), none⟩]))
    (.cond (.t 16)
      (.seq (.keep [4, 7] (.ops [⟨some 17, .bld [.int .i64 0, .nils, .int .i64 0] [], none⟩, ⟨some 18, .mv (.t 7), none⟩, ⟨none, .st 3 (.t 4) (.t 17), none⟩, ⟨some 5, .mv (.c (.int .i64 0)), none⟩, ⟨some 6, .mv (.t 18), none⟩]))
      .ret)
      .skip))
    (.seq (.keep [1, 2, 4] (.ops [⟨some 19, .fldA 1 (.t 2), none⟩, ⟨some 20, .ld (none) (.t 19), none⟩, ⟨some 21, .call 41 [(.t 20)], none⟩, ⟨some 22, .fldA 1 (.t 2), none⟩, ⟨none, .st 1 (.t 22) (.t 21), none⟩]))
    (.seq (.keep [1, 2, 4] (.ops [⟨some 8, .mv (.c (.int .i64 0)), none⟩]))
    (.seq (.seq (.keep [1, 2, 4, 8] (.ops [⟨some 9, .mv (.c (.int .i64 0)), none⟩]))
    (.block 0 (.loop (.seq (.seq (.keep [1, 2, 4, 8, 9] (.ops [⟨some 23, .mv (.t 9), none⟩, ⟨some 24, .mv (.t 1), none⟩, ⟨some 25, .len (.t 24), none⟩, ⟨some 26, .bin .lss (.t 23) (.t 25), none⟩]))
    (.cond (.t 26)
      .skip
      (.exit 0)))
    (.seq (.block 1 (.seq (.keep [1, 2, 4, 8, 9] (.drw [⟨some 30, .ld (some 3) (.t 2), none⟩, ⟨some 31, .mv (.t 1), none⟩, ⟨some 32, .mv (.t 9), none⟩, ⟨some 33, .ixA 7 (.t 31) (.t 32), none⟩, ⟨some 34, .ld (some 7) (.t 33), none⟩, ⟨some 35, .call 42 [(.t 30), (.t 34)], none⟩, ⟨some 29, .mv (.t 35), none⟩, ⟨some 36, .ext (.t 29) 0, none⟩, ⟨some 37, .ext (.t 29) 1, none⟩, ⟨some 10, .alloc [.int .i64 0, .nils, .int .i64 0], none⟩, ⟨none, .st 3 (.t 10) (.t 36), none⟩, ⟨some 11, .mv (.t 37), none⟩] [1, 0, 0, 0, 1, 1, 0, 0, 0, 3, 2, 0]))
    (.seq (.keep [1, 2, 4, 8, 9, 10, 11] (.ops [⟨some 38, .ld (some 3) (.t 10), none⟩, ⟨none, .st 3 (.t 2) (.t 38), none⟩]))
    (.seq (.keep [1, 2, 4, 8, 9, 11] (.ops [⟨some 39, .mv (.t 11), none⟩]))
    (.cond (.t 39)
      (.keep [1, 2, 4, 8, 9] (.ops [⟨some 40, .mv (.t 8), none⟩, ⟨some 41, .bin .add (.t 40) (.c (.int .i64 1)), none⟩, ⟨some 8, .mv (.t 41), none⟩]))
      .skip)))))
    (.keep [1, 2, 4, 8, 9] (.ops [⟨some 27, .mv (.t 9), none⟩, ⟨some 28, .bin .add (.t 27) (.c (.int .i64 1)), none⟩, ⟨some 9, .mv (.t 28), none⟩])))))))
    (.seq (.keep [2, 4, 8] (.ops [⟨some 42, .ld (some 3) (.t 2), none⟩, ⟨some 43, .mv (.t 8), none⟩, ⟨none, .st 3 (.t 4) (.t 42), none⟩, ⟨some 5, .mv (.t 43), none⟩, ⟨some 6, .mv (.c (.int .i64 0)), none⟩]))
    .ret))))))), [.cl 4 (some 3), .t 5, .t 6], 44⟩
theorem b18 : fB Try.prog 18 c18 = true := by kernel_rfl

/-- partywall/queue.Put -/
def c19 : CF := ⟨(.seq (.keep [0, 1] (.ops [⟨some 2, .box 3 (.t 0), none⟩, ⟨some 3, .box 7 (.t 1), none⟩, ⟨some 4, .alloc [.int .i64 0, .nils, .int .i64 0], none⟩, ⟨some 5, .mv (.c (.bool false)), none⟩, ⟨some 6, .mv (.c (.int .i64 0)), none⟩]))
    (.seq (.keep [2, 3, 4] (.ops [⟨some 11, .ld (some 3) (.t 2), none⟩, ⟨some 12, .ld (some 7) (.t 3), none⟩, ⟨some 13, .mkSl 7 1 [.int .i64 0, .int .i64 0, .nils, .nils, .nils, .int .i64 0, .int .i64 0] [(0, 7, (.t 12))], none⟩, ⟨some 14, .call 17 [(.t 11), (.t 13)], none⟩, ⟨some 10, .mv (.t 14), none⟩, ⟨some 15, .ext (.t 10) 0, none⟩, ⟨some 16, .ext (.t 10) 1, none⟩, ⟨some 17, .ext (.t 10) 2, none⟩, ⟨some 7, .alloc [.int .i64 0, .nils, .int .i64 0], none⟩, ⟨none, .st 3 (.t 7) (.t 15), none⟩, ⟨some 8, .mv (.t 16), none⟩, ⟨some 9, .mv (.t 17), none⟩]))
    (.seq (.keep [4, 7, 8, 9] (.ops [⟨some 18, .ld (some 3) (.t 7), none⟩, ⟨some 19, .mv (.t 8), none⟩, ⟨some 20, .bin .eql (.t 19) (.c (.int .i64 1)), none⟩, ⟨some 21, .mv (.t 9), none⟩, ⟨none, .st 3 (.t 4) (.t 18), none⟩, ⟨some 5, .mv (.t 20), none⟩, ⟨some 6, .mv (.t 21), none⟩]))
    .ret))), [.cl 4 (some 3), .t 5, .t 6], 22⟩
theorem b19 : fB Try.prog 19 c19 = true := by kernel_rfl

/-- partywall/partywallref26.Put -/
def c20 : CF := ⟨(.seq (.keep [0, 1] (.ops [⟨some 2, .box 3 (.t 0), none⟩, ⟨some 3, .box 7 (.t 1), none⟩, ⟨some 4, .alloc [.int .i64 0, .nils, .int .i64 0], none⟩, ⟨some 5, .mv (.c (.bool false)), none⟩, ⟨some 6, .mv (.c (.int .i64 0)), none⟩]))
    (.seq (.keep [2, 3, 4] (.ops [⟨some 9, .ld (some 3) (.t 2), none⟩, ⟨some 10, .ld (some 7) (.t 3), none⟩, ⟨some 11, .mkSl 7 1 [.int .i64 0, .int .i64 0, .nils, .nils, .nils, .int .i64 0, .int .i64 0] [(0, 7, (.t 10))], none⟩, ⟨some 12, .call 40 [(.t 9), (.t 11)], none⟩, ⟨some 7, .mv (.t 12), none⟩]))
    (.seq (.seq (.keep [2, 3, 4, 7] (.ops [⟨some 13, .mv (.t 7), none⟩, ⟨some 14, .bin .neq (.t 13) (.c (.int .i64 0)), none⟩]))
    (.cond (.t 14)
      (.seq (.keep [4, 7] (.ops [⟨some 15, .bld [.int .i64 0, .nils, .int .i64 0] [], none⟩, ⟨some 16, .mv (.t 7), none⟩, ⟨none, .st 3 (.t 4) (.t 15), none⟩, ⟨some 5, .mv (.c (.bool false)), none⟩, ⟨some 6, .mv (.t 16), none⟩]))
      .ret)
      .skip))
    (.seq (.keep [2, 3, 4] (.ops [⟨some 17, .fldA 1 (.t 2), none⟩, ⟨some 18, .ld (none) (.t 17), none⟩, ⟨some 19, .call 41 [(.t 18)], none⟩, ⟨some 20, .fldA 1 (.t 2), none⟩, ⟨none, .st 1 (.t 20) (.t 19), none⟩]))
    (.seq (.keep [2, 3, 4] (.ops [⟨some 22, .ld (some 3) (.t 2), none⟩, ⟨some 23, .ld (some 7) (.t 3), none⟩, ⟨some 24, .call 42 [(.t 22), (.t 23)], none⟩, ⟨some 21, .mv (.t 24), none⟩, ⟨some 25, .ext (.t 21) 0, none⟩, ⟨some 26, .ext (.t 21) 1, none⟩, ⟨none, .st 3 (.t 2) (.t 25), none⟩, ⟨some 8, .mv (.t 26), none⟩]))
    (.seq (.keep [2, 4, 8] (.ops [⟨some 27, .ld (some 3) (.t 2), none⟩, ⟨some 28, .mv (.t 8), none⟩, ⟨none, .st 3 (.t 4) (.t 27), none⟩, ⟨some 5, .mv (.t 28), none⟩, ⟨some 6, .mv (.c (.int .i64 0)), none⟩]))
    .ret)))))), [.cl 4 (some 3), .t 5, .t 6], 29⟩
theorem b20 : fB Try.prog 20 c20 = true := by kernel_rfl

/-- partywall/queue.Room -/
def c21 : CF := ⟨(.seq (.keep [0] (.ops [⟨some 1, .box 3 (.t 0), none⟩, ⟨some 2, .mv (.c (.int .i64 0)), none⟩, ⟨some 3, .mv (.c (.int .i64 0)), none⟩]))
    (.seq (.seq (.keep [1] (.ops [⟨some 5, .ld (some 3) (.t 1), none⟩, ⟨some 6, .call 15 [(.t 5)], none⟩, ⟨some 4, .mv (.t 6), none⟩]))
    (.seq (.keep [1, 4] (.ops [⟨some 7, .mv (.t 4), none⟩, ⟨some 8, .bin .neq (.t 7) (.c (.int .i64 0)), none⟩]))
    (.cond (.t 8)
      (.seq (.keep [4] (.ops [⟨some 9, .mv (.t 4), none⟩, ⟨some 2, .mv (.c (.int .i64 0)), none⟩, ⟨some 3, .mv (.t 9), none⟩]))
      .ret)
      .skip)))
    (.seq (.keep [1] (.ops [⟨some 10, .ld (some 3) (.t 1), none⟩, ⟨some 11, .bld [.int .i64 0, .nils, .int .i64 0] [(0, 3, (.t 10))], none⟩, ⟨some 12, .call 43 [(.t 11)], none⟩, ⟨some 2, .mv (.t 12), none⟩, ⟨some 3, .mv (.c (.int .i64 0)), none⟩]))
    .ret))), [.t 2, .t 3], 13⟩
theorem b21 : fB Try.prog 21 c21 = true := by kernel_rfl

/-- partywall/partywallref26.Room -/
def c22 : CF := ⟨(.seq (.keep [0] (.ops [⟨some 1, .box 3 (.t 0), none⟩, ⟨some 2, .mv (.c (.int .i64 0)), none⟩, ⟨some 3, .mv (.c (.int .i64 0)), none⟩]))
    (.seq (.keep [1] (.ops [⟨some 5, .ld (some 3) (.t 1), none⟩, ⟨some 6, .call 16 [(.t 5)], none⟩, ⟨some 4, .mv (.t 6), none⟩]))
    (.seq (.seq (.keep [1, 4] (.ops [⟨some 7, .mv (.t 4), none⟩, ⟨some 8, .bin .neq (.t 7) (.c (.int .i64 0)), none⟩, ⟨some 9, .mv (.t 8), none⟩, ⟨some 10, .fldA 2 (.t 1), some (9, false)⟩, ⟨some 11, .ld (none) (.t 10), some (9, false)⟩, ⟨some 12, .bin .gtr (.t 11) (.c (.int .i64 0)), some (9, false)⟩, ⟨some 13, .pick (.t 9) (.c (.bool true)) (.t 12), none⟩]))
    (.cond (.t 13)
      (.seq (.keep [4] (.ops [⟨some 14, .mv (.t 4), none⟩, ⟨some 2, .mv (.c (.int .i64 0)), none⟩, ⟨some 3, .mv (.t 14), none⟩]))
      .ret)
      .skip))
    (.seq (.keep [1] (.ops [⟨some 15, .fldA 0 (.t 1), none⟩, ⟨some 16, .ld (none) (.t 15), none⟩, ⟨some 17, .fldA 1 (.t 1), none⟩, ⟨some 18, .ld (none) (.t 17), none⟩, ⟨some 19, .len (.t 18), none⟩, ⟨some 20, .bin .sub (.t 16) (.t 19), none⟩, ⟨some 2, .mv (.t 20), none⟩, ⟨some 3, .mv (.c (.int .i64 0)), none⟩]))
    .ret)))), [.t 2, .t 3], 21⟩
theorem b22 : fB Try.prog 22 c22 = true := by kernel_rfl

/-- partywall/partywallkit.SameItems -/
def c23 : CF := ⟨(.seq (.keep [0, 1] (.ops [⟨some 4, .mv (.c (.bool false)), none⟩]))
    (.seq (.seq (.keep [0, 1] (.ops [⟨some 6, .mv (.t 0), none⟩, ⟨some 7, .len (.t 6), none⟩, ⟨some 8, .mv (.t 1), none⟩, ⟨some 9, .len (.t 8), none⟩, ⟨some 10, .bin .neq (.t 7) (.t 9), none⟩]))
    (.cond (.t 10)
      (.seq (.keep [] (.ops [⟨some 4, .mv (.c (.bool false)), none⟩]))
      .ret)
      .skip))
    (.seq (.seq (.keep [0, 1] (.ops [⟨some 5, .mv (.c (.int .i64 0)), none⟩]))
    (.block 0 (.loop (.seq (.seq (.keep [0, 1, 5] (.ops [⟨some 11, .mv (.t 5), none⟩, ⟨some 12, .mv (.t 0), none⟩, ⟨some 13, .len (.t 12), none⟩, ⟨some 14, .bin .lss (.t 11) (.t 13), none⟩]))
    (.cond (.t 14)
      .skip
      (.exit 0)))
    (.seq (.block 1 (.seq (.keep [0, 1, 5] (.drw [⟨some 17, .mv (.t 0), none⟩, ⟨some 18, .mv (.t 5), none⟩, ⟨some 19, .ixA 7 (.t 17) (.t 18), none⟩, ⟨some 20, .ld (some 7) (.t 19), none⟩, ⟨some 21, .mv (.t 1), none⟩, ⟨some 22, .mv (.t 5), none⟩, ⟨some 23, .ixA 7 (.t 21) (.t 22), none⟩, ⟨some 24, .ld (some 7) (.t 23), none⟩, ⟨some 25, .call 44 [(.t 20), (.t 24)], none⟩, ⟨some 26, .un .not (.t 25), none⟩] [0, 0, 0, 1, 0, 0, 0, 1, 1, 0]))
    (.cond (.t 26)
      (.seq (.keep [] (.ops [⟨some 4, .mv (.c (.bool false)), none⟩]))
      .ret)
      .skip)))
    (.keep [0, 1, 5] (.ops [⟨some 15, .mv (.t 5), none⟩, ⟨some 16, .bin .add (.t 15) (.c (.int .i64 1)), none⟩, ⟨some 5, .mv (.t 16), none⟩])))))))
    (.seq (.keep [] (.ops [⟨some 4, .mv (.c (.bool true)), none⟩]))
    .ret)))), [.t 4], 27⟩
theorem b23 : fB Try.prog 23 c23 = true := by kernel_rfl

/-- partywall/partywalllaw26.item -/
def c24 : CF := ⟨(.seq (.keep [0] (.ops [⟨some 2, .alloc [.int .i64 0, .int .i64 0, .nils, .nils, .nils, .int .i64 0, .int .i64 0], none⟩]))
    (.seq (.keep [0, 2] (.ops [⟨some 3, .mv (.t 0), none⟩, ⟨some 4, .call 29 [(.t 3), (.c (.int .i64 1048576))], none⟩, ⟨some 0, .mv (.t 4), none⟩]))
    (.seq (.seq (.keep [0, 2] (.ops [⟨some 5, .mv (.t 0), none⟩, ⟨some 6, .bin .rem (.t 5) (.c (.int .i64 5)), none⟩, ⟨some 7, .bin .eql (.t 6) (.c (.int .i64 4)), none⟩]))
    (.cond (.t 7)
      (.seq (.keep [0, 2] (.ops [⟨some 8, .mv (.t 0), none⟩, ⟨some 9, .bin .quo (.t 8) (.c (.int .i64 5)), none⟩, ⟨some 10, .bin .rem (.t 9) (.c (.int .i64 4)), none⟩, ⟨some 11, .bin .add (.c (.int .i64 1)) (.t 10), none⟩, ⟨some 12, .mv (.t 0), none⟩, ⟨some 13, .bin .quo (.t 12) (.c (.int .i64 20)), none⟩, ⟨some 14, .bin .rem (.t 13) (.c (.int .i64 9)), none⟩, ⟨some 15, .bin .add (.c (.int .i64 1)) (.t 14), none⟩, ⟨some 16, .bld [.int .i64 0, .int .i64 0, .nils, .nils, .nils, .int .i64 0, .int .i64 0] [(0, 1, (.c (.int .i64 2))), (1, 1, (.t 11)), (5, 1, (.c (.int .i64 18))), (6, 1, (.t 15))], none⟩, ⟨none, .st 7 (.t 2) (.t 16), none⟩]))
      .ret)
      .skip))
    (.seq (.keep [0, 2] (.ops [⟨some 17, .mv (.t 0), none⟩, ⟨some 18, .bin .quo (.t 17) (.c (.int .i64 5)), none⟩, ⟨some 19, .bin .rem (.t 18) (.c (.int .i64 4)), none⟩, ⟨some 20, .bin .add (.c (.int .i64 1)) (.t 19), none⟩, ⟨some 21, .mv (.t 0), none⟩, ⟨some 22, .bin .rem (.t 21) (.c (.int .i64 3)), none⟩, ⟨some 23, .cnv .u64 (.t 22), none⟩, ⟨some 24, .mv (.t 0), none⟩, ⟨some 25, .bin .quo (.t 24) (.c (.int .i64 20)), none⟩, ⟨some 26, .bin .add (.c (.int .i64 1)) (.t 25), none⟩, ⟨some 27, .cnv .u64 (.t 26), none⟩, ⟨some 28, .bld [.int .u64 0, .int .u64 0] [(0, 1, (.t 23)), (1, 1, (.t 27))], none⟩, ⟨some 29, .mkSl 2 1 [.int .u64 0, .int .u64 0] [(0, 2, (.t 28))], none⟩, ⟨some 30, .mv (.t 0), none⟩, ⟨some 31, .bin .rem (.t 30) (.c (.int .i64 12)), none⟩, ⟨some 32, .mkSl 1 1 [.int .i64 0] [(0, 1, (.t 31))], none⟩, ⟨some 33, .mv (.t 0), none⟩, ⟨some 34, .mkSl 1 1 [.int .i64 0] [(0, 1, (.t 33))], none⟩, ⟨some 35, .bld [.int .i64 0, .int .i64 0, .nils, .nils, .nils, .int .i64 0, .int .i64 0] [(0, 1, (.c (.int .i64 1))), (1, 1, (.t 20)), (2, 1, (.t 29)), (3, 1, (.t 32)), (4, 1, (.t 34))], none⟩, ⟨none, .st 7 (.t 2) (.t 35), none⟩]))
    .ret)))), [.cl 2 (some 7)], 36⟩
theorem b24 : fB Try.prog 24 c24 = true := by kernel_rfl

/-- partywall/partywalllaw26.behind -/
def c25 : CF := ⟨(.seq (.keep [0, 1] (.ops [⟨some 4, .alloc [.int .i64 0, .nils, .int .i64 0], none⟩, ⟨some 5, .mv (.c (.int .i64 0)), none⟩]))
    (.seq (.keep [0, 1, 4] (.ops [⟨some 11, .mv (.t 0), none⟩, ⟨some 12, .call 12 [(.t 11)], none⟩, ⟨some 10, .mv (.t 12), none⟩, ⟨some 13, .ext (.t 10) 0, none⟩, ⟨some 14, .ext (.t 10) 1, none⟩, ⟨some 6, .alloc [.int .i64 0, .nils, .int .i64 0], none⟩, ⟨none, .st 3 (.t 6) (.t 13), none⟩, ⟨some 7, .mv (.t 14), none⟩]))
    (.seq (.keep [1, 4, 6, 7] (.ops [⟨some 16, .ld (some 3) (.t 6), none⟩, ⟨some 17, .mv (.t 1), none⟩, ⟨some 18, .call 17 [(.t 16), (.t 17)], none⟩, ⟨some 15, .mv (.t 18), none⟩, ⟨some 19, .ext (.t 15) 0, none⟩, ⟨some 20, .ext (.t 15) 1, none⟩, ⟨some 21, .ext (.t 15) 2, none⟩, ⟨none, .st 3 (.t 6) (.t 19), none⟩, ⟨some 8, .mv (.t 20), none⟩, ⟨some 9, .mv (.t 21), none⟩]))
    (.seq (.seq (.keep [4, 6, 7, 8, 9] (.ops [⟨some 22, .mv (.t 7), none⟩, ⟨some 23, .bin .neq (.t 22) (.c (.int .i64 0)), none⟩, ⟨some 24, .mv (.t 23), none⟩, ⟨some 25, .mv (.t 9), some (24, false)⟩, ⟨some 26, .bin .neq (.t 25) (.c (.int .i64 0)), some (24, false)⟩, ⟨some 27, .pick (.t 24) (.c (.bool true)) (.t 26), none⟩]))
    (.cond (.t 27)
      (.seq (.keep [4] (.ops [⟨some 28, .bld [.int .i64 0, .nils, .int .i64 0] [], none⟩, ⟨none, .st 3 (.t 4) (.t 28), none⟩, ⟨some 5, .mv (.c (.int .i64 (-1))), none⟩]))
      .ret)
      .skip))
    (.seq (.keep [4, 6, 8] (.ops [⟨some 29, .ld (some 3) (.t 6), none⟩, ⟨some 30, .mv (.t 8), none⟩, ⟨none, .st 3 (.t 4) (.t 29), none⟩, ⟨some 5, .mv (.t 30), none⟩]))
    .ret))))), [.cl 4 (some 3), .t 5], 31⟩
theorem b25 : fB Try.prog 25 c25 = true := by kernel_rfl

/-- partywall/partywalllaw26.gives -/
def c26 : CF := ⟨(.seq (.keep [0, 1, 2] (.ops [⟨some 3, .box 3 (.t 0), none⟩, ⟨some 6, .alloc [.int .i64 0, .nils, .int .i64 0], none⟩, ⟨some 7, .mv (.c (.bool false)), none⟩]))
    (.seq (.keep [1, 2, 3, 6] (.ops [⟨some 11, .ld (some 3) (.t 3), none⟩, ⟨some 12, .mv (.t 1), none⟩, ⟨some 13, .call 28 [(.t 11), (.t 12)], none⟩, ⟨some 10, .mv (.t 13), none⟩, ⟨some 14, .ext (.t 10) 0, none⟩, ⟨some 15, .ext (.t 10) 1, none⟩, ⟨some 16, .ext (.t 10) 2, none⟩, ⟨none, .st 3 (.t 3) (.t 14), none⟩, ⟨some 8, .mv (.t 15), none⟩, ⟨some 9, .mv (.t 16), none⟩]))
    (.seq (.keep [2, 3, 6, 8, 9] (.drw [⟨some 17, .ld (some 3) (.t 3), none⟩, ⟨some 18, .mv (.t 9), none⟩, ⟨some 19, .bin .eql (.t 18) (.c (.int .i64 0)), none⟩, ⟨some 20, .mv (.t 19), none⟩, ⟨some 21, .mv (.t 8), some (20, true)⟩, ⟨some 22, .mv (.t 2), some (20, true)⟩, ⟨some 23, .call 23 [(.t 21), (.t 22)], some (20, true)⟩, ⟨some 24, .pick (.t 20) (.t 23) (.c (.bool false)), none⟩, ⟨none, .st 3 (.t 6) (.t 17), none⟩, ⟨some 7, .mv (.t 24), none⟩] [1, 0, 0, 0, 0, 0, 1, 0, 2, 0]))
    .ret))), [.cl 6 (some 3), .t 7], 25⟩
theorem b26 : fB Try.prog 26 c26 = true := by kernel_rfl

/-- partywall/partywalllaw26.out -/
def c27 : CF := ⟨(.seq (.keep [0] (.ops [⟨some 2, .alloc [.int .i64 0, .int .i64 0, .nils, .nils, .nils, .int .i64 0, .int .i64 0], none⟩]))
    (.seq (.keep [0, 2] (.ops [⟨some 3, .mv (.t 0), none⟩, ⟨some 4, .bld [.int .i64 0, .int .i64 0, .nils, .nils, .nils, .int .i64 0, .int .i64 0] [(0, 1, (.c (.int .i64 2))), (5, 1, (.c (.int .i64 19))), (6, 1, (.t 3))], none⟩, ⟨none, .st 7 (.t 2) (.t 4), none⟩]))
    .ret)), [.cl 2 (some 7)], 5⟩
theorem b27 : fB Try.prog 27 c27 = true := by kernel_rfl

/-- partywall/queue.Poll -/
def c28 : CF := ⟨(.seq (.keep [0, 1] (.ops [⟨some 2, .box 3 (.t 0), none⟩, ⟨some 4, .alloc [.int .i64 0, .nils, .int .i64 0], none⟩, ⟨some 5, .mv (.c .nils), none⟩, ⟨some 6, .mv (.c (.int .i64 0)), none⟩]))
    (.seq (.keep [1, 2, 4] (.ops [⟨some 10, .ld (some 3) (.t 2), none⟩, ⟨some 11, .call 15 [(.t 10)], none⟩, ⟨some 7, .mv (.t 11), none⟩]))
    (.seq (.seq (.keep [1, 2, 4, 7] (.ops [⟨some 12, .mv (.t 7), none⟩, ⟨some 13, .bin .eql (.t 12) (.c (.int .i64 0)), none⟩, ⟨some 14, .mv (.t 13), none⟩, ⟨some 15, .mv (.t 1), some (14, true)⟩, ⟨some 16, .bin .lss (.t 15) (.c (.int .i64 1)), some (14, true)⟩, ⟨some 17, .mv (.t 16), some (14, true)⟩, ⟨some 18, .mv (.t 1), some (17, false)⟩, ⟨some 19, .bin .gtr (.t 18) (.c (.int .i64 64)), some (17, false)⟩, ⟨some 20, .pick (.t 17) (.c (.bool true)) (.t 19), some (14, true)⟩, ⟨some 21, .pick (.t 14) (.t 20) (.c (.bool false)), none⟩]))
    (.cond (.t 21)
      (.keep [1, 2, 4] (.ops [⟨some 7, .mv (.c (.int .i64 2)), none⟩]))
      .skip))
    (.seq (.seq (.keep [1, 2, 4, 7] (.ops [⟨some 22, .mv (.t 7), none⟩, ⟨some 23, .bin .neq (.t 22) (.c (.int .i64 0)), none⟩]))
    (.cond (.t 23)
      (.seq (.keep [4, 7] (.ops [⟨some 24, .bld [.int .i64 0, .nils, .int .i64 0] [], none⟩, ⟨some 25, .mv (.t 7), none⟩, ⟨none, .st 3 (.t 4) (.t 24), none⟩, ⟨some 5, .mv (.c .nils), none⟩, ⟨some 6, .mv (.t 25), none⟩]))
      .ret)
      .skip))
    (.seq (.keep [1, 2, 4] (.ops [⟨some 26, .ld (some 3) (.t 2), none⟩, ⟨some 27, .bld [.int .i64 0, .nils, .int .i64 0] [(0, 3, (.t 26))], none⟩, ⟨some 8, .alloc [.int .i64 0, .nils, .int .i64 0], none⟩, ⟨none, .st 3 (.t 8) (.t 27), none⟩]))
    (.seq (.keep [1, 4, 8] (.ops [⟨some 28, .mv (.t 1), none⟩, ⟨some 29, .call 45 [(.t 8), (.t 28)], none⟩, ⟨some 9, .mv (.t 29), none⟩]))
    (.seq (.keep [4, 8, 9] (.ops [⟨some 30, .fldA 0 (.t 8), none⟩, ⟨some 31, .ld (some 3) (.t 30), none⟩, ⟨some 32, .mv (.t 9), none⟩, ⟨none, .st 3 (.t 4) (.t 31), none⟩, ⟨some 5, .mv (.t 32), none⟩, ⟨some 6, .mv (.c (.int .i64 0)), none⟩]))
    .ret))))))), [.cl 4 (some 3), .t 5, .t 6], 33⟩
theorem b28 : fB Try.prog 28 c28 = true := by kernel_rfl

/-- partywall/partywallkit.Mod -/
def c29 : CF := ⟨(.seq (.keep [0, 1] (.ops [⟨some 4, .mv (.c (.int .i64 0)), none⟩]))
    (.seq (.seq (.keep [0, 1] (.ops [⟨some 5, .mv (.t 1), none⟩, ⟨some 6, .bin .lss (.t 5) (.c (.int .i64 1)), none⟩]))
    (.cond (.t 6)
      (.seq (.keep [] (.ops [⟨some 4, .mv (.c (.int .i64 0)), none⟩]))
      .ret)
      .skip))
    (.seq (.keep [0, 1] (.ops [⟨some 7, .mv (.t 0), none⟩, ⟨some 8, .mv (.t 1), none⟩, ⟨some 9, .bin .rem (.t 7) (.t 8), none⟩, ⟨some 0, .mv (.t 9), none⟩]))
    (.seq (.seq (.keep [0, 1] (.ops [⟨some 10, .mv (.t 0), none⟩, ⟨some 11, .bin .lss (.t 10) (.c (.int .i64 0)), none⟩]))
    (.cond (.t 11)
      (.keep [0, 1] (.ops [⟨some 12, .mv (.t 0), none⟩, ⟨some 13, .mv (.t 1), none⟩, ⟨some 14, .bin .add (.t 12) (.t 13), none⟩, ⟨some 0, .mv (.t 14), none⟩]))
      .skip))
    (.seq (.keep [0] (.ops [⟨some 15, .mv (.t 0), none⟩, ⟨some 4, .mv (.t 15), none⟩]))
    .ret))))), [.t 4], 16⟩
theorem b29 : fB Try.prog 29 c29 = true := by kernel_rfl

/-- partywall/partywalllaw26.items -/
def c30 : CF := ⟨(.seq (.keep [0] (.ops [⟨some 2, .mv (.c .nils), none⟩]))
    (.seq (.keep [0] (.ops [⟨some 3, .mv (.c .nils), none⟩]))
    (.seq (.seq (.keep [0, 3] (.ops [⟨some 4, .mv (.c (.int .i64 0)), none⟩]))
    (.block 0 (.loop (.seq (.seq (.keep [0, 3, 4] (.ops [⟨some 5, .mv (.t 4), none⟩, ⟨some 6, .mv (.t 0), none⟩, ⟨some 7, .len (.t 6), none⟩, ⟨some 8, .bin .lss (.t 5) (.t 7), none⟩, ⟨some 9, .mv (.t 8), none⟩, ⟨some 10, .mv (.t 4), some (9, true)⟩, ⟨some 11, .bin .lss (.t 10) (.c (.int .i64 30)), some (9, true)⟩, ⟨some 12, .pick (.t 9) (.t 11) (.c (.bool false)), none⟩]))
    (.cond (.t 12)
      .skip
      (.exit 0)))
    (.seq (.block 1 (.keep [0, 3, 4] (.ops [⟨some 15, .mv (.t 3), none⟩, ⟨some 16, .mv (.t 0), none⟩, ⟨some 17, .mv (.t 4), none⟩, ⟨some 18, .ixA 1 (.t 16) (.t 17), none⟩, ⟨some 19, .ld (none) (.t 18), none⟩, ⟨some 20, .call 24 [(.t 19)], none⟩, ⟨some 21, .mkSl 7 1 [.int .i64 0, .int .i64 0, .nils, .nils, .nils, .int .i64 0, .int .i64 0] [(0, 7, (.t 20))], none⟩, ⟨some 22, .app false 42 7 104 (.t 15) (.t 21), none⟩, ⟨some 3, .mv (.t 22), none⟩])))
    (.keep [0, 3, 4] (.ops [⟨some 13, .mv (.t 4), none⟩, ⟨some 14, .bin .add (.t 13) (.c (.int .i64 1)), none⟩, ⟨some 4, .mv (.t 14), none⟩])))))))
    (.seq (.keep [3] (.ops [⟨some 23, .mv (.t 3), none⟩, ⟨some 2, .mv (.t 23), none⟩]))
    .ret)))), [.t 2], 24⟩
theorem b30 : fB Try.prog 30 c30 = true := by kernel_rfl

/-- partywall/queue.All -/
def c31 : CF := ⟨(.seq (.keep [0] (.ops [⟨some 1, .box 3 (.t 0), none⟩, ⟨some 2, .mv (.c .nils), none⟩, ⟨some 3, .mv (.c (.int .i64 0)), none⟩]))
    (.seq (.seq (.keep [1] (.ops [⟨some 9, .ld (some 3) (.t 1), none⟩, ⟨some 10, .call 15 [(.t 9)], none⟩, ⟨some 4, .mv (.t 10), none⟩]))
    (.seq (.keep [1, 4] (.ops [⟨some 11, .mv (.t 4), none⟩, ⟨some 12, .bin .neq (.t 11) (.c (.int .i64 0)), none⟩]))
    (.cond (.t 12)
      (.seq (.keep [4] (.ops [⟨some 13, .mv (.t 4), none⟩, ⟨some 2, .mv (.c .nils), none⟩, ⟨some 3, .mv (.t 13), none⟩]))
      .ret)
      .skip)))
    (.seq (.keep [1] (.ops [⟨some 14, .ld (some 3) (.t 1), none⟩, ⟨some 15, .bld [.int .i64 0, .nils, .int .i64 0] [(0, 3, (.t 14))], none⟩, ⟨some 5, .alloc [.int .i64 0, .nils, .int .i64 0], none⟩, ⟨none, .st 3 (.t 5) (.t 15), none⟩]))
    (.seq (.keep [5] (.ops [⟨some 16, .mkF 46 [(.t 5)], none⟩, ⟨some 6, .mv (.t 16), none⟩]))
    (.seq (.keep [6] (.ops [⟨some 7, .mv (.c .nils), none⟩]))
    (.seq (.seq (.keep [6, 7] (.ops [⟨some 17, .mv (.t 6), none⟩, ⟨some 18, .callv (.t 17) [], none⟩, ⟨some 8, .mv (.t 18), none⟩]))
    (.block 0 (.loop (.seq (.seq (.keep [6, 7, 8] (.ops [⟨some 19, .mv (.t 8), none⟩, ⟨some 20, .len (.t 19), none⟩, ⟨some 21, .bin .gtr (.t 20) (.c (.int .i64 0)), none⟩]))
    (.cond (.t 21)
      .skip
      (.exit 0)))
    (.seq (.block 1 (.keep [6, 7, 8] (.ops [⟨some 24, .mv (.t 7), none⟩, ⟨some 25, .mv (.t 8), none⟩, ⟨some 26, .app false 42 7 104 (.t 24) (.t 25), none⟩, ⟨some 7, .mv (.t 26), none⟩])))
    (.keep [6, 7] (.ops [⟨some 22, .mv (.t 6), none⟩, ⟨some 23, .callv (.t 22) [], none⟩, ⟨some 8, .mv (.t 23), none⟩])))))))
    (.seq (.keep [7] (.ops [⟨some 27, .mv (.t 7), none⟩, ⟨some 2, .mv (.t 27), none⟩, ⟨some 3, .mv (.c (.int .i64 0)), none⟩]))
    .ret))))))), [.t 2, .t 3], 28⟩
theorem b31 : fB Try.prog 31 c31 = true := by kernel_rfl

/-- partywall/partywallref26.Poll -/
def c32 : CF := ⟨(.seq (.keep [0, 1] (.ops [⟨some 2, .box 3 (.t 0), none⟩, ⟨some 4, .alloc [.int .i64 0, .nils, .int .i64 0], none⟩, ⟨some 5, .mv (.c .nils), none⟩, ⟨some 6, .mv (.c (.int .i64 0)), none⟩]))
    (.seq (.keep [1, 2, 4] (.ops [⟨some 9, .ld (some 3) (.t 2), none⟩, ⟨some 10, .call 16 [(.t 9)], none⟩, ⟨some 7, .mv (.t 10), none⟩]))
    (.seq (.seq (.keep [1, 2, 4, 7] (.ops [⟨some 11, .mv (.t 7), none⟩, ⟨some 12, .bin .eql (.t 11) (.c (.int .i64 0)), none⟩, ⟨some 13, .mv (.t 12), none⟩, ⟨some 14, .mv (.t 1), some (13, true)⟩, ⟨some 15, .bin .lss (.t 14) (.c (.int .i64 1)), some (13, true)⟩, ⟨some 16, .mv (.t 15), some (13, true)⟩, ⟨some 17, .mv (.t 1), some (16, false)⟩, ⟨some 18, .bin .gtr (.t 17) (.c (.int .i64 64)), some (16, false)⟩, ⟨some 19, .pick (.t 16) (.c (.bool true)) (.t 18), some (13, true)⟩, ⟨some 20, .pick (.t 13) (.t 19) (.c (.bool false)), none⟩]))
    (.cond (.t 20)
      (.keep [1, 2, 4] (.ops [⟨some 7, .mv (.c (.int .i64 2)), none⟩]))
      .skip))
    (.seq (.seq (.keep [1, 2, 4, 7] (.ops [⟨some 21, .mv (.t 7), none⟩, ⟨some 22, .bin .neq (.t 21) (.c (.int .i64 0)), none⟩]))
    (.cond (.t 22)
      (.seq (.keep [4, 7] (.ops [⟨some 23, .bld [.int .i64 0, .nils, .int .i64 0] [], none⟩, ⟨some 24, .mv (.t 7), none⟩, ⟨none, .st 3 (.t 4) (.t 23), none⟩, ⟨some 5, .mv (.c .nils), none⟩, ⟨some 6, .mv (.t 24), none⟩]))
      .ret)
      .skip))
    (.seq (.keep [1, 2, 4] (.ops [⟨some 26, .ld (some 3) (.t 2), none⟩, ⟨some 27, .mv (.t 1), none⟩, ⟨some 28, .call 47 [(.t 26), (.t 27)], none⟩, ⟨some 25, .mv (.t 28), none⟩, ⟨some 29, .ext (.t 25) 0, none⟩, ⟨some 30, .ext (.t 25) 1, none⟩, ⟨none, .st 3 (.t 2) (.t 29), none⟩, ⟨some 8, .mv (.t 30), none⟩]))
    (.seq (.keep [2, 4, 8] (.ops [⟨some 31, .ld (some 3) (.t 2), none⟩, ⟨some 32, .mv (.t 8), none⟩, ⟨none, .st 3 (.t 4) (.t 31), none⟩, ⟨some 5, .mv (.t 32), none⟩, ⟨some 6, .mv (.c (.int .i64 0)), none⟩]))
    .ret)))))), [.cl 4 (some 3), .t 5, .t 6], 33⟩
theorem b32 : fB Try.prog 32 c32 = true := by kernel_rfl

/-- partywall/partywallref26.All -/
def c33 : CF := ⟨(.seq (.keep [0] (.ops [⟨some 1, .box 3 (.t 0), none⟩, ⟨some 2, .mv (.c .nils), none⟩, ⟨some 3, .mv (.c (.int .i64 0)), none⟩]))
    (.seq (.keep [1] (.ops [⟨some 8, .ld (some 3) (.t 1), none⟩, ⟨some 9, .call 16 [(.t 8)], none⟩, ⟨some 4, .mv (.t 9), none⟩]))
    (.seq (.seq (.keep [1, 4] (.ops [⟨some 10, .mv (.t 4), none⟩, ⟨some 11, .bin .neq (.t 10) (.c (.int .i64 0)), none⟩]))
    (.cond (.t 11)
      (.seq (.keep [4] (.ops [⟨some 12, .mv (.t 4), none⟩, ⟨some 2, .mv (.c .nils), none⟩, ⟨some 3, .mv (.t 12), none⟩]))
      .ret)
      .skip))
    (.seq (.keep [1] (.ops [⟨some 14, .ld (some 3) (.t 1), none⟩, ⟨some 15, .call 47 [(.t 14), (.c (.int .i64 64))], none⟩, ⟨some 13, .mv (.t 15), none⟩, ⟨some 16, .ext (.t 13) 0, none⟩, ⟨some 17, .ext (.t 13) 1, none⟩, ⟨none, .st 3 (.t 1) (.t 16), none⟩, ⟨some 5, .mv (.t 17), none⟩]))
    (.seq (.keep [1, 5] (.ops [⟨some 19, .ld (some 3) (.t 1), none⟩, ⟨some 20, .call 47 [(.t 19), (.c (.int .i64 64))], none⟩, ⟨some 18, .mv (.t 20), none⟩, ⟨some 21, .ext (.t 18) 0, none⟩, ⟨some 22, .ext (.t 18) 1, none⟩, ⟨some 6, .alloc [.int .i64 0, .nils, .int .i64 0], none⟩, ⟨none, .st 3 (.t 6) (.t 21), none⟩, ⟨some 7, .mv (.t 22), none⟩]))
    (.seq (.keep [5, 7] (.ops [⟨some 23, .mv (.t 5), none⟩, ⟨some 24, .mv (.t 7), none⟩, ⟨some 25, .app false 42 7 104 (.t 23) (.t 24), none⟩, ⟨some 2, .mv (.t 25), none⟩, ⟨some 3, .mv (.c (.int .i64 0)), none⟩]))
    .ret)))))), [.t 2, .t 3], 26⟩
theorem b33 : fB Try.prog 33 c33 = true := by kernel_rfl

/-- partywall/queue.Told -/
def c34 : CF := ⟨(.seq (.keep [0] (.ops [⟨some 2, .mv (.c (.int .i64 0)), none⟩, ⟨some 3, .mv (.c (.int .i64 0)), none⟩, ⟨some 4, .mv (.c (.int .i64 0)), none⟩]))
    (.seq (.seq (.keep [0, 2, 3] (.ops [⟨some 8, .mv (.t 0), none⟩, ⟨some 9, .call 37 [(.t 8)], none⟩, ⟨some 5, .mv (.t 9), none⟩]))
    (.seq (.keep [0, 2, 3, 5] (.ops [⟨some 10, .mv (.t 5), none⟩, ⟨some 11, .bin .neq (.t 10) (.c (.int .i64 0)), none⟩]))
    (.cond (.t 11)
      (.seq (.keep [5] (.ops [⟨some 12, .mv (.t 5), none⟩, ⟨some 2, .mv (.c (.int .i64 0)), none⟩, ⟨some 3, .mv (.c (.int .i64 0)), none⟩, ⟨some 4, .mv (.t 12), none⟩]))
      .ret)
      .skip)))
    (.seq (.seq (.keep [0, 2, 3] (.ops [⟨some 13, .mv (.t 0), none⟩, ⟨some 14, .len (.t 13), none⟩, ⟨some 15, .mv (.c (.int .i64 0)), none⟩]))
    (.block 0 (.loop (.seq (.keep [2, 3, 13, 14, 15] (.ops [⟨some 16, .bin .lss (.t 15) (.t 14), none⟩]))
    (.seq (.cond (.t 16)
      .skip
      (.exit 0))
    (.seq (.block 1 (.seq (.keep [2, 3, 13, 14, 15] (.ops [⟨some 17, .ixA 7 (.t 13) (.t 15), none⟩, ⟨some 18, .ld (some 7) (.t 17), none⟩, ⟨some 7, .alloc [.int .i64 0, .int .i64 0, .nils, .nils, .nils, .int .i64 0, .int .i64 0], none⟩, ⟨none, .st 7 (.t 7) (.t 18), none⟩]))
    (.seq (.keep [2, 3, 7, 13, 14, 15] (.ops [⟨some 19, .fldA 0 (.t 7), none⟩, ⟨some 20, .ld (none) (.t 19), none⟩, ⟨some 21, .bin .eql (.t 20) (.c (.int .i64 2)), none⟩, ⟨some 22, .mv (.t 21), none⟩, ⟨some 23, .fldA 5 (.t 7), some (22, true)⟩, ⟨some 24, .ld (none) (.t 23), some (22, true)⟩, ⟨some 25, .bin .eql (.t 24) (.c (.int .i64 19)), some (22, true)⟩, ⟨some 26, .pick (.t 22) (.t 25) (.c (.bool false)), none⟩]))
    (.cond (.t 26)
      (.keep [2, 3, 7, 13, 14, 15] (.ops [⟨some 27, .mv (.t 3), none⟩, ⟨some 28, .fldA 6 (.t 7), none⟩, ⟨some 29, .ld (none) (.t 28), none⟩, ⟨some 30, .bin .add (.t 27) (.t 29), none⟩, ⟨some 31, .mm false (.t 30) (.c (.int .i64 1099511627776)), none⟩, ⟨some 3, .mv (.t 31), none⟩]))
      (.keep [2, 3, 13, 14, 15] (.ops [⟨some 32, .mv (.t 2), none⟩, ⟨some 33, .bin .add (.t 32) (.c (.int .i64 1)), none⟩, ⟨some 2, .mv (.t 33), none⟩]))))))
    (.keep [2, 3, 13, 14, 15] (.ops [⟨some 34, .bin .add (.t 15) (.c (.int .i64 1)), none⟩, ⟨some 15, .mv (.t 34), none⟩]))))))))
    (.seq (.keep [2, 3] (.ops [⟨some 35, .mv (.t 2), none⟩, ⟨some 36, .mv (.t 3), none⟩, ⟨some 2, .mv (.t 35), none⟩, ⟨some 3, .mv (.t 36), none⟩, ⟨some 4, .mv (.c (.int .i64 0)), none⟩]))
    .ret)))), [.t 2, .t 3, .t 4], 37⟩
theorem b34 : fB Try.prog 34 c34 = true := by kernel_rfl

/-- partywall/partywallref26.Told -/
def c35 : CF := ⟨(.seq (.keep [0] (.ops [⟨some 2, .mv (.c (.int .i64 0)), none⟩, ⟨some 3, .mv (.c (.int .i64 0)), none⟩, ⟨some 4, .mv (.c (.int .i64 0)), none⟩]))
    (.seq (.keep [0] (.ops [⟨some 9, .mv (.t 0), none⟩, ⟨some 10, .call 38 [(.t 9)], none⟩, ⟨some 5, .mv (.t 10), none⟩]))
    (.seq (.seq (.keep [0, 5] (.ops [⟨some 11, .mv (.t 5), none⟩, ⟨some 12, .bin .neq (.t 11) (.c (.int .i64 0)), none⟩]))
    (.cond (.t 12)
      (.seq (.keep [5] (.ops [⟨some 13, .mv (.t 5), none⟩, ⟨some 2, .mv (.c (.int .i64 0)), none⟩, ⟨some 3, .mv (.c (.int .i64 0)), none⟩, ⟨some 4, .mv (.t 13), none⟩]))
      .ret)
      .skip))
    (.seq (.keep [0] (.ops [⟨some 6, .mv (.c (.int .i64 0)), none⟩, ⟨some 7, .mv (.c (.int .i64 0)), none⟩]))
    (.seq (.seq (.keep [0, 6, 7] (.ops [⟨some 8, .mv (.c (.int .i64 0)), none⟩]))
    (.block 0 (.loop (.seq (.seq (.keep [0, 6, 7, 8] (.ops [⟨some 14, .mv (.t 8), none⟩, ⟨some 15, .mv (.t 0), none⟩, ⟨some 16, .len (.t 15), none⟩, ⟨some 17, .bin .lss (.t 14) (.t 16), none⟩]))
    (.cond (.t 17)
      .skip
      (.exit 0)))
    (.seq (.block 1 (.seq (.keep [0, 6, 7, 8] (.ops [⟨some 20, .mv (.t 0), none⟩, ⟨some 21, .mv (.t 8), none⟩, ⟨some 22, .ixA 7 (.t 20) (.t 21), none⟩, ⟨some 23, .fldA 0 (.t 22), none⟩, ⟨some 24, .ld (none) (.t 23), none⟩, ⟨some 25, .bin .eql (.t 24) (.c (.int .i64 2)), none⟩, ⟨some 26, .mv (.t 25), none⟩, ⟨some 27, .mv (.t 0), some (26, true)⟩, ⟨some 28, .mv (.t 8), some (26, true)⟩, ⟨some 29, .ixA 7 (.t 27) (.t 28), some (26, true)⟩, ⟨some 30, .fldA 5 (.t 29), some (26, true)⟩, ⟨some 31, .ld (none) (.t 30), some (26, true)⟩, ⟨some 32, .bin .eql (.t 31) (.c (.int .i64 19)), some (26, true)⟩, ⟨some 33, .pick (.t 26) (.t 32) (.c (.bool false)), none⟩]))
    (.cond (.t 33)
      (.keep [0, 6, 7, 8] (.ops [⟨some 34, .mv (.t 7), none⟩, ⟨some 35, .mv (.t 0), none⟩, ⟨some 36, .mv (.t 8), none⟩, ⟨some 37, .ixA 7 (.t 35) (.t 36), none⟩, ⟨some 38, .fldA 6 (.t 37), none⟩, ⟨some 39, .ld (none) (.t 38), none⟩, ⟨some 40, .bin .add (.t 34) (.t 39), none⟩, ⟨some 41, .mm false (.c (.int .i64 1099511627776)) (.t 40), none⟩, ⟨some 7, .mv (.t 41), none⟩]))
      (.keep [0, 6, 7, 8] (.ops [⟨some 42, .mv (.t 6), none⟩, ⟨some 43, .bin .add (.t 42) (.c (.int .i64 1)), none⟩, ⟨some 6, .mv (.t 43), none⟩])))))
    (.keep [0, 6, 7, 8] (.ops [⟨some 18, .mv (.t 8), none⟩, ⟨some 19, .bin .add (.t 18) (.c (.int .i64 1)), none⟩, ⟨some 8, .mv (.t 19), none⟩])))))))
    (.seq (.keep [6, 7] (.ops [⟨some 44, .mv (.t 6), none⟩, ⟨some 45, .mv (.t 7), none⟩, ⟨some 2, .mv (.t 44), none⟩, ⟨some 3, .mv (.t 45), none⟩, ⟨some 4, .mv (.c (.int .i64 0)), none⟩]))
    .ret)))))), [.t 2, .t 3, .t 4], 46⟩
theorem b35 : fB Try.prog 35 c35 = true := by kernel_rfl

/-- partywall/partywallkit.OwnItem -/
def c36 : CF := ⟨(.seq (.keep [0] (.ops [⟨some 1, .box 7 (.t 0), none⟩, ⟨some 2, .alloc [.int .i64 0, .int .i64 0, .nils, .nils, .nils, .int .i64 0, .int .i64 0], none⟩]))
    (.seq (.keep [1, 2] (.drw [⟨some 3, .mkSl 2 0 [] [], none⟩, ⟨some 4, .fldA 2 (.t 1), none⟩, ⟨some 5, .ld (none) (.t 4), none⟩, ⟨some 6, .app false 74 2 16 (.t 3) (.t 5), none⟩, ⟨some 7, .fldA 3 (.t 1), none⟩, ⟨some 8, .ld (none) (.t 7), none⟩, ⟨some 9, .call 48 [(.t 8)], none⟩, ⟨some 10, .mkSl 1 0 [] [], none⟩, ⟨some 11, .fldA 4 (.t 1), none⟩, ⟨some 12, .ld (none) (.t 11), none⟩, ⟨some 13, .app false 2 1 8 (.t 10) (.t 12), none⟩, ⟨some 14, .fldA 2 (.t 1), none⟩, ⟨none, .st 1 (.t 14) (.t 6), none⟩, ⟨some 15, .fldA 3 (.t 1), none⟩, ⟨none, .st 1 (.t 15) (.t 9), none⟩, ⟨some 16, .fldA 4 (.t 1), none⟩, ⟨none, .st 1 (.t 16) (.t 13), none⟩] [0, 0, 1, 0, 0, 1, 1, 0, 0, 1, 0, 0, 2, 0, 2, 0, 2]))
    (.seq (.keep [1, 2] (.ops [⟨some 17, .ld (some 7) (.t 1), none⟩, ⟨none, .st 7 (.t 2) (.t 17), none⟩]))
    .ret))), [.cl 2 (some 7)], 18⟩
theorem b36 : fB Try.prog 36 c36 = true := by kernel_rfl

/-- partywall/queue.right -/
def c37 : CF := ⟨(.seq (.keep [0] (.ops [⟨some 2, .mv (.c (.int .i64 0)), none⟩]))
    (.seq (.seq (.keep [0] (.ops [⟨some 6, .mv (.t 0), none⟩, ⟨some 7, .len (.t 6), none⟩, ⟨some 8, .mv (.c (.int .i64 0)), none⟩]))
    (.block 0 (.loop (.seq (.keep [6, 7, 8] (.ops [⟨some 9, .bin .lss (.t 8) (.t 7), none⟩]))
    (.seq (.cond (.t 9)
      .skip
      (.exit 0))
    (.seq (.block 1 (.seq (.keep [6, 7, 8] (.ops [⟨some 10, .ixA 7 (.t 6) (.t 8), none⟩, ⟨some 11, .ld (some 7) (.t 10), none⟩, ⟨some 4, .alloc [.int .i64 0, .int .i64 0, .nils, .nils, .nils, .int .i64 0, .int .i64 0], none⟩, ⟨none, .st 7 (.t 4) (.t 11), none⟩]))
    (.seq (.keep [4, 6, 7, 8] (.ops [⟨some 12, .ld (some 7) (.t 4), none⟩, ⟨some 13, .call 49 [(.t 12)], none⟩, ⟨some 5, .mv (.t 13), none⟩]))
    (.seq (.keep [5, 6, 7, 8] (.ops [⟨some 14, .mv (.t 5), none⟩, ⟨some 15, .bin .neq (.t 14) (.c (.int .i64 0)), none⟩]))
    (.cond (.t 15)
      (.seq (.keep [5] (.ops [⟨some 16, .mv (.t 5), none⟩, ⟨some 2, .mv (.t 16), none⟩]))
      .ret)
      .skip)))))
    (.keep [6, 7, 8] (.ops [⟨some 17, .bin .add (.t 8) (.c (.int .i64 1)), none⟩, ⟨some 8, .mv (.t 17), none⟩]))))))))
    (.seq (.keep [] (.ops [⟨some 2, .mv (.c (.int .i64 0)), none⟩]))
    .ret))), [.t 2], 18⟩
theorem b37 : fB Try.prog 37 c37 = true := by kernel_rfl

/-- partywall/partywallref26.right -/
def c38 : CF := ⟨(.seq (.keep [0] (.ops [⟨some 2, .mv (.c (.int .i64 0)), none⟩]))
    (.seq (.seq (.keep [0] (.ops [⟨some 3, .mv (.c (.int .i64 0)), none⟩]))
    (.block 0 (.loop (.seq (.seq (.keep [0, 3] (.ops [⟨some 5, .mv (.t 3), none⟩, ⟨some 6, .mv (.t 0), none⟩, ⟨some 7, .len (.t 6), none⟩, ⟨some 8, .bin .lss (.t 5) (.t 7), none⟩]))
    (.cond (.t 8)
      .skip
      (.exit 0)))
    (.seq (.block 1 (.seq (.keep [0, 3] (.ops [⟨some 11, .mv (.t 0), none⟩, ⟨some 12, .mv (.t 3), none⟩, ⟨some 13, .ixA 7 (.t 11) (.t 12), none⟩, ⟨some 14, .ld (some 7) (.t 13), none⟩, ⟨some 15, .call 50 [(.t 14)], none⟩, ⟨some 4, .mv (.t 15), none⟩]))
    (.seq (.keep [0, 3, 4] (.ops [⟨some 16, .mv (.t 4), none⟩, ⟨some 17, .bin .neq (.t 16) (.c (.int .i64 0)), none⟩]))
    (.cond (.t 17)
      (.seq (.keep [4] (.ops [⟨some 18, .mv (.t 4), none⟩, ⟨some 2, .mv (.t 18), none⟩]))
      .ret)
      .skip))))
    (.keep [0, 3] (.ops [⟨some 9, .mv (.t 3), none⟩, ⟨some 10, .bin .add (.t 9) (.c (.int .i64 1)), none⟩, ⟨some 3, .mv (.t 10), none⟩])))))))
    (.seq (.keep [] (.ops [⟨some 2, .mv (.c (.int .i64 0)), none⟩]))
    .ret))), [.t 2], 19⟩
theorem b38 : fB Try.prog 38 c38 = true := by kernel_rfl

/-- (*partywall/queue.queue).put -/
def c39 : CF := ⟨(.seq (.keep [0, 1] (.ops [⟨some 3, .box 7 (.t 1), none⟩, ⟨some 4, .mv (.c (.bool false)), none⟩]))
    (.seq (.seq (.keep [0, 3] (.ops [⟨some 6, .mv (.t 0), none⟩, ⟨some 7, .nilc (.t 6), none⟩, ⟨some 8, .ld (some 3) (.t 7), none⟩, ⟨some 9, .call 43 [(.t 8)], none⟩, ⟨some 10, .bin .eql (.t 9) (.c (.int .i64 0)), none⟩]))
    (.cond (.t 10)
      (.seq (.keep [0] (.ops [⟨some 11, .mv (.t 0), none⟩, ⟨some 12, .call 51 [(.t 11)], none⟩]))
      (.seq (.keep [] (.ops [⟨some 4, .mv (.c (.bool false)), none⟩]))
      .ret))
      .skip))
    (.seq (.keep [0, 3] (.ops [⟨some 13, .mv (.t 0), none⟩, ⟨some 14, .nilc (.t 13), none⟩, ⟨some 15, .fldA 0 (.t 14), none⟩, ⟨some 16, .fldA 1 (.t 15), none⟩, ⟨some 17, .ld (none) (.t 16), none⟩, ⟨some 18, .len (.t 17), none⟩, ⟨some 5, .mv (.t 18), none⟩]))
    (.seq (.keep [0, 3, 5] (.drw [⟨some 19, .mv (.t 0), none⟩, ⟨some 20, .mv (.t 0), none⟩, ⟨some 21, .nilc (.t 20), none⟩, ⟨some 22, .fldA 0 (.t 21), none⟩, ⟨some 23, .fldA 1 (.t 22), none⟩, ⟨some 24, .ld (none) (.t 23), none⟩, ⟨some 25, .mv (.t 5), none⟩, ⟨some 26, .mv (.t 5), none⟩, ⟨some 27, .slc 7 (.t 24) none (some (.t 25)) (some (.t 26)), none⟩, ⟨some 28, .ld (some 7) (.t 3), none⟩, ⟨some 29, .mkSl 7 1 [.int .i64 0, .int .i64 0, .nils, .nils, .nils, .int .i64 0, .int .i64 0] [(0, 7, (.t 28))], none⟩, ⟨some 30, .app false 42 7 104 (.t 27) (.t 29), none⟩, ⟨some 31, .nilc (.t 19), none⟩, ⟨some 32, .fldA 0 (.t 31), none⟩, ⟨some 33, .fldA 1 (.t 32), none⟩, ⟨none, .st 1 (.t 33) (.t 30), none⟩] [0, 0, 0, 0, 0, 1, 0, 0, 0, 1, 0, 0, 0, 0, 0, 2]))
    (.seq (.keep [] (.ops [⟨some 4, .mv (.c (.bool true)), none⟩]))
    .ret))))), [.t 4], 34⟩
theorem b39 : fB Try.prog 39 c39 = true := by kernel_rfl

/-- partywall/partywallref26.both -/
def c40 : CF := ⟨(.seq (.keep [0, 1] (.ops [⟨some 2, .box 3 (.t 0), none⟩, ⟨some 4, .mv (.c (.int .i64 0)), none⟩]))
    (.seq (.keep [1, 2] (.ops [⟨some 6, .ld (some 3) (.t 2), none⟩, ⟨some 7, .call 16 [(.t 6)], none⟩, ⟨some 5, .mv (.t 7), none⟩]))
    (.seq (.seq (.keep [1, 5] (.ops [⟨some 8, .mv (.t 5), none⟩, ⟨some 9, .bin .eql (.t 8) (.c (.int .i64 0)), none⟩]))
    (.cond (.t 9)
      (.keep [1] (.ops [⟨some 10, .mv (.t 1), none⟩, ⟨some 11, .call 38 [(.t 10)], none⟩, ⟨some 5, .mv (.t 11), none⟩]))
      .skip))
    (.seq (.keep [5] (.ops [⟨some 12, .mv (.t 5), none⟩, ⟨some 4, .mv (.t 12), none⟩]))
    .ret)))), [.t 4], 13⟩
theorem b40 : fB Try.prog 40 c40 = true := by kernel_rfl

/-- partywall/partywallref26.owned -/
def c41 : CF := ⟨(.seq (.keep [0] (.ops [⟨some 2, .mv (.c .nils), none⟩]))
    (.seq (.keep [0] (.ops [⟨some 3, .mv (.c .nils), none⟩]))
    (.seq (.seq (.keep [0, 3] (.ops [⟨some 4, .mv (.c (.int .i64 0)), none⟩]))
    (.block 0 (.loop (.seq (.seq (.keep [0, 3, 4] (.ops [⟨some 5, .mv (.t 4), none⟩, ⟨some 6, .mv (.t 0), none⟩, ⟨some 7, .len (.t 6), none⟩, ⟨some 8, .bin .lss (.t 5) (.t 7), none⟩]))
    (.cond (.t 8)
      .skip
      (.exit 0)))
    (.seq (.block 1 (.keep [0, 3, 4] (.ops [⟨some 11, .mv (.t 3), none⟩, ⟨some 12, .mv (.t 0), none⟩, ⟨some 13, .mv (.t 4), none⟩, ⟨some 14, .ixA 7 (.t 12) (.t 13), none⟩, ⟨some 15, .ld (some 7) (.t 14), none⟩, ⟨some 16, .call 52 [(.t 15)], none⟩, ⟨some 17, .mkSl 7 1 [.int .i64 0, .int .i64 0, .nils, .nils, .nils, .int .i64 0, .int .i64 0] [(0, 7, (.t 16))], none⟩, ⟨some 18, .app false 42 7 104 (.t 11) (.t 17), none⟩, ⟨some 3, .mv (.t 18), none⟩])))
    (.keep [0, 3, 4] (.ops [⟨some 9, .mv (.t 4), none⟩, ⟨some 10, .bin .add (.t 9) (.c (.int .i64 1)), none⟩, ⟨some 4, .mv (.t 10), none⟩])))))))
    (.seq (.keep [3] (.ops [⟨some 19, .mv (.t 3), none⟩, ⟨some 2, .mv (.t 19), none⟩]))
    .ret)))), [.t 2], 20⟩
theorem b41 : fB Try.prog 41 c41 = true := by kernel_rfl

/-- partywall/partywallref26.put -/
def c42 : CF := ⟨(.seq (.keep [0, 1] (.ops [⟨some 2, .box 3 (.t 0), none⟩, ⟨some 3, .box 7 (.t 1), none⟩, ⟨some 4, .alloc [.int .i64 0, .nils, .int .i64 0], none⟩, ⟨some 5, .mv (.c (.bool false)), none⟩]))
    (.seq (.seq (.keep [2, 3, 4] (.ops [⟨some 6, .fldA 2 (.t 2), none⟩, ⟨some 7, .ld (none) (.t 6), none⟩, ⟨some 8, .bin .gtr (.t 7) (.c (.int .i64 0)), none⟩, ⟨some 9, .mv (.t 8), none⟩, ⟨some 10, .fldA 1 (.t 2), some (9, false)⟩, ⟨some 11, .ld (none) (.t 10), some (9, false)⟩, ⟨some 12, .len (.t 11), some (9, false)⟩, ⟨some 13, .fldA 0 (.t 2), some (9, false)⟩, ⟨some 14, .ld (none) (.t 13), some (9, false)⟩, ⟨some 15, .bin .eql (.t 12) (.t 14), some (9, false)⟩, ⟨some 16, .pick (.t 9) (.c (.bool true)) (.t 15), none⟩]))
    (.cond (.t 16)
      (.seq (.keep [2, 4] (.ops [⟨some 17, .fldA 2 (.t 2), none⟩, ⟨some 18, .ld (none) (.t 17), none⟩, ⟨some 19, .bin .add (.t 18) (.c (.int .i64 1)), none⟩, ⟨some 20, .mm false (.c (.int .i64 1099511627776)) (.t 19), none⟩, ⟨some 21, .fldA 2 (.t 2), none⟩, ⟨none, .st 1 (.t 21) (.t 20), none⟩]))
      (.seq (.keep [2, 4] (.ops [⟨some 22, .ld (some 3) (.t 2), none⟩, ⟨none, .st 3 (.t 4) (.t 22), none⟩, ⟨some 5, .mv (.c (.bool false)), none⟩]))
      .ret))
      .skip))
    (.seq (.keep [2, 3, 4] (.drw [⟨some 23, .mkSl 7 0 [] [], none⟩, ⟨some 24, .fldA 1 (.t 2), none⟩, ⟨some 25, .ld (none) (.t 24), none⟩, ⟨some 26, .app false 42 7 104 (.t 23) (.t 25), none⟩, ⟨some 27, .ld (some 7) (.t 3), none⟩, ⟨some 28, .call 52 [(.t 27)], none⟩, ⟨some 29, .mkSl 7 1 [.int .i64 0, .int .i64 0, .nils, .nils, .nils, .int .i64 0, .int .i64 0] [(0, 7, (.t 28))], none⟩, ⟨some 30, .app false 42 7 104 (.t 26) (.t 29), none⟩, ⟨some 31, .fldA 1 (.t 2), none⟩, ⟨none, .st 1 (.t 31) (.t 30), none⟩] [0, 0, 1, 0, 1, 1, 0, 0, 0, 2]))
    (.seq (.keep [2, 4] (.ops [⟨some 32, .ld (some 3) (.t 2), none⟩, ⟨none, .st 3 (.t 4) (.t 32), none⟩, ⟨some 5, .mv (.c (.bool true)), none⟩]))
    .ret)))), [.cl 4 (some 3), .t 5], 33⟩
theorem b42 : fB Try.prog 42 c42 = true := by kernel_rfl

/-- (partywall/queue.queue).room -/
def c43 : CF := ⟨(.seq (.keep [0] (.ops [⟨some 1, .box 3 (.t 0), none⟩, ⟨some 2, .mv (.c (.int .i64 0)), none⟩]))
    (.seq (.seq (.keep [1] (.ops [⟨some 3, .fldA 0 (.t 1), none⟩, ⟨some 4, .fldA 2 (.t 3), none⟩, ⟨some 5, .ld (none) (.t 4), none⟩, ⟨some 6, .bin .neq (.t 5) (.c (.int .i64 0)), none⟩]))
    (.cond (.t 6)
      (.seq (.keep [] (.ops [⟨some 2, .mv (.c (.int .i64 0)), none⟩]))
      .ret)
      .skip))
    (.seq (.keep [1] (.ops [⟨some 7, .fldA 0 (.t 1), none⟩, ⟨some 8, .fldA 0 (.t 7), none⟩, ⟨some 9, .ld (none) (.t 8), none⟩, ⟨some 10, .fldA 0 (.t 1), none⟩, ⟨some 11, .fldA 1 (.t 10), none⟩, ⟨some 12, .ld (none) (.t 11), none⟩, ⟨some 13, .len (.t 12), none⟩, ⟨some 14, .bin .sub (.t 9) (.t 13), none⟩, ⟨some 2, .mv (.t 14), none⟩]))
    .ret))), [.t 2], 15⟩
theorem b43 : fB Try.prog 43 c43 = true := by kernel_rfl

/-- partywall/partywallkit.SameItem -/
def c44 : CF := ⟨(.seq (.keep [0, 1] (.ops [⟨some 2, .box 7 (.t 0), none⟩, ⟨some 3, .box 7 (.t 1), none⟩, ⟨some 4, .mv (.c (.bool false)), none⟩]))
    (.seq (.keep [2, 3] (.ops [⟨some 5, .fldA 0 (.t 2), none⟩, ⟨some 6, .ld (none) (.t 5), none⟩, ⟨some 7, .fldA 0 (.t 3), none⟩, ⟨some 8, .ld (none) (.t 7), none⟩, ⟨some 9, .bin .eql (.t 6) (.t 8), none⟩, ⟨some 10, .mv (.t 9), none⟩, ⟨some 11, .fldA 1 (.t 2), some (10, true)⟩, ⟨some 12, .ld (none) (.t 11), some (10, true)⟩, ⟨some 13, .fldA 1 (.t 3), some (10, true)⟩, ⟨some 14, .ld (none) (.t 13), some (10, true)⟩, ⟨some 15, .bin .eql (.t 12) (.t 14), some (10, true)⟩, ⟨some 16, .pick (.t 10) (.t 15) (.c (.bool false)), none⟩, ⟨some 17, .mv (.t 16), none⟩, ⟨some 18, .fldA 2 (.t 2), some (17, true)⟩, ⟨some 19, .ld (none) (.t 18), some (17, true)⟩, ⟨some 20, .fldA 2 (.t 3), some (17, true)⟩, ⟨some 21, .ld (none) (.t 20), some (17, true)⟩, ⟨some 22, .call 53 [(.t 19), (.t 21)], some (17, true)⟩, ⟨some 23, .pick (.t 17) (.t 22) (.c (.bool false)), none⟩, ⟨some 24, .mv (.t 23), none⟩, ⟨some 25, .fldA 3 (.t 2), some (24, true)⟩, ⟨some 26, .ld (none) (.t 25), some (24, true)⟩, ⟨some 27, .fldA 3 (.t 3), some (24, true)⟩, ⟨some 28, .ld (none) (.t 27), some (24, true)⟩, ⟨some 29, .call 54 [(.t 26), (.t 28)], some (24, true)⟩, ⟨some 30, .pick (.t 24) (.t 29) (.c (.bool false)), none⟩, ⟨some 31, .mv (.t 30), none⟩, ⟨some 32, .fldA 4 (.t 2), some (31, true)⟩, ⟨some 33, .ld (none) (.t 32), some (31, true)⟩, ⟨some 34, .fldA 4 (.t 3), some (31, true)⟩, ⟨some 35, .ld (none) (.t 34), some (31, true)⟩, ⟨some 36, .call 55 [(.t 33), (.t 35)], some (31, true)⟩, ⟨some 37, .pick (.t 31) (.t 36) (.c (.bool false)), none⟩, ⟨some 38, .mv (.t 37), none⟩, ⟨some 39, .fldA 5 (.t 2), some (38, true)⟩, ⟨some 40, .ld (none) (.t 39), some (38, true)⟩, ⟨some 41, .fldA 5 (.t 3), some (38, true)⟩, ⟨some 42, .ld (none) (.t 41), some (38, true)⟩, ⟨some 43, .bin .eql (.t 40) (.t 42), some (38, true)⟩, ⟨some 44, .pick (.t 38) (.t 43) (.c (.bool false)), none⟩, ⟨some 45, .mv (.t 44), none⟩, ⟨some 46, .fldA 6 (.t 2), some (45, true)⟩, ⟨some 47, .ld (none) (.t 46), some (45, true)⟩, ⟨some 48, .fldA 6 (.t 3), some (45, true)⟩, ⟨some 49, .ld (none) (.t 48), some (45, true)⟩, ⟨some 50, .bin .eql (.t 47) (.t 49), some (45, true)⟩, ⟨some 51, .pick (.t 45) (.t 50) (.c (.bool false)), none⟩, ⟨some 4, .mv (.t 51), none⟩]))
    .ret)), [.t 4], 52⟩
theorem b44 : fB Try.prog 44 c44 = true := by kernel_rfl

/-- (*partywall/queue.queue).poll -/
def c45 : CF := ⟨(.seq (.keep [0, 1] (.ops [⟨some 4, .mv (.c .nils), none⟩]))
    (.seq (.keep [0, 1] (.ops [⟨some 9, .mv (.t 1), none⟩, ⟨some 10, .mv (.t 0), none⟩, ⟨some 11, .nilc (.t 10), none⟩, ⟨some 12, .fldA 0 (.t 11), none⟩, ⟨some 13, .fldA 1 (.t 12), none⟩, ⟨some 14, .ld (none) (.t 13), none⟩, ⟨some 15, .len (.t 14), none⟩, ⟨some 16, .mm false (.t 9) (.t 15), none⟩, ⟨some 5, .mv (.t 16), none⟩]))
    (.seq (.keep [0, 1, 5] (.ops [⟨some 17, .mv (.t 0), none⟩, ⟨some 18, .nilc (.t 17), none⟩, ⟨some 19, .fldA 0 (.t 18), none⟩, ⟨some 20, .fldA 1 (.t 19), none⟩, ⟨some 21, .ld (none) (.t 20), none⟩, ⟨some 22, .mv (.t 5), none⟩, ⟨some 23, .mv (.t 5), none⟩, ⟨some 24, .slc 7 (.t 21) none (some (.t 22)) (some (.t 23)), none⟩, ⟨some 25, .call 56 [(.t 24)], none⟩, ⟨some 6, .mv (.t 25), none⟩]))
    (.seq (.keep [0, 1, 5, 6] (.ops [⟨some 26, .mv (.t 0), none⟩, ⟨some 27, .mv (.t 0), none⟩, ⟨some 28, .nilc (.t 27), none⟩, ⟨some 29, .fldA 0 (.t 28), none⟩, ⟨some 30, .fldA 1 (.t 29), none⟩, ⟨some 31, .ld (none) (.t 30), none⟩, ⟨some 32, .mv (.t 5), none⟩, ⟨some 33, .slc 7 (.t 31) (some (.t 32)) none none, none⟩, ⟨some 34, .call 56 [(.t 33)], none⟩, ⟨some 35, .nilc (.t 26), none⟩, ⟨some 36, .fldA 0 (.t 35), none⟩, ⟨some 37, .fldA 1 (.t 36), none⟩, ⟨none, .st 1 (.t 37) (.t 34), none⟩]))
    (.seq (.seq (.keep [0, 1, 5, 6] (.ops [⟨some 38, .mv (.t 5), none⟩, ⟨some 39, .mv (.t 1), none⟩, ⟨some 40, .bin .lss (.t 38) (.t 39), none⟩, ⟨some 41, .mv (.t 40), none⟩, ⟨some 42, .mv (.t 0), some (41, true)⟩, ⟨some 43, .nilc (.t 42), some (41, true)⟩, ⟨some 44, .fldA 0 (.t 43), some (41, true)⟩, ⟨some 45, .fldA 2 (.t 44), some (41, true)⟩, ⟨some 46, .ld (none) (.t 45), some (41, true)⟩, ⟨some 47, .bin .gtr (.t 46) (.c (.int .i64 0)), some (41, true)⟩, ⟨some 48, .pick (.t 41) (.t 47) (.c (.bool false)), none⟩]))
    (.cond (.t 48)
      (.seq (.keep [0, 6] (.ops [⟨some 50, .mv (.t 0), none⟩, ⟨some 51, .nilc (.t 50), none⟩, ⟨some 52, .fldA 0 (.t 51), none⟩, ⟨some 53, .fldA 2 (.t 52), none⟩, ⟨some 54, .ld (none) (.t 53), none⟩, ⟨some 55, .call 57 [(.c (.int .i64 0)), (.c (.int .i64 19)), (.t 54)], none⟩, ⟨some 49, .mv (.t 55), none⟩, ⟨some 56, .ext (.t 49) 0, none⟩, ⟨some 57, .ext (.t 49) 1, none⟩, ⟨some 7, .alloc [.int .i64 0, .int .i64 0, .nils, .nils, .nils, .int .i64 0, .int .i64 0], none⟩, ⟨none, .st 7 (.t 7) (.t 56), none⟩, ⟨some 8, .mv (.t 57), none⟩]))
      (.keep [0, 6, 7] (.ops [⟨some 58, .mv (.t 0), none⟩, ⟨some 59, .mv (.t 6), none⟩, ⟨some 60, .ld (some 7) (.t 7), none⟩, ⟨some 61, .mkSl 7 1 [.int .i64 0, .int .i64 0, .nils, .nils, .nils, .int .i64 0, .int .i64 0] [(0, 7, (.t 60))], none⟩, ⟨some 62, .app false 42 7 104 (.t 59) (.t 61), none⟩, ⟨some 6, .mv (.t 62), none⟩, ⟨some 63, .nilc (.t 58), none⟩, ⟨some 64, .fldA 0 (.t 63), none⟩, ⟨some 65, .fldA 2 (.t 64), none⟩, ⟨none, .st 1 (.t 65) (.c (.int .i64 0)), none⟩])))
      .skip))
    (.seq (.keep [6] (.ops [⟨some 66, .mv (.t 6), none⟩, ⟨some 4, .mv (.t 66), none⟩]))
    .ret)))))), [.t 4], 67⟩
theorem b45 : fB Try.prog 45 c45 = true := by kernel_rfl

/-- partywall/queue.All$1 -/
def c46 : CF := ⟨(.seq (.keep [0] (.ops [⟨some 1, .mv (.c .nils), none⟩]))
    (.seq (.keep [0] (.ops [⟨some 2, .call 45 [(.t 0), (.c (.int .i64 64))], none⟩, ⟨some 1, .mv (.t 2), none⟩]))
    .ret)), [.t 1], 3⟩
theorem b46 : fB Try.prog 46 c46 = true := by kernel_rfl

/-- partywall/partywallref26.poll -/
def c47 : CF := ⟨(.seq (.keep [0, 1] (.ops [⟨some 2, .box 3 (.t 0), none⟩, ⟨some 4, .alloc [.int .i64 0, .nils, .int .i64 0], none⟩, ⟨some 5, .mv (.c .nils), none⟩]))
    (.seq (.keep [1, 2, 4] (.ops [⟨some 8, .mv (.t 1), none⟩, ⟨some 9, .fldA 1 (.t 2), none⟩, ⟨some 10, .ld (none) (.t 9), none⟩, ⟨some 11, .len (.t 10), none⟩, ⟨some 12, .mm false (.t 8) (.t 11), none⟩, ⟨some 6, .mv (.t 12), none⟩]))
    (.seq (.keep [1, 2, 4, 6] (.ops [⟨some 13, .fldA 1 (.t 2), none⟩, ⟨some 14, .ld (none) (.t 13), none⟩, ⟨some 15, .mv (.t 6), none⟩, ⟨some 16, .slc 7 (.t 14) none (some (.t 15)) none, none⟩, ⟨some 17, .call 41 [(.t 16)], none⟩, ⟨some 7, .mv (.t 17), none⟩]))
    (.seq (.keep [1, 2, 4, 6, 7] (.ops [⟨some 18, .fldA 1 (.t 2), none⟩, ⟨some 19, .ld (none) (.t 18), none⟩, ⟨some 20, .mv (.t 6), none⟩, ⟨some 21, .slc 7 (.t 19) (some (.t 20)) none none, none⟩, ⟨some 22, .call 41 [(.t 21)], none⟩, ⟨some 23, .fldA 1 (.t 2), none⟩, ⟨none, .st 1 (.t 23) (.t 22), none⟩]))
    (.seq (.seq (.keep [1, 2, 4, 6, 7] (.ops [⟨some 24, .mv (.t 6), none⟩, ⟨some 25, .mv (.t 1), none⟩, ⟨some 26, .bin .lss (.t 24) (.t 25), none⟩, ⟨some 27, .mv (.t 26), none⟩, ⟨some 28, .fldA 2 (.t 2), some (27, true)⟩, ⟨some 29, .ld (none) (.t 28), some (27, true)⟩, ⟨some 30, .bin .gtr (.t 29) (.c (.int .i64 0)), some (27, true)⟩, ⟨some 31, .pick (.t 27) (.t 30) (.c (.bool false)), none⟩]))
    (.cond (.t 31)
      (.seq (.keep [2, 4, 7] (.ops [⟨some 32, .mv (.t 7), none⟩, ⟨some 33, .fldA 2 (.t 2), none⟩, ⟨some 34, .ld (none) (.t 33), none⟩, ⟨some 35, .bld [.int .i64 0, .int .i64 0, .nils, .nils, .nils, .int .i64 0, .int .i64 0] [(0, 1, (.c (.int .i64 2))), (5, 1, (.c (.int .i64 19))), (6, 1, (.t 34))], none⟩, ⟨some 36, .mkSl 7 1 [.int .i64 0, .int .i64 0, .nils, .nils, .nils, .int .i64 0, .int .i64 0] [(0, 7, (.t 35))], none⟩, ⟨some 37, .app false 42 7 104 (.t 32) (.t 36), none⟩, ⟨some 7, .mv (.t 37), none⟩]))
      (.keep [2, 4, 7] (.ops [⟨some 38, .fldA 2 (.t 2), none⟩, ⟨none, .st 1 (.t 38) (.c (.int .i64 0)), none⟩])))
      .skip))
    (.seq (.keep [2, 4, 7] (.ops [⟨some 39, .ld (some 3) (.t 2), none⟩, ⟨some 40, .mv (.t 7), none⟩, ⟨none, .st 3 (.t 4) (.t 39), none⟩, ⟨some 5, .mv (.t 40), none⟩]))
    .ret)))))), [.cl 4 (some 3), .t 5], 41⟩
theorem b47 : fB Try.prog 47 c47 = true := by kernel_rfl

/-- partywall/partywallkit.OwnInts -/
def c48 : CF := ⟨(.seq (.keep [0] (.ops [⟨some 2, .mv (.c .nils), none⟩]))
    (.seq (.keep [0] (.ops [⟨some 3, .mkSl 1 0 [] [], none⟩, ⟨some 4, .mv (.t 0), none⟩, ⟨some 5, .app false 3 1 8 (.t 3) (.t 4), none⟩, ⟨some 2, .mv (.t 5), none⟩]))
    .ret)), [.t 2], 6⟩
theorem b48 : fB Try.prog 48 c48 = true := by kernel_rfl

/-- partywall/match.Right -/
def c49 : CF := ⟨(.seq (.keep [0] (.ops [⟨some 1, .box 7 (.t 0), none⟩, ⟨some 2, .mv (.c (.int .i64 0)), none⟩]))
    (.seq (.seq (.keep [1] (.ops [⟨some 3, .fldA 0 (.t 1), none⟩, ⟨some 4, .ld (none) (.t 3), none⟩]))
    (.block 0 (.seq (.keep [1, 4] (.ops [⟨some 6, .bin .eql (.t 4) (.c (.int .i64 1)), none⟩, ⟨some 5, .mv (.t 6), none⟩]))
    (.cond (.t 5)
      (.seq (.keep [1] (.ops [⟨some 7, .ld (some 7) (.t 1), none⟩, ⟨some 8, .call 58 [(.t 7)], none⟩, ⟨some 2, .mv (.t 8), none⟩]))
      .ret)
      (.seq (.keep [1, 4] (.ops [⟨some 10, .bin .eql (.t 4) (.c (.int .i64 2)), none⟩, ⟨some 9, .mv (.t 10), none⟩]))
      (.cond (.t 9)
        (.seq (.keep [1] (.ops [⟨some 11, .ld (some 7) (.t 1), none⟩, ⟨some 12, .call 59 [(.t 11)], none⟩, ⟨some 2, .mv (.t 12), none⟩]))
        .ret)
        .skip))))))
    (.seq (.keep [] (.ops [⟨some 2, .mv (.c (.int .i64 11)), none⟩]))
    .ret))), [.t 2], 13⟩
theorem b49 : fB Try.prog 49 c49 = true := by kernel_rfl

/-- partywall/partywallref17.Right -/
def c50 : CF := ⟨(.seq (.keep [0] (.ops [⟨some 1, .box 7 (.t 0), none⟩, ⟨some 2, .mv (.c (.int .i64 0)), none⟩]))
    (.seq (.seq (.keep [1] (.ops [⟨some 3, .fldA 0 (.t 1), none⟩, ⟨some 4, .ld (none) (.t 3), none⟩]))
    (.block 0 (.seq (.keep [1, 4] (.ops [⟨some 6, .bin .eql (.t 4) (.c (.int .i64 1)), none⟩, ⟨some 5, .mv (.t 6), none⟩]))
    (.cond (.t 5)
      (.seq (.keep [1] (.ops [⟨some 7, .ld (some 7) (.t 1), none⟩, ⟨some 8, .call 60 [(.t 7)], none⟩, ⟨some 2, .mv (.t 8), none⟩]))
      .ret)
      (.seq (.keep [1, 4] (.ops [⟨some 10, .bin .eql (.t 4) (.c (.int .i64 2)), none⟩, ⟨some 9, .mv (.t 10), none⟩]))
      (.cond (.t 9)
        (.seq (.keep [1] (.ops [⟨some 11, .ld (some 7) (.t 1), none⟩, ⟨some 12, .call 61 [(.t 11)], none⟩, ⟨some 2, .mv (.t 12), none⟩]))
        .ret)
        .skip))))))
    (.seq (.keep [] (.ops [⟨some 2, .mv (.c (.int .i64 11)), none⟩]))
    .ret))), [.t 2], 13⟩
theorem b50 : fB Try.prog 50 c50 = true := by kernel_rfl

/-- (*partywall/queue.queue).drop -/
def c51 : CF := ⟨(.seq (.keep [0] (.ops [⟨some 2, .mv (.t 0), none⟩, ⟨some 3, .nilc (.t 2), none⟩, ⟨some 4, .fldA 0 (.t 3), none⟩, ⟨some 5, .fldA 2 (.t 4), none⟩, ⟨some 6, .ld (none) (.t 5), none⟩, ⟨some 7, .bin .lss (.t 6) (.c (.int .i64 1099511627776)), none⟩]))
    (.cond (.t 7)
      (.keep [0] (.ops [⟨some 8, .mv (.t 0), none⟩, ⟨some 9, .nilc (.t 8), none⟩, ⟨some 10, .fldA 0 (.t 9), none⟩, ⟨some 11, .fldA 2 (.t 10), none⟩, ⟨some 12, .ld (none) (.t 11), none⟩, ⟨some 13, .bin .add (.t 12) (.c (.int .i64 1)), none⟩, ⟨some 14, .nilc (.t 8), none⟩, ⟨some 15, .fldA 0 (.t 14), none⟩, ⟨some 16, .fldA 2 (.t 15), none⟩, ⟨none, .st 1 (.t 16) (.t 13), none⟩]))
      .skip)), [], 17⟩
theorem b51 : fB Try.prog 51 c51 = true := by kernel_rfl

/-- partywall/partywallref26.own -/
def c52 : CF := ⟨(.seq (.keep [0] (.ops [⟨some 1, .box 7 (.t 0), none⟩, ⟨some 2, .alloc [.int .i64 0, .int .i64 0, .nils, .nils, .nils, .int .i64 0, .int .i64 0], none⟩]))
    (.seq (.keep [1, 2] (.ops [⟨some 3, .mkSl 2 0 [] [], none⟩, ⟨some 4, .fldA 2 (.t 1), none⟩, ⟨some 5, .ld (none) (.t 4), none⟩, ⟨some 6, .app false 74 2 16 (.t 3) (.t 5), none⟩, ⟨some 7, .fldA 2 (.t 1), none⟩, ⟨none, .st 1 (.t 7) (.t 6), none⟩]))
    (.seq (.keep [1, 2] (.ops [⟨some 8, .mkSl 1 0 [] [], none⟩, ⟨some 9, .fldA 3 (.t 1), none⟩, ⟨some 10, .ld (none) (.t 9), none⟩, ⟨some 11, .app false 3 1 8 (.t 8) (.t 10), none⟩, ⟨some 12, .fldA 3 (.t 1), none⟩, ⟨none, .st 1 (.t 12) (.t 11), none⟩]))
    (.seq (.keep [1, 2] (.ops [⟨some 13, .mkSl 1 0 [] [], none⟩, ⟨some 14, .fldA 4 (.t 1), none⟩, ⟨some 15, .ld (none) (.t 14), none⟩, ⟨some 16, .app false 2 1 8 (.t 13) (.t 15), none⟩, ⟨some 17, .fldA 4 (.t 1), none⟩, ⟨none, .st 1 (.t 17) (.t 16), none⟩]))
    (.seq (.keep [1, 2] (.ops [⟨some 18, .ld (some 7) (.t 1), none⟩, ⟨none, .st 7 (.t 2) (.t 18), none⟩]))
    .ret))))), [.cl 2 (some 7)], 19⟩
theorem b52 : fB Try.prog 52 c52 = true := by kernel_rfl

/-- partywall/partywallkit.SameIds -/
def c53 : CF := ⟨(.seq (.keep [0, 1] (.ops [⟨some 4, .mv (.c (.bool false)), none⟩]))
    (.seq (.seq (.keep [0, 1] (.ops [⟨some 6, .mv (.t 0), none⟩, ⟨some 7, .len (.t 6), none⟩, ⟨some 8, .mv (.t 1), none⟩, ⟨some 9, .len (.t 8), none⟩, ⟨some 10, .bin .neq (.t 7) (.t 9), none⟩]))
    (.cond (.t 10)
      (.seq (.keep [] (.ops [⟨some 4, .mv (.c (.bool false)), none⟩]))
      .ret)
      .skip))
    (.seq (.seq (.keep [0, 1] (.ops [⟨some 5, .mv (.c (.int .i64 0)), none⟩]))
    (.block 0 (.loop (.seq (.seq (.keep [0, 1, 5] (.ops [⟨some 11, .mv (.t 5), none⟩, ⟨some 12, .mv (.t 0), none⟩, ⟨some 13, .len (.t 12), none⟩, ⟨some 14, .bin .lss (.t 11) (.t 13), none⟩]))
    (.cond (.t 14)
      .skip
      (.exit 0)))
    (.seq (.block 1 (.seq (.keep [0, 1, 5] (.drw [⟨some 17, .mv (.t 0), none⟩, ⟨some 18, .mv (.t 5), none⟩, ⟨some 19, .ixA 2 (.t 17) (.t 18), none⟩, ⟨some 20, .ld (some 2) (.t 19), none⟩, ⟨some 21, .mv (.t 1), none⟩, ⟨some 22, .mv (.t 5), none⟩, ⟨some 23, .ixA 2 (.t 21) (.t 22), none⟩, ⟨some 24, .ld (some 2) (.t 23), none⟩, ⟨some 25, .eqA true [0, 0] (.t 20) (.t 24), none⟩] [0, 0, 0, 1, 0, 0, 0, 1, 0]))
    (.cond (.t 25)
      (.seq (.keep [] (.ops [⟨some 4, .mv (.c (.bool false)), none⟩]))
      .ret)
      .skip)))
    (.keep [0, 1, 5] (.ops [⟨some 15, .mv (.t 5), none⟩, ⟨some 16, .bin .add (.t 15) (.c (.int .i64 1)), none⟩, ⟨some 5, .mv (.t 16), none⟩])))))))
    (.seq (.keep [] (.ops [⟨some 4, .mv (.c (.bool true)), none⟩]))
    .ret)))), [.t 4], 26⟩
theorem b53 : fB Try.prog 53 c53 = true := by kernel_rfl

/-- partywall/partywallkit.SameInts -/
def c54 : CF := ⟨(.seq (.keep [0, 1] (.ops [⟨some 4, .mv (.c (.bool false)), none⟩]))
    (.seq (.seq (.keep [0, 1] (.ops [⟨some 6, .mv (.t 0), none⟩, ⟨some 7, .len (.t 6), none⟩, ⟨some 8, .mv (.t 1), none⟩, ⟨some 9, .len (.t 8), none⟩, ⟨some 10, .bin .neq (.t 7) (.t 9), none⟩]))
    (.cond (.t 10)
      (.seq (.keep [] (.ops [⟨some 4, .mv (.c (.bool false)), none⟩]))
      .ret)
      .skip))
    (.seq (.seq (.keep [0, 1] (.ops [⟨some 5, .mv (.c (.int .i64 0)), none⟩]))
    (.block 0 (.loop (.seq (.seq (.keep [0, 1, 5] (.ops [⟨some 11, .mv (.t 5), none⟩, ⟨some 12, .mv (.t 0), none⟩, ⟨some 13, .len (.t 12), none⟩, ⟨some 14, .bin .lss (.t 11) (.t 13), none⟩]))
    (.cond (.t 14)
      .skip
      (.exit 0)))
    (.seq (.block 1 (.seq (.keep [0, 1, 5] (.drw [⟨some 17, .mv (.t 0), none⟩, ⟨some 18, .mv (.t 5), none⟩, ⟨some 19, .ixA 1 (.t 17) (.t 18), none⟩, ⟨some 20, .ld (none) (.t 19), none⟩, ⟨some 21, .mv (.t 1), none⟩, ⟨some 22, .mv (.t 5), none⟩, ⟨some 23, .ixA 1 (.t 21) (.t 22), none⟩, ⟨some 24, .ld (none) (.t 23), none⟩, ⟨some 25, .bin .neq (.t 20) (.t 24), none⟩] [0, 0, 0, 1, 0, 0, 0, 1, 0]))
    (.cond (.t 25)
      (.seq (.keep [] (.ops [⟨some 4, .mv (.c (.bool false)), none⟩]))
      .ret)
      .skip)))
    (.keep [0, 1, 5] (.ops [⟨some 15, .mv (.t 5), none⟩, ⟨some 16, .bin .add (.t 15) (.c (.int .i64 1)), none⟩, ⟨some 5, .mv (.t 16), none⟩])))))))
    (.seq (.keep [] (.ops [⟨some 4, .mv (.c (.bool true)), none⟩]))
    .ret)))), [.t 4], 26⟩
theorem b54 : fB Try.prog 54 c54 = true := by kernel_rfl

/-- partywall/partywallkit.SameValues -/
def c55 : CF := ⟨(.seq (.keep [0, 1] (.ops [⟨some 4, .mv (.c (.bool false)), none⟩]))
    (.seq (.seq (.keep [0, 1] (.ops [⟨some 6, .mv (.t 0), none⟩, ⟨some 7, .len (.t 6), none⟩, ⟨some 8, .mv (.t 1), none⟩, ⟨some 9, .len (.t 8), none⟩, ⟨some 10, .bin .neq (.t 7) (.t 9), none⟩]))
    (.cond (.t 10)
      (.seq (.keep [] (.ops [⟨some 4, .mv (.c (.bool false)), none⟩]))
      .ret)
      .skip))
    (.seq (.seq (.keep [0, 1] (.ops [⟨some 5, .mv (.c (.int .i64 0)), none⟩]))
    (.block 0 (.loop (.seq (.seq (.keep [0, 1, 5] (.ops [⟨some 11, .mv (.t 5), none⟩, ⟨some 12, .mv (.t 0), none⟩, ⟨some 13, .len (.t 12), none⟩, ⟨some 14, .bin .lss (.t 11) (.t 13), none⟩]))
    (.cond (.t 14)
      .skip
      (.exit 0)))
    (.seq (.block 1 (.seq (.keep [0, 1, 5] (.drw [⟨some 17, .mv (.t 0), none⟩, ⟨some 18, .mv (.t 5), none⟩, ⟨some 19, .ixA 1 (.t 17) (.t 18), none⟩, ⟨some 20, .ld (none) (.t 19), none⟩, ⟨some 21, .mv (.t 1), none⟩, ⟨some 22, .mv (.t 5), none⟩, ⟨some 23, .ixA 1 (.t 21) (.t 22), none⟩, ⟨some 24, .ld (none) (.t 23), none⟩, ⟨some 25, .bin .neq (.t 20) (.t 24), none⟩] [0, 0, 0, 1, 0, 0, 0, 1, 0]))
    (.cond (.t 25)
      (.seq (.keep [] (.ops [⟨some 4, .mv (.c (.bool false)), none⟩]))
      .ret)
      .skip)))
    (.keep [0, 1, 5] (.ops [⟨some 15, .mv (.t 5), none⟩, ⟨some 16, .bin .add (.t 15) (.c (.int .i64 1)), none⟩, ⟨some 5, .mv (.t 16), none⟩])))))))
    (.seq (.keep [] (.ops [⟨some 4, .mv (.c (.bool true)), none⟩]))
    .ret)))), [.t 4], 26⟩
theorem b55 : fB Try.prog 55 c55 = true := by kernel_rfl

/-- slices.Clone[[]partywall/api.Item,partywall/api.Item] -/
def c56 : CF := ⟨(.seq (.keep [0] (.ops [⟨some 2, .mv (.c .nils), none⟩]))
    (.seq (.seq (.keep [0] (.ops [⟨some 3, .mv (.t 0), none⟩, ⟨some 4, .isnil 0 false (.t 3), none⟩]))
    (.cond (.t 4)
      (.seq (.keep [] (.ops [⟨some 2, .mv (.c .nils), none⟩]))
      .ret)
      .skip))
    (.seq (.keep [0] (.ops [⟨some 5, .mkSl 7 0 [] [], none⟩, ⟨some 6, .mv (.t 0), none⟩, ⟨some 7, .app false 42 7 104 (.t 5) (.t 6), none⟩, ⟨some 2, .mv (.t 7), none⟩]))
    .ret))), [.t 2], 8⟩
theorem b56 : fB Try.prog 56 c56 = true := by kernel_rfl

/-- partywall/match.Notice -/
def c57 : CF := ⟨(.seq (.keep [0, 1, 2] (.ops [⟨some 6, .alloc [.int .i64 0, .int .i64 0, .nils, .nils, .nils, .int .i64 0, .int .i64 0], none⟩, ⟨some 7, .mv (.c (.int .i64 0)), none⟩]))
    (.seq (.keep [0, 1, 2, 6] (.ops [⟨some 10, .mv (.t 0), none⟩, ⟨some 11, .mv (.t 1), none⟩, ⟨some 12, .mv (.t 2), none⟩, ⟨some 13, .bld [.int .i64 0, .int .i64 0, .nils, .nils, .nils, .int .i64 0, .int .i64 0] [(0, 1, (.c (.int .i64 2))), (1, 1, (.t 10)), (5, 1, (.t 11)), (6, 1, (.t 12))], none⟩, ⟨some 8, .alloc [.int .i64 0, .int .i64 0, .nils, .nils, .nils, .int .i64 0, .int .i64 0], none⟩, ⟨none, .st 7 (.t 8) (.t 13), none⟩]))
    (.seq (.seq (.keep [6, 8] (.ops [⟨some 14, .ld (some 7) (.t 8), none⟩, ⟨some 15, .call 49 [(.t 14)], none⟩, ⟨some 9, .mv (.t 15), none⟩]))
    (.seq (.keep [6, 8, 9] (.ops [⟨some 16, .mv (.t 9), none⟩, ⟨some 17, .bin .neq (.t 16) (.c (.int .i64 0)), none⟩]))
    (.cond (.t 17)
      (.seq (.keep [6, 9] (.ops [⟨some 18, .bld [.int .i64 0, .int .i64 0, .nils, .nils, .nils, .int .i64 0, .int .i64 0] [], none⟩, ⟨some 19, .mv (.t 9), none⟩, ⟨none, .st 7 (.t 6) (.t 18), none⟩, ⟨some 7, .mv (.t 19), none⟩]))
      .ret)
      .skip)))
    (.seq (.keep [6, 8] (.ops [⟨some 20, .ld (some 7) (.t 8), none⟩, ⟨none, .st 7 (.t 6) (.t 20), none⟩, ⟨some 7, .mv (.c (.int .i64 0)), none⟩]))
    .ret)))), [.cl 6 (some 7), .t 7], 21⟩
theorem b57 : fB Try.prog 57 c57 = true := by kernel_rfl

/-- partywall/match.found -/
def c58 : CF := ⟨(.seq (.keep [0] (.ops [⟨some 1, .box 7 (.t 0), none⟩, ⟨some 2, .mv (.c (.int .i64 0)), none⟩]))
    (.seq (.block 0 (.seq (.keep [1] (.ops [⟨some 6, .fldA 1 (.t 1), none⟩, ⟨some 7, .ld (none) (.t 6), none⟩, ⟨some 8, .call 62 [(.t 7)], none⟩, ⟨some 9, .un .not (.t 8), none⟩, ⟨some 5, .mv (.t 9), none⟩]))
    (.cond (.t 5)
      (.seq (.keep [] (.ops [⟨some 2, .mv (.c (.int .i64 2)), none⟩]))
      .ret)
      (.seq (.keep [1] (.ops [⟨some 11, .fldA 2 (.t 1), none⟩, ⟨some 12, .ld (none) (.t 11), none⟩, ⟨some 13, .len (.t 12), none⟩, ⟨some 14, .bin .eql (.t 13) (.c (.int .i64 0)), none⟩, ⟨some 10, .mv (.t 14), none⟩]))
      (.cond (.t 10)
        (.seq (.keep [] (.ops [⟨some 2, .mv (.c (.int .i64 5)), none⟩]))
        .ret)
        (.seq (.keep [1] (.ops [⟨some 16, .fldA 2 (.t 1), none⟩, ⟨some 17, .ld (none) (.t 16), none⟩, ⟨some 18, .len (.t 17), none⟩, ⟨some 19, .bin .gtr (.t 18) (.c (.int .i64 12)), none⟩, ⟨some 15, .mv (.t 19), none⟩]))
        (.cond (.t 15)
          (.seq (.keep [] (.ops [⟨some 2, .mv (.c (.int .i64 6)), none⟩]))
          .ret)
          (.seq (.keep [1] (.ops [⟨some 21, .fldA 3 (.t 1), none⟩, ⟨some 22, .ld (none) (.t 21), none⟩, ⟨some 23, .len (.t 22), none⟩, ⟨some 24, .fldA 2 (.t 1), none⟩, ⟨some 25, .ld (none) (.t 24), none⟩, ⟨some 26, .len (.t 25), none⟩, ⟨some 27, .bin .neq (.t 23) (.t 26), none⟩, ⟨some 20, .mv (.t 27), none⟩]))
          (.cond (.t 20)
            (.seq (.keep [] (.ops [⟨some 2, .mv (.c (.int .i64 3)), none⟩]))
            .ret)
            .skip)))))))))
    (.seq (.seq (.keep [1] (.ops [⟨some 28, .fldA 2 (.t 1), none⟩, ⟨some 29, .ld (none) (.t 28), none⟩, ⟨some 30, .len (.t 29), none⟩, ⟨some 31, .mv (.c (.int .i64 0)), none⟩]))
    (.block 1 (.loop (.seq (.keep [1, 29, 30, 31] (.ops [⟨some 32, .bin .lss (.t 31) (.t 30), none⟩]))
    (.seq (.cond (.t 32)
      .skip
      (.exit 1))
    (.seq (.block 2 (.seq (.keep [1, 29, 30, 31] (.ops [⟨some 33, .mv (.t 31), none⟩, ⟨some 34, .ixA 2 (.t 29) (.t 31), none⟩, ⟨some 35, .ld (some 2) (.t 34), none⟩, ⟨some 4, .alloc [.int .u64 0, .int .u64 0], none⟩, ⟨some 3, .mv (.t 33), none⟩, ⟨none, .st 2 (.t 4) (.t 35), none⟩]))
    (.seq (.keep [1, 3, 4, 29, 30, 31] (.ops [⟨some 36, .fldA 1 (.t 4), none⟩, ⟨some 37, .ld (none) (.t 36), none⟩, ⟨some 38, .bin .lss (.t 37) (.c (.int .u64 1)), none⟩, ⟨some 39, .mv (.t 38), none⟩, ⟨some 40, .fldA 1 (.t 4), some (39, false)⟩, ⟨some 41, .ld (none) (.t 40), some (39, false)⟩, ⟨some 42, .bin .gtr (.t 41) (.c (.int .u64 1099511627776)), some (39, false)⟩, ⟨some 43, .pick (.t 39) (.c (.bool true)) (.t 42), none⟩, ⟨some 44, .mv (.t 43), none⟩, ⟨some 45, .fldA 3 (.t 1), some (44, false)⟩, ⟨some 46, .ld (none) (.t 45), some (44, false)⟩, ⟨some 47, .mv (.t 3), some (44, false)⟩, ⟨some 48, .ixA 1 (.t 46) (.t 47), some (44, false)⟩, ⟨some 49, .ld (none) (.t 48), some (44, false)⟩, ⟨some 50, .bin .lss (.t 49) (.c (.int .i64 0)), some (44, false)⟩, ⟨some 51, .pick (.t 44) (.c (.bool true)) (.t 50), none⟩, ⟨some 52, .mv (.t 51), none⟩, ⟨some 53, .fldA 3 (.t 1), some (52, false)⟩, ⟨some 54, .ld (none) (.t 53), some (52, false)⟩, ⟨some 55, .mv (.t 3), some (52, false)⟩, ⟨some 56, .ixA 1 (.t 54) (.t 55), some (52, false)⟩, ⟨some 57, .ld (none) (.t 56), some (52, false)⟩, ⟨some 58, .bin .geq (.t 57) (.c (.int .i64 12)), some (52, false)⟩, ⟨some 59, .pick (.t 52) (.c (.bool true)) (.t 58), none⟩]))
    (.cond (.t 59)
      (.seq (.keep [] (.ops [⟨some 2, .mv (.c (.int .i64 2)), none⟩]))
      .ret)
      .skip))))
    (.keep [1, 29, 30, 31] (.ops [⟨some 60, .bin .add (.t 31) (.c (.int .i64 1)), none⟩, ⟨some 31, .mv (.t 60), none⟩]))))))))
    (.seq (.block 3 (.seq (.keep [1] (.ops [⟨some 62, .fldA 5 (.t 1), none⟩, ⟨some 63, .ld (none) (.t 62), none⟩, ⟨some 64, .bin .neq (.t 63) (.c (.int .i64 0)), none⟩, ⟨some 65, .mv (.t 64), none⟩, ⟨some 66, .fldA 5 (.t 1), some (65, true)⟩, ⟨some 67, .ld (none) (.t 66), some (65, true)⟩, ⟨some 68, .bin .neq (.t 67) (.c (.int .i64 7)), some (65, true)⟩, ⟨some 69, .pick (.t 65) (.t 68) (.c (.bool false)), none⟩, ⟨some 70, .mv (.t 69), none⟩, ⟨some 71, .fldA 5 (.t 1), some (70, true)⟩, ⟨some 72, .ld (none) (.t 71), some (70, true)⟩, ⟨some 73, .bin .neq (.t 72) (.c (.int .i64 16)), some (70, true)⟩, ⟨some 74, .pick (.t 70) (.t 73) (.c (.bool false)), none⟩, ⟨some 61, .mv (.t 74), none⟩]))
    (.cond (.t 61)
      (.seq (.keep [] (.ops [⟨some 2, .mv (.c (.int .i64 11)), none⟩]))
      .ret)
      (.seq (.keep [1] (.ops [⟨some 76, .fldA 5 (.t 1), none⟩, ⟨some 77, .ld (none) (.t 76), none⟩, ⟨some 78, .bin .neq (.t 77) (.c (.int .i64 0)), none⟩, ⟨some 79, .mv (.t 78), none⟩, ⟨some 80, .fldA 4 (.t 1), some (79, true)⟩, ⟨some 81, .ld (none) (.t 80), some (79, true)⟩, ⟨some 82, .len (.t 81), some (79, true)⟩, ⟨some 83, .bin .gtr (.t 82) (.c (.int .i64 0)), some (79, true)⟩, ⟨some 84, .pick (.t 79) (.t 83) (.c (.bool false)), none⟩, ⟨some 75, .mv (.t 84), none⟩]))
      (.cond (.t 75)
        (.seq (.keep [] (.ops [⟨some 2, .mv (.c (.int .i64 3)), none⟩]))
        .ret)
        (.seq (.keep [1] (.ops [⟨some 86, .fldA 4 (.t 1), none⟩, ⟨some 87, .ld (none) (.t 86), none⟩, ⟨some 88, .len (.t 87), none⟩, ⟨some 89, .bin .gtr (.t 88) (.c (.int .i64 4)), none⟩, ⟨some 85, .mv (.t 89), none⟩]))
        (.cond (.t 85)
          (.seq (.keep [] (.ops [⟨some 2, .mv (.c (.int .i64 6)), none⟩]))
          .ret)
          (.seq (.keep [1] (.ops [⟨some 91, .fldA 6 (.t 1), none⟩, ⟨some 92, .ld (none) (.t 91), none⟩, ⟨some 93, .bin .neq (.t 92) (.c (.int .i64 0)), none⟩, ⟨some 90, .mv (.t 93), none⟩]))
          (.cond (.t 90)
            (.seq (.keep [] (.ops [⟨some 2, .mv (.c (.int .i64 3)), none⟩]))
            .ret)
            .skip)))))))))
    (.seq (.keep [] (.ops [⟨some 2, .mv (.c (.int .i64 0)), none⟩]))
    .ret))))), [.t 2], 94⟩
theorem b58 : fB Try.prog 58 c58 = true := by kernel_rfl

/-- partywall/match.notice -/
def c59 : CF := ⟨(.seq (.keep [0] (.ops [⟨some 1, .box 7 (.t 0), none⟩, ⟨some 2, .mv (.c (.int .i64 0)), none⟩]))
    (.seq (.block 0 (.seq (.keep [1] (.ops [⟨some 4, .fldA 5 (.t 1), none⟩, ⟨some 5, .ld (none) (.t 4), none⟩, ⟨some 6, .bin .neq (.t 5) (.c (.int .i64 17)), none⟩, ⟨some 7, .mv (.t 6), none⟩, ⟨some 8, .fldA 5 (.t 1), some (7, true)⟩, ⟨some 9, .ld (none) (.t 8), some (7, true)⟩, ⟨some 10, .bin .neq (.t 9) (.c (.int .i64 18)), some (7, true)⟩, ⟨some 11, .pick (.t 7) (.t 10) (.c (.bool false)), none⟩, ⟨some 12, .mv (.t 11), none⟩, ⟨some 13, .fldA 5 (.t 1), some (12, true)⟩, ⟨some 14, .ld (none) (.t 13), some (12, true)⟩, ⟨some 15, .bin .neq (.t 14) (.c (.int .i64 19)), some (12, true)⟩, ⟨some 16, .pick (.t 12) (.t 15) (.c (.bool false)), none⟩, ⟨some 3, .mv (.t 16), none⟩]))
    (.cond (.t 3)
      (.seq (.keep [] (.ops [⟨some 2, .mv (.c (.int .i64 11)), none⟩]))
      .ret)
      (.seq (.keep [1] (.ops [⟨some 18, .fldA 5 (.t 1), none⟩, ⟨some 19, .ld (none) (.t 18), none⟩, ⟨some 20, .bin .eql (.t 19) (.c (.int .i64 19)), none⟩, ⟨some 21, .mv (.t 20), none⟩, ⟨some 22, .fldA 1 (.t 1), some (21, true)⟩, ⟨some 23, .ld (none) (.t 22), some (21, true)⟩, ⟨some 24, .bin .neq (.t 23) (.c (.int .i64 0)), some (21, true)⟩, ⟨some 25, .pick (.t 21) (.t 24) (.c (.bool false)), none⟩, ⟨some 26, .mv (.t 25), none⟩, ⟨some 27, .fldA 5 (.t 1), some (26, false)⟩, ⟨some 28, .ld (none) (.t 27), some (26, false)⟩, ⟨some 29, .bin .neq (.t 28) (.c (.int .i64 19)), some (26, false)⟩, ⟨some 30, .mv (.t 29), some (26, false)⟩, ⟨some 31, .fldA 1 (.t 1), some (30, true)⟩, ⟨some 32, .ld (none) (.t 31), some (30, true)⟩, ⟨some 33, .call 62 [(.t 32)], some (30, true)⟩, ⟨some 34, .un .not (.t 33), some (30, true)⟩, ⟨some 35, .pick (.t 30) (.t 34) (.c (.bool false)), some (26, false)⟩, ⟨some 36, .pick (.t 26) (.c (.bool true)) (.t 35), none⟩, ⟨some 17, .mv (.t 36), none⟩]))
      (.cond (.t 17)
        (.seq (.keep [] (.ops [⟨some 2, .mv (.c (.int .i64 2)), none⟩]))
        .ret)
        (.seq (.keep [1] (.ops [⟨some 38, .fldA 5 (.t 1), none⟩, ⟨some 39, .ld (none) (.t 38), none⟩, ⟨some 40, .bin .eql (.t 39) (.c (.int .i64 17)), none⟩, ⟨some 41, .mv (.t 40), none⟩, ⟨some 42, .fldA 6 (.t 1), some (41, true)⟩, ⟨some 43, .ld (none) (.t 42), some (41, true)⟩, ⟨some 44, .bin .neq (.t 43) (.c (.int .i64 0)), some (41, true)⟩, ⟨some 45, .pick (.t 41) (.t 44) (.c (.bool false)), none⟩, ⟨some 46, .mv (.t 45), none⟩, ⟨some 47, .fldA 5 (.t 1), some (46, false)⟩, ⟨some 48, .ld (none) (.t 47), some (46, false)⟩, ⟨some 49, .bin .neq (.t 48) (.c (.int .i64 17)), some (46, false)⟩, ⟨some 50, .mv (.t 49), some (46, false)⟩, ⟨some 51, .fldA 6 (.t 1), some (50, true)⟩, ⟨some 52, .ld (none) (.t 51), some (50, true)⟩, ⟨some 53, .call 62 [(.t 52)], some (50, true)⟩, ⟨some 54, .un .not (.t 53), some (50, true)⟩, ⟨some 55, .pick (.t 50) (.t 54) (.c (.bool false)), some (46, false)⟩, ⟨some 56, .pick (.t 46) (.c (.bool true)) (.t 55), none⟩, ⟨some 37, .mv (.t 56), none⟩]))
        (.cond (.t 37)
          (.seq (.keep [] (.ops [⟨some 2, .mv (.c (.int .i64 2)), none⟩]))
          .ret)
          (.seq (.keep [1] (.ops [⟨some 58, .fldA 2 (.t 1), none⟩, ⟨some 59, .ld (none) (.t 58), none⟩, ⟨some 60, .len (.t 59), none⟩, ⟨some 61, .fldA 3 (.t 1), none⟩, ⟨some 62, .ld (none) (.t 61), none⟩, ⟨some 63, .len (.t 62), none⟩, ⟨some 64, .bin .add (.t 60) (.t 63), none⟩, ⟨some 65, .fldA 4 (.t 1), none⟩, ⟨some 66, .ld (none) (.t 65), none⟩, ⟨some 67, .len (.t 66), none⟩, ⟨some 68, .bin .add (.t 64) (.t 67), none⟩, ⟨some 69, .bin .gtr (.t 68) (.c (.int .i64 0)), none⟩, ⟨some 57, .mv (.t 69), none⟩]))
          (.cond (.t 57)
            (.seq (.keep [] (.ops [⟨some 2, .mv (.c (.int .i64 3)), none⟩]))
            .ret)
            .skip)))))))))
    (.seq (.keep [] (.ops [⟨some 2, .mv (.c (.int .i64 0)), none⟩]))
    .ret))), [.t 2], 70⟩
theorem b59 : fB Try.prog 59 c59 = true := by kernel_rfl

/-- partywall/partywallref17.found -/
def c60 : CF := ⟨(.seq (.keep [0] (.ops [⟨some 1, .box 7 (.t 0), none⟩, ⟨some 2, .mv (.c (.int .i64 0)), none⟩]))
    (.seq (.block 0 (.seq (.keep [1] (.ops [⟨some 5, .fldA 1 (.t 1), none⟩, ⟨some 6, .ld (none) (.t 5), none⟩, ⟨some 7, .call 63 [(.t 6)], none⟩, ⟨some 8, .un .not (.t 7), none⟩, ⟨some 4, .mv (.t 8), none⟩]))
    (.cond (.t 4)
      (.seq (.keep [] (.ops [⟨some 2, .mv (.c (.int .i64 2)), none⟩]))
      .ret)
      (.seq (.keep [1] (.ops [⟨some 10, .fldA 2 (.t 1), none⟩, ⟨some 11, .ld (none) (.t 10), none⟩, ⟨some 12, .len (.t 11), none⟩, ⟨some 13, .bin .eql (.t 12) (.c (.int .i64 0)), none⟩, ⟨some 9, .mv (.t 13), none⟩]))
      (.cond (.t 9)
        (.seq (.keep [] (.ops [⟨some 2, .mv (.c (.int .i64 5)), none⟩]))
        .ret)
        (.seq (.keep [1] (.ops [⟨some 15, .fldA 2 (.t 1), none⟩, ⟨some 16, .ld (none) (.t 15), none⟩, ⟨some 17, .len (.t 16), none⟩, ⟨some 18, .bin .gtr (.t 17) (.c (.int .i64 12)), none⟩, ⟨some 14, .mv (.t 18), none⟩]))
        (.cond (.t 14)
          (.seq (.keep [] (.ops [⟨some 2, .mv (.c (.int .i64 6)), none⟩]))
          .ret)
          (.seq (.keep [1] (.ops [⟨some 20, .fldA 3 (.t 1), none⟩, ⟨some 21, .ld (none) (.t 20), none⟩, ⟨some 22, .len (.t 21), none⟩, ⟨some 23, .fldA 2 (.t 1), none⟩, ⟨some 24, .ld (none) (.t 23), none⟩, ⟨some 25, .len (.t 24), none⟩, ⟨some 26, .bin .neq (.t 22) (.t 25), none⟩, ⟨some 19, .mv (.t 26), none⟩]))
          (.cond (.t 19)
            (.seq (.keep [] (.ops [⟨some 2, .mv (.c (.int .i64 3)), none⟩]))
            .ret)
            .skip)))))))))
    (.seq (.seq (.keep [1] (.ops [⟨some 3, .mv (.c (.int .i64 0)), none⟩]))
    (.block 1 (.loop (.seq (.seq (.keep [1, 3] (.ops [⟨some 27, .mv (.t 3), none⟩, ⟨some 28, .fldA 2 (.t 1), none⟩, ⟨some 29, .ld (none) (.t 28), none⟩, ⟨some 30, .len (.t 29), none⟩, ⟨some 31, .bin .lss (.t 27) (.t 30), none⟩]))
    (.cond (.t 31)
      .skip
      (.exit 1)))
    (.seq (.block 2 (.seq (.keep [1, 3] (.ops [⟨some 34, .fldA 2 (.t 1), none⟩, ⟨some 35, .ld (none) (.t 34), none⟩, ⟨some 36, .mv (.t 3), none⟩, ⟨some 37, .ixA 2 (.t 35) (.t 36), none⟩, ⟨some 38, .fldA 1 (.t 37), none⟩, ⟨some 39, .ld (none) (.t 38), none⟩, ⟨some 40, .bin .lss (.t 39) (.c (.int .u64 1)), none⟩, ⟨some 41, .mv (.t 40), none⟩, ⟨some 42, .fldA 2 (.t 1), some (41, false)⟩, ⟨some 43, .ld (none) (.t 42), some (41, false)⟩, ⟨some 44, .mv (.t 3), some (41, false)⟩, ⟨some 45, .ixA 2 (.t 43) (.t 44), some (41, false)⟩, ⟨some 46, .fldA 1 (.t 45), some (41, false)⟩, ⟨some 47, .ld (none) (.t 46), some (41, false)⟩, ⟨some 48, .bin .gtr (.t 47) (.c (.int .u64 1099511627776)), some (41, false)⟩, ⟨some 49, .pick (.t 41) (.c (.bool true)) (.t 48), none⟩, ⟨some 50, .mv (.t 49), none⟩, ⟨some 51, .fldA 3 (.t 1), some (50, false)⟩, ⟨some 52, .ld (none) (.t 51), some (50, false)⟩, ⟨some 53, .mv (.t 3), some (50, false)⟩, ⟨some 54, .ixA 1 (.t 52) (.t 53), some (50, false)⟩, ⟨some 55, .ld (none) (.t 54), some (50, false)⟩, ⟨some 56, .bin .lss (.t 55) (.c (.int .i64 0)), some (50, false)⟩, ⟨some 57, .pick (.t 50) (.c (.bool true)) (.t 56), none⟩, ⟨some 58, .mv (.t 57), none⟩, ⟨some 59, .fldA 3 (.t 1), some (58, false)⟩, ⟨some 60, .ld (none) (.t 59), some (58, false)⟩, ⟨some 61, .mv (.t 3), some (58, false)⟩, ⟨some 62, .ixA 1 (.t 60) (.t 61), some (58, false)⟩, ⟨some 63, .ld (none) (.t 62), some (58, false)⟩, ⟨some 64, .bin .geq (.t 63) (.c (.int .i64 12)), some (58, false)⟩, ⟨some 65, .pick (.t 58) (.c (.bool true)) (.t 64), none⟩]))
    (.cond (.t 65)
      (.seq (.keep [] (.ops [⟨some 2, .mv (.c (.int .i64 2)), none⟩]))
      .ret)
      .skip)))
    (.keep [1, 3] (.ops [⟨some 32, .mv (.t 3), none⟩, ⟨some 33, .bin .add (.t 32) (.c (.int .i64 1)), none⟩, ⟨some 3, .mv (.t 33), none⟩])))))))
    (.seq (.block 3 (.seq (.keep [1] (.ops [⟨some 67, .fldA 5 (.t 1), none⟩, ⟨some 68, .ld (none) (.t 67), none⟩, ⟨some 69, .bin .neq (.t 68) (.c (.int .i64 0)), none⟩, ⟨some 70, .mv (.t 69), none⟩, ⟨some 71, .fldA 5 (.t 1), some (70, true)⟩, ⟨some 72, .ld (none) (.t 71), some (70, true)⟩, ⟨some 73, .bin .neq (.t 72) (.c (.int .i64 7)), some (70, true)⟩, ⟨some 74, .pick (.t 70) (.t 73) (.c (.bool false)), none⟩, ⟨some 75, .mv (.t 74), none⟩, ⟨some 76, .fldA 5 (.t 1), some (75, true)⟩, ⟨some 77, .ld (none) (.t 76), some (75, true)⟩, ⟨some 78, .bin .neq (.t 77) (.c (.int .i64 16)), some (75, true)⟩, ⟨some 79, .pick (.t 75) (.t 78) (.c (.bool false)), none⟩, ⟨some 66, .mv (.t 79), none⟩]))
    (.cond (.t 66)
      (.seq (.keep [] (.ops [⟨some 2, .mv (.c (.int .i64 11)), none⟩]))
      .ret)
      (.seq (.keep [1] (.ops [⟨some 81, .fldA 5 (.t 1), none⟩, ⟨some 82, .ld (none) (.t 81), none⟩, ⟨some 83, .bin .neq (.t 82) (.c (.int .i64 0)), none⟩, ⟨some 84, .mv (.t 83), none⟩, ⟨some 85, .fldA 4 (.t 1), some (84, true)⟩, ⟨some 86, .ld (none) (.t 85), some (84, true)⟩, ⟨some 87, .len (.t 86), some (84, true)⟩, ⟨some 88, .bin .gtr (.t 87) (.c (.int .i64 0)), some (84, true)⟩, ⟨some 89, .pick (.t 84) (.t 88) (.c (.bool false)), none⟩, ⟨some 80, .mv (.t 89), none⟩]))
      (.cond (.t 80)
        (.seq (.keep [] (.ops [⟨some 2, .mv (.c (.int .i64 3)), none⟩]))
        .ret)
        (.seq (.keep [1] (.ops [⟨some 91, .fldA 4 (.t 1), none⟩, ⟨some 92, .ld (none) (.t 91), none⟩, ⟨some 93, .len (.t 92), none⟩, ⟨some 94, .bin .gtr (.t 93) (.c (.int .i64 4)), none⟩, ⟨some 90, .mv (.t 94), none⟩]))
        (.cond (.t 90)
          (.seq (.keep [] (.ops [⟨some 2, .mv (.c (.int .i64 6)), none⟩]))
          .ret)
          (.seq (.keep [1] (.ops [⟨some 96, .fldA 6 (.t 1), none⟩, ⟨some 97, .ld (none) (.t 96), none⟩, ⟨some 98, .bin .neq (.t 97) (.c (.int .i64 0)), none⟩, ⟨some 95, .mv (.t 98), none⟩]))
          (.cond (.t 95)
            (.seq (.keep [] (.ops [⟨some 2, .mv (.c (.int .i64 3)), none⟩]))
            .ret)
            .skip)))))))))
    (.seq (.keep [] (.ops [⟨some 2, .mv (.c (.int .i64 0)), none⟩]))
    .ret))))), [.t 2], 99⟩
theorem b60 : fB Try.prog 60 c60 = true := by kernel_rfl

/-- partywall/partywallref17.notice -/
def c61 : CF := ⟨(.seq (.keep [0] (.ops [⟨some 1, .box 7 (.t 0), none⟩, ⟨some 2, .mv (.c (.int .i64 0)), none⟩]))
    (.seq (.block 0 (.seq (.keep [1] (.ops [⟨some 4, .fldA 5 (.t 1), none⟩, ⟨some 5, .ld (none) (.t 4), none⟩, ⟨some 6, .bin .neq (.t 5) (.c (.int .i64 17)), none⟩, ⟨some 7, .mv (.t 6), none⟩, ⟨some 8, .fldA 5 (.t 1), some (7, true)⟩, ⟨some 9, .ld (none) (.t 8), some (7, true)⟩, ⟨some 10, .bin .neq (.t 9) (.c (.int .i64 18)), some (7, true)⟩, ⟨some 11, .pick (.t 7) (.t 10) (.c (.bool false)), none⟩, ⟨some 12, .mv (.t 11), none⟩, ⟨some 13, .fldA 5 (.t 1), some (12, true)⟩, ⟨some 14, .ld (none) (.t 13), some (12, true)⟩, ⟨some 15, .bin .neq (.t 14) (.c (.int .i64 19)), some (12, true)⟩, ⟨some 16, .pick (.t 12) (.t 15) (.c (.bool false)), none⟩, ⟨some 3, .mv (.t 16), none⟩]))
    (.cond (.t 3)
      (.seq (.keep [] (.ops [⟨some 2, .mv (.c (.int .i64 11)), none⟩]))
      .ret)
      (.seq (.keep [1] (.ops [⟨some 18, .fldA 5 (.t 1), none⟩, ⟨some 19, .ld (none) (.t 18), none⟩, ⟨some 20, .bin .eql (.t 19) (.c (.int .i64 19)), none⟩, ⟨some 21, .mv (.t 20), none⟩, ⟨some 22, .fldA 1 (.t 1), some (21, true)⟩, ⟨some 23, .ld (none) (.t 22), some (21, true)⟩, ⟨some 24, .bin .neq (.t 23) (.c (.int .i64 0)), some (21, true)⟩, ⟨some 25, .pick (.t 21) (.t 24) (.c (.bool false)), none⟩, ⟨some 26, .mv (.t 25), none⟩, ⟨some 27, .fldA 5 (.t 1), some (26, false)⟩, ⟨some 28, .ld (none) (.t 27), some (26, false)⟩, ⟨some 29, .bin .neq (.t 28) (.c (.int .i64 19)), some (26, false)⟩, ⟨some 30, .mv (.t 29), some (26, false)⟩, ⟨some 31, .fldA 1 (.t 1), some (30, true)⟩, ⟨some 32, .ld (none) (.t 31), some (30, true)⟩, ⟨some 33, .call 63 [(.t 32)], some (30, true)⟩, ⟨some 34, .un .not (.t 33), some (30, true)⟩, ⟨some 35, .pick (.t 30) (.t 34) (.c (.bool false)), some (26, false)⟩, ⟨some 36, .pick (.t 26) (.c (.bool true)) (.t 35), none⟩, ⟨some 17, .mv (.t 36), none⟩]))
      (.cond (.t 17)
        (.seq (.keep [] (.ops [⟨some 2, .mv (.c (.int .i64 2)), none⟩]))
        .ret)
        (.seq (.keep [1] (.ops [⟨some 38, .fldA 5 (.t 1), none⟩, ⟨some 39, .ld (none) (.t 38), none⟩, ⟨some 40, .bin .eql (.t 39) (.c (.int .i64 17)), none⟩, ⟨some 41, .mv (.t 40), none⟩, ⟨some 42, .fldA 6 (.t 1), some (41, true)⟩, ⟨some 43, .ld (none) (.t 42), some (41, true)⟩, ⟨some 44, .bin .neq (.t 43) (.c (.int .i64 0)), some (41, true)⟩, ⟨some 45, .pick (.t 41) (.t 44) (.c (.bool false)), none⟩, ⟨some 46, .mv (.t 45), none⟩, ⟨some 47, .fldA 5 (.t 1), some (46, false)⟩, ⟨some 48, .ld (none) (.t 47), some (46, false)⟩, ⟨some 49, .bin .neq (.t 48) (.c (.int .i64 17)), some (46, false)⟩, ⟨some 50, .mv (.t 49), some (46, false)⟩, ⟨some 51, .fldA 6 (.t 1), some (50, true)⟩, ⟨some 52, .ld (none) (.t 51), some (50, true)⟩, ⟨some 53, .call 63 [(.t 52)], some (50, true)⟩, ⟨some 54, .un .not (.t 53), some (50, true)⟩, ⟨some 55, .pick (.t 50) (.t 54) (.c (.bool false)), some (46, false)⟩, ⟨some 56, .pick (.t 46) (.c (.bool true)) (.t 55), none⟩, ⟨some 37, .mv (.t 56), none⟩]))
        (.cond (.t 37)
          (.seq (.keep [] (.ops [⟨some 2, .mv (.c (.int .i64 2)), none⟩]))
          .ret)
          (.seq (.keep [1] (.ops [⟨some 58, .fldA 2 (.t 1), none⟩, ⟨some 59, .ld (none) (.t 58), none⟩, ⟨some 60, .len (.t 59), none⟩, ⟨some 61, .bin .gtr (.t 60) (.c (.int .i64 0)), none⟩, ⟨some 62, .mv (.t 61), none⟩, ⟨some 63, .fldA 3 (.t 1), some (62, false)⟩, ⟨some 64, .ld (none) (.t 63), some (62, false)⟩, ⟨some 65, .len (.t 64), some (62, false)⟩, ⟨some 66, .bin .gtr (.t 65) (.c (.int .i64 0)), some (62, false)⟩, ⟨some 67, .pick (.t 62) (.c (.bool true)) (.t 66), none⟩, ⟨some 68, .mv (.t 67), none⟩, ⟨some 69, .fldA 4 (.t 1), some (68, false)⟩, ⟨some 70, .ld (none) (.t 69), some (68, false)⟩, ⟨some 71, .len (.t 70), some (68, false)⟩, ⟨some 72, .bin .gtr (.t 71) (.c (.int .i64 0)), some (68, false)⟩, ⟨some 73, .pick (.t 68) (.c (.bool true)) (.t 72), none⟩, ⟨some 57, .mv (.t 73), none⟩]))
          (.cond (.t 57)
            (.seq (.keep [] (.ops [⟨some 2, .mv (.c (.int .i64 3)), none⟩]))
            .ret)
            .skip)))))))))
    (.seq (.keep [] (.ops [⟨some 2, .mv (.c (.int .i64 0)), none⟩]))
    .ret))), [.t 2], 74⟩
theorem b61 : fB Try.prog 61 c61 = true := by kernel_rfl

/-- partywall/match.counted -/
def c62 : CF := ⟨(.seq (.keep [0] (.ops [⟨some 2, .mv (.c (.bool false)), none⟩]))
    (.seq (.keep [0] (.ops [⟨some 3, .mv (.t 0), none⟩, ⟨some 4, .bin .geq (.t 3) (.c (.int .i64 1)), none⟩, ⟨some 5, .mv (.t 4), none⟩, ⟨some 6, .mv (.t 0), some (5, true)⟩, ⟨some 7, .bin .leq (.t 6) (.c (.int .i64 1099511627776)), some (5, true)⟩, ⟨some 8, .pick (.t 5) (.t 7) (.c (.bool false)), none⟩, ⟨some 2, .mv (.t 8), none⟩]))
    .ret)), [.t 2], 9⟩
theorem b62 : fB Try.prog 62 c62 = true := by kernel_rfl

/-- partywall/partywallref17.count -/
def c63 : CF := ⟨(.seq (.keep [0] (.ops [⟨some 2, .mv (.c (.bool false)), none⟩]))
    (.seq (.keep [0] (.ops [⟨some 3, .mv (.t 0), none⟩, ⟨some 4, .bin .geq (.t 3) (.c (.int .i64 1)), none⟩, ⟨some 5, .mv (.t 4), none⟩, ⟨some 6, .mv (.t 0), some (5, true)⟩, ⟨some 7, .bin .leq (.t 6) (.c (.int .i64 1099511627776)), some (5, true)⟩, ⟨some 8, .pick (.t 5) (.t 7) (.c (.bool false)), none⟩, ⟨some 2, .mv (.t 8), none⟩]))
    .ret)), [.t 2], 9⟩
theorem b63 : fB Try.prog 63 c63 = true := by kernel_rfl

end Go.Proofs.Ytelmgkneacbneaa
