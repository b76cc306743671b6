import Derived.Test.YthdeocddilacnaaDoorRows
import Derived.Test.YthdeocddilacnaaDoorAbs18
namespace Go.Proofs.YthdeocddilacnaaDoor
open Go.Abs
set_option maxRecDepth 100000

/-- partywall/partywalllaw01.LabelKnown -/
def ec6 : CF := ⟨(.seq (.keep [] (.ops [⟨some 0, .mv (.c (.bool false)), none⟩]))
    (.seq (.keep [] (.ops [⟨some 31, .call 26 [(.c .nils)], none⟩, ⟨some 30, .mv (.t 31), none⟩, ⟨some 32, .ext (.t 30) 0, none⟩, ⟨some 33, .ext (.t 30) 1, none⟩, ⟨some 1, .mv (.t 32), none⟩, ⟨some 2, .mv (.t 33), none⟩]))
    (.seq (.keep [1, 2] (.ops [⟨some 35, .mkSl 1 1 [.int .i64 0] [(0, 1, (.c (.int .i64 64)))], none⟩, ⟨some 36, .call 26 [(.t 35)], none⟩, ⟨some 34, .mv (.t 36), none⟩, ⟨some 37, .ext (.t 34) 0, none⟩, ⟨some 38, .ext (.t 34) 1, none⟩, ⟨some 3, .mv (.t 37), none⟩, ⟨some 4, .mv (.t 38), none⟩]))
    (.seq (.keep [1, 2, 4] (.ops [⟨some 40, .mkSl 1 1 [.int .i64 0] [(0, 1, (.c (.int .i64 63)))], none⟩, ⟨some 41, .call 26 [(.t 40)], none⟩, ⟨some 39, .mv (.t 41), none⟩, ⟨some 42, .ext (.t 39) 0, none⟩, ⟨some 43, .ext (.t 39) 1, none⟩, ⟨some 5, .mv (.t 42), none⟩, ⟨some 6, .mv (.t 43), none⟩]))
    (.seq (.keep [1, 2, 4, 5, 6] (.ops [⟨some 45, .call 28 [(.c (.int .u64 5)), (.c (.int .i64 2))], none⟩, ⟨some 44, .mv (.t 45), none⟩, ⟨some 46, .ext (.t 44) 0, none⟩, ⟨some 47, .ext (.t 44) 1, none⟩, ⟨some 7, .mv (.t 46), none⟩, ⟨some 8, .mv (.t 47), none⟩]))
    (.seq (.keep [1, 2, 4, 5, 6, 7, 8] (.ops [⟨some 49, .call 28 [(.c (.int .u64 5)), (.c (.int .i64 1))], none⟩, ⟨some 48, .mv (.t 49), none⟩, ⟨some 50, .ext (.t 48) 0, none⟩, ⟨some 51, .ext (.t 48) 1, none⟩, ⟨some 9, .mv (.t 50), none⟩, ⟨some 10, .mv (.t 51), none⟩]))
    (.seq (.keep [1, 2, 4, 5, 6, 7, 8, 9, 10] (.ops [⟨some 53, .call 28 [(.c (.int .u64 5)), (.c (.int .i64 64))], none⟩, ⟨some 52, .mv (.t 53), none⟩, ⟨some 54, .ext (.t 52) 0, none⟩, ⟨some 55, .ext (.t 52) 1, none⟩, ⟨some 11, .mv (.t 54), none⟩, ⟨some 12, .mv (.t 55), none⟩]))
    (.seq (.keep [1, 2, 4, 5, 6, 7, 8, 9, 10, 12] (.ops [⟨some 57, .call 30 [(.c (.int .u64 12))], none⟩, ⟨some 56, .mv (.t 57), none⟩, ⟨some 58, .ext (.t 56) 0, none⟩, ⟨some 59, .ext (.t 56) 1, none⟩, ⟨some 13, .mv (.t 58), none⟩, ⟨some 14, .mv (.t 59), none⟩]))
    (.seq (.keep [1, 2, 4, 5, 6, 7, 8, 9, 10, 12, 13, 14] (.ops [⟨some 61, .call 30 [(.c (.int .u64 0))], none⟩, ⟨some 60, .mv (.t 61), none⟩, ⟨some 62, .ext (.t 60) 0, none⟩, ⟨some 63, .ext (.t 60) 1, none⟩, ⟨some 15, .mv (.t 62), none⟩, ⟨some 16, .mv (.t 63), none⟩]))
    (.seq (.keep [1, 2, 4, 5, 6, 7, 8, 9, 10, 12, 13, 14, 16] (.ops [⟨some 65, .call 11 [(.c (.str [123, 125]))], none⟩, ⟨some 64, .mv (.t 65), none⟩, ⟨some 66, .ext (.t 64) 0, none⟩, ⟨some 67, .ext (.t 64) 1, none⟩, ⟨some 18, .alloc [.int .i64 0, .int .i64 0], none⟩, ⟨some 17, .mv (.t 66), none⟩, ⟨none, .st 2 (.t 18) (.t 67), none⟩]))
    (.seq (.keep [1, 2, 4, 5, 6, 7, 8, 9, 10, 12, 13, 14, 16, 17, 18] (.ops [⟨some 69, .call 13 [(.c (.str [123, 49, 125, 120]))], none⟩, ⟨some 68, .mv (.t 69), none⟩, ⟨some 70, .ext (.t 68) 0, none⟩, ⟨some 71, .ext (.t 68) 1, none⟩, ⟨some 72, .ext (.t 68) 2, none⟩, ⟨some 21, .alloc [.int .i64 0, .int .i64 0], none⟩, ⟨some 19, .mv (.t 70), none⟩, ⟨some 20, .mv (.t 71), none⟩, ⟨none, .st 2 (.t 21) (.t 72), none⟩]))
    (.seq (.keep [1, 2, 4, 5, 6, 7, 8, 9, 10, 12, 13, 14, 16, 17, 18, 19, 20, 21] (.ops [⟨some 74, .call 15 [(.c (.str [0, 0, 0, 0, 0, 0, 1, 2]))], none⟩, ⟨some 73, .mv (.t 74), none⟩, ⟨some 75, .ext (.t 73) 0, none⟩, ⟨some 76, .ext (.t 73) 1, none⟩, ⟨some 22, .mv (.t 75), none⟩, ⟨some 23, .mv (.t 76), none⟩]))
    (.seq (.keep [1, 2, 4, 5, 6, 7, 8, 9, 10, 12, 13, 14, 16, 17, 18, 19, 20, 21, 22, 23] (.ops [⟨some 78, .call 15 [(.c (.str [49, 50, 51, 52, 53, 54, 55]))], none⟩, ⟨some 77, .mv (.t 78), none⟩, ⟨some 79, .ext (.t 77) 0, none⟩, ⟨some 80, .ext (.t 77) 1, none⟩, ⟨some 24, .mv (.t 79), none⟩, ⟨some 25, .mv (.t 80), none⟩]))
    (.seq (.keep [1, 2, 4, 5, 6, 7, 8, 9, 10, 12, 13, 14, 16, 17, 18, 19, 20, 21, 22, 23, 25] (.ops [⟨some 81, .mv (.t 2), none⟩, ⟨some 82, .bin .eql (.t 81) (.c (.int .i64 0)), none⟩, ⟨some 83, .mv (.t 82), none⟩, ⟨some 84, .mv (.t 1), some (83, true)⟩, ⟨some 85, .bin .eql (.t 84) (.c (.int .u64 0)), some (83, true)⟩, ⟨some 86, .pick (.t 83) (.t 85) (.c (.bool false)), none⟩, ⟨some 87, .mv (.t 86), none⟩, ⟨some 88, .mv (.t 4), some (87, true)⟩, ⟨some 89, .bin .eql (.t 88) (.c (.int .i64 2)), some (87, true)⟩, ⟨some 90, .pick (.t 87) (.t 89) (.c (.bool false)), none⟩, ⟨some 91, .mv (.t 90), none⟩, ⟨some 92, .mv (.t 6), some (91, true)⟩, ⟨some 93, .bin .eql (.t 92) (.c (.int .i64 0)), some (91, true)⟩, ⟨some 94, .pick (.t 91) (.t 93) (.c (.bool false)), none⟩, ⟨some 95, .mv (.t 94), none⟩, ⟨some 96, .mv (.t 5), some (95, true)⟩, ⟨some 97, .bin .eql (.t 96) (.c (.int .u64 9223372036854775808)), some (95, true)⟩, ⟨some 98, .pick (.t 95) (.t 97) (.c (.bool false)), none⟩, ⟨some 99, .mv (.t 98), none⟩, ⟨some 100, .mv (.t 8), some (99, true)⟩, ⟨some 101, .bin .eql (.t 100) (.c (.int .i64 0)), some (99, true)⟩, ⟨some 102, .pick (.t 99) (.t 101) (.c (.bool false)), none⟩, ⟨some 103, .mv (.t 102), none⟩, ⟨some 104, .mv (.t 7), some (103, true)⟩, ⟨some 105, .pick (.t 103) (.t 104) (.c (.bool false)), none⟩, ⟨some 106, .mv (.t 105), none⟩, ⟨some 107, .mv (.t 10), some (106, true)⟩, ⟨some 108, .bin .eql (.t 107) (.c (.int .i64 0)), some (106, true)⟩, ⟨some 109, .pick (.t 106) (.t 108) (.c (.bool false)), none⟩, ⟨some 110, .mv (.t 109), none⟩, ⟨some 111, .mv (.t 9), some (110, true)⟩, ⟨some 112, .un .not (.t 111), some (110, true)⟩, ⟨some 113, .pick (.t 110) (.t 112) (.c (.bool false)), none⟩, ⟨some 114, .mv (.t 113), none⟩, ⟨some 115, .mv (.t 12), some (114, true)⟩, ⟨some 116, .bin .eql (.t 115) (.c (.int .i64 2)), some (114, true)⟩, ⟨some 117, .pick (.t 114) (.t 116) (.c (.bool false)), none⟩, ⟨some 118, .mv (.t 117), none⟩, ⟨some 119, .mv (.t 14), some (118, true)⟩, ⟨some 120, .bin .eql (.t 119) (.c (.int .i64 0)), some (118, true)⟩, ⟨some 121, .pick (.t 118) (.t 120) (.c (.bool false)), none⟩, ⟨some 122, .mv (.t 121), none⟩, ⟨some 123, .mv (.t 13), some (122, true)⟩, ⟨some 124, .bin .eql (.t 123) (.c (.int .i64 2)), some (122, true)⟩, ⟨some 125, .pick (.t 122) (.t 124) (.c (.bool false)), none⟩, ⟨some 126, .mv (.t 125), none⟩, ⟨some 127, .mv (.t 16), some (126, true)⟩, ⟨some 128, .bin .eql (.t 127) (.c (.int .i64 2)), some (126, true)⟩, ⟨some 129, .pick (.t 126) (.t 128) (.c (.bool false)), none⟩, ⟨some 130, .mv (.t 129), none⟩, ⟨some 131, .call 33 [(.c (.int .u64 5))], some (130, true)⟩, ⟨some 132, .mkSl 1 2 [.int .i64 0, .int .i64 0] [(0, 1, (.c (.int .i64 0))), (1, 1, (.c (.int .i64 2)))], some (130, true)⟩, ⟨some 133, .call 32 [(.t 131), (.t 132)], some (130, true)⟩, ⟨some 134, .pick (.t 130) (.t 133) (.c (.bool false)), none⟩, ⟨some 135, .mv (.t 134), none⟩, ⟨some 136, .call 35 [(.c (.int .u64 5))], some (135, true)⟩, ⟨some 137, .bin .eql (.t 136) (.c (.int .i64 2)), some (135, true)⟩, ⟨some 138, .pick (.t 135) (.t 137) (.c (.bool false)), none⟩, ⟨some 26, .mv (.t 138), none⟩]))
    (.seq (.keep [17, 18, 19, 20, 21, 22, 23, 25, 26] (.ops [⟨some 139, .call 37 [(.c (.int .u64 0)), (.c (.int .u64 0))], none⟩, ⟨some 140, .mv (.t 139), none⟩, ⟨some 141, .call 39 [(.c (.int .u64 1)), (.c (.int .u64 2))], some (140, true)⟩, ⟨some 142, .un .not (.t 141), some (140, true)⟩, ⟨some 143, .pick (.t 140) (.t 142) (.c (.bool false)), none⟩, ⟨some 144, .mv (.t 143), none⟩, ⟨some 145, .call 17 [(.c .nils)], some (144, true)⟩, ⟨some 146, .bin .eql (.t 145) (.c (.int .u64 0)), some (144, true)⟩, ⟨some 147, .pick (.t 144) (.t 146) (.c (.bool false)), none⟩, ⟨some 148, .mv (.t 147), none⟩, ⟨some 149, .mkSl 1 2 [.int .u64 0, .int .u64 0] [(0, 1, (.c (.int .u64 5))), (1, 1, (.c (.int .u64 6)))], some (148, true)⟩, ⟨some 150, .call 19 [(.t 149)], some (148, true)⟩, ⟨some 151, .bin .eql (.t 150) (.c (.int .u64 4)), some (148, true)⟩, ⟨some 152, .pick (.t 148) (.t 151) (.c (.bool false)), none⟩, ⟨some 153, .mv (.t 152), none⟩, ⟨some 154, .call 19 [(.c .nils)], some (153, true)⟩, ⟨some 155, .bin .eql (.t 154) (.c (.int .u64 18446744073709551615)), some (153, true)⟩, ⟨some 156, .pick (.t 153) (.t 155) (.c (.bool false)), none⟩, ⟨some 157, .mv (.t 156), none⟩, ⟨some 158, .call 41 [(.c (.int .u64 7)), (.c (.int .u64 2))], some (157, true)⟩, ⟨some 159, .bin .eql (.t 158) (.c (.int .u64 5)), some (157, true)⟩, ⟨some 160, .pick (.t 157) (.t 159) (.c (.bool false)), none⟩, ⟨some 27, .mv (.t 160), none⟩]))
    (.seq (.keep [17, 18, 19, 20, 21, 22, 23, 25, 26, 27] (.ops [⟨some 161, .call 23 [(.c (.int .u64 0))], none⟩, ⟨some 162, .bin .eql (.t 161) (.c (.str [123, 125])), none⟩, ⟨some 163, .mv (.t 162), none⟩, ⟨some 164, .ld (some 2) (.t 18), some (163, true)⟩, ⟨some 165, .bld [.int .i64 0, .int .i64 0] [], some (163, true)⟩, ⟨some 166, .eqA false [0, 0] (.t 164) (.t 165), some (163, true)⟩, ⟨some 167, .pick (.t 163) (.t 166) (.c (.bool false)), none⟩, ⟨some 168, .mv (.t 167), none⟩, ⟨some 169, .mv (.t 17), some (168, true)⟩, ⟨some 170, .bin .eql (.t 169) (.c (.int .u64 0)), some (168, true)⟩, ⟨some 171, .pick (.t 168) (.t 170) (.c (.bool false)), none⟩, ⟨some 172, .mv (.t 171), none⟩, ⟨some 173, .ld (some 2) (.t 21), some (172, true)⟩, ⟨some 174, .bld [.int .i64 0, .int .i64 0] [], some (172, true)⟩, ⟨some 175, .eqA false [0, 0] (.t 173) (.t 174), some (172, true)⟩, ⟨some 176, .pick (.t 172) (.t 175) (.c (.bool false)), none⟩, ⟨some 177, .mv (.t 176), none⟩, ⟨some 178, .mv (.t 19), some (177, true)⟩, ⟨some 179, .bin .eql (.t 178) (.c (.int .u64 2)), some (177, true)⟩, ⟨some 180, .pick (.t 177) (.t 179) (.c (.bool false)), none⟩, ⟨some 181, .mv (.t 180), none⟩, ⟨some 182, .mv (.t 20), some (181, true)⟩, ⟨some 183, .bin .eql (.t 182) (.c (.int .i64 3)), some (181, true)⟩, ⟨some 184, .pick (.t 181) (.t 183) (.c (.bool false)), none⟩, ⟨some 185, .mv (.t 184), none⟩, ⟨some 186, .mv (.t 23), some (185, true)⟩, ⟨some 187, .bin .eql (.t 186) (.c (.int .i64 0)), some (185, true)⟩, ⟨some 188, .pick (.t 185) (.t 187) (.c (.bool false)), none⟩, ⟨some 189, .mv (.t 188), none⟩, ⟨some 190, .mv (.t 22), some (189, true)⟩, ⟨some 191, .bin .eql (.t 190) (.c (.int .u64 258)), some (189, true)⟩, ⟨some 192, .pick (.t 189) (.t 191) (.c (.bool false)), none⟩, ⟨some 193, .mv (.t 192), none⟩, ⟨some 194, .mv (.t 25), some (193, true)⟩, ⟨some 195, .bin .eql (.t 194) (.c (.int .i64 3)), some (193, true)⟩, ⟨some 196, .pick (.t 193) (.t 195) (.c (.bool false)), none⟩, ⟨some 197, .mv (.t 196), none⟩, ⟨some 198, .call 21 [(.c (.int .u64 258))], some (197, true)⟩, ⟨some 199, .bin .eql (.t 198) (.c (.str [0, 0, 0, 0, 0, 0, 1, 2])), some (197, true)⟩, ⟨some 200, .pick (.t 197) (.t 199) (.c (.bool false)), none⟩, ⟨some 28, .mv (.t 200), none⟩]))
    (.seq (.keep [26, 27, 28] (.ops [⟨some 201, .call 43 [(.c (.str [48])), (.c (.int .i64 3)), (.c (.int .i64 0))], none⟩, ⟨some 202, .mv (.t 201), none⟩, ⟨some 203, .call 43 [(.c (.str [123, 48, 44, 125])), (.c (.int .i64 3)), (.c (.int .i64 3))], some (202, true)⟩, ⟨some 204, .pick (.t 202) (.t 203) (.c (.bool false)), none⟩, ⟨some 205, .mv (.t 204), none⟩, ⟨some 206, .call 43 [(.c (.str [123, 48, 48, 125])), (.c (.int .i64 3)), (.c (.int .i64 2))], some (205, true)⟩, ⟨some 207, .pick (.t 205) (.t 206) (.c (.bool false)), none⟩, ⟨some 208, .mv (.t 207), none⟩, ⟨some 209, .call 43 [(.c (.str [123, 50, 44, 49, 125])), (.c (.int .i64 9)), (.c (.int .i64 3))], some (208, true)⟩, ⟨some 210, .pick (.t 208) (.t 209) (.c (.bool false)), none⟩, ⟨some 211, .mv (.t 210), none⟩, ⟨some 212, .call 43 [(.c (.str [123, 49, 125, 120])), (.c (.int .i64 4)), (.c (.int .i64 3))], some (211, true)⟩, ⟨some 213, .pick (.t 211) (.t 212) (.c (.bool false)), none⟩, ⟨some 214, .mv (.t 213), none⟩, ⟨some 215, .call 43 [(.c (.str [123, 49])), (.c (.int .i64 3)), (.c (.int .i64 2))], some (214, true)⟩, ⟨some 216, .pick (.t 214) (.t 215) (.c (.bool false)), none⟩, ⟨some 29, .mv (.t 216), none⟩]))
    (.seq (.keep [26, 27, 28, 29] (.ops [⟨some 217, .call 10 [], none⟩, ⟨some 218, .mv (.t 217), none⟩, ⟨some 219, .mv (.t 26), some (218, true)⟩, ⟨some 220, .pick (.t 218) (.t 219) (.c (.bool false)), none⟩, ⟨some 221, .mv (.t 220), none⟩, ⟨some 222, .mv (.t 27), some (221, true)⟩, ⟨some 223, .pick (.t 221) (.t 222) (.c (.bool false)), none⟩, ⟨some 224, .mv (.t 223), none⟩, ⟨some 225, .mv (.t 28), some (224, true)⟩, ⟨some 226, .pick (.t 224) (.t 225) (.c (.bool false)), none⟩, ⟨some 227, .mv (.t 226), none⟩, ⟨some 228, .mv (.t 29), some (227, true)⟩, ⟨some 229, .pick (.t 227) (.t 228) (.c (.bool false)), none⟩, ⟨some 0, .mv (.t 229), none⟩]))
    .ret)))))))))))))))))), [.t 0], 230⟩
theorem eb6 : fB Tryd.prog 6 ec6 = true := by kernel_rfl

/-- partywall/partywalllaw01.awake -/
def ec10 : CF := ⟨(.seq (.keep [] (.ops [⟨some 0, .mv (.c (.bool false)), none⟩]))
    (.seq (.keep [] (.ops [⟨some 6, .mkSl 1 3 [.int .i64 0, .int .i64 0, .int .i64 0] [(0, 1, (.c (.int .i64 0))), (1, 1, (.c (.int .i64 2))), (2, 1, (.c (.int .i64 2)))], none⟩, ⟨some 7, .call 26 [(.t 6)], none⟩, ⟨some 5, .mv (.t 7), none⟩, ⟨some 8, .ext (.t 5) 0, none⟩, ⟨some 9, .ext (.t 5) 1, none⟩, ⟨some 1, .mv (.t 8), none⟩, ⟨some 2, .mv (.t 9), none⟩]))
    (.seq (.keep [1, 2] (.ops [⟨some 11, .call 11 [(.c (.str [123, 48, 44, 50, 125]))], none⟩, ⟨some 10, .mv (.t 11), none⟩, ⟨some 12, .ext (.t 10) 0, none⟩, ⟨some 13, .ext (.t 10) 1, none⟩, ⟨some 4, .alloc [.int .i64 0, .int .i64 0], none⟩, ⟨some 3, .mv (.t 12), none⟩, ⟨none, .st 2 (.t 4) (.t 13), none⟩]))
    (.seq (.keep [1, 2, 3, 4] (.ops [⟨some 14, .mv (.t 2), none⟩, ⟨some 15, .bin .eql (.t 14) (.c (.int .i64 0)), none⟩, ⟨some 16, .mv (.t 15), none⟩, ⟨some 17, .mv (.t 1), some (16, true)⟩, ⟨some 18, .bin .eql (.t 17) (.c (.int .u64 5)), some (16, true)⟩, ⟨some 19, .pick (.t 16) (.t 18) (.c (.bool false)), none⟩, ⟨some 20, .mv (.t 19), none⟩, ⟨some 21, .ld (some 2) (.t 4), some (20, true)⟩, ⟨some 22, .bld [.int .i64 0, .int .i64 0] [], some (20, true)⟩, ⟨some 23, .eqA false [0, 0] (.t 21) (.t 22), some (20, true)⟩, ⟨some 24, .pick (.t 20) (.t 23) (.c (.bool false)), none⟩, ⟨some 25, .mv (.t 24), none⟩, ⟨some 26, .mv (.t 3), some (25, true)⟩, ⟨some 27, .bin .eql (.t 26) (.c (.int .u64 5)), some (25, true)⟩, ⟨some 28, .pick (.t 25) (.t 27) (.c (.bool false)), none⟩, ⟨some 29, .mv (.t 28), none⟩, ⟨some 30, .call 23 [(.c (.int .u64 5))], some (29, true)⟩, ⟨some 31, .bin .eql (.t 30) (.c (.str [123, 48, 44, 50, 125])), some (29, true)⟩, ⟨some 32, .pick (.t 29) (.t 31) (.c (.bool false)), none⟩, ⟨some 33, .mv (.t 32), none⟩, ⟨some 34, .call 37 [(.c (.int .u64 1)), (.c (.int .u64 5))], some (33, true)⟩, ⟨some 35, .pick (.t 33) (.t 34) (.c (.bool false)), none⟩, ⟨some 36, .mv (.t 35), none⟩, ⟨some 37, .call 37 [(.c (.int .u64 5)), (.c (.int .u64 1))], some (36, true)⟩, ⟨some 38, .un .not (.t 37), some (36, true)⟩, ⟨some 39, .pick (.t 36) (.t 38) (.c (.bool false)), none⟩, ⟨some 40, .mv (.t 39), none⟩, ⟨some 41, .mkSl 1 2 [.int .u64 0, .int .u64 0] [(0, 1, (.c (.int .u64 1))), (1, 1, (.c (.int .u64 4)))], some (40, true)⟩, ⟨some 42, .call 17 [(.t 41)], some (40, true)⟩, ⟨some 43, .bin .eql (.t 42) (.c (.int .u64 5)), some (40, true)⟩, ⟨some 44, .pick (.t 40) (.t 43) (.c (.bool false)), none⟩, ⟨some 45, .mv (.t 44), none⟩, ⟨some 46, .call 43 [(.c (.str [123, 54, 52, 125])), (.c (.int .i64 2)), (.c (.int .i64 1))], some (45, true)⟩, ⟨some 47, .pick (.t 45) (.t 46) (.c (.bool false)), none⟩, ⟨some 0, .mv (.t 47), none⟩]))
    .ret)))), [.t 0], 48⟩
theorem eb10 : fB Tryd.prog 10 ec10 = true := by kernel_rfl

/-- partywall/label.Parse -/
def ec11 : CF := ⟨(.seq (.keep [0] (.ops [⟨some 2, .mv (.c (.int .u64 0)), none⟩, ⟨some 3, .alloc [.int .i64 0, .int .i64 0], none⟩]))
    (.seq (.keep [0, 3] (.ops [⟨some 8, .mv (.t 0), none⟩, ⟨some 9, .call 13 [(.t 8)], none⟩, ⟨some 7, .mv (.t 9), none⟩, ⟨some 10, .ext (.t 7) 0, none⟩, ⟨some 11, .ext (.t 7) 1, none⟩, ⟨some 12, .ext (.t 7) 2, none⟩, ⟨some 6, .alloc [.int .i64 0, .int .i64 0], none⟩, ⟨some 4, .mv (.t 10), none⟩, ⟨some 5, .mv (.t 11), none⟩, ⟨none, .st 2 (.t 6) (.t 12), none⟩]))
    (.seq (.block 0 (.seq (.keep [0, 3, 4, 5, 6] (.ops [⟨some 14, .fldA 0 (.t 6), none⟩, ⟨some 15, .ld (none) (.t 14), none⟩, ⟨some 16, .bin .neq (.t 15) (.c (.int .i64 0)), none⟩, ⟨some 13, .mv (.t 16), none⟩]))
    (.cond (.t 13)
      (.seq (.keep [3, 6] (.drw [⟨some 17, .ld (some 2) (.t 6), none⟩, ⟨some 2, .mv (.c (.int .u64 0)), none⟩, ⟨none, .st 2 (.t 3) (.t 17), none⟩] [1, 0, 2]))
      .ret)
      (.seq (.keep [0, 3, 4, 5] (.ops [⟨some 19, .mv (.t 5), none⟩, ⟨some 20, .mv (.t 0), none⟩, ⟨some 21, .lenS (.t 20), none⟩, ⟨some 22, .bin .lss (.t 19) (.t 21), none⟩, ⟨some 18, .mv (.t 22), none⟩]))
      (.cond (.t 18)
        (.seq (.keep [3, 5] (.ops [⟨some 23, .mv (.t 5), none⟩, ⟨some 24, .bld [.int .i64 0, .int .i64 0] [(0, 1, (.c (.int .i64 4))), (1, 1, (.t 23))], none⟩, ⟨some 2, .mv (.c (.int .u64 0)), none⟩, ⟨none, .st 2 (.t 3) (.t 24), none⟩]))
        .ret)
        .skip)))))
    (.seq (.keep [3, 4] (.ops [⟨some 25, .mv (.t 4), none⟩, ⟨some 26, .bld [.int .i64 0, .int .i64 0] [], none⟩, ⟨some 2, .mv (.t 25), none⟩, ⟨none, .st 2 (.t 3) (.t 26), none⟩]))
    .ret)))), [.t 2, .cl 3 (some 2)], 27⟩
theorem eb11 : fB Tryd.prog 11 ec11 = true := by kernel_rfl

/-- partywall/label.Read -/
def ec13 : CF := ⟨(.seq (.keep [0] (.ops [⟨some 2, .mv (.c (.int .u64 0)), none⟩, ⟨some 3, .mv (.c (.int .i64 0)), none⟩, ⟨some 4, .alloc [.int .i64 0, .int .i64 0], none⟩]))
    (.scope (.seq (.keep [0, 2, 4] (.ops [⟨some 5, .mv (.f 44), none⟩]))
    (.seq (.seq (.keep [0, 2, 4, 5] (.ops [⟨some 10, .mv (.t 0), none⟩, ⟨some 11, .bin .eql (.t 10) (.c (.str [])), none⟩, ⟨some 12, .mv (.t 11), none⟩, ⟨some 13, .mv (.t 0), some (12, false)⟩, ⟨some 14, .ixS (.t 13) (.c (.int .i64 0)), some (12, false)⟩, ⟨some 15, .bin .neq (.t 14) (.c (.int .u8 123)), some (12, false)⟩, ⟨some 16, .pick (.t 12) (.c (.bool true)) (.t 15), none⟩]))
    (.cond (.t 16)
      (.seq (.keep [4, 5] (.ops [⟨some 17, .mv (.t 5), none⟩, ⟨some 18, .callv (.t 17) [(.c (.int .i64 3)), (.c (.int .i64 0))], none⟩, ⟨some 19, .ext (.t 18) 0, none⟩, ⟨some 20, .ext (.t 18) 1, none⟩, ⟨some 21, .ext (.t 18) 2, none⟩, ⟨some 2, .mv (.t 19), none⟩, ⟨some 3, .mv (.t 20), none⟩, ⟨none, .st 2 (.t 4) (.t 21), none⟩]))
      .ret)
      .skip))
    (.seq (.seq (.keep [0, 2, 4, 5] (.ops [⟨some 22, .mv (.t 0), none⟩, ⟨some 23, .lenS (.t 22), none⟩, ⟨some 24, .bin .gtr (.t 23) (.c (.int .i64 1)), none⟩, ⟨some 25, .mv (.t 24), none⟩, ⟨some 26, .mv (.t 0), some (25, true)⟩, ⟨some 27, .ixS (.t 26) (.c (.int .i64 1)), some (25, true)⟩, ⟨some 28, .bin .eql (.t 27) (.c (.int .u8 125)), some (25, true)⟩, ⟨some 29, .pick (.t 25) (.t 28) (.c (.bool false)), none⟩]))
    (.cond (.t 29)
      (.seq (.keep [4] (.ops [⟨some 30, .bld [.int .i64 0, .int .i64 0] [], none⟩, ⟨some 2, .mv (.c (.int .u64 0)), none⟩, ⟨some 3, .mv (.c (.int .i64 2)), none⟩, ⟨none, .st 2 (.t 4) (.t 30), none⟩]))
      .ret)
      .skip))
    (.seq (.keep [0, 2, 4, 5] (.ops [⟨some 6, .mv (.c (.int .i64 (-1))), none⟩, ⟨some 7, .mv (.c (.int .i64 1)), none⟩]))
    (.seq .skip
    (.seq (.block 0 (.loop (.block 1 (.seq (.keep [0, 2, 4, 5, 6, 7] (.ops [⟨some 31, .mv (.t 7), none⟩, ⟨some 8, .mv (.t 31), none⟩, ⟨some 9, .mv (.c (.int .i64 0)), none⟩]))
    (.seq (.block 2 (.loop (.seq (.seq (.keep [0, 2, 4, 5, 6, 7, 8, 9] (.ops [⟨some 32, .mv (.t 7), none⟩, ⟨some 33, .mv (.t 0), none⟩, ⟨some 34, .lenS (.t 33), none⟩, ⟨some 35, .bin .lss (.t 32) (.t 34), none⟩, ⟨some 36, .mv (.t 35), none⟩, ⟨some 37, .mv (.t 0), some (36, true)⟩, ⟨some 38, .mv (.t 7), some (36, true)⟩, ⟨some 39, .ixS (.t 37) (.t 38), some (36, true)⟩, ⟨some 40, .call 45 [(.t 39)], some (36, true)⟩, ⟨some 41, .pick (.t 36) (.t 40) (.c (.bool false)), none⟩]))
    (.cond (.t 41)
      .skip
      (.exit 2)))
    (.block 3 (.seq (.seq (.keep [0, 2, 4, 5, 6, 7, 8, 9] (.ops [⟨some 42, .mv (.t 7), none⟩, ⟨some 43, .mv (.t 8), none⟩, ⟨some 44, .bin .gtr (.t 42) (.t 43), none⟩, ⟨some 45, .mv (.t 44), none⟩, ⟨some 46, .mv (.t 0), some (45, true)⟩, ⟨some 47, .mv (.t 8), some (45, true)⟩, ⟨some 48, .ixS (.t 46) (.t 47), some (45, true)⟩, ⟨some 49, .bin .eql (.t 48) (.c (.int .u8 48)), some (45, true)⟩, ⟨some 50, .pick (.t 45) (.t 49) (.c (.bool false)), none⟩]))
    (.cond (.t 50)
      (.seq (.keep [4, 5, 7] (.ops [⟨some 51, .mv (.t 5), none⟩, ⟨some 52, .mv (.t 7), none⟩, ⟨some 53, .callv (.t 51) [(.c (.int .i64 3)), (.t 52)], none⟩, ⟨some 54, .ext (.t 53) 0, none⟩, ⟨some 55, .ext (.t 53) 1, none⟩, ⟨some 56, .ext (.t 53) 2, none⟩, ⟨some 2, .mv (.t 54), none⟩, ⟨some 3, .mv (.t 55), none⟩, ⟨none, .st 2 (.t 4) (.t 56), none⟩]))
      .ret)
      .skip))
    (.seq (.keep [0, 2, 4, 5, 6, 7, 8, 9] (.ops [⟨some 57, .mv (.t 9), none⟩, ⟨some 58, .bin .mul (.c (.int .i64 10)) (.t 57), none⟩, ⟨some 59, .mv (.t 0), none⟩, ⟨some 60, .mv (.t 7), none⟩, ⟨some 61, .ixS (.t 59) (.t 60), none⟩, ⟨some 62, .bin .sub (.t 61) (.c (.int .u8 48)), none⟩, ⟨some 63, .cnv .i64 (.t 62), none⟩, ⟨some 64, .bin .add (.t 58) (.t 63), none⟩, ⟨some 65, .mm false (.c (.int .i64 1000)) (.t 64), none⟩, ⟨some 9, .mv (.t 65), none⟩]))
    (.keep [0, 2, 4, 5, 6, 7, 8, 9] (.ops [⟨some 66, .mv (.t 7), none⟩, ⟨some 67, .bin .add (.t 66) (.c (.int .i64 1)), none⟩, ⟨some 7, .mv (.t 67), none⟩]))))))))
    (.seq (.block 4 (.seq (.keep [0, 2, 4, 5, 6, 7, 8, 9] (.ops [⟨some 69, .mv (.t 7), none⟩, ⟨some 70, .mv (.t 8), none⟩, ⟨some 71, .bin .eql (.t 69) (.t 70), none⟩, ⟨some 68, .mv (.t 71), none⟩]))
    (.cond (.t 68)
      (.seq (.keep [4, 5, 7] (.ops [⟨some 72, .mv (.t 5), none⟩, ⟨some 73, .mv (.t 7), none⟩, ⟨some 74, .callv (.t 72) [(.c (.int .i64 3)), (.t 73)], none⟩, ⟨some 75, .ext (.t 74) 0, none⟩, ⟨some 76, .ext (.t 74) 1, none⟩, ⟨some 77, .ext (.t 74) 2, none⟩, ⟨some 2, .mv (.t 75), none⟩, ⟨some 3, .mv (.t 76), none⟩, ⟨none, .st 2 (.t 4) (.t 77), none⟩]))
      .ret)
      (.seq (.keep [0, 2, 4, 5, 6, 7, 8, 9] (.ops [⟨some 79, .mv (.t 9), none⟩, ⟨some 80, .bin .gtr (.t 79) (.c (.int .i64 63)), none⟩, ⟨some 78, .mv (.t 80), none⟩]))
      (.cond (.t 78)
        (.seq (.keep [4, 5, 8] (.ops [⟨some 81, .mv (.t 5), none⟩, ⟨some 82, .mv (.t 8), none⟩, ⟨some 83, .callv (.t 81) [(.c (.int .i64 2)), (.t 82)], none⟩, ⟨some 84, .ext (.t 83) 0, none⟩, ⟨some 85, .ext (.t 83) 1, none⟩, ⟨some 86, .ext (.t 83) 2, none⟩, ⟨some 2, .mv (.t 84), none⟩, ⟨some 3, .mv (.t 85), none⟩, ⟨none, .st 2 (.t 4) (.t 86), none⟩]))
        .ret)
        (.seq (.keep [0, 2, 4, 5, 6, 7, 8, 9] (.ops [⟨some 88, .mv (.t 9), none⟩, ⟨some 89, .mv (.t 6), none⟩, ⟨some 90, .bin .leq (.t 88) (.t 89), none⟩, ⟨some 87, .mv (.t 90), none⟩]))
        (.cond (.t 87)
          (.seq (.keep [4, 5, 8] (.ops [⟨some 91, .mv (.t 5), none⟩, ⟨some 92, .mv (.t 8), none⟩, ⟨some 93, .callv (.t 91) [(.c (.int .i64 9)), (.t 92)], none⟩, ⟨some 94, .ext (.t 93) 0, none⟩, ⟨some 95, .ext (.t 93) 1, none⟩, ⟨some 96, .ext (.t 93) 2, none⟩, ⟨some 2, .mv (.t 94), none⟩, ⟨some 3, .mv (.t 95), none⟩, ⟨none, .st 2 (.t 4) (.t 96), none⟩]))
          .ret)
          .skip)))))))
    (.seq (.keep [0, 2, 4, 5, 7, 9] (.ops [⟨some 97, .mv (.t 2), none⟩, ⟨some 98, .mv (.t 9), none⟩, ⟨some 99, .cnv .u64 (.t 98), none⟩, ⟨some 100, .bin .shl (.c (.int .u64 1)) (.t 99), none⟩, ⟨some 101, .bin .or (.t 97) (.t 100), none⟩, ⟨some 2, .mv (.t 101), none⟩]))
    (.seq (.keep [0, 2, 4, 5, 7, 9] (.ops [⟨some 102, .mv (.t 9), none⟩, ⟨some 6, .mv (.t 102), none⟩]))
    (.seq (.block 5 (.seq (.keep [0, 2, 4, 5, 6, 7] (.ops [⟨some 104, .mv (.t 7), none⟩, ⟨some 105, .mv (.t 0), none⟩, ⟨some 106, .lenS (.t 105), none⟩, ⟨some 107, .bin .eql (.t 104) (.t 106), none⟩, ⟨some 103, .mv (.t 107), none⟩]))
    (.cond (.t 103)
      (.seq (.keep [4, 5, 7] (.ops [⟨some 108, .mv (.t 5), none⟩, ⟨some 109, .mv (.t 7), none⟩, ⟨some 110, .callv (.t 108) [(.c (.int .i64 3)), (.t 109)], none⟩, ⟨some 111, .ext (.t 110) 0, none⟩, ⟨some 112, .ext (.t 110) 1, none⟩, ⟨some 113, .ext (.t 110) 2, none⟩, ⟨some 2, .mv (.t 111), none⟩, ⟨some 3, .mv (.t 112), none⟩, ⟨none, .st 2 (.t 4) (.t 113), none⟩]))
      .ret)
      (.seq (.keep [0, 2, 4, 5, 6, 7] (.ops [⟨some 115, .mv (.t 0), none⟩, ⟨some 116, .mv (.t 7), none⟩, ⟨some 117, .ixS (.t 115) (.t 116), none⟩, ⟨some 118, .bin .eql (.t 117) (.c (.int .u8 125)), none⟩, ⟨some 114, .mv (.t 118), none⟩]))
      (.cond (.t 114)
        (.exit 0)
        (.seq (.keep [0, 2, 4, 5, 6, 7] (.ops [⟨some 120, .mv (.t 0), none⟩, ⟨some 121, .mv (.t 7), none⟩, ⟨some 122, .ixS (.t 120) (.t 121), none⟩, ⟨some 123, .bin .neq (.t 122) (.c (.int .u8 44)), none⟩, ⟨some 119, .mv (.t 123), none⟩]))
        (.cond (.t 119)
          (.seq (.keep [4, 5, 7] (.ops [⟨some 124, .mv (.t 5), none⟩, ⟨some 125, .mv (.t 7), none⟩, ⟨some 126, .callv (.t 124) [(.c (.int .i64 3)), (.t 125)], none⟩, ⟨some 127, .ext (.t 126) 0, none⟩, ⟨some 128, .ext (.t 126) 1, none⟩, ⟨some 129, .ext (.t 126) 2, none⟩, ⟨some 2, .mv (.t 127), none⟩, ⟨some 3, .mv (.t 128), none⟩, ⟨none, .st 2 (.t 4) (.t 129), none⟩]))
          .ret)
          .skip)))))))
    (.keep [0, 2, 4, 5, 6, 7] (.ops [⟨some 130, .mv (.t 7), none⟩, ⟨some 131, .bin .add (.t 130) (.c (.int .i64 1)), none⟩, ⟨some 7, .mv (.t 131), none⟩])))))))))))
    (.seq (.keep [2, 4, 7] (.ops [⟨some 132, .mv (.t 2), none⟩, ⟨some 133, .mv (.t 7), none⟩, ⟨some 134, .bin .add (.t 133) (.c (.int .i64 1)), none⟩, ⟨some 135, .bld [.int .i64 0, .int .i64 0] [], none⟩, ⟨some 2, .mv (.t 132), none⟩, ⟨some 3, .mv (.t 134), none⟩, ⟨none, .st 2 (.t 4) (.t 135), none⟩]))
    .ret))))))))), [.t 2, .t 3, .cl 4 (some 2)], 136⟩
theorem eb13 : fB Tryd.prog 13 ec13 = true := by kernel_rfl

/-- partywall/label.Read$1 -/
def ec44 : CF := ⟨(.seq (.keep [0, 1] (.ops [⟨some 4, .mv (.c (.int .u64 0)), none⟩, ⟨some 5, .mv (.c (.int .i64 0)), none⟩, ⟨some 6, .alloc [.int .i64 0, .int .i64 0], none⟩]))
    (.seq (.keep [0, 1, 6] (.ops [⟨some 7, .mv (.t 0), none⟩, ⟨some 8, .mv (.t 1), none⟩, ⟨some 9, .bld [.int .i64 0, .int .i64 0] [(0, 1, (.t 7)), (1, 1, (.t 8))], none⟩, ⟨some 4, .mv (.c (.int .u64 0)), none⟩, ⟨some 5, .mv (.c (.int .i64 0)), none⟩, ⟨none, .st 2 (.t 6) (.t 9), none⟩]))
    .ret)), [.t 4, .t 5, .cl 6 (some 2)], 10⟩
theorem eb44 : fB Tryd.prog 44 ec44 = true := by kernel_rfl

/-- partywall/label.digit -/
def ec45 : CF := ⟨(.seq (.keep [0] (.ops [⟨some 2, .mv (.c (.bool false)), none⟩]))
    (.seq (.keep [0] (.ops [⟨some 3, .mv (.t 0), none⟩, ⟨some 4, .bin .geq (.t 3) (.c (.int .u8 48)), none⟩, ⟨some 5, .mv (.t 4), none⟩, ⟨some 6, .mv (.t 0), some (5, true)⟩, ⟨some 7, .bin .leq (.t 6) (.c (.int .u8 57)), some (5, true)⟩, ⟨some 8, .pick (.t 5) (.t 7) (.c (.bool false)), none⟩, ⟨some 2, .mv (.t 8), none⟩]))
    .ret)), [.t 2], 9⟩
theorem eb45 : fB Tryd.prog 45 ec45 = true := by kernel_rfl

/-- partywall/partywalllaw01.fault -/
def ec43 : CF := ⟨(.seq (.keep [0, 1, 2] (.ops [⟨some 6, .mv (.c (.bool false)), none⟩]))
    (.seq (.keep [0, 1, 2] (.ops [⟨some 10, .mv (.t 0), none⟩, ⟨some 11, .call 11 [(.t 10)], none⟩, ⟨some 9, .mv (.t 11), none⟩, ⟨some 12, .ext (.t 9) 0, none⟩, ⟨some 13, .ext (.t 9) 1, none⟩, ⟨some 8, .alloc [.int .i64 0, .int .i64 0], none⟩, ⟨some 7, .mv (.t 12), none⟩, ⟨none, .st 2 (.t 8) (.t 13), none⟩]))
    (.seq (.keep [1, 2, 7, 8] (.ops [⟨some 14, .mv (.t 7), none⟩, ⟨some 15, .bin .eql (.t 14) (.c (.int .u64 0)), none⟩, ⟨some 16, .mv (.t 15), none⟩, ⟨some 17, .ld (some 2) (.t 8), some (16, true)⟩, ⟨some 18, .mv (.t 1), some (16, true)⟩, ⟨some 19, .mv (.t 2), some (16, true)⟩, ⟨some 20, .bld [.int .i64 0, .int .i64 0] [(0, 1, (.t 18)), (1, 1, (.t 19))], some (16, true)⟩, ⟨some 21, .eqA false [0, 0] (.t 17) (.t 20), some (16, true)⟩, ⟨some 22, .pick (.t 16) (.t 21) (.c (.bool false)), none⟩, ⟨some 6, .mv (.t 22), none⟩]))
    .ret))), [.t 6], 23⟩
theorem eb43 : fB Tryd.prog 43 ec43 = true := by kernel_rfl

/-- partywall/label.Of -/
def ec26 : CF := ⟨(.seq (.keep [0] (.ops [⟨some 2, .mv (.c (.int .u64 0)), none⟩, ⟨some 3, .mv (.c (.int .i64 0)), none⟩]))
    (.seq (.keep [0] (.ops [⟨some 4, .mv (.c (.int .u64 0)), none⟩]))
    (.seq (.seq (.keep [0, 4] (.ops [⟨some 7, .mv (.t 0), none⟩, ⟨some 8, .len (.t 7), none⟩, ⟨some 9, .mv (.c (.int .i64 0)), none⟩]))
    (.block 0 (.loop (.seq (.keep [4, 7, 8, 9] (.ops [⟨some 10, .bin .lss (.t 9) (.t 8), none⟩]))
    (.seq (.cond (.t 10)
      .skip
      (.exit 0))
    (.seq (.block 1 (.seq (.keep [4, 7, 8, 9] (.ops [⟨some 11, .ixA 1 (.t 7) (.t 9), none⟩, ⟨some 12, .ld (none) (.t 11), none⟩, ⟨some 6, .mv (.t 12), none⟩]))
    (.seq (.seq (.keep [4, 6, 7, 8, 9] (.ops [⟨some 13, .mv (.t 6), none⟩, ⟨some 14, .bin .lss (.t 13) (.c (.int .i64 0)), none⟩, ⟨some 15, .mv (.t 14), none⟩, ⟨some 16, .mv (.t 6), some (15, false)⟩, ⟨some 17, .bin .gtr (.t 16) (.c (.int .i64 63)), some (15, false)⟩, ⟨some 18, .pick (.t 15) (.c (.bool true)) (.t 17), none⟩]))
    (.cond (.t 18)
      (.seq (.keep [] (.ops [⟨some 2, .mv (.c (.int .u64 0)), none⟩, ⟨some 3, .mv (.c (.int .i64 2)), none⟩]))
      .ret)
      .skip))
    (.keep [4, 6, 7, 8, 9] (.ops [⟨some 19, .mv (.t 4), none⟩, ⟨some 20, .mv (.t 6), none⟩, ⟨some 21, .cnv .u64 (.t 20), none⟩, ⟨some 22, .bin .shl (.c (.int .u64 1)) (.t 21), none⟩, ⟨some 23, .bin .or (.t 19) (.t 22), none⟩, ⟨some 4, .mv (.t 23), none⟩])))))
    (.keep [4, 7, 8, 9] (.ops [⟨some 24, .bin .add (.t 9) (.c (.int .i64 1)), none⟩, ⟨some 9, .mv (.t 24), none⟩]))))))))
    (.seq (.keep [4] (.ops [⟨some 25, .mv (.t 4), none⟩, ⟨some 2, .mv (.t 25), none⟩, ⟨some 3, .mv (.c (.int .i64 0)), none⟩]))
    .ret)))), [.t 2, .t 3], 26⟩
theorem eb26 : fB Tryd.prog 26 ec26 = true := by kernel_rfl

/-- partywall/label.Has -/
def ec28 : CF := ⟨(.seq (.keep [0, 1] (.ops [⟨some 4, .mv (.c (.bool false)), none⟩, ⟨some 5, .mv (.c (.int .i64 0)), none⟩]))
    (.seq (.keep [0, 1] (.ops [⟨some 9, .mv (.t 1), none⟩, ⟨some 10, .mkSl 1 1 [.int .i64 0] [(0, 1, (.t 9))], none⟩, ⟨some 11, .call 26 [(.t 10)], none⟩, ⟨some 8, .mv (.t 11), none⟩, ⟨some 12, .ext (.t 8) 0, none⟩, ⟨some 13, .ext (.t 8) 1, none⟩, ⟨some 6, .mv (.t 12), none⟩, ⟨some 7, .mv (.t 13), none⟩]))
    (.seq (.keep [0, 6, 7] (.ops [⟨some 14, .mv (.t 0), none⟩, ⟨some 15, .mv (.t 6), none⟩, ⟨some 16, .bin .and (.t 14) (.t 15), none⟩, ⟨some 17, .bin .neq (.t 16) (.c (.int .u64 0)), none⟩, ⟨some 18, .mv (.t 7), none⟩, ⟨some 4, .mv (.t 17), none⟩, ⟨some 5, .mv (.t 18), none⟩]))
    .ret))), [.t 4, .t 5], 19⟩
theorem eb28 : fB Tryd.prog 28 ec28 = true := by kernel_rfl

/-- partywall/label.Below -/
def ec37 : CF := ⟨(.seq (.keep [0, 1] (.ops [⟨some 4, .mv (.c (.bool false)), none⟩]))
    (.seq (.keep [0, 1] (.ops [⟨some 5, .mv (.t 0), none⟩, ⟨some 6, .mv (.t 1), none⟩, ⟨some 7, .bin .andNot (.t 5) (.t 6), none⟩, ⟨some 8, .bin .eql (.t 7) (.c (.int .u64 0)), none⟩, ⟨some 4, .mv (.t 8), none⟩]))
    .ret)), [.t 4], 9⟩
theorem eb37 : fB Tryd.prog 37 ec37 = true := by kernel_rfl

/-- partywall/label.Comparable -/
def ec39 : CF := ⟨(.seq (.keep [0, 1] (.ops [⟨some 4, .mv (.c (.bool false)), none⟩]))
    (.seq (.keep [0, 1] (.ops [⟨some 5, .mv (.t 0), none⟩, ⟨some 6, .mv (.t 1), none⟩, ⟨some 7, .call 37 [(.t 5), (.t 6)], none⟩, ⟨some 8, .mv (.t 7), none⟩, ⟨some 9, .mv (.t 1), some (8, false)⟩, ⟨some 10, .mv (.t 0), some (8, false)⟩, ⟨some 11, .call 37 [(.t 9), (.t 10)], some (8, false)⟩, ⟨some 12, .pick (.t 8) (.c (.bool true)) (.t 11), none⟩, ⟨some 4, .mv (.t 12), none⟩]))
    .ret)), [.t 4], 13⟩
theorem eb39 : fB Tryd.prog 39 ec39 = true := by kernel_rfl

/-- partywall/label.Join -/
def ec17 : CF := ⟨(.seq (.keep [0] (.ops [⟨some 2, .mv (.c (.int .u64 0)), none⟩]))
    (.seq (.keep [0] (.ops [⟨some 3, .mv (.c (.int .u64 0)), none⟩]))
    (.seq (.seq (.keep [0, 3] (.ops [⟨some 6, .mv (.t 0), none⟩, ⟨some 7, .len (.t 6), none⟩, ⟨some 8, .mv (.c (.int .i64 0)), none⟩]))
    (.block 0 (.loop (.seq (.keep [3, 6, 7, 8] (.ops [⟨some 9, .bin .lss (.t 8) (.t 7), none⟩]))
    (.seq (.cond (.t 9)
      .skip
      (.exit 0))
    (.seq (.block 1 (.seq (.keep [3, 6, 7, 8] (.ops [⟨some 10, .ixA 1 (.t 6) (.t 8), none⟩, ⟨some 11, .ld (none) (.t 10), none⟩, ⟨some 5, .mv (.t 11), none⟩]))
    (.keep [3, 5, 6, 7, 8] (.ops [⟨some 12, .mv (.t 3), none⟩, ⟨some 13, .mv (.t 5), none⟩, ⟨some 14, .bin .or (.t 12) (.t 13), none⟩, ⟨some 3, .mv (.t 14), none⟩]))))
    (.keep [3, 6, 7, 8] (.ops [⟨some 15, .bin .add (.t 8) (.c (.int .i64 1)), none⟩, ⟨some 8, .mv (.t 15), none⟩]))))))))
    (.seq (.keep [3] (.ops [⟨some 16, .mv (.t 3), none⟩, ⟨some 2, .mv (.t 16), none⟩]))
    .ret)))), [.t 2], 17⟩
theorem eb17 : fB Tryd.prog 17 ec17 = true := by kernel_rfl

/-- partywall/label.Meet -/
def ec19 : CF := ⟨(.seq (.keep [0] (.ops [⟨some 2, .mv (.c (.int .u64 0)), none⟩]))
    (.seq (.keep [0] (.ops [⟨some 3, .mv (.c (.int .u64 18446744073709551615)), none⟩]))
    (.seq (.seq (.keep [0, 3] (.ops [⟨some 6, .mv (.t 0), none⟩, ⟨some 7, .len (.t 6), none⟩, ⟨some 8, .mv (.c (.int .i64 0)), none⟩]))
    (.block 0 (.loop (.seq (.keep [3, 6, 7, 8] (.ops [⟨some 9, .bin .lss (.t 8) (.t 7), none⟩]))
    (.seq (.cond (.t 9)
      .skip
      (.exit 0))
    (.seq (.block 1 (.seq (.keep [3, 6, 7, 8] (.ops [⟨some 10, .ixA 1 (.t 6) (.t 8), none⟩, ⟨some 11, .ld (none) (.t 10), none⟩, ⟨some 5, .mv (.t 11), none⟩]))
    (.keep [3, 5, 6, 7, 8] (.ops [⟨some 12, .mv (.t 3), none⟩, ⟨some 13, .mv (.t 5), none⟩, ⟨some 14, .bin .and (.t 12) (.t 13), none⟩, ⟨some 3, .mv (.t 14), none⟩]))))
    (.keep [3, 6, 7, 8] (.ops [⟨some 15, .bin .add (.t 8) (.c (.int .i64 1)), none⟩, ⟨some 8, .mv (.t 15), none⟩]))))))))
    (.seq (.keep [3] (.ops [⟨some 16, .mv (.t 3), none⟩, ⟨some 2, .mv (.t 16), none⟩]))
    .ret)))), [.t 2], 17⟩
theorem eb19 : fB Tryd.prog 19 ec19 = true := by kernel_rfl

/-- partywall/label.Of8 -/
def ec15 : CF := ⟨(.seq (.keep [0] (.ops [⟨some 2, .mv (.c (.int .u64 0)), none⟩, ⟨some 3, .mv (.c (.int .i64 0)), none⟩]))
    (.seq (.seq (.keep [0] (.ops [⟨some 6, .mv (.t 0), none⟩, ⟨some 7, .lenS (.t 6), none⟩, ⟨some 8, .bin .neq (.t 7) (.c (.int .i64 8)), none⟩]))
    (.cond (.t 8)
      (.seq (.keep [] (.ops [⟨some 2, .mv (.c (.int .u64 0)), none⟩, ⟨some 3, .mv (.c (.int .i64 3)), none⟩]))
      .ret)
      .skip))
    (.seq (.keep [0] (.ops [⟨some 4, .mv (.c (.int .u64 0)), none⟩]))
    (.seq (.seq (.keep [0, 4] (.ops [⟨some 9, .mv (.c (.int .i64 0)), none⟩]))
    (.block 0 (.loop (.seq (.keep [0, 4, 9] (.ops [⟨some 10, .bin .lss (.t 9) (.c (.int .i64 8)), none⟩]))
    (.seq (.cond (.t 10)
      .skip
      (.exit 0))
    (.seq (.block 1 (.seq (.keep [0, 4, 9] (.ops [⟨some 11, .mv (.t 9), none⟩, ⟨some 5, .mv (.t 11), none⟩]))
    (.keep [0, 4, 5, 9] (.ops [⟨some 12, .mv (.t 4), none⟩, ⟨some 13, .bin .shl (.t 12) (.c (.int .u64 8)), none⟩, ⟨some 14, .mv (.t 0), none⟩, ⟨some 15, .mv (.t 5), none⟩, ⟨some 16, .ixS (.t 14) (.t 15), none⟩, ⟨some 17, .cnv .u64 (.t 16), none⟩, ⟨some 18, .bin .or (.t 13) (.t 17), none⟩, ⟨some 4, .mv (.t 18), none⟩]))))
    (.keep [0, 4, 9] (.ops [⟨some 19, .bin .add (.t 9) (.c (.int .i64 1)), none⟩, ⟨some 9, .mv (.t 19), none⟩]))))))))
    (.seq (.keep [4] (.ops [⟨some 20, .mv (.t 4), none⟩, ⟨some 2, .mv (.t 20), none⟩, ⟨some 3, .mv (.c (.int .i64 0)), none⟩]))
    .ret))))), [.t 2, .t 3], 21⟩
theorem eb15 : fB Tryd.prog 15 ec15 = true := by kernel_rfl

/-- partywall/partywallkit.SameInts -/
def ec32 : CF := ⟨(.seq (.keep [0, 1] (.ops [⟨some 4, .mv (.c (.bool false)), none⟩]))
    (.seq (.seq (.keep [0, 1] (.ops [⟨some 6, .mv (.t 0), none⟩, ⟨some 7, .len (.t 6), none⟩, ⟨some 8, .mv (.t 1), none⟩, ⟨some 9, .len (.t 8), none⟩, ⟨some 10, .bin .neq (.t 7) (.t 9), none⟩]))
    (.cond (.t 10)
      (.seq (.keep [] (.ops [⟨some 4, .mv (.c (.bool false)), none⟩]))
      .ret)
      .skip))
    (.seq (.seq (.keep [0, 1] (.ops [⟨some 5, .mv (.c (.int .i64 0)), none⟩]))
    (.block 0 (.loop (.seq (.seq (.keep [0, 1, 5] (.ops [⟨some 11, .mv (.t 5), none⟩, ⟨some 12, .mv (.t 0), none⟩, ⟨some 13, .len (.t 12), none⟩, ⟨some 14, .bin .lss (.t 11) (.t 13), none⟩]))
    (.cond (.t 14)
      .skip
      (.exit 0)))
    (.seq (.block 1 (.seq (.keep [0, 1, 5] (.drw [⟨some 17, .mv (.t 0), none⟩, ⟨some 18, .mv (.t 5), none⟩, ⟨some 19, .ixA 1 (.t 17) (.t 18), none⟩, ⟨some 20, .ld (none) (.t 19), none⟩, ⟨some 21, .mv (.t 1), none⟩, ⟨some 22, .mv (.t 5), none⟩, ⟨some 23, .ixA 1 (.t 21) (.t 22), none⟩, ⟨some 24, .ld (none) (.t 23), none⟩, ⟨some 25, .bin .neq (.t 20) (.t 24), none⟩] [0, 0, 0, 1, 0, 0, 0, 1, 0]))
    (.cond (.t 25)
      (.seq (.keep [] (.ops [⟨some 4, .mv (.c (.bool false)), none⟩]))
      .ret)
      .skip)))
    (.keep [0, 1, 5] (.ops [⟨some 15, .mv (.t 5), none⟩, ⟨some 16, .bin .add (.t 15) (.c (.int .i64 1)), none⟩, ⟨some 5, .mv (.t 16), none⟩])))))))
    (.seq (.keep [] (.ops [⟨some 4, .mv (.c (.bool true)), none⟩]))
    .ret)))), [.t 4], 26⟩
theorem eb32 : fB Tryd.prog 32 ec32 = true := by kernel_rfl

/-- partywall/label.Count -/
def ec35 : CF := ⟨(.seq (.keep [0] (.ops [⟨some 2, .mv (.c (.int .i64 0)), none⟩]))
    (.seq (.keep [0] (.ops [⟨some 3, .mv (.t 0), none⟩, ⟨some 4, .call 53 [(.t 3)], none⟩, ⟨some 2, .mv (.t 4), none⟩]))
    .ret)), [.t 2], 5⟩
theorem eb35 : fB Tryd.prog 35 ec35 = true := by kernel_rfl

/-- math/bits.OnesCount64 -/
def ec53 : CF := ⟨(.seq (.keep [0] (.ops [⟨some 2, .mv (.c (.int .i64 0)), none⟩]))
    (.seq (.keep [0] (.ops [⟨some 3, .mv (.t 0), none⟩, ⟨some 4, .bin .shr (.t 3) (.c (.int .u64 1)), none⟩, ⟨some 5, .bin .and (.t 4) (.c (.int .u64 6148914691236517205)), none⟩, ⟨some 6, .mv (.t 0), none⟩, ⟨some 7, .bin .and (.t 6) (.c (.int .u64 6148914691236517205)), none⟩, ⟨some 8, .bin .add (.t 5) (.t 7), none⟩, ⟨some 0, .mv (.t 8), none⟩]))
    (.seq (.keep [0] (.ops [⟨some 9, .mv (.t 0), none⟩, ⟨some 10, .bin .shr (.t 9) (.c (.int .u64 2)), none⟩, ⟨some 11, .bin .and (.t 10) (.c (.int .u64 3689348814741910323)), none⟩, ⟨some 12, .mv (.t 0), none⟩, ⟨some 13, .bin .and (.t 12) (.c (.int .u64 3689348814741910323)), none⟩, ⟨some 14, .bin .add (.t 11) (.t 13), none⟩, ⟨some 0, .mv (.t 14), none⟩]))
    (.seq (.keep [0] (.ops [⟨some 15, .mv (.t 0), none⟩, ⟨some 16, .bin .shr (.t 15) (.c (.int .u64 4)), none⟩, ⟨some 17, .mv (.t 0), none⟩, ⟨some 18, .bin .add (.t 16) (.t 17), none⟩, ⟨some 19, .bin .and (.t 18) (.c (.int .u64 1085102592571150095)), none⟩, ⟨some 0, .mv (.t 19), none⟩]))
    (.seq (.keep [0] (.ops [⟨some 20, .mv (.t 0), none⟩, ⟨some 21, .mv (.t 0), none⟩, ⟨some 22, .bin .shr (.t 21) (.c (.int .u64 8)), none⟩, ⟨some 23, .bin .add (.t 20) (.t 22), none⟩, ⟨some 0, .mv (.t 23), none⟩]))
    (.seq (.keep [0] (.ops [⟨some 24, .mv (.t 0), none⟩, ⟨some 25, .mv (.t 0), none⟩, ⟨some 26, .bin .shr (.t 25) (.c (.int .u64 16)), none⟩, ⟨some 27, .bin .add (.t 24) (.t 26), none⟩, ⟨some 0, .mv (.t 27), none⟩]))
    (.seq (.keep [0] (.ops [⟨some 28, .mv (.t 0), none⟩, ⟨some 29, .mv (.t 0), none⟩, ⟨some 30, .bin .shr (.t 29) (.c (.int .u64 32)), none⟩, ⟨some 31, .bin .add (.t 28) (.t 30), none⟩, ⟨some 0, .mv (.t 31), none⟩]))
    (.seq (.keep [0] (.ops [⟨some 32, .mv (.t 0), none⟩, ⟨some 33, .cnv .i64 (.t 32), none⟩, ⟨some 34, .bin .and (.t 33) (.c (.int .i64 127)), none⟩, ⟨some 2, .mv (.t 34), none⟩]))
    .ret)))))))), [.t 2], 35⟩
theorem eb53 : fB Tryd.prog 53 ec53 = true := by kernel_rfl

/-- partywall/label.Without -/
def ec41 : CF := ⟨(.seq (.keep [0, 1] (.ops [⟨some 4, .mv (.c (.int .u64 0)), none⟩]))
    (.seq (.keep [0, 1] (.ops [⟨some 5, .mv (.t 0), none⟩, ⟨some 6, .mv (.t 1), none⟩, ⟨some 7, .bin .andNot (.t 5) (.t 6), none⟩, ⟨some 4, .mv (.t 7), none⟩]))
    .ret)), [.t 4], 8⟩
theorem eb41 : fB Tryd.prog 41 ec41 = true := by kernel_rfl

def eT : List (Nat × CF) := [(6, ec6), (10, ec10), (11, ec11), (13, ec13), (44, ec44), (45, ec45), (43, ec43), (26, ec26), (28, ec28), (37, ec37), (39, ec39), (17, ec17), (19, ec19), (15, ec15), (32, ec32), (35, ec35), (53, ec53), (41, ec41)]
theorem eT_ok : tabB Tryd.prog eT = true := tabB_cons eb6 (tabB_cons eb10 (tabB_cons eb11 (tabB_cons eb13 (tabB_cons eb44 (tabB_cons eb45 (tabB_cons eb43 (tabB_cons eb26 (tabB_cons eb28 (tabB_cons eb37 (tabB_cons eb39 (tabB_cons eb17 (tabB_cons eb19 (tabB_cons eb15 (tabB_cons eb32 (tabB_cons eb35 (tabB_cons eb53 (tabB_cons eb41 (tabB_nil))))))))))))))))))
end Go.Proofs.YthdeocddilacnaaDoor
