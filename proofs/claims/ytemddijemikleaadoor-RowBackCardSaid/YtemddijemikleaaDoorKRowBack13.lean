/- Part 13 of the proof of RowBack: an abstract semantics that is proved sound for the model, contracts of functions in it, and plain facts (C06 C06e C06b RC0). No condition. -/
import Derived.Test.YtemddijemikleaaDoorKRowBack12
import Derived.Test.YtemddijemikleaaDoorRows
set_option linter.all false
namespace Go.Proofs.YtemddijemikleaaDoor
open Go.Abs
set_option maxRecDepth 100000
def c3 : CF := ⟨(.seq (Ko [0] [Ou 2 (.mv (.c (.bool false)))]) (.seq (.seq (Ko [0] [Mv 8 0, Ou 9 (.call 9 [(.t 8)]), Ou 10 (.un .not (.t 9))]) (.cond (.t 10) (.seq (Ko [] [Ou 11 (.call 10 []), Mv 2 11]) .ret) .skip)) (.seq (Ko [0] [Mv 12 0, Ou 13 (.call 11 [(.t 12)]), Mv 3 13]) (.seq (Ko [0, 3] [Mv 15 3, Ou 16 (.call 12 [(.t 15)]), Mv 14 16, Ex 17 14 0, Ex 18 14 1, Mv 4 17, Mv 5 18]) (.seq (Ko [0, 3, 4, 5] [Mv 20 0, Ou 21 (.call 13 [(.t 20)]), Mv 19 21, Ex 22 19 0, Ex 23 19 1, Mv 6 22, Mv 7 23]) (.seq (Ko [0, 3, 4, 5, 6, 7] [Mv 24 4, Mv 25 6, Ou 26 (.bin .eql (.t 24) (.t 25)), Mv 27 26, Ot 28 (.mv (.t 5)) 27, Ot 29 (.mv (.t 7)) 27, Ot 30 (.bin .eql (.t 28) (.t 29)) 27, Pa 31 27 30, Mv 32 31, Ot 33 (.mv (.t 3)) 32, Ot 34 (.mv (.t 0)) 32, Ot 35 (.call 14 [(.t 33), (.t 34)]) 32, Pa 36 32 35, Mv 37 36, Ot 38 (.call 10 []) 37, Pa 39 37 38, Mv 2 39]) .ret)))))), [.t 2], 40⟩
theorem b3 : fB Tryd.prog 3 c3 = true := by kernel_rfl
def c4 : CF := ⟨(.seq (Ko [0, 1, 2, 3] [Ou 4 (.box 3 (.t 0)), Ou 8 (.mv (.c (.bool false)))]) (.seq (.seq (Ko [1, 2, 3, 4] [Fa 24 1 4, Lv 25 24, Ou 26 (.lenS (.t 25)), Ou 27 (.bin .gtr (.t 26) (Ik 300)), Mv 28 27, Of 29 (.mv (.t 3)) 28, Of 30 (.len (.t 29)) 28, Of 31 (.bin .gtr (.t 30) (Ik 20)) 28, Po 32 28 31]) (.cond (.t 32) (.seq (Ko [] [Ou 33 (.call 10 []), Mv 8 33]) .ret) .skip)) (.seq (.seq (Ko [1, 2, 3, 4] [Mi 9 0]) (.block 0 (.loop (.seq (.seq (Ko [1, 2, 3, 4, 9] [Mv 34 9, Mv 35 3, Ou 36 (.len (.t 35)), Ou 37 (.bin .lss (.t 34) (.t 36))]) (.cond (.t 37) .skip (.exit 0))) (.seq (.block 1 (.seq (Ko [1, 2, 3, 4, 9] [Mv 40 3, Mv 41 9, Ou 42 (.ixA 1 (.t 40) (.t 41)), Lv 43 42, Ou 44 (.lenS (.t 43)), Ou 45 (.bin .gtr (.t 44) (Ik 60))]) (.cond (.t 45) (.seq (Ko [] [Ou 46 (.call 10 []), Mv 8 46]) .ret) .skip))) (Ko [1, 2, 3, 4, 9] [Mv 38 9, Ou 39 (.bin .add (.t 38) (Ik 1)), Mv 9 39])))))) (.seq (Ko [1, 2, 3, 4] [Lw 48 3 4, Ou 49 (.call 15 [(.t 48)]), Mv 47 49, Ex 50 47 0, Ex 51 47 1, Mv 10 50, Mv 11 51]) (.seq (Ko [1, 2, 3, 4, 10, 11] [Lw 53 3 4, Ou 54 (.call 16 [(.t 53)]), Mv 52 54, Ex 55 52 0, Ex 56 52 1, Mv 12 55, Mv 13 56]) (.seq (.seq (Ko [1, 2, 3, 4, 10, 11, 12, 13] [Mv 57 10, Mv 58 12, Ou 59 (.bin .neq (.t 57) (.t 58)), Mv 60 59, Of 61 (.mv (.t 11)) 60, Of 62 (.mv (.t 13)) 60, Of 63 (.bin .neq (.t 61) (.t 62)) 60, Po 64 60 63]) (.cond (.t 64) (.seq (Ko [] [Ou 8 (.mv (.c (.bool false)))]) .ret) .skip)) (.seq (Ko [1, 2, 3, 4] [Lw 66 3 4, Mv 67 1, Mv 68 2, Ou 69 (.call 17 [(.t 66), (.t 67), (.t 68)]), Mv 65 69, Ex 70 65 0, Ex 71 65 1, Mv 14 70, Mv 11 71]) (.seq (Ko [1, 2, 3, 4, 11, 14] [Lw 73 3 4, Mv 74 1, Mv 75 2, Ou 76 (.call 18 [(.t 73), (.t 74), (.t 75)]), Mv 72 76, Ex 77 72 0, Ex 78 72 1, Mv 15 77, Mv 13 78]) (.seq (.seq (Ko [3, 4, 11, 13, 14, 15] [Mv 79 14, Mv 80 15, Ou 81 (.bin .neq (.t 79) (.t 80)), Mv 82 81, Of 83 (.mv (.t 11)) 82, Of 84 (.mv (.t 13)) 82, Of 85 (.bin .neq (.t 83) (.t 84)) 82, Po 86 82 85]) (.cond (.t 86) (.seq (Ko [] [Ou 8 (.mv (.c (.bool false)))]) .ret) .skip)) (.seq (Ko [3, 4] [Lw 88 3 4, Mv 89 3, Ou 90 (.call 19 [(.t 88), (.t 89)]), Mv 87 90, Ex 91 87 0, Ex 92 87 1, Mv 16 91, Mv 11 92]) (.seq (Ko [3, 4, 11, 16] [Lw 94 3 4, Mv 95 3, Ou 96 (.call 20 [(.t 94), (.t 95)]), Mv 93 96, Ex 97 93 0, Ex 98 93 1, Mv 17 97, Mv 13 98]) (.seq (Ko [3, 4, 11, 13, 16, 17] [Lw 100 3 4, Ou 101 (.call 21 [(.t 100)]), Mv 99 101, Ex 102 99 0, Ex 103 99 1, Mv 18 102, Mv 19 103]) (.seq (Ko [3, 4, 11, 13, 16, 17, 18, 19] [Lw 105 3 4, Ou 106 (.call 22 [(.t 105)]), Mv 104 106, Ex 107 104 0, Ex 108 104 1, Mv 20 107, Mv 21 108]) (.seq (Ko [3, 11, 13, 16, 17, 18, 19, 20, 21] [Mv 109 3, Ou 110 (.call 23 [(.t 109)]), Mv 111 3, Ou 112 (.call 24 [(.t 111)]), Ou 22 (.alloc [.int .i64 0, .nils]), Ou 23 (.alloc [.int .i64 0, .nils]), Sv 2 22 110, Sv 2 23 112]) (.seq (Ko [11, 13, 16, 17, 18, 19, 20, 21, 22, 23] [Mv 113 16, Mv 114 17, Ou 115 (.bin .eql (.t 113) (.t 114)), Mv 116 115, Ot 117 (.mv (.t 11)) 116, Ot 118 (.mv (.t 13)) 116, Ot 119 (.bin .eql (.t 117) (.t 118)) 116, Pa 120 116 119, Mv 121 120, Ot 122 (.mv (.t 18)) 121, Ot 123 (.mv (.t 20)) 121, Ot 124 (.bin .eql (.t 122) (.t 123)) 121, Pa 125 121 124, Mv 126 125, Ot 127 (.mv (.t 19)) 126, Ot 128 (.mv (.t 21)) 126, Ot 129 (.bin .eql (.t 127) (.t 128)) 126, Pa 130 126 129, Mv 131 130, Ot 132 (.ld (some 2) (.t 22)) 131, Ot 133 (.mkSl 2 1 [.int .i64 0, .nils] [(0, 2, (.t 132))]) 131, Ot 134 (.ld (some 2) (.t 23)) 131, Ot 135 (.mkSl 2 1 [.int .i64 0, .nils] [(0, 2, (.t 134))]) 131, Ot 136 (.call 14 [(.t 133), (.t 135)]) 131, Pa 137 131 136, Mv 138 137, Ot 139 (.call 10 []) 138, Pa 140 138 139, Mv 8 140]) .ret))))))))))))))), [.t 8], 141⟩
theorem b4 : fB Tryd.prog 4 c4 = true := by kernel_rfl
def c5 : CF := ⟨(.seq (Ko [] [Ou 0 (.mv (.c (.bool false)))]) (.seq (Ko [] [Ou 28 (.call 25 [(.c (.str []))]), Mv 27 28, Ex 29 27 0, Ex 30 27 1, Ou 2 (.alloc [.int .i64 0, .int .i64 0]), Mv 1 29, Sv 2 2 30]) (.seq (Ko [1, 2] [Ou 32 (.call 25 [(.c (.str [35, 32, 111, 110, 108, 121]))]), Mv 31 32, Ex 33 31 0, Ex 34 31 1, Ou 4 (.alloc [.int .i64 0, .int .i64 0]), Mv 3 33, Sv 2 4 34]) (.seq (Ko [1, 2, 3, 4] [Ou 35 (.call 27 [(.c (.bool true)), (.c (.str [65, 34])), (Ik 0)]), Ou 36 (.call 26 [(.c (.str [34, 92, 120, 52, 49, 92, 34, 34])), (.t 35)]), Mv 37 36, Ot 38 (.ld (some 2) (.t 2)) 37, Ot 39 (.bld [.int .i64 0, .int .i64 0] []) 37, Ot 40 (.eqA false [0, 0] (.t 38) (.t 39)) 37, Pa 41 37 40, Mv 42 41, Ot 43 (.mv (.t 1)) 42, Ot 44 (.len (.t 43)) 42, Ot 45 (.bin .eql (.t 44) (Ik 0)) 42, Pa 46 42 45, Mv 47 46, Ot 48 (.ld (some 2) (.t 4)) 47, Ot 49 (.bld [.int .i64 0, .int .i64 0] []) 47, Ot 50 (.eqA false [0, 0] (.t 48) (.t 49)) 47, Pa 51 47 50, Mv 52 51, Ot 53 (.mv (.t 3)) 52, Ot 54 (.len (.t 53)) 52, Ot 55 (.bin .eql (.t 54) (Ik 0)) 52, Pa 56 52 55, Mv 57 56, Ot 58 (.call 28 [(.c (.str [97, 34, 98]))]) 57, Pa 59 57 58, Mv 60 59, Ot 61 (.call 28 [(.c (.str [34, 97, 34, 98]))]) 60, Pa 62 60 61, Mv 63 62, Ot 64 (.call 28 [(.c (.str [34, 97]))]) 63, Pa 65 63 64, Mv 66 65, Ot 67 (.call 28 [(.c (.str [97, 92, 98]))]) 66, Pa 68 66 67, Mv 69 68, Ot 70 (.call 28 [(.c (.str [34, 92, 110, 34]))]) 69, Pa 71 69 70, Mv 5 71]) (.seq (Ko [5] [Ou 73 (.call 27 [(.c (.bool true)), (.c (.str [255])), (Ik 0)]), Ou 74 (.call 15 [(.t 73)]), Mv 72 74, Ex 75 72 0, Ex 76 72 1, Mv 6 75, Mv 7 76]) (.seq (Ko [5, 6, 7] [Ou 78 (.call 27 [(.c (.bool false)), (.c (.str [])), (Ik 0)]), Ou 79 (.call 15 [(.t 78)]), Mv 77 79, Ex 80 77 0, Ex 81 77 1, Mv 8 80, Mv 9 81]) (.seq (Ko [5, 6, 7, 9] [Mv 82 7, Ou 83 (.bin .eql (.t 82) (Ik 0)), Mv 84 83, Ot 85 (.mv (.t 6)) 84, Ot 86 (.bin .eql (.t 85) (.c (.str [34, 92, 120, 102, 102, 34]))) 84, Pa 87 84 86, Mv 88 87, Ot 89 (.mv (.t 9)) 88, Ot 90 (.bin .eql (.t 89) (Ik 3)) 88, Pa 91 88 90, Mv 92 91, Ot 93 (.call 29 [(.c (.str [97, 35]))]) 92, Pa 94 92 93, Mv 95 94, Ot 96 (.call 29 [(.c (.str [35, 97]))]) 95, Ot 97 (.un .not (.t 96)) 95, Pa 98 95 97, Mv 10 98]) (.seq (Ko [5, 10] [Ou 99 (.call 27 [(.c (.bool false)), (.c (.str [48, 55])), (Ik 0)]), Ou 100 (.call 30 [(.t 99), (.c (.int .u64 0)), (.c (.int .u64 9))]), Ou 101 (.bin .eql (.t 100) (Ik 3)), Mv 102 101, Ot 103 (.call 27 [(.c (.bool false)), (.c (.str [49, 56, 52, 52, 54, 55, 52, 52, 48, 55, 51, 55, 48, 57, 53, 53, 49, 54, 49, 54])), (Ik 0)]) 102, Ot 104 (.call 30 [(.t 103), (.c (.int .u64 0)), (.c (.int .u64 18446744073709551615))]) 102, Ot 105 (.bin .eql (.t 104) (Ik 2)) 102, Pa 106 102 105, Mv 107 106, Ot 108 (.call 27 [(.c (.bool false)), (.c (.str [53])), (Ik 0)]) 107, Ot 109 (.call 30 [(.t 108), (.c (.int .u64 6)), (.c (.int .u64 9))]) 107, Ot 110 (.bin .eql (.t 109) (Ik 2)) 107, Pa 111 107 110, Mv 112 111, Ot 113 (.call 27 [(.c (.bool true)), (.c (.str [53])), (Ik 0)]) 112, Ot 114 (.call 30 [(.t 113), (.c (.int .u64 0)), (.c (.int .u64 9))]) 112, Ot 115 (.bin .eql (.t 114) (Ik 3)) 112, Pa 116 112 115, Mv 11 116]) (.seq (Ko [5, 10, 11] [Ou 118 (.call 31 [(.c (.str [45, 53]))]), Mv 117 118, Ex 119 117 0, Ex 120 117 1, Mv 12 119, Mv 13 120]) (.seq (Ko [5, 10, 11, 12, 13] [Ou 122 (.call 31 [(.c (.str [45, 48]))]), Mv 121 122, Ex 123 121 0, Ex 124 121 1, Mv 14 123, Mv 15 124]) (.seq (Ko [5, 10, 11, 12, 13, 15] [Ou 126 (.call 31 [(.c (.str [45, 57, 50, 50, 51, 51, 55, 50, 48, 51, 54, 56, 53, 52, 55, 55, 53, 56, 48, 56]))]), Mv 125 126, Ex 127 125 0, Ex 128 125 1, Mv 16 127, Mv 17 128]) (.seq (Ko [5, 10, 11, 12, 13, 15, 16, 17] [Ou 130 (.call 31 [(.c (.str [57, 50, 50, 51, 51, 55, 50, 48, 51, 54, 56, 53, 52, 55, 55, 53, 56, 48, 56]))]), Mv 129 130, Ex 131 129 0, Ex 132 129 1, Mv 18 131, Mv 19 132]) (.seq (Ko [5, 10, 11, 12, 13, 15, 16, 17, 19] [Mv 133 12, Ou 134 (.bin .eql (.t 133) (Ik (-5))), Mv 135 134, Ot 136 (.mv (.t 13)) 135, Ot 137 (.bin .eql (.t 136) (Ik 0)) 135, Pa 138 135 137, Mv 139 138, Ot 140 (.mv (.t 15)) 139, Ot 141 (.bin .eql (.t 140) (Ik 3)) 139, Pa 142 139 141, Mv 143 142, Ot 144 (.mv (.t 16)) 143, Ot 145 (.bin .eql (.t 144) (Ik (-9223372036854775808))) 143, Pa 146 143 145, Mv 147 146, Ot 148 (.mv (.t 17)) 147, Ot 149 (.bin .eql (.t 148) (Ik 0)) 147, Pa 150 147 149, Mv 151 150, Ot 152 (.mv (.t 19)) 151, Ot 153 (.bin .eql (.t 152) (Ik 2)) 151, Pa 154 151 153, Mv 20 154]) (.seq (Ko [5, 10, 11, 20] [Ou 156 (.call 27 [(.c (.bool false)), (.c (.str [98])), (Ik 0)]), Ou 157 (.mkSl 1 3 [.str [], .str [], .str []] [(0, 1, (.c (.str [97]))), (1, 1, (.c (.str [98]))), (2, 1, (.c (.str [98])))]), Ou 158 (.call 19 [(.t 156), (.t 157)]), Mv 155 158, Ex 159 155 0, Ex 160 155 1, Mv 21 159, Mv 22 160]) (.seq (Ko [5, 10, 11, 20, 21, 22] [Ou 162 (.call 27 [(.c (.bool false)), (.c (.str [99])), (Ik 0)]), Ou 163 (.mkSl 1 1 [.str []] [(0, 1, (.c (.str [97])))]), Ou 164 (.call 19 [(.t 162), (.t 163)]), Mv 161 164, Ex 165 161 0, Ex 166 161 1, Mv 23 165, Mv 24 166]) (.seq (Ko [5, 10, 11, 20, 21, 22, 24] [Ou 168 (.call 27 [(.c (.bool true)), (.c (.str [97])), (Ik 0)]), Ou 169 (.mkSl 1 1 [.str []] [(0, 1, (.c (.str [97])))]), Ou 170 (.call 19 [(.t 168), (.t 169)]), Mv 167 170, Ex 171 167 0, Ex 172 167 1, Mv 25 171, Mv 26 172]) (.seq (Ko [5, 10, 11, 20, 21, 22, 24, 26] [Ou 173 (.call 10 []), Mv 174 173, Ot 175 (.mv (.t 5)) 174, Pa 176 174 175, Mv 177 176, Ot 178 (.mv (.t 10)) 177, Pa 179 177 178, Mv 180 179, Ot 181 (.mv (.t 11)) 180, Pa 182 180 181, Mv 183 182, Ot 184 (.mv (.t 20)) 183, Pa 185 183 184, Mv 186 185, Ot 187 (.mv (.t 22)) 186, Ot 188 (.bin .eql (.t 187) (Ik 0)) 186, Pa 189 186 188, Mv 190 189, Ot 191 (.mv (.t 21)) 190, Ot 192 (.bin .eql (.t 191) (Ik 1)) 190, Pa 193 190 192, Mv 194 193, Ot 195 (.mv (.t 24)) 194, Ot 196 (.bin .eql (.t 195) (Ik 7)) 194, Pa 197 194 196, Mv 198 197, Ot 199 (.mv (.t 26)) 198, Ot 200 (.bin .eql (.t 199) (Ik 7)) 198, Pa 201 198 200, Mv 0 201]) .ret))))))))))))))))), [.t 0], 202⟩
theorem b5 : fB Tryd.prog 5 c5 = true := by kernel_rfl
def c6 : CF := ⟨(.seq (Ko [0, 1] [Ou 4 (.mv (.c (.bool false)))]) (.seq (Ko [0, 1] [Ou 11 (.call 5 []), Mv 5 11]) (.seq (Ko [0, 1, 5] [Mv 12 0, Mv 13 1, Ou 14 (.call 32 [(.t 12), (.t 13)]), Mv 6 14]) (.seq (Ko [5, 6] [Mv 16 6, Ou 17 (.call 12 [(.t 16)]), Mv 15 17, Ex 18 15 0, Ex 19 15 1, Mv 7 18, Mv 8 19]) (.seq (.seq (Ko [5, 6, 7, 8] [Mv 20 8, Ou 21 (.bin .eql (.t 20) (Ik 4))]) (.cond (.t 21) (.seq (Ko [5] [Mv 22 5, Mv 4 22]) .ret) .skip)) (.seq (Ko [5, 6, 7, 8] [Mv 24 7, Ou 25 (.call 25 [(.t 24)]), Mv 23 25, Ex 26 23 0, Ex 27 23 1, Ou 10 (.alloc [.int .i64 0, .int .i64 0]), Mv 9 26, Sv 2 10 27]) (.seq (Ko [5, 6, 8, 9, 10] [Mv 28 5, Mv 29 28, Ot 30 (.mv (.t 8)) 29, Ot 31 (.bin .eql (.t 30) (Ik 0)) 29, Pa 32 29 31, Mv 33 32, Ot 34 (.ld (some 2) (.t 10)) 33, Ot 35 (.bld [.int .i64 0, .int .i64 0] []) 33, Ot 36 (.eqA false [0, 0] (.t 34) (.t 35)) 33, Pa 37 33 36, Mv 38 37, Ot 39 (.mv (.t 9)) 38, Ot 40 (.mv (.t 6)) 38, Ot 41 (.call 33 [(.t 39), (.t 40)]) 38, Pa 42 38 41, Mv 4 42]) .ret))))))), [.t 4], 43⟩
theorem b6 : fB Tryd.prog 6 c6 = true := by kernel_rfl
def c7 : CF := ⟨(.seq (Ko [0, 1] [Ou 4 (.mv (.c (.bool false)))]) (.seq (Ko [0, 1] [Ou 19 (.call 5 []), Mv 5 19]) (.seq (.seq (Ko [0, 1, 5] [Mv 20 0, Ou 21 (.lenS (.t 20)), Ou 22 (.bin .gtr (.t 21) (Ik 300)), Mv 23 22, Of 24 (.mv (.t 1)) 23, Of 25 (.lenS (.t 24)) 23, Of 26 (.bin .gtr (.t 25) (Ik 300)) 23, Po 27 23 26]) (.cond (.t 27) (.seq (Ko [5] [Mv 28 5, Mv 4 28]) .ret) .skip)) (.seq (Ko [0, 1, 5] [Mv 30 0, Ou 31 (.call 25 [(.t 30)]), Mv 29 31, Ex 32 29 0, Ex 33 29 1, Ou 7 (.alloc [.int .i64 0, .int .i64 0]), Mv 6 32, Sv 2 7 33]) (.seq (Ko [0, 1, 5, 6, 7] [Mv 35 1, Ou 36 (.call 25 [(.t 35)]), Mv 34 36, Ex 37 34 0, Ex 38 34 1, Ou 9 (.alloc [.int .i64 0, .int .i64 0]), Mv 8 37, Sv 2 9 38]) (.seq (.seq (Ko [0, 1, 5, 6, 7, 8, 9] [Fa 39 0 7, Lv 40 39, Ou 41 (.bin .neq (.t 40) (Ik 0)), Mv 42 41, Of 43 (.fldA 0 (.t 9)) 42, Of 44 (.ld (none) (.t 43)) 42, Of 45 (.bin .neq (.t 44) (Ik 0)) 42, Po 46 42 45]) (.cond (.t 46) (.seq (Ko [5] [Mv 47 5, Mv 4 47]) .ret) .skip)) (.seq (Ko [0, 1, 5, 6, 8] [Mv 49 6, Ou 50 (.call 12 [(.t 49)]), Mv 48 50, Ex 51 48 0, Ex 52 48 1, Mv 10 51, Mv 11 52]) (.seq (Ko [0, 1, 5, 6, 8, 10, 11] [Mv 54 10, Ou 55 (.call 25 [(.t 54)]), Mv 53 55, Ex 56 53 0, Ex 57 53 1, Ou 13 (.alloc [.int .i64 0, .int .i64 0]), Mv 12 56, Sv 2 13 57]) (.seq (Ko [0, 1, 5, 6, 8, 11, 12, 13] [Mv 59 0, Ou 60 (.bin .add (.t 59) (.c (.str [10]))), Mv 61 1, Ou 62 (.bin .add (.t 60) (.t 61)), Ou 63 (.call 25 [(.t 62)]), Mv 58 63, Ex 64 58 0, Ex 65 58 1, Ou 15 (.alloc [.int .i64 0, .int .i64 0]), Mv 14 64, Sv 2 15 65]) (.seq (Ko [0, 1, 5, 6, 8, 11, 12, 13, 14, 15] [Mv 67 0, Ou 68 (.bin .add (.c (.str [35, 32, 111, 110, 101, 10, 10, 32, 9])) (.t 67)), Ou 69 (.bin .add (.t 68) (.c (.str [10, 32, 10, 35, 10]))), Mv 70 1, Ou 71 (.bin .add (.t 69) (.t 70)), Ou 72 (.bin .add (.t 71) (.c (.str [32, 35, 32, 116, 119, 111]))), Ou 73 (.call 25 [(.t 72)]), Mv 66 73, Ex 74 66 0, Ex 75 66 1, Ou 17 (.alloc [.int .i64 0, .int .i64 0]), Mv 16 74, Sv 2 17 75]) (.seq (Ko [5, 6, 8, 11, 12, 13, 14, 15, 16, 17] [Ou 76 (.mkSl 2 0 [] []), Mv 77 6, Ou 78 (.app true 43 2 32 (.t 76) (.t 77)), Mv 79 8, Ou 80 (.app true 43 2 32 (.t 78) (.t 79)), Mv 18 80]) (.seq (Ko [5, 6, 11, 12, 13, 14, 15, 16, 17, 18] [Mv 81 5, Mv 82 81, Ot 83 (.mv (.t 11)) 82, Ot 84 (.bin .eql (.t 83) (Ik 4)) 82, Ot 85 (.mv (.t 84)) 82, Of 86 (.mv (.t 11)) 85, Of 87 (.bin .eql (.t 86) (Ik 0)) 85, Of 88 (.mv (.t 87)) 85, Ot 89 (.ld (some 2) (.t 13)) 88, Ot 90 (.bld [.int .i64 0, .int .i64 0] []) 88, Ot 91 (.eqA false [0, 0] (.t 89) (.t 90)) 88, Of 92 (.pick (.t 88) (.t 91) (.c (.bool false))) 85, Of 93 (.mv (.t 92)) 85, Ot 94 (.mv (.t 12)) 93, Ot 95 (.mv (.t 6)) 93, Ot 96 (.call 33 [(.t 94), (.t 95)]) 93, Of 97 (.pick (.t 93) (.t 96) (.c (.bool false))) 85, Ot 98 (.pick (.t 85) (.c (.bool true)) (.t 97)) 82, Pa 99 82 98, Mv 100 99, Ot 101 (.ld (some 2) (.t 15)) 100, Ot 102 (.bld [.int .i64 0, .int .i64 0] []) 100, Ot 103 (.eqA false [0, 0] (.t 101) (.t 102)) 100, Pa 104 100 103, Mv 105 104, Ot 106 (.mv (.t 14)) 105, Ot 107 (.mv (.t 18)) 105, Ot 108 (.call 33 [(.t 106), (.t 107)]) 105, Pa 109 105 108, Mv 110 109, Ot 111 (.ld (some 2) (.t 17)) 110, Ot 112 (.bld [.int .i64 0, .int .i64 0] []) 110, Ot 113 (.eqA false [0, 0] (.t 111) (.t 112)) 110, Pa 114 110 113, Mv 115 114, Ot 116 (.mv (.t 16)) 115, Ot 117 (.mv (.t 18)) 115, Ot 118 (.call 33 [(.t 116), (.t 117)]) 115, Pa 119 115 118, Mv 4 119]) .ret)))))))))))), [.t 4], 120⟩
theorem b7 : fB Tryd.prog 7 c7 = true := by kernel_rfl
def c8 : CF := ⟨(.seq (Ko [0, 1] [Ou 4 (.mv (.c (.bool false)))]) (.seq (Ko [0, 1] [Ou 14 (.call 5 []), Mv 5 14]) (.seq (.seq (Ko [0, 1, 5] [Mv 15 0, Ou 16 (.lenS (.t 15)), Ou 17 (.bin .gtr (.t 16) (Ik 200))]) (.cond (.t 17) (.seq (Ko [5] [Mv 18 5, Mv 4 18]) .ret) .skip)) (.seq (Ko [0, 1, 5] [Mv 20 0, Ou 21 (.call 27 [(.c (.bool true)), (.t 20), (Ik 0)]), Ou 22 (.call 15 [(.t 21)]), Mv 19 22, Ex 23 19 0, Ex 24 19 1, Mv 6 23, Mv 7 24]) (.seq (.seq (Ko [0, 1, 5, 6, 7] [Mv 25 7, Ou 26 (.bin .neq (.t 25) (Ik 0)), Mv 27 26, Of 28 (.mv (.t 6)) 27, Of 29 (.mv (.t 0)) 27, Of 30 (.call 27 [(.c (.bool true)), (.t 29), (Ik 0)]) 27, Of 31 (.call 26 [(.t 28), (.t 30)]) 27, Of 32 (.un .not (.t 31)) 27, Po 33 27 32, Mv 34 33, Of 35 (.mv (.t 0)) 34, Of 36 (.call 29 [(.t 35)]) 34, Of 37 (.mv (.t 36)) 34, Ot 38 (.mv (.t 0)) 37, Ot 39 (.mv (.t 0)) 37, Ot 40 (.call 27 [(.c (.bool false)), (.t 39), (Ik 0)]) 37, Ot 41 (.call 26 [(.t 38), (.t 40)]) 37, Ot 42 (.un .not (.t 41)) 37, Of 43 (.pick (.t 37) (.t 42) (.c (.bool false))) 34, Po 44 34 43]) (.cond (.t 44) (.seq (Ko [] [Ou 4 (.mv (.c (.bool false)))]) .ret) .skip)) (.seq (Ko [1, 5] [Mv 45 1, Ou 46 (.cnv .u64 (.t 45)), Mv 8 46, Ou 9 (.mv (.c (.str [])))]) (.seq (.seq (Ko [1, 5, 8, 9] [Mv 47 1, Ou 48 (.bin .lss (.t 47) (Ik 0))]) (.cond (.t 48) (Ko [1, 5, 8, 9] [Mv 49 8, Ou 50 (.un .neg (.t 49)), Mv 8 50]) .skip)) (.seq (.block 0 (.loop (.seq (.seq (Ko [1, 5, 8, 9] [Mv 51 8, Ou 52 (.bin .gtr (.t 51) (.c (.int .u64 0))), Mv 53 52, Of 54 (.mv (.t 9)) 53, Of 55 (.bin .eql (.t 54) (.c (.str []))) 53, Po 56 53 55]) (.cond (.t 56) .skip (.exit 0))) (.block 1 (.seq (Ko [1, 5, 8, 9] [Mv 57 8, Ou 58 (.bin .rem (.t 57) (.c (.int .u64 10))), Ou 59 (.bin .add (.c (.int .u64 48)) (.t 58)), Ou 60 (.cnv .u8 (.t 59)), Ou 61 (.mkSl 1 1 [.int .u8 0] [(0, 1, (.t 60))]), Ou 62 (.b2s (.t 61)), Mv 63 9, Ou 64 (.bin .add (.t 62) (.t 63)), Mv 9 64]) (Ko [1, 5, 8, 9] [Mv 65 8, Ou 66 (.bin .quo (.t 65) (.c (.int .u64 10))), Mv 8 66])))))) (.seq (.seq (Ko [1, 5, 9] [Mv 67 1, Ou 68 (.bin .lss (.t 67) (Ik 0))]) (.cond (.t 68) (Ko [1, 5, 9] [Mv 69 9, Ou 70 (.bin .add (.c (.str [45])) (.t 69)), Mv 9 70]) .skip)) (.seq (Ko [1, 5, 9] [Mv 72 9, Ou 73 (.call 31 [(.t 72)]), Mv 71 73, Ex 74 71 0, Ex 75 71 1, Mv 10 74, Mv 11 75]) (.seq (Ko [1, 5, 9, 10, 11] [Mv 77 9, Ou 78 (.call 27 [(.c (.bool false)), (.t 77), (Ik 0)]), Ou 79 (.call 17 [(.t 78), (.c (.int .u64 0)), (.c (.int .u64 18446744073709551615))]), Mv 76 79, Ex 80 76 0, Ex 81 76 1, Mv 12 80, Mv 13 81]) (.seq (Ko [1, 5, 10, 11, 12, 13] [Mv 82 5, Mv 83 82, Ot 84 (.mv (.t 11)) 83, Ot 85 (.bin .eql (.t 84) (Ik 0)) 83, Pa 86 83 85, Mv 87 86, Ot 88 (.mv (.t 10)) 87, Ot 89 (.mv (.t 1)) 87, Ot 90 (.bin .eql (.t 88) (.t 89)) 87, Pa 91 87 90, Mv 92 91, Ot 93 (.mv (.t 1)) 92, Ot 94 (.bin .lss (.t 93) (Ik 0)) 92, Ot 95 (.mv (.t 94)) 92, Ot 96 (.mv (.t 13)) 95, Ot 97 (.bin .eql (.t 96) (Ik 3)) 95, Ot 98 (.pick (.t 95) (.t 97) (.c (.bool false))) 92, Ot 99 (.mv (.t 98)) 92, Of 100 (.mv (.t 1)) 99, Of 101 (.bin .geq (.t 100) (Ik 0)) 99, Of 102 (.mv (.t 101)) 99, Ot 103 (.mv (.t 13)) 102, Ot 104 (.bin .eql (.t 103) (Ik 0)) 102, Of 105 (.pick (.t 102) (.t 104) (.c (.bool false))) 99, Of 106 (.mv (.t 105)) 99, Ot 107 (.mv (.t 12)) 106, Ot 108 (.mv (.t 1)) 106, Ot 109 (.cnv .u64 (.t 108)) 106, Ot 110 (.bin .eql (.t 107) (.t 109)) 106, Of 111 (.pick (.t 106) (.t 110) (.c (.bool false))) 99, Ot 112 (.pick (.t 99) (.c (.bool true)) (.t 111)) 92, Pa 113 92 112, Mv 4 113]) .ret)))))))))))), [.t 4], 114⟩
theorem b8 : fB Tryd.prog 8 c8 = true := by kernel_rfl
def c10 : CF := ⟨(.seq (Ko [] [Ou 0 (.mv (.c (.bool false)))]) (.seq (Ko [] [Ou 7 (.call 25 [(.c (.str [97, 32, 34, 98, 32, 99, 34, 32, 35, 32, 110, 111, 10, 32, 32, 120, 10]))]), Mv 6 7, Ex 8 6 0, Ex 9 6 1, Ou 2 (.alloc [.int .i64 0, .int .i64 0]), Mv 1 8, Sv 2 2 9]) (.seq (Ko [1, 2] [Ou 10 (.call 27 [(.c (.bool false)), (.c (.str [97])), (Ik 0)]), Ou 11 (.call 27 [(.c (.bool true)), (.c (.str [98, 32, 99])), (Ik 2)]), Ou 12 (.mkSl 3 2 [.bool false, .str [], .int .i64 0, .bool false, .str [], .int .i64 0] [(0, 3, (.t 10)), (3, 3, (.t 11))]), Ou 13 (.bld [.int .i64 0, .nils] [(0, 1, (Ik 0)), (1, 1, (.t 12))]), Ou 14 (.call 27 [(.c (.bool false)), (.c (.str [120])), (Ik 15)]), Ou 15 (.mkSl 3 1 [.bool false, .str [], .int .i64 0] [(0, 3, (.t 14))]), Ou 16 (.bld [.int .i64 0, .nils] [(0, 1, (Ik 13)), (1, 1, (.t 15))]), Ou 17 (.mkSl 2 2 [.int .i64 0, .nils, .int .i64 0, .nils] [(0, 2, (.t 13)), (2, 2, (.t 16))]), Mv 3 17]) (.seq (Ko [1, 2, 3] [Ou 19 (.mkSl 1 2 [.str [], .str []] [(0, 1, (.c (.str [97]))), (1, 1, (.c (.str [98, 32, 99])))]), Ou 20 (.call 23 [(.t 19)]), Ou 21 (.mkSl 1 1 [.str []] [(0, 1, (.c (.str [55])))]), Ou 22 (.call 23 [(.t 21)]), Ou 23 (.mkSl 2 2 [.int .i64 0, .nils, .int .i64 0, .nils] [(0, 2, (.t 20)), (2, 2, (.t 22))]), Ou 24 (.call 12 [(.t 23)]), Mv 18 24, Ex 25 18 0, Ex 26 18 1, Mv 4 25, Mv 5 26]) (.seq (Ko [1, 2, 3, 4, 5] [Lw 27 2 2, Ou 28 (.bld [.int .i64 0, .int .i64 0] []), Ou 29 (.eqA false [0, 0] (.t 27) (.t 28)), Mv 30 29, Ot 31 (.mv (.t 1)) 30, Ot 32 (.mv (.t 3)) 30, Ot 33 (.call 14 [(.t 31), (.t 32)]) 30, Pa 34 30 33, Mv 35 34, Ot 36 (.mv (.t 5)) 35, Ot 37 (.bin .eql (.t 36) (Ik 0)) 35, Pa 38 35 37, Mv 39 38, Ot 40 (.mv (.t 4)) 39, Ot 41 (.bin .eql (.t 40) (.c (.str [97, 32, 34, 98, 32, 99, 34, 10, 55, 10]))) 39, Pa 42 39 41, Mv 0 42]) .ret))))), [.t 0], 43⟩
theorem b10 : fB Tryd.prog 10 c10 = true := by kernel_rfl
def c12 : CF := ⟨(.seq (Ko [0] [Ou 2 (.mv (.c (.str []))), Mi 3 0]) (.seq (Ko [0] [Ou 4 (.allocT 63 [.nilp, .nils])]) (.seq (.seq (Ko [0, 4] [Mv 13 0, Ou 14 (.len (.t 13)), Mi 15 0]) (.block 0 (.loop (.seq (Ko [4, 13, 14, 15] [Ou 16 (.bin .lss (.t 15) (.t 14))]) (.seq (.cond (.t 16) .skip (.exit 0)) (.seq (.block 1 (.seq (Ko [4, 13, 14, 15] [Ou 17 (.ixA 2 (.t 13) (.t 15)), Lw 18 2 17, Ou 6 (.alloc [.int .i64 0, .nils]), Sv 2 6 18]) (.seq (.seq (Ko [4, 6, 13, 14, 15] [Fa 19 1 6, Lv 20 19, Ou 21 (.len (.t 20)), Ou 22 (.bin .eql (.t 21) (Ik 0))]) (.cond (.t 22) (.seq (Ko [] [Ou 2 (.mv (.c (.str []))), Mi 3 7]) .ret) .skip)) (.seq (Ko [4, 6, 13, 14, 15] [Ou 7 (.mv (.c .nils))]) (.seq (.seq (Ko [4, 6, 7, 13, 14, 15] [Fa 23 1 6, Lv 24 23, Ou 25 (.len (.t 24)), Mi 26 0]) (.block 2 (.loop (.seq (Ko [4, 7, 13, 14, 15, 24, 25, 26] [Ou 27 (.bin .lss (.t 26) (.t 25))]) (.seq (.cond (.t 27) .skip (.exit 2)) (.seq (.block 3 (.seq (Ko [4, 7, 13, 14, 15, 24, 25, 26] [Ou 28 (.ixA 3 (.t 24) (.t 26)), Lw 29 3 28, Ou 9 (.alloc [.bool false, .str [], .int .i64 0]), Sv 3 9 29]) (.seq (Ko [4, 7, 9, 13, 14, 15, 24, 25, 26] [Lw 31 3 9, Ou 32 (.call 15 [(.t 31)]), Mv 30 32, Ex 33 30 0, Ex 34 30 1, Mv 10 33, Mv 11 34]) (.seq (.seq (Ko [4, 7, 10, 11, 13, 14, 15, 24, 25, 26] [Mv 35 11, Ou 36 (.bin .neq (.t 35) (Ik 0))]) (.cond (.t 36) (.seq (Ko [11] [Mv 37 11, Ou 2 (.mv (.c (.str []))), Mv 3 37]) .ret) .skip)) (Ko [4, 7, 10, 13, 14, 15, 24, 25, 26] [Mv 38 7, Mv 39 10, Ou 40 (.mkSl 1 1 [.str []] [(0, 1, (.t 39))]), Ou 41 (.app true 9 1 16 (.t 38) (.t 40)), Mv 7 41]))))) (Ko [4, 7, 13, 14, 15, 24, 25, 26] [Ou 42 (.bin .add (.t 26) (Ik 1)), Mv 26 42]))))))) (.seq (Ko [4, 7, 13, 14, 15] [Mv 43 7, Ou 44 (.call 34 [(.t 43), (.c (.str [32]))]), Mv 12 44]) (.seq (Ko [4, 12, 13, 14, 15] [Mv 45 12, Ou 46 (.bin .add (.t 45) (.c (.str [10]))), Ou 47 (.call 35 [(.t 4), (.t 46)])]) (.seq (Ko [4, 12, 13, 14, 15] [Mv 48 12, Ou 49 (.lenS (.t 48)), Ou 50 (.bin .gtr (.t 49) (Ik 1000)), Mv 51 50, Of 52 (.call 36 [(.t 4)]) 51, Of 53 (.bin .gtr (.t 52) (Ik 20000)) 51, Po 54 51 53]) (.cond (.t 54) (.seq (Ko [] [Ou 2 (.mv (.c (.str []))), Mi 3 4]) .ret) .skip))))))))) (Ko [4, 13, 14, 15] [Ou 55 (.bin .add (.t 15) (Ik 1)), Mv 15 55]))))))) (.seq (Ko [4] [Ou 56 (.call 37 [(.t 4)]), Mv 2 56, Mi 3 0]) .ret)))), [.t 2, .t 3], 57⟩
theorem b12 : fB Tryd.prog 12 c12 = true := by kernel_rfl
def c14 : CF := ⟨(.seq (Ko [0, 1] [Ou 4 (.mv (.c (.bool false)))]) (.seq (.seq (Ko [0, 1] [Mv 7 0, Ou 8 (.len (.t 7)), Mv 9 1, Ou 10 (.len (.t 9)), Ou 11 (.bin .neq (.t 8) (.t 10))]) (.cond (.t 11) (.seq (Ko [] [Ou 4 (.mv (.c (.bool false)))]) .ret) .skip)) (.seq (.seq (Ko [0, 1] [Mi 5 0]) (.block 0 (.loop (.seq (.seq (Ko [0, 1, 5] [Mv 12 5, Mv 13 0, Ou 14 (.len (.t 13)), Ou 15 (.bin .lss (.t 12) (.t 14))]) (.cond (.t 15) .skip (.exit 0))) (.seq (.block 1 (.seq (.seq (.keep [0, 1, 5] (.drw [Mv 18 0, Mv 19 5, Ou 20 (.ixA 2 (.t 18) (.t 19)), Fa 21 0 20, Lv 22 21, Mv 23 1, Mv 24 5, Ou 25 (.ixA 2 (.t 23) (.t 24)), Fa 26 0 25, Lv 27 26, Ou 28 (.bin .neq (.t 22) (.t 27)), Mv 29 28, Of 30 (.mv (.t 0)) 29, Of 31 (.mv (.t 5)) 29, Of 32 (.ixA 2 (.t 30) (.t 31)) 29, Of 33 (.fldA 1 (.t 32)) 29, Of 34 (.ld (none) (.t 33)) 29, Of 35 (.len (.t 34)) 29, Of 36 (.mv (.t 1)) 29, Of 37 (.mv (.t 5)) 29, Of 38 (.ixA 2 (.t 36) (.t 37)) 29, Of 39 (.fldA 1 (.t 38)) 29, Of 40 (.ld (none) (.t 39)) 29, Of 41 (.len (.t 40)) 29, Of 42 (.bin .neq (.t 35) (.t 41)) 29, Po 43 29 42] [0, 0, 0, 0, 1, 0, 0, 0, 0, 1, 0, 0, 0, 0, 0, 0, 1, 0, 0, 0, 0, 0, 1, 0, 0, 0])) (.cond (.t 43) (.seq (Ko [] [Ou 4 (.mv (.c (.bool false)))]) .ret) .skip)) (.seq (Ko [0, 1, 5] [Mi 6 0]) (.block 2 (.loop (.seq (.seq (Ko [0, 1, 5, 6] [Mv 44 6, Mv 45 0, Mv 46 5, Ou 47 (.ixA 2 (.t 45) (.t 46)), Fa 48 1 47, Lv 49 48, Ou 50 (.len (.t 49)), Ou 51 (.bin .lss (.t 44) (.t 50))]) (.cond (.t 51) .skip (.exit 2))) (.seq (.block 3 (.seq (.keep [0, 1, 5, 6] (.drw [Mv 54 0, Mv 55 5, Ou 56 (.ixA 2 (.t 54) (.t 55)), Fa 57 1 56, Lv 58 57, Mv 59 6, Ou 60 (.ixA 3 (.t 58) (.t 59)), Lw 61 3 60, Mv 62 1, Mv 63 5, Ou 64 (.ixA 2 (.t 62) (.t 63)), Fa 65 1 64, Lv 66 65, Mv 67 6, Ou 68 (.ixA 3 (.t 66) (.t 67)), Lw 69 3 68, Ou 70 (.eqA true [2, 1, 0] (.t 61) (.t 69))] [0, 0, 0, 0, 1, 0, 0, 1, 0, 0, 0, 0, 1, 0, 0, 1, 0])) (.cond (.t 70) (.seq (Ko [] [Ou 4 (.mv (.c (.bool false)))]) .ret) .skip))) (Ko [0, 1, 5, 6] [Mv 52 6, Ou 53 (.bin .add (.t 52) (Ik 1)), Mv 6 53])))))))) (Ko [0, 1, 5] [Mv 16 5, Ou 17 (.bin .add (.t 16) (Ik 1)), Mv 5 17])))))) (.seq (Ko [] [Ou 4 (.mv (.c (.bool true)))]) .ret)))), [.t 4], 71⟩
theorem b14 : fB Tryd.prog 14 c14 = true := by kernel_rfl
def c15 : CF := ⟨(.seq (Ko [0] [Ou 1 (.box 3 (.t 0)), Ou 2 (.mv (.c (.str []))), Mi 3 0]) (.seq (.seq (Ko [1] [Fa 7 0 1, Lv 8 7, Ou 9 (.un .not (.t 8))]) (.cond (.t 9) (.seq (.seq (Ko [1] [Fa 10 1 1, Lv 11 10, Ou 12 (.call 29 [(.t 11)]), Ou 13 (.un .not (.t 12))]) (.cond (.t 13) (.seq (Ko [] [Ou 2 (.mv (.c (.str []))), Mi 3 3]) .ret) .skip)) (.seq (Ko [1] [Fa 14 1 1, Lv 15 14, Mv 2 15, Mi 3 0]) .ret)) .skip)) (.seq (Ko [1] [Ou 4 (.allocT 63 [.nilp, .nils])]) (.seq (Ko [1, 4] [Ou 16 (.call 39 [(.t 4), (.c (.int .u8 34))])]) (.seq (.seq (Ko [1, 4] [Fa 17 1 1, Lv 18 17, Ou 19 (.s2b (.t 18)), Ou 20 (.len (.t 19)), Mi 21 0]) (.block 0 (.loop (.seq (Ko [4, 19, 20, 21] [Ou 22 (.bin .lss (.t 21) (.t 20))]) (.seq (.cond (.t 22) .skip (.exit 0)) (.seq (.block 1 (.seq (Ko [4, 19, 20, 21] [Ou 23 (.ixA 1 (.t 19) (.t 21)), Lv 24 23, Mv 6 24]) (.block 2 (.seq (Ko [4, 6, 19, 20, 21] [Mv 41 6, Ou 42 (.call 40 [(.t 41)]), Mv 40 42]) (.cond (.t 40) (Ko [4, 6, 19, 20, 21] [Mv 43 6, Ou 44 (.call 39 [(.t 4), (.t 43)])]) (.seq (Ko [4, 6, 19, 20, 21] [Mv 46 6, Ou 47 (.bin .eql (.t 46) (.c (.int .u8 34))), Mv 48 47, Of 49 (.mv (.t 6)) 48, Of 50 (.bin .eql (.t 49) (.c (.int .u8 92))) 48, Po 51 48 50, Mv 45 51]) (.cond (.t 45) (.seq (Ko [4, 6, 19, 20, 21] [Ou 52 (.call 39 [(.t 4), (.c (.int .u8 92))])]) (Ko [4, 6, 19, 20, 21] [Mv 53 6, Ou 54 (.call 39 [(.t 4), (.t 53)])])) (.keep [4, 6, 19, 20, 21] (.drw [Mv 25 6, Ou 26 (.bin .shr (.t 25) (.c (.int .u64 4))), Mv 27 6, Ou 28 (.bin .shr (.t 27) (.c (.int .u64 4))), Ou 29 (.bin .add (.t 28) (.c (.int .u8 1))), Ou 30 (.slcS (.c (.str [48, 49, 50, 51, 52, 53, 54, 55, 56, 57, 97, 98, 99, 100, 101, 102])) (some (.t 26)) (some (.t 29))), Ou 31 (.bin .add (.c (.str [92, 120])) (.t 30)), Mv 32 6, Ou 33 (.bin .and (.t 32) (.c (.int .u8 15))), Mv 34 6, Ou 35 (.bin .and (.t 34) (.c (.int .u8 15))), Ou 36 (.bin .add (.t 35) (.c (.int .u8 1))), Ou 37 (.slcS (.c (.str [48, 49, 50, 51, 52, 53, 54, 55, 56, 57, 97, 98, 99, 100, 101, 102])) (some (.t 33)) (some (.t 36))), Ou 38 (.bin .add (.t 31) (.t 37)), Ou 39 (.call 35 [(.t 4), (.t 38)])] [0, 0, 0, 0, 0, 0, 0, 0, 0, 0, 0, 0, 0, 0, 2]))))))))) (Ko [4, 19, 20, 21] [Ou 55 (.bin .add (.t 21) (Ik 1)), Mv 21 55]))))))) (.seq (Ko [4] [Ou 56 (.call 39 [(.t 4), (.c (.int .u8 34))])]) (.seq (Ko [4] [Ou 57 (.call 37 [(.t 4)]), Mv 2 57, Mi 3 0]) .ret))))))), [.t 2, .t 3], 58⟩
theorem b15 : fB Tryd.prog 15 c15 = true := by kernel_rfl
def c17 : CF := ⟨(.seq (Ko [0, 1, 2] [Ou 3 (.box 3 (.t 0)), Ou 6 (.mv (.c (.int .u64 0))), Mi 7 0]) (.seq (Ko [1, 2, 3] [Fa 12 1 3, Lv 13 12, Ou 14 (.call 43 [(.t 13)]), Mv 11 14, Ex 15 11 0, Ex 16 11 1, Ex 17 11 2, Mv 8 15, Mv 9 16, Mv 10 17]) (.seq (.block 0 (.seq (Ko [1, 2, 3, 8, 9, 10] [Mv 19 10, Ou 20 (.un .not (.t 19)), Mv 21 20, Of 22 (.fldA 0 (.t 3)) 21, Of 23 (.ld (none) (.t 22)) 21, Po 24 21 23, Mv 18 24]) (.cond (.t 18) (.seq (Ko [] [Ou 6 (.mv (.c (.int .u64 0))), Mi 7 3]) .ret) (.seq (Ko [1, 2, 8, 9] [Mv 26 9, Mv 27 26, Of 28 (.mv (.t 8)) 27, Of 29 (.mv (.t 1)) 27, Of 30 (.bin .lss (.t 28) (.t 29)) 27, Po 31 27 30, Mv 32 31, Of 33 (.mv (.t 8)) 32, Of 34 (.mv (.t 2)) 32, Of 35 (.bin .gtr (.t 33) (.t 34)) 32, Po 36 32 35, Mv 25 36]) (.cond (.t 25) (.seq (Ko [] [Ou 6 (.mv (.c (.int .u64 0))), Mi 7 2]) .ret) .skip))))) (.seq (Ko [8] [Mv 37 8, Mv 6 37, Mi 7 0]) .ret)))), [.t 6, .t 7], 38⟩
theorem b17 : fB Tryd.prog 17 c17 = true := by kernel_rfl
def c19 : CF := ⟨(.seq (Ko [0, 1] [Ou 2 (.box 3 (.t 0)), Mi 4 0, Mi 5 0]) (.seq (.seq (Ko [1, 2] [Mv 8 1, Ou 9 (.len (.t 8)), Mi 10 0]) (.block 0 (.loop (.seq (Ko [2, 8, 9, 10] [Ou 11 (.bin .lss (.t 10) (.t 9))]) (.seq (.cond (.t 11) .skip (.exit 0)) (.seq (.block 1 (.seq (Ko [2, 8, 9, 10] [Mv 12 10, Ou 13 (.ixA 1 (.t 8) (.t 10)), Lv 14 13, Mv 6 12, Mv 7 14]) (.seq (Ko [2, 6, 7, 8, 9, 10] [Fa 15 0 2, Lv 16 15, Ou 17 (.un .not (.t 16)), Mv 18 17, Ot 19 (.mv (.t 7)) 18, Ot 20 (.fldA 1 (.t 2)) 18, Ot 21 (.ld (none) (.t 20)) 18, Ot 22 (.bin .eql (.t 19) (.t 21)) 18, Pa 23 18 22]) (.cond (.t 23) (.seq (Ko [6] [Mv 24 6, Mv 4 24, Mi 5 0]) .ret) .skip)))) (Ko [2, 8, 9, 10] [Ou 25 (.bin .add (.t 10) (Ik 1)), Mv 10 25]))))))) (.seq (Ko [] [Mi 4 0, Mi 5 7]) .ret))), [.t 4, .t 5], 26⟩
theorem b19 : fB Tryd.prog 19 c19 = true := by kernel_rfl
def c21 : CF := ⟨(.seq (Ko [0] [Ou 1 (.box 3 (.t 0)), Mi 2 0, Mi 3 0]) (.seq (Ko [1] [Fa 10 1 1, Lv 11 10, Ou 12 (.call 45 [(.t 11), (.c (.str [45]))]), Mv 9 12, Ex 13 9 0, Ex 14 9 1, Mv 4 13, Mv 5 14]) (.seq (Ko [1, 4, 5] [Mv 16 4, Ou 17 (.call 43 [(.t 16)]), Mv 15 17, Ex 18 15 0, Ex 19 15 1, Ex 20 15 2, Mv 6 18, Mv 7 19, Mv 8 20]) (.seq (.block 0 (.seq (Ko [1, 5, 6, 7, 8] [Mv 22 8, Ou 23 (.un .not (.t 22)), Mv 24 23, Of 25 (.fldA 0 (.t 1)) 24, Of 26 (.ld (none) (.t 25)) 24, Po 27 24 26, Mv 28 27, Of 29 (.mv (.t 5)) 28, Of 30 (.mv (.t 29)) 28, Ot 31 (.mv (.t 6)) 30, Ot 32 (.bin .eql (.t 31) (.c (.int .u64 0))) 30, Of 33 (.pick (.t 30) (.t 32) (.c (.bool false))) 28, Of 34 (.mv (.t 33)) 28, Ot 35 (.mv (.t 7)) 34, Ot 36 (.un .not (.t 35)) 34, Of 37 (.pick (.t 34) (.t 36) (.c (.bool false))) 28, Po 38 28 37, Mv 21 38]) (.cond (.t 21) (.seq (Ko [] [Mi 2 0, Mi 3 3]) .ret) (.seq (Ko [5, 6, 7] [Mv 40 7, Mv 41 40, Of 42 (.mv (.t 6)) 41, Of 43 (.bin .gtr (.t 42) (.c (.int .u64 9223372036854775808))) 41, Po 44 41 43, Mv 45 44, Of 46 (.mv (.t 6)) 45, Of 47 (.bin .eql (.t 46) (.c (.int .u64 9223372036854775808))) 45, Of 48 (.mv (.t 47)) 45, Ot 49 (.mv (.t 5)) 48, Ot 50 (.un .not (.t 49)) 48, Of 51 (.pick (.t 48) (.t 50) (.c (.bool false))) 45, Po 52 45 51, Mv 39 52]) (.cond (.t 39) (.seq (Ko [] [Mi 2 0, Mi 3 2]) .ret) (.seq (Ko [5, 6] [Mv 54 5, Mv 53 54]) (.cond (.t 53) (.seq (Ko [6] [Mv 55 6, Ou 56 (.cnv .i64 (.t 55)), Ou 57 (.un .neg (.t 56)), Mv 2 57, Mi 3 0]) .ret) .skip))))))) (.seq (Ko [6] [Mv 58 6, Ou 59 (.cnv .i64 (.t 58)), Mv 2 59, Mi 3 0]) .ret))))), [.t 2, .t 3], 60⟩
theorem b21 : fB Tryd.prog 21 c21 = true := by kernel_rfl
def c23 : CF := ⟨(.seq (Ko [0] [Ou 2 (.alloc [.int .i64 0, .nils])]) (.seq (Ko [0, 2] [Ou 3 (.alloc [.int .i64 0, .nils])]) (.seq (.seq (Ko [0, 2, 3] [Mv 6 0, Ou 7 (.len (.t 6)), Mi 8 0]) (.block 0 (.loop (.seq (Ko [2, 3, 6, 7, 8] [Ou 9 (.bin .lss (.t 8) (.t 7))]) (.seq (.cond (.t 9) .skip (.exit 0)) (.seq (.block 1 (.seq (Ko [2, 3, 6, 7, 8] [Ou 10 (.ixA 1 (.t 6) (.t 8)), Lv 11 10, Mv 5 11]) (.keep [2, 3, 5, 6, 7, 8] (.drw [Fa 12 1 3, Lv 13 12, Mv 14 5, Ou 15 (.call 29 [(.t 14)]), Ou 16 (.un .not (.t 15)), Mv 17 5, Ou 18 (.bld [.bool false, .str [], .int .i64 0] [(0, 1, (.t 16)), (1, 1, (.t 17))]), Ou 19 (.mkSl 3 1 [.bool false, .str [], .int .i64 0] [(0, 3, (.t 18))]), Ou 20 (.app true 31 3 32 (.t 13) (.t 19)), Fa 21 1 3, Sv 1 21 20] [0, 1, 0, 1, 0, 0, 0, 0, 4, 0, 2])))) (Ko [2, 3, 6, 7, 8] [Ou 22 (.bin .add (.t 8) (Ik 1)), Mv 8 22]))))))) (.seq (Ko [2, 3] [Lw 23 2 3, Sv 2 2 23]) .ret)))), [.cl 2 (some 2)], 24⟩
theorem b23 : fB Tryd.prog 23 c23 = true := by kernel_rfl
def c26 : CF := ⟨(.seq (Ko [0, 1] [Ou 3 (.box 3 (.t 1)), Ou 4 (.mv (.c (.bool false)))]) (.seq (Ko [0, 3] [Mv 8 0, Ou 9 (.call 25 [(.t 8)]), Mv 7 9, Ex 10 7 0, Ex 11 7 1, Ou 6 (.alloc [.int .i64 0, .int .i64 0]), Mv 5 10, Sv 2 6 11]) (.seq (Ko [3, 5, 6] [Lw 12 2 6, Ou 13 (.bld [.int .i64 0, .int .i64 0] []), Ou 14 (.eqA false [0, 0] (.t 12) (.t 13)), Mv 15 14, Ot 16 (.mv (.t 5)) 15, Ot 17 (.ld (some 3) (.t 3)) 15, Ot 18 (.mkSl 3 1 [.bool false, .str [], .int .i64 0] [(0, 3, (.t 17))]) 15, Ot 19 (.bld [.int .i64 0, .nils] [(1, 1, (.t 18))]) 15, Ot 20 (.mkSl 2 1 [.int .i64 0, .nils] [(0, 2, (.t 19))]) 15, Ot 21 (.call 14 [(.t 16), (.t 20)]) 15, Pa 22 15 21, Mv 4 22]) .ret))), [.t 4], 23⟩
theorem b26 : fB Tryd.prog 26 c26 = true := by kernel_rfl
def c27 : CF := ⟨(.seq (Ko [0, 1, 2] [Ou 6 (.alloc [.bool false, .str [], .int .i64 0])]) (.seq (Ko [0, 1, 2, 6] [Mv 7 0, Mv 8 1, Mv 9 2, Ou 10 (.bld [.bool false, .str [], .int .i64 0] [(0, 1, (.t 7)), (1, 1, (.t 8)), (2, 1, (.t 9))]), Sv 3 6 10]) .ret)), [.cl 6 (some 3)], 11⟩
theorem b27 : fB Tryd.prog 27 c27 = true := by kernel_rfl
def c28 : CF := ⟨(.seq (Ko [0] [Ou 2 (.mv (.c (.bool false)))]) (.seq (Ko [0] [Mv 6 0, Ou 7 (.call 25 [(.t 6)]), Mv 5 7, Ex 8 5 0, Ex 9 5 1, Ou 4 (.alloc [.int .i64 0, .int .i64 0]), Mv 3 8, Sv 2 4 9]) (.seq (Ko [3, 4] [Mv 10 3, Ou 11 (.len (.t 10)), Ou 12 (.bin .eql (.t 11) (Ik 0)), Mv 13 12, Ot 14 (.ld (some 2) (.t 4)) 13, Ot 15 (.bld [.int .i64 0, .int .i64 0] [(0, 1, (Ik 3))]) 13, Ot 16 (.eqA false [0, 0] (.t 14) (.t 15)) 13, Pa 17 13 16, Mv 2 17]) .ret))), [.t 2], 18⟩
theorem b28 : fB Tryd.prog 28 c28 = true := by kernel_rfl
def c29 : CF := ⟨(.seq (Ko [0] [Ou 2 (.mv (.c (.bool false)))]) (.seq (.seq (Ko [0] [Mv 5 0, Ou 6 (.s2b (.t 5)), Ou 7 (.len (.t 6)), Mi 8 0]) (.block 0 (.loop (.seq (Ko [0, 6, 7, 8] [Ou 9 (.bin .lss (.t 8) (.t 7))]) (.seq (.cond (.t 9) .skip (.exit 0)) (.seq (.block 1 (.seq (Ko [0, 6, 7, 8] [Ou 10 (.ixA 1 (.t 6) (.t 8)), Lv 11 10, Mv 4 11]) (.seq (Ko [0, 4, 6, 7, 8] [Mv 12 4, Ou 13 (.call 49 [(.t 12)]), Ou 14 (.un .not (.t 13))]) (.cond (.t 14) (.seq (Ko [] [Ou 2 (.mv (.c (.bool false)))]) .ret) .skip)))) (Ko [0, 6, 7, 8] [Ou 15 (.bin .add (.t 8) (Ik 1)), Mv 8 15]))))))) (.seq (Ko [0] [Mv 16 0, Ou 17 (.bin .neq (.t 16) (.c (.str []))), Mv 18 17, Ot 19 (.mv (.t 0)) 18, Ot 20 (.ixS (.t 19) (Ik 0)) 18, Ot 21 (.bin .neq (.t 20) (.c (.int .u8 35))) 18, Pa 22 18 21, Mv 2 22]) .ret))), [.t 2], 23⟩
theorem b29 : fB Tryd.prog 29 c29 = true := by kernel_rfl
def c30 : CF := ⟨(.seq (Ko [0, 1, 2] [Ou 3 (.box 3 (.t 0)), Mi 6 0]) (.seq (Ko [1, 2, 3] [Lw 10 3 3, Mv 11 1, Mv 12 2, Ou 13 (.call 17 [(.t 10), (.t 11), (.t 12)]), Mv 9 13, Ex 14 9 0, Ex 15 9 1, Mv 7 14, Mv 8 15]) (.seq (Ko [8] [Mv 16 8, Mv 6 16]) .ret))), [.t 6], 17⟩
theorem b30 : fB Tryd.prog 30 c30 = true := by kernel_rfl
def c31 : CF := ⟨(.seq (Ko [0] [Mi 2 0, Mi 3 0]) (.seq (Ko [0] [Mv 4 0, Ou 5 (.call 27 [(.c (.bool false)), (.t 4), (Ik 0)]), Ou 6 (.call 21 [(.t 5)]), Ex 7 6 0, Ex 8 6 1, Mv 2 7, Mv 3 8]) .ret)), [.t 2, .t 3], 9⟩
theorem b31 : fB Tryd.prog 31 c31 = true := by kernel_rfl
def c35 : CF := ⟨(.seq (Ko [0, 1] [Mi 4 0, Ou 5 (.mv (.c .nili))]) (.seq (Ko [0, 1] [Mv 6 0, Ou 7 (.call 53 [(.t 6)])]) (.seq (Ko [0, 1] [Mv 8 0, Mv 9 0, Ou 10 (.nilc (.t 9)), Fa 11 1 10, Lv 12 11, Mv 13 1, Ou 14 (.appS 5 1 (.t 12) (.t 13)), Ou 15 (.nilc (.t 8)), Fa 16 1 15, Sv 1 16 14]) (.seq (Ko [1] [Mv 17 1, Ou 18 (.lenS (.t 17)), Mv 4 18, Ou 5 (.mv (.c .nili))]) .ret)))), [.t 4, .t 5], 19⟩
theorem b35 : fB Tryd.prog 35 c35 = true := by kernel_rfl
def c36 : CF := ⟨(.seq (Ko [0] [Mi 2 0]) (.seq (Ko [0] [Mv 3 0, Ou 4 (.nilc (.t 3)), Fa 5 1 4, Lv 6 5, Ou 7 (.len (.t 6)), Mv 2 7]) .ret)), [.t 2], 8⟩
theorem b36 : fB Tryd.prog 36 c36 = true := by kernel_rfl
def c39 : CF := ⟨(.seq (Ko [0, 1] [Ou 4 (.mv (.c .nili))]) (.seq (Ko [0, 1] [Mv 5 0, Ou 6 (.call 53 [(.t 5)])]) (.seq (Ko [0, 1] [Mv 7 0, Mv 8 0, Ou 9 (.nilc (.t 8)), Fa 10 1 9, Lv 11 10, Mv 12 1, Ou 13 (.mkSl 1 1 [.int .u8 0] [(0, 1, (.t 12))]), Ou 14 (.app true 5 1 1 (.t 11) (.t 13)), Ou 15 (.nilc (.t 7)), Fa 16 1 15, Sv 1 16 14]) (.seq (Ko [] [Ou 4 (.mv (.c .nili))]) .ret)))), [.t 4], 17⟩
theorem b39 : fB Tryd.prog 39 c39 = true := by kernel_rfl
def c40 : CF := ⟨(.seq (Ko [0] [Ou 2 (.mv (.c (.bool false)))]) (.seq (Ko [0] [Mv 3 0, Ou 4 (.bin .geq (.t 3) (.c (.int .u8 32))), Mv 5 4, Ot 6 (.mv (.t 0)) 5, Ot 7 (.bin .leq (.t 6) (.c (.int .u8 126))) 5, Pa 8 5 7, Mv 9 8, Ot 10 (.mv (.t 0)) 9, Ot 11 (.bin .neq (.t 10) (.c (.int .u8 34))) 9, Pa 12 9 11, Mv 13 12, Ot 14 (.mv (.t 0)) 13, Ot 15 (.bin .neq (.t 14) (.c (.int .u8 92))) 13, Pa 16 13 15, Mv 2 16]) .ret)), [.t 2], 17⟩
theorem b40 : fB Tryd.prog 40 c40 = true := by kernel_rfl
def c43 : CF := ⟨(.seq (Ko [0] [Ou 2 (.mv (.c (.int .u64 0))), Ou 3 (.mv (.c (.bool false))), Ou 4 (.mv (.c (.bool false)))]) (.seq (.seq (Ko [0, 2, 3] [Mv 8 0, Ou 9 (.bin .eql (.t 8) (.c (.str []))), Mv 10 9, Of 11 (.mv (.t 0)) 10, Of 12 (.lenS (.t 11)) 10, Of 13 (.bin .gtr (.t 12) (Ik 20)) 10, Po 14 10 13, Mv 15 14, Of 16 (.mv (.t 0)) 15, Of 17 (.ixS (.t 16) (Ik 0)) 15, Of 18 (.bin .eql (.t 17) (.c (.int .u8 48))) 15, Of 19 (.mv (.t 18)) 15, Ot 20 (.mv (.t 0)) 19, Ot 21 (.lenS (.t 20)) 19, Ot 22 (.bin .gtr (.t 21) (Ik 1)) 19, Of 23 (.pick (.t 19) (.t 22) (.c (.bool false))) 15, Po 24 15 23]) (.cond (.t 24) (.seq (Ko [] [Ou 2 (.mv (.c (.int .u64 0))), Ou 3 (.mv (.c (.bool false))), Ou 4 (.mv (.c (.bool false)))]) .ret) .skip)) (.seq (.seq (Ko [0, 2, 3] [Mv 25 0, Ou 26 (.s2b (.t 25)), Ou 27 (.len (.t 26)), Mi 28 0]) (.block 0 (.loop (.seq (Ko [2, 3, 26, 27, 28] [Ou 29 (.bin .lss (.t 28) (.t 27))]) (.seq (.cond (.t 29) .skip (.exit 0)) (.seq (.block 1 (.seq (Ko [2, 3, 26, 27, 28] [Ou 30 (.ixA 1 (.t 26) (.t 28)), Lv 31 30, Mv 6 31]) (.seq (.seq (Ko [2, 3, 6, 26, 27, 28] [Mv 32 6, Ou 33 (.bin .lss (.t 32) (.c (.int .u8 48))), Mv 34 33, Of 35 (.mv (.t 6)) 34, Of 36 (.bin .gtr (.t 35) (.c (.int .u8 57))) 34, Po 37 34 36]) (.cond (.t 37) (.seq (Ko [] [Ou 2 (.mv (.c (.int .u64 0))), Ou 3 (.mv (.c (.bool false))), Ou 4 (.mv (.c (.bool false)))]) .ret) .skip)) (.seq (Ko [2, 3, 6, 26, 27, 28] [Mv 38 2, Ou 39 (.bin .shl (.t 38) (.c (.int .u64 3))), Mv 40 2, Ou 41 (.bin .shl (.t 40) (.c (.int .u64 1))), Ou 42 (.bin .add (.t 39) (.t 41)), Mv 43 6, Ou 44 (.bin .sub (.t 43) (.c (.int .u8 48))), Ou 45 (.cnv .u64 (.t 44)), Ou 46 (.bin .add (.t 42) (.t 45)), Mv 7 46]) (.seq (Ko [2, 3, 7, 26, 27, 28] [Mv 47 3, Mv 48 47, Of 49 (.mv (.t 2)) 48, Of 50 (.bin .gtr (.t 49) (.c (.int .u64 1844674407370955161))) 48, Po 51 48 50, Mv 52 51, Of 53 (.mv (.t 7)) 52, Of 54 (.mv (.t 2)) 52, Of 55 (.bin .shl (.t 54) (.c (.int .u64 3))) 52, Of 56 (.mv (.t 2)) 52, Of 57 (.bin .shl (.t 56) (.c (.int .u64 1))) 52, Of 58 (.bin .add (.t 55) (.t 57)) 52, Of 59 (.bin .lss (.t 53) (.t 58)) 52, Po 60 52 59, Mv 3 60]) (Ko [3, 7, 26, 27, 28] [Mv 61 7, Mv 2 61])))))) (Ko [2, 3, 26, 27, 28] [Ou 62 (.bin .add (.t 28) (Ik 1)), Mv 28 62]))))))) (.seq (Ko [2, 3] [Mv 63 2, Mv 64 3, Mv 2 63, Mv 3 64, Ou 4 (.mv (.c (.bool true)))]) .ret)))), [.t 2, .t 3, .t 4], 65⟩
theorem b43 : fB Tryd.prog 43 c43 = true := by kernel_rfl
def c45 : CF := ⟨(.seq (Ko [0, 1] [Ou 4 (.mv (.c (.str []))), Ou 5 (.mv (.c (.bool false)))]) (.seq (Ko [0, 1] [Mv 6 0, Mv 7 1, Ou 8 (.call 55 [(.t 6), (.t 7)]), Ex 9 8 0, Ex 10 8 1, Mv 4 9, Mv 5 10]) .ret)), [.t 4, .t 5], 11⟩
theorem b45 : fB Tryd.prog 45 c45 = true := by kernel_rfl
def c46 : CF := ⟨(.seq (Ko [0, 1] [Ou 4 (.mv (.c .nilf))]) (.seq (Ko [0, 1] [Mv 5 0, Mv 6 1, Mv 7 1, Ou 8 (.lenS (.t 7)), Ou 9 (.call 56 [(.t 5), (.t 6), (.t 8)]), Mv 4 9]) .ret)), [.t 4], 10⟩
theorem b46 : fB Tryd.prog 46 c46 = true := by kernel_rfl
def c47 : CF := ⟨(.seq (Ko [0, 1] [Ou 4 (.mv (.c (.str [])))]) (.seq (Ko [0, 1] [Mv 5 0, Mv 6 1, Ou 7 (.call 57 [(.t 5), (.t 6)]), Mv 4 7]) .ret)), [.t 4], 8⟩
theorem b47 : fB Tryd.prog 47 c47 = true := by kernel_rfl
def c48 : CF := ⟨(.seq (Ko [0] [Ou 2 (.mv (.c .nils)), Mi 3 0, Ou 4 (.mv (.c (.bool false)))]) (.seq (Ko [0, 2] [Mv 9 0, Ou 10 (.bld [.str [], .int .i64 0] [(0, 1, (.t 9))]), Ou 11 (.bld [.str [], .int .i64 0] [(0, 2, (.t 10))]), Ou 12 (.box 2 (.t 11)), Mv 5 12]) (.seq (.seq (Ko [2, 5] [Mv 13 5, Ou 14 (.nilc (.t 13)), Fa 15 0 14, Ou 16 (.call 58 [(.t 15)])]) (.block 0 (.loop (.seq (.seq (Ko [2, 5] [Mv 17 5, Ou 18 (.nilc (.t 17)), Fa 19 0 18, Ou 20 (.call 59 [(.t 19)]), Mv 21 20, Ot 22 (.mv (.t 5)) 21, Ot 23 (.nilc (.t 22)) 21, Ot 24 (.fldA 0 (.t 23)) 21, Ot 25 (.call 60 [(.t 24)]) 21, Ot 26 (.bin .neq (.t 25) (.c (.int .u8 35))) 21, Pa 27 21 26]) (.cond (.t 27) .skip (.exit 0))) (.seq (.block 1 (.seq (Ko [2, 5] [Mv 32 5, Ou 33 (.nilc (.t 32)), Fa 34 0 33, Fa 35 1 34, Lv 36 35, Mv 6 36]) (.seq (Ko [2, 5, 6] [Mv 38 5, Ou 39 (.call 61 [(.t 38)]), Mv 37 39, Ex 40 37 0, Ex 41 37 1, Ou 7 (.alloc [.bool false, .str [], .int .i64 0]), Sv 3 7 40, Mv 8 41]) (.seq (.seq (Ko [2, 5, 6, 7, 8] [Mv 42 8, Ou 43 (.un .not (.t 42))]) (.cond (.t 43) (.seq (Ko [6] [Mv 44 6, Ou 2 (.mv (.c .nils)), Mv 3 44, Ou 4 (.mv (.c (.bool false)))]) .ret) .skip)) (Ko [2, 5, 7] [Mv 45 2, Lw 46 3 7, Ou 47 (.mkSl 3 1 [.bool false, .str [], .int .i64 0] [(0, 3, (.t 46))]), Ou 48 (.app true 31 3 32 (.t 45) (.t 47)), Mv 2 48]))))) (Ko [2, 5] [Mv 28 5, Ou 29 (.nilc (.t 28)), Fa 30 0 29, Ou 31 (.call 58 [(.t 30)])])))))) (.seq (Ko [2] [Mv 49 2, Mv 2 49, Mi 3 0, Ou 4 (.mv (.c (.bool true)))]) .ret)))), [.t 2, .t 3, .t 4], 50⟩
theorem b48 : fB Tryd.prog 48 c48 = true := by kernel_rfl
def c49 : CF := ⟨(.seq (Ko [0] [Ou 2 (.mv (.c (.bool false)))]) (.seq (Ko [0] [Mv 3 0, Ou 4 (.bin .neq (.t 3) (.c (.int .u8 32))), Mv 5 4, Ot 6 (.mv (.t 0)) 5, Ot 7 (.call 40 [(.t 6)]) 5, Pa 8 5 7, Mv 2 8]) .ret)), [.t 2], 9⟩
theorem b49 : fB Tryd.prog 49 c49 = true := by kernel_rfl
def c50 : CF := ⟨(.seq (Ko [0, 1] [Mi 4 0]) (.seq (.seq (Ko [0, 1] [Mv 5 1, Ou 6 (.bin .lss (.t 5) (Ik 1))]) (.cond (.t 6) (.seq (Ko [] [Mi 4 0]) .ret) .skip)) (.seq (Ko [0, 1] [Mv 7 0, Mv 8 1, Ou 9 (.bin .rem (.t 7) (.t 8)), Mv 0 9]) (.seq (.seq (Ko [0, 1] [Mv 10 0, Ou 11 (.bin .lss (.t 10) (Ik 0))]) (.cond (.t 11) (Ko [0, 1] [Mv 12 0, Mv 13 1, Ou 14 (.bin .add (.t 12) (.t 13)), Mv 0 14]) .skip)) (.seq (Ko [0] [Mv 15 0, Mv 4 15]) .ret))))), [.t 4], 16⟩
theorem b50 : fB Tryd.prog 50 c50 = true := by kernel_rfl
def c51 : CF := ⟨(.seq (Ko [0, 1] [Mi 4 0]) (.seq (.seq (Ko [0, 1] [Mv 5 1, Ou 6 (.bin .lss (.t 5) (Ik 0)), Mv 7 6, Of 8 (.mv (.t 1)) 7, Of 9 (.mv (.t 0)) 7, Of 10 (.len (.t 9)) 7, Of 11 (.bin .geq (.t 8) (.t 10)) 7, Po 12 7 11]) (.cond (.t 12) (.seq (Ko [] [Mi 4 0]) .ret) .skip)) (.seq (Ko [0, 1] [Mv 13 0, Mv 14 1, Ou 15 (.ixA 1 (.t 13) (.t 14)), Lv 16 15, Mv 4 16]) .ret))), [.t 4], 17⟩
theorem b51 : fB Tryd.prog 51 c51 = true := by kernel_rfl
def c55 : CF := ⟨(.seq (Ko [0, 1] [Ou 4 (.mv (.c (.str []))), Ou 5 (.mv (.c (.bool false)))]) (.seq (.seq (Ko [0, 1] [Mv 6 0, Mv 7 1, Ou 8 (.call 64 [(.t 6), (.t 7)]), Ou 9 (.un .not (.t 8))]) (.cond (.t 9) (.seq (Ko [0] [Mv 10 0, Mv 4 10, Ou 5 (.mv (.c (.bool false)))]) .ret) .skip)) (.seq (Ko [0, 1] [Mv 11 0, Mv 12 1, Ou 13 (.lenS (.t 12)), Ou 14 (.slcS (.t 11) (some (.t 13)) none), Mv 4 14, Ou 5 (.mv (.c (.bool true)))]) .ret))), [.t 4, .t 5], 15⟩
theorem b55 : fB Tryd.prog 55 c55 = true := by kernel_rfl
def c56 : CF := ⟨(.seq (Ko [0, 1, 2] [Ou 3 (.box 1 (.t 0)), Ou 4 (.box 1 (.t 1)), Ou 5 (.box 1 (.t 2)), Ou 6 (.mv (.c .nilf))]) (.seq (Ko [3, 4, 5] [Ou 7 (.mkF 65 [(.t 4), (.t 3), (.t 5)]), Mv 6 7]) .ret)), [.t 6], 8⟩
theorem b56 : fB Tryd.prog 56 c56 = true := by kernel_rfl
def c57 : CF := ⟨(.seq (Ko [0, 1] [Ou 4 (.mv (.c (.str [])))]) (.seq (.seq (Ko [0, 1] [Mv 5 0, Mv 6 1, Ou 7 (.call 68 [(.t 5), (.t 6)])]) (.cond (.t 7) (.seq (Ko [0, 1] [Mv 8 0, Mv 9 0, Ou 10 (.lenS (.t 9)), Mv 11 1, Ou 12 (.lenS (.t 11)), Ou 13 (.bin .sub (.t 10) (.t 12)), Ou 14 (.slcS (.t 8) none (some (.t 13))), Mv 4 14]) .ret) .skip)) (.seq (Ko [0] [Mv 15 0, Mv 4 15]) .ret))), [.t 4], 16⟩
theorem b57 : fB Tryd.prog 57 c57 = true := by kernel_rfl
def c58 : CF := ⟨(.block 0 (.loop (.seq (.seq (Ko [0] [Mv 2 0, Ou 3 (.call 59 [(.t 2)]), Mv 4 3, Ot 5 (.mv (.t 0)) 4, Ot 6 (.call 60 [(.t 5)]) 4, Ot 7 (.call 69 [(.t 6)]) 4, Pa 8 4 7]) (.cond (.t 8) .skip (.exit 0))) (.block 1 (Ko [0] [Mv 9 0, Ou 10 (.nilc (.t 9)), Fa 11 1 10, Lv 12 11, Ou 13 (.bin .add (.t 12) (Ik 1)), Ou 14 (.nilc (.t 9)), Fa 15 1 14, Sv 1 15 13]))))), [], 16⟩
theorem b58 : fB Tryd.prog 58 c58 = true := by kernel_rfl
def c59 : CF := ⟨(.seq (Ko [0] [Ou 2 (.mv (.c (.bool false)))]) (.seq (.keep [0] (.drw [Mv 3 0, Ou 4 (.nilc (.t 3)), Fa 5 1 4, Lv 6 5, Mv 7 0, Ou 8 (.nilc (.t 7)), Fa 9 0 8, Lv 10 9, Ou 11 (.lenS (.t 10)), Ou 12 (.bin .lss (.t 6) (.t 11)), Mv 2 12] [0, 0, 0, 1, 0, 0, 0, 1, 0, 0, 0])) .ret)), [.t 2], 13⟩
theorem b59 : fB Tryd.prog 59 c59 = true := by kernel_rfl
def c60 : CF := ⟨(.seq (Ko [0] [Ou 2 (.mv (.c (.int .u8 0)))]) (.seq (.keep [0] (.drw [Mv 3 0, Ou 4 (.nilc (.t 3)), Fa 5 0 4, Lv 6 5, Mv 7 0, Ou 8 (.nilc (.t 7)), Fa 9 1 8, Lv 10 9, Ou 11 (.ixS (.t 6) (.t 10)), Mv 2 11] [0, 0, 0, 1, 0, 0, 0, 1, 0, 0])) .ret)), [.t 2], 12⟩
theorem b60 : fB Tryd.prog 60 c60 = true := by kernel_rfl
def c61 : CF := ⟨(.seq (Ko [0] [Ou 2 (.alloc [.bool false, .str [], .int .i64 0]), Ou 3 (.mv (.c (.bool false)))]) (.seq (Ko [0, 2] [Mv 4 0, Ou 5 (.nilc (.t 4)), Fa 6 0 5, Fa 7 1 6, Lv 8 7, Fa 9 2 2, Sv 1 9 8]) (.seq (.seq (Ko [0, 2] [Mv 10 0, Ou 11 (.nilc (.t 10)), Fa 12 0 11, Ou 13 (.call 60 [(.t 12)]), Ou 14 (.bin .eql (.t 13) (.c (.int .u8 34)))]) (.cond (.t 14) (.seq (Ko [0, 2] [Mv 15 0, Ou 16 (.nilc (.t 15)), Fa 17 0 16, Fa 18 1 17, Lv 19 18, Ou 20 (.bin .add (.t 19) (Ik 1)), Ou 21 (.nilc (.t 15)), Fa 22 0 21, Fa 23 1 22, Sv 1 23 20]) (.seq (Ko [0, 2] [Fa 24 0 2, ⟨none, .st 1 (.t 24) (.c (.bool true)), none⟩]) (Ko [0, 2] [Mv 26 0, Ou 27 (.call 70 [(.t 26)]), Mv 25 27, Ex 28 25 0, Ex 29 25 1, Fa 30 1 2, Sv 1 30 28, Mv 3 29]))) (.seq (.block 0 (.loop (.seq (.seq (Ko [0, 2] [Mv 31 0, Ou 32 (.nilc (.t 31)), Fa 33 0 32, Ou 34 (.call 59 [(.t 33)]), Mv 35 34, Ot 36 (.mv (.t 0)) 35, Ot 37 (.nilc (.t 36)) 35, Ot 38 (.fldA 0 (.t 37)) 35, Ot 39 (.call 60 [(.t 38)]) 35, Ot 40 (.call 49 [(.t 39)]) 35, Pa 41 35 40]) (.cond (.t 41) .skip (.exit 0))) (.block 1 (Ko [0, 2] [Mv 42 0, Ou 43 (.nilc (.t 42)), Fa 44 0 43, Fa 45 1 44, Lv 46 45, Ou 47 (.bin .add (.t 46) (Ik 1)), Ou 48 (.nilc (.t 42)), Fa 49 0 48, Fa 50 1 49, Sv 1 50 47]))))) (.seq (.keep [0, 2] (.drw [Mv 51 0, Ou 52 (.nilc (.t 51)), Fa 53 0 52, Fa 54 0 53, Lv 55 54, Fa 56 2 2, Lv 57 56, Mv 58 0, Ou 59 (.nilc (.t 58)), Fa 60 0 59, Fa 61 1 60, Lv 62 61, Ou 63 (.slcS (.t 55) (some (.t 57)) (some (.t 62))), Fa 64 1 2, Sv 1 64 63] [0, 0, 0, 0, 1, 0, 1, 0, 0, 0, 0, 1, 0, 0, 2])) (Ko [0, 2] [Fa 65 1 2, Lv 66 65, Ou 67 (.bin .neq (.t 66) (.c (.str []))), Mv 3 67]))))) (.seq (.keep [0, 2, 3] (.drw [Lw 68 3 2, Mv 69 3, Mv 70 69, Ot 71 (.mv (.t 0)) 70, Ot 72 (.nilc (.t 71)) 70, Ot 73 (.fldA 0 (.t 72)) 70, Ot 74 (.call 59 [(.t 73)]) 70, Ot 75 (.un .not (.t 74)) 70, Ot 76 (.mv (.t 75)) 70, Of 77 (.mv (.t 0)) 76, Of 78 (.nilc (.t 77)) 76, Of 79 (.fldA 0 (.t 78)) 76, Of 80 (.call 60 [(.t 79)]) 76, Of 81 (.call 69 [(.t 80)]) 76, Ot 82 (.pick (.t 76) (.c (.bool true)) (.t 81)) 70, Pa 83 70 82, Sv 3 2 68, Mv 3 83] [1, 0, 0, 0, 0, 0, 1, 0, 0, 0, 0, 0, 1, 1, 0, 0, 2, 0])) .ret)))), [.cl 2 (some 3), .t 3], 84⟩
theorem b61 : fB Tryd.prog 61 c61 = true := by kernel_rfl
def c64 : CF := ⟨(.seq (Ko [0, 1] [Ou 4 (.mv (.c (.bool false)))]) (.seq (Ko [0, 1] [Mv 5 0, Ou 6 (.lenS (.t 5)), Mv 7 1, Ou 8 (.lenS (.t 7)), Ou 9 (.bin .geq (.t 6) (.t 8)), Mv 10 9, Ot 11 (.mv (.t 0)) 10, Ot 12 (.mv (.t 1)) 10, Ot 13 (.lenS (.t 12)) 10, Ot 14 (.slcS (.t 11) none (some (.t 13))) 10, Ot 15 (.mv (.t 1)) 10, Ot 16 (.bin .eql (.t 14) (.t 15)) 10, Pa 17 10 16, Mv 4 17]) .ret)), [.t 4], 18⟩
theorem b64 : fB Tryd.prog 64 c64 = true := by kernel_rfl
def c65 : CF := ⟨(.seq (.seq (Ko [0, 1, 2, 3] [Lv 9 1, Ou 10 (.lenS (.t 9)), Ou 11 (.bin .eql (.t 10) (Ik 0))]) (.cond (.t 11) (.seq (.block 0 (.loop (.seq (.seq (Ko [0, 2] [Lv 12 2, Ou 13 (.lenS (.t 12)), Ou 14 (.bin .gtr (.t 13) (Ik 0))]) (.cond (.t 14) .skip (.exit 0))) (.block 1 (.seq (Ko [0, 2] [Lv 16 2, Ou 17 (.call 66 [(.t 16)]), Mv 15 17, Ex 18 15 0, Ex 19 15 1, Mv 5 18, Mv 6 19]) (.seq (.seq (Ko [0, 2, 6] [Mv 20 0, Lv 21 2, Mv 22 6, Ou 23 (.slcS (.t 21) none (some (.t 22))), Ou 24 (.callv (.t 20) [(.t 23)]), Ou 25 (.un .not (.t 24))]) (.cond (.t 25) .ret .skip)) (Ko [0, 2, 6] [Lv 26 2, Mv 27 6, Ou 28 (.slcS (.t 26) (some (.t 27)) none), Sv 1 2 28]))))))) .ret) .skip)) (.seq (.block 2 (.loop (.block 3 (.seq (Ko [0, 1, 2, 3] [Lv 29 2, Lv 30 1, Ou 31 (.call 67 [(.t 29), (.t 30)]), Mv 7 31]) (.seq (.seq (Ko [0, 1, 2, 3, 7] [Mv 32 7, Ou 33 (.bin .lss (.t 32) (Ik 0))]) (.cond (.t 33) (.exit 2) .skip)) (.seq (Ko [0, 1, 2, 3, 7] [Lv 34 2, Mv 35 7, Lv 36 3, Ou 37 (.bin .add (.t 35) (.t 36)), Ou 38 (.slcS (.t 34) none (some (.t 37))), Mv 8 38]) (.seq (.seq (Ko [0, 1, 2, 3, 7, 8] [Mv 39 0, Mv 40 8, Ou 41 (.callv (.t 39) [(.t 40)]), Ou 42 (.un .not (.t 41))]) (.cond (.t 42) .ret .skip)) (Ko [0, 1, 2, 3, 7] [Lv 43 2, Mv 44 7, Lv 45 1, Ou 46 (.lenS (.t 45)), Ou 47 (.bin .add (.t 44) (.t 46)), Ou 48 (.slcS (.t 43) (some (.t 47)) none), Sv 1 2 48])))))))) (Ko [0, 2] [Mv 49 0, Lv 50 2, Ou 51 (.callv (.t 49) [(.t 50)])]))), [], 52⟩
theorem b65 : fB Tryd.prog 65 c65 = true := by kernel_rfl
def c68 : CF := ⟨(.seq (Ko [0, 1] [Ou 4 (.mv (.c (.bool false)))]) (.seq (Ko [0, 1] [Mv 5 0, Ou 6 (.lenS (.t 5)), Mv 7 1, Ou 8 (.lenS (.t 7)), Ou 9 (.bin .geq (.t 6) (.t 8)), Mv 10 9, Ot 11 (.mv (.t 0)) 10, Ot 12 (.mv (.t 0)) 10, Ot 13 (.lenS (.t 12)) 10, Ot 14 (.mv (.t 1)) 10, Ot 15 (.lenS (.t 14)) 10, Ot 16 (.bin .sub (.t 13) (.t 15)) 10, Ot 17 (.slcS (.t 11) (some (.t 16)) none) 10, Ot 18 (.mv (.t 1)) 10, Ot 19 (.bin .eql (.t 17) (.t 18)) 10, Pa 20 10 19, Mv 4 20]) .ret)), [.t 4], 21⟩
theorem b68 : fB Tryd.prog 68 c68 = true := by kernel_rfl
def c69 : CF := ⟨(.seq (Ko [0] [Ou 2 (.mv (.c (.bool false)))]) (.seq (Ko [0] [Mv 3 0, Ou 4 (.bin .eql (.t 3) (.c (.int .u8 32))), Mv 5 4, Of 6 (.mv (.t 0)) 5, Of 7 (.bin .eql (.t 6) (.c (.int .u8 9))) 5, Po 8 5 7, Mv 2 8]) .ret)), [.t 2], 9⟩
theorem b69 : fB Tryd.prog 69 c69 = true := by kernel_rfl
def c70 : CF := ⟨(.seq (Ko [0] [Ou 2 (.mv (.c (.str []))), Ou 3 (.mv (.c (.bool false)))]) (.seq (Ko [0] [Ou 4 (.allocT 63 [.nilp, .nils])]) (.seq (.block 0 (.loop (.seq (.seq (Ko [0, 4] [Mv 8 0, Ou 9 (.nilc (.t 8)), Fa 10 0 9, Ou 11 (.call 59 [(.t 10)])]) (.cond (.t 11) .skip (.exit 0))) (.block 1 (.seq (Ko [0, 4] [Mv 12 0, Ou 13 (.nilc (.t 12)), Fa 14 0 13, Ou 15 (.call 74 [(.t 14)]), Mv 5 15]) (.seq (.block 2 (.seq (Ko [0, 4, 5] [Mv 17 5, Ou 18 (.bin .eql (.t 17) (.c (.int .u8 34))), Mv 16 18]) (.cond (.t 16) (.seq (Ko [4] [Ou 19 (.call 37 [(.t 4)]), Mv 2 19, Ou 3 (.mv (.c (.bool true)))]) .ret) (.seq (Ko [0, 4, 5] [Mv 21 5, Ou 22 (.bin .eql (.t 21) (.c (.int .u8 92))), Mv 20 22]) (.cond (.t 20) (.seq (Ko [0, 4] [Mv 24 0, Ou 25 (.call 75 [(.t 24)]), Mv 23 25, Ex 26 23 0, Ex 27 23 1, Mv 6 26, Mv 7 27]) (.seq (.seq (Ko [0, 4, 6, 7] [Mv 28 7, Ou 29 (.un .not (.t 28))]) (.cond (.t 29) (.seq (Ko [] [Ou 2 (.mv (.c (.str []))), Ou 3 (.mv (.c (.bool false)))]) .ret) .skip)) (Ko [0, 4, 6] [Mv 30 6, Mv 5 30]))) (.seq (Ko [0, 4, 5] [Mv 32 5, Ou 33 (.call 40 [(.t 32)]), Ou 34 (.un .not (.t 33)), Mv 31 34]) (.cond (.t 31) (.seq (Ko [] [Ou 2 (.mv (.c (.str []))), Ou 3 (.mv (.c (.bool false)))]) .ret) .skip))))))) (Ko [0, 4, 5] [Mv 35 5, Ou 36 (.call 39 [(.t 4), (.t 35)])]))))))) (.seq (Ko [] [Ou 2 (.mv (.c (.str []))), Ou 3 (.mv (.c (.bool false)))]) .ret)))), [.t 2, .t 3], 37⟩
theorem b70 : fB Tryd.prog 70 c70 = true := by kernel_rfl
def c74 : CF := ⟨(.seq (Ko [0] [Ou 2 (.mv (.c (.int .u8 0)))]) (.seq (Ko [0] [Mv 3 0, Ou 4 (.nilc (.t 3)), Fa 5 1 4, Lv 6 5, Ou 7 (.bin .add (.t 6) (Ik 1)), Ou 8 (.nilc (.t 3)), Fa 9 1 8, Sv 1 9 7]) (.seq (.keep [0] (.drw [Mv 10 0, Ou 11 (.nilc (.t 10)), Fa 12 0 11, Lv 13 12, Mv 14 0, Ou 15 (.nilc (.t 14)), Fa 16 1 15, Lv 17 16, Ou 18 (.bin .sub (.t 17) (Ik 1)), Ou 19 (.ixS (.t 13) (.t 18)), Mv 2 19] [0, 0, 0, 1, 0, 0, 0, 1, 0, 0, 0])) .ret))), [.t 2], 20⟩
theorem b74 : fB Tryd.prog 74 c74 = true := by kernel_rfl
def c75 : CF := ⟨(.seq (Ko [0] [Ou 2 (.mv (.c (.int .u8 0))), Ou 3 (.mv (.c (.bool false)))]) (.seq (.seq (Ko [0] [Mv 5 0, Ou 6 (.nilc (.t 5)), Fa 7 0 6, Ou 8 (.call 59 [(.t 7)]), Ou 9 (.un .not (.t 8))]) (.cond (.t 9) (.seq (Ko [] [Ou 2 (.mv (.c (.int .u8 0))), Ou 3 (.mv (.c (.bool false)))]) .ret) .skip)) (.seq (Ko [0] [Mv 10 0, Ou 11 (.nilc (.t 10)), Fa 12 0 11, Ou 13 (.call 74 [(.t 12)]), Mv 4 13]) (.seq (Ko [0, 4] [Mv 14 4]) (.block 0 (.seq (Ko [0, 4, 14] [Ou 23 (.bin .eql (.t 14) (.c (.int .u8 120))), Mv 22 23]) (.cond (.t 22) (.seq (Ko [0] [Mv 24 0, Ou 25 (.call 80 [(.t 24)]), Ex 26 25 0, Ex 27 25 1, Mv 2 26, Mv 3 27]) .ret) (.seq (Ko [4] [Mv 15 4, Mv 16 4, Ou 17 (.bin .eql (.t 16) (.c (.int .u8 34))), Mv 18 17, Of 19 (.mv (.t 4)) 18, Of 20 (.bin .eql (.t 19) (.c (.int .u8 92))) 18, Po 21 18 20, Mv 2 15, Mv 3 21]) .ret)))))))), [.t 2, .t 3], 28⟩
theorem b75 : fB Tryd.prog 75 c75 = true := by kernel_rfl
def c80 : CF := ⟨(.seq (Ko [0] [Ou 2 (.mv (.c (.int .u8 0))), Ou 3 (.mv (.c (.bool false)))]) (.seq (.seq (.keep [0] (.drw [Mv 6 0, Ou 7 (.nilc (.t 6)), Fa 8 0 7, Fa 9 0 8, Lv 10 9, Ou 11 (.lenS (.t 10)), Mv 12 0, Ou 13 (.nilc (.t 12)), Fa 14 0 13, Fa 15 1 14, Lv 16 15, Ou 17 (.bin .sub (.t 11) (.t 16)), Ou 18 (.bin .lss (.t 17) (Ik 2))] [0, 0, 0, 0, 1, 0, 0, 0, 0, 0, 1, 0, 0])) (.cond (.t 18) (.seq (Ko [] [Ou 2 (.mv (.c (.int .u8 0))), Ou 3 (.mv (.c (.bool false)))]) .ret) .skip)) (.seq (.keep [0] (.drw [Mv 19 0, Ou 20 (.nilc (.t 19)), Fa 21 0 20, Ou 22 (.call 74 [(.t 21)]), Ou 23 (.call 83 [(.t 22)]), Mv 24 0, Ou 25 (.nilc (.t 24)), Fa 26 0 25, Ou 27 (.call 74 [(.t 26)]), Ou 28 (.call 83 [(.t 27)]), Mv 4 23, Mv 5 28] [0, 0, 0, 2, 1, 0, 0, 0, 2, 1, 0, 0])) (.seq (Ko [4, 5] [Mv 29 4, Ou 30 (.bin .shl (.t 29) (.c (.int .u64 4))), Mv 31 5, Ou 32 (.bin .and (.t 31) (.c (.int .u8 15))), Ou 33 (.bin .or (.t 30) (.t 32)), Mv 34 4, Ou 35 (.bin .lss (.t 34) (.c (.int .u8 16))), Mv 36 35, Ot 37 (.mv (.t 5)) 36, Ot 38 (.bin .lss (.t 37) (.c (.int .u8 16))) 36, Pa 39 36 38, Mv 2 33, Mv 3 39]) .ret)))), [.t 2, .t 3], 40⟩
theorem b80 : fB Tryd.prog 80 c80 = true := by kernel_rfl
def c83 : CF := ⟨(.seq (Ko [0] [Ou 2 (.mv (.c (.int .u8 0)))]) (.seq (.block 0 (.seq (Ko [0] [Mv 4 0, Ou 5 (.bin .geq (.t 4) (.c (.int .u8 48))), Mv 6 5, Ot 7 (.mv (.t 0)) 6, Ot 8 (.bin .leq (.t 7) (.c (.int .u8 57))) 6, Pa 9 6 8, Mv 3 9]) (.cond (.t 3) (.seq (Ko [0] [Mv 10 0, Ou 11 (.bin .sub (.t 10) (.c (.int .u8 48))), Mv 2 11]) .ret) (.seq (Ko [0] [Mv 13 0, Ou 14 (.bin .or (.t 13) (.c (.int .u8 32))), Ou 15 (.bin .geq (.t 14) (.c (.int .u8 97))), Mv 16 15, Ot 17 (.mv (.t 0)) 16, Ot 18 (.bin .or (.t 17) (.c (.int .u8 32))) 16, Ot 19 (.bin .leq (.t 18) (.c (.int .u8 102))) 16, Pa 20 16 19, Mv 12 20]) (.cond (.t 12) (.seq (Ko [0] [Mv 21 0, Ou 22 (.bin .or (.t 21) (.c (.int .u8 32))), Ou 23 (.bin .sub (.t 22) (.c (.int .u8 97))), Ou 24 (.bin .add (.t 23) (.c (.int .u8 10))), Mv 2 24]) .ret) .skip))))) (.seq (Ko [] [Ou 2 (.mv (.c (.int .u8 16)))]) .ret))), [.t 2], 25⟩
theorem b83 : fB Tryd.prog 83 c83 = true := by kernel_rfl
def c25 : CF := ⟨(.seq (Ko [0] [Ou 2 (.alloc [.nils]), Ou 3 (.alloc [.int .i64 0, .int .i64 0])]) (.seq (.seq (Ko [0, 2, 3] [Mv 12 0, Ou 13 (.lenS (.t 12)), Ou 14 (.bin .gtr (.t 13) (Ik 20000))]) (.cond (.t 14) (.seq (Ko [2, 3] [Ou 15 (.bld [.int .i64 0, .int .i64 0] [(0, 1, (Ik 4)), (1, 1, (Ik 20000))]), ⟨none, .st 1 (.t 2) (.c .nils), none⟩, Sv 2 3 15]) .ret) .skip)) (.seq (Ko [0, 2, 3] [Ou 4 (.alloc [.nils])]) (.seq (Ko [0, 2, 3, 4] [Ou 5 (.alloc [.int .i64 0]), ⟨none, .st 1 (.t 5) (Ik 0), none⟩]) (.seq (.seq (Ko [0, 2, 3, 4, 5] [Mv 16 0, Ou 17 (.call 46 [(.t 16), (.c (.str [10]))])]) (.block 0 (.rfun (.t 17) [18] (Ko [2, 3, 4, 5, 18] [Mv 6 18]) (.block 1 (.seq (Ko [2, 3, 4, 5, 6] [Lv 19 5, Mv 7 19]) (.seq (Ko [2, 3, 4, 5, 6, 7] [Lv 20 5, Mv 21 6, Ou 22 (.lenS (.t 21)), Ou 23 (.bin .add (.t 20) (.t 22)), Sv 1 5 23]) (.seq (Ko [2, 3, 4, 6, 7] [Mv 24 6, Ou 25 (.call 47 [(.t 24), (.c (.str [10]))]), Mv 6 25]) (.seq (.seq (Ko [2, 3, 4, 6, 7] [Mv 26 6, Ou 27 (.lenS (.t 26)), Ou 28 (.bin .gtr (.t 27) (Ik 1000))]) (.cond (.t 28) (.seq (Ko [2, 3, 7] [Mv 29 7, Ou 30 (.bld [.int .i64 0, .int .i64 0] [(0, 1, (Ik 4)), (1, 1, (.t 29))]), ⟨none, .st 1 (.t 2) (.c .nils), none⟩, Sv 2 3 30]) .ret) .skip)) (.seq (Ko [2, 3, 4, 6, 7] [Mv 32 6, Ou 33 (.call 48 [(.t 32)]), Mv 31 33, Ex 34 31 0, Ex 35 31 1, Ex 36 31 2, Mv 8 34, Mv 9 35, Mv 10 36]) (.seq (.seq (Ko [2, 3, 4, 7, 8, 9, 10] [Mv 37 10, Ou 38 (.un .not (.t 37))]) (.cond (.t 38) (.seq (Ko [2, 3, 7, 9] [Mv 39 7, Mv 40 9, Ou 41 (.bin .add (.t 39) (.t 40)), Ou 42 (.bld [.int .i64 0, .int .i64 0] [(0, 1, (Ik 3)), (1, 1, (.t 41))]), ⟨none, .st 1 (.t 2) (.c .nils), none⟩, Sv 2 3 42]) .ret) .skip)) (.seq (.seq (Ko [4, 7, 8] [Mv 43 8, Ou 44 (.lenP (.t 43)), Mi 45 0]) (.block 2 (.loop (.seq (Ko [4, 7, 8, 44, 45] [Ou 46 (.bin .lss (.t 45) (.t 44))]) (.seq (.cond (.t 46) .skip (.exit 2)) (.seq (.block 3 (.seq (Ko [4, 7, 8, 44, 45] [Mv 47 45, Mv 11 47]) (Ko [4, 7, 8, 11, 44, 45] [Mv 48 8, Mv 49 11, Ou 50 (.ixQ 3 (.t 48) (.t 49)), Fa 51 2 50, Lv 52 51, Mv 53 7, Ou 54 (.bin .add (.t 52) (.t 53)), Ou 55 (.ixQ 3 (.t 48) (.t 49)), Fa 56 2 55, Sv 1 56 54]))) (Ko [4, 7, 8, 44, 45] [Ou 57 (.bin .add (.t 45) (Ik 1)), Mv 45 57]))))))) (.frz 8 3 (.seq (Ko [4, 7, 8] [Mv 58 8, Ou 59 (.len (.t 58)), Ou 60 (.bin .gtr (.t 59) (Ik 0))]) (.cond (.t 60) (Ko [4, 7, 8] [Lv 61 4, Mv 62 7, Mv 63 8, Ou 64 (.bld [.int .i64 0, .nils] [(0, 1, (.t 62)), (1, 1, (.t 63))]), Ou 65 (.mkSl 2 1 [.int .i64 0, .nils] [(0, 2, (.t 64))]), Ou 66 (.app true 43 2 32 (.t 61) (.t 65)), Sv 1 4 66]) .skip)))))))))))))) (.seq (Ko [2, 3, 4] [Lv 67 4, Ou 68 (.bld [.int .i64 0, .int .i64 0] []), Sv 1 2 67, Sv 2 3 68]) .ret)))))), [.cl 2 (none), .cl 3 (some 2)], 69⟩
theorem b25 : fB Tryd.prog 25 c25 = true := by kernel_rfl
end Go.Proofs.YtemddijemikleaaDoor
namespace Go.Proofs.YtemddijemikleaaDoor
open Go.Abs
set_option maxRecDepth 100000
def dc32 : CF := ⟨(.seq (Ko [0, 1] [Ou 4 (.mv (.c .nils))]) (.seq (Ko [0, 1] [Ou 5 (.mv (.c .nils))]) (.seq (.seq (Ko [0, 1, 5] [Mi 6 0]) (.block 0 (.loop (.seq (.seq (Ko [0, 1, 5, 6] [Mv 9 6, Mv 10 0, Ou 11 (.len (.t 10)), Ou 12 (.bin .lss (.t 9) (.t 11)), Mv 13 12, Ot 14 (.mv (.t 6)) 13, Ot 15 (.bin .lss (.t 14) (Ik 10)) 13, Pa 16 13 15]) (.cond (.t 16) .skip (.exit 0))) (.seq (.block 1 (.seq (.keep [0, 1, 5, 6] (.drw [Mv 19 0, Mv 20 6, Ou 21 (.ixA 1 (.t 19) (.t 20)), Lv 22 21, Mv 23 0, Mv 24 6, Ou 25 (.ixA 1 (.t 23) (.t 24)), Lv 26 25, Ou 27 (.lenS (.t 26)), Ou 28 (.mm false (.t 27) (Ik 40)), Ou 29 (.slcS (.t 22) none (some (.t 28))), Mv 7 29] [0, 0, 0, 1, 0, 0, 0, 1, 0, 0, 0, 0])) (.seq (Ko [0, 1, 5, 6, 7] [Mv 30 7, Ou 31 (.mkSl 1 1 [.str []] [(0, 1, (.t 30))]), Ou 32 (.call 23 [(.t 31)]), Ou 8 (.alloc [.int .i64 0, .nils]), Sv 2 8 32]) (.seq (Ko [0, 1, 5, 6, 8] [Mv 33 1, Mv 34 6, Ou 35 (.call 51 [(.t 33), (.t 34)]), Ou 36 (.call 50 [(.t 35), (Ik 8)]), Ou 37 (.bin .lss (.t 36) (Ik 4)), Mv 38 37, Of 39 (.mv (.t 5)) 38, Of 40 (.lenP (.t 39)) 38, Of 41 (.bin .eql (.t 40) (Ik 0)) 38, Po 42 38 41]) (.cond (.t 42) (Ko [0, 1, 5, 6, 8] [Mv 43 5, Lw 44 2 8, Ou 45 (.mkSl 2 1 [.int .i64 0, .nils] [(0, 2, (.t 44))]), Ou 46 (.appR 43 2 32 (.t 43) (.t 45)), Mv 5 46]) (.keep [0, 1, 5, 6, 8] (.drw [Mv 47 5, Mv 48 5, Ou 49 (.lenP (.t 48)), Ou 50 (.bin .sub (.t 49) (Ik 1)), Mv 51 5, Mv 52 5, Ou 53 (.lenP (.t 52)), Ou 54 (.bin .sub (.t 53) (Ik 1)), Ou 55 (.ixQ 2 (.t 51) (.t 54)), Fa 56 1 55, Lv 57 56, Fa 58 1 8, Lv 59 58, Ou 60 (.app true 31 3 32 (.t 57) (.t 59)), Ou 61 (.ixQ 2 (.t 47) (.t 50)), Fa 62 1 61, Sv 1 62 60] [0, 0, 0, 0, 0, 0, 0, 0, 0, 0, 1, 0, 1, 4, 0, 0, 2]))))))) (Ko [0, 1, 5, 6] [Mv 17 6, Ou 18 (.bin .add (.t 17) (Ik 1)), Mv 6 18])))))) (.frz 5 2 (.seq (Ko [5] [Mv 63 5, Mv 4 63]) .ret))))), [.t 4], 64⟩
theorem db32 : fB Tryd.prog 32 dc32 = true := by kernel_rfl
end Go.Proofs.YtemddijemikleaaDoor
namespace Go.Proofs.YtemddijemikleaaDoor
open Go.Abs
set_option maxRecDepth 100000
def c33 : CF := ⟨(.seq (Ko [0, 1] [Ou 4 (.mv (.c (.bool false)))]) (.seq (.seq (Ko [0, 1] [Mv 9 0, Ou 10 (.len (.t 9)), Mv 11 1, Ou 12 (.len (.t 11)), Ou 13 (.bin .neq (.t 10) (.t 12))]) (.cond (.t 13) (.seq (Ko [] [Ou 4 (.mv (.c (.bool false)))]) .ret) .skip)) (.seq (.seq (Ko [0, 1] [Mi 5 0]) (.block 0 (.loop (.seq (.seq (Ko [0, 1, 5] [Mv 14 5, Mv 15 0, Ou 16 (.len (.t 15)), Ou 17 (.bin .lss (.t 14) (.t 16))]) (.cond (.t 17) .skip (.exit 0))) (.seq (.block 1 (.seq (.seq (.keep [0, 1, 5] (.drw [Mv 20 0, Mv 21 5, Ou 22 (.ixA 2 (.t 20) (.t 21)), Fa 23 1 22, Lv 24 23, Ou 25 (.len (.t 24)), Mv 26 1, Mv 27 5, Ou 28 (.ixA 2 (.t 26) (.t 27)), Fa 29 1 28, Lv 30 29, Ou 31 (.len (.t 30)), Ou 32 (.bin .neq (.t 25) (.t 31))] [0, 0, 0, 0, 1, 0, 0, 0, 0, 0, 1, 0, 0])) (.cond (.t 32) (.seq (Ko [] [Ou 4 (.mv (.c (.bool false)))]) .ret) .skip)) (.seq (Ko [0, 1, 5] [Mi 6 0]) (.block 2 (.loop (.seq (.seq (Ko [0, 1, 5, 6] [Mv 33 6, Mv 34 0, Mv 35 5, Ou 36 (.ixA 2 (.t 34) (.t 35)), Fa 37 1 36, Lv 38 37, Ou 39 (.len (.t 38)), Ou 40 (.bin .lss (.t 33) (.t 39))]) (.cond (.t 40) .skip (.exit 2))) (.seq (.block 3 (.seq (.keep [0, 1, 5, 6] (.inv [Mv 43 0, Mv 44 5, Ou 45 (.ixA 2 (.t 43) (.t 44)), Fa 46 1 45, Lv 47 46, Mv 48 6, Ou 49 (.ixA 3 (.t 47) (.t 48)), Lw 50 3 49, Mv 51 1, Mv 52 5, Ou 53 (.ixA 2 (.t 51) (.t 52)), Fa 54 1 53, Lv 55 54, Mv 56 6, Ou 57 (.ixA 3 (.t 55) (.t 56)), Lw 58 3 57, Ou 7 (.alloc [.bool false, .str [], .int .i64 0]), Ou 8 (.alloc [.bool false, .str [], .int .i64 0]), Sv 3 7 50, Sv 3 8 58] [[], [], [0, 1], [2], [3], [], [4, 5], [6], [], [], [8, 9], [10], [11], [], [12, 13], [14], [], [], [16, 7, 0, 1, 2, 3, 4, 5, 6, 7, 16, 17], [17, 15, 18, 0, 1, 2, 3, 4, 5, 6, 7, 8, 9, 10, 11, 12, 13, 14, 15, 16, 17, 18]])) (.seq (Ko [0, 1, 5, 6, 7, 8] [Fa 59 0 7, Lv 60 59, Fa 61 0 8, Lv 62 61, Ou 63 (.eqb true (.t 60) (.t 62)), Mv 64 63, Of 65 (.fldA 1 (.t 7)) 64, Of 66 (.ld (none) (.t 65)) 64, Of 67 (.fldA 1 (.t 8)) 64, Of 68 (.ld (none) (.t 67)) 64, Of 69 (.bin .neq (.t 66) (.t 68)) 64, Po 70 64 69]) (.cond (.t 70) (.seq (Ko [] [Ou 4 (.mv (.c (.bool false)))]) .ret) .skip)))) (Ko [0, 1, 5, 6] [Mv 41 6, Ou 42 (.bin .add (.t 41) (Ik 1)), Mv 6 42])))))))) (Ko [0, 1, 5] [Mv 18 5, Ou 19 (.bin .add (.t 18) (Ik 1)), Mv 5 19])))))) (.seq (Ko [] [Ou 4 (.mv (.c (.bool true)))]) .ret)))), [.t 4], 71⟩
theorem b33 : fB Tryd.prog 33 c33 = true := by kernel_rfl
end Go.Proofs.YtemddijemikleaaDoor
namespace Go.Proofs.YtemddijemikleaaDoor
open Go.Abs
set_option linter.all false
set_option maxRecDepth 100000
def smOps : List CI := [⟨some 43, .mv (.t 0), none⟩, ⟨some 44, .mv (.t 5), none⟩, ⟨some 45, .ixA 2 (.t 43) (.t 44), none⟩, ⟨some 46, .fldA 1 (.t 45), none⟩, ⟨some 47, .ld (none) (.t 46), none⟩, ⟨some 48, .mv (.t 6), none⟩, ⟨some 49, .ixA 3 (.t 47) (.t 48), none⟩, ⟨some 50, .ld (some 3) (.t 49), none⟩, ⟨some 51, .mv (.t 1), none⟩, ⟨some 52, .mv (.t 5), none⟩, ⟨some 53, .ixA 2 (.t 51) (.t 52), none⟩, ⟨some 54, .fldA 1 (.t 53), none⟩, ⟨some 55, .ld (none) (.t 54), none⟩, ⟨some 56, .mv (.t 6), none⟩, ⟨some 57, .ixA 3 (.t 55) (.t 56), none⟩, ⟨some 58, .ld (some 3) (.t 57), none⟩, ⟨some 7, .alloc [.bool false, .str [], .int .i64 0], none⟩, ⟨some 8, .alloc [.bool false, .str [], .int .i64 0], none⟩, ⟨none, .st 3 (.t 7) (.t 50), none⟩, ⟨none, .st 3 (.t 8) (.t 58), none⟩]
def smDps : List (List Nat) := [[], [], [0, 1], [2], [3], [], [4, 5], [6], [], [], [8, 9], [10], [11], [], [12, 13], [14], [], [], [16, 7, 0, 1, 2, 3, 4, 5, 6, 7, 16, 17], [17, 15, 18, 0, 1, 2, 3, 4, 5, 6, 7, 8, 9, 10, 11, 12, 13, 14, 15, 16, 17, 18]]
def smZ : List AV := [.bool false, .str [], .int .i64 0]
def smV (cs ds wsC vsC : List AV) (N n : Nat) (k i : Int) (a b : AV) (x y : List AV) : List AV :=
  [.sl false N cs, .int .i64 k, .el [a, .sl false n wsC], .el [.sl false n wsC], .sl false n wsC, .int .i64 i, .el x, .agg x,
   .sl false N ds, .int .i64 k, .el [b, .sl false n vsC], .el [.sl false n vsC], .sl false n vsC, .int .i64 i, .el y, .agg y]
structure SmI (σ : St) (vals : List AV) (A B : AV) (k i : Int) (x y : List AV) (D : Nat → Bool) (fr : Fr) (σ' : St) : Prop where
  s0 : slot 0 fr = A
  s1 : slot 1 fr = B
  s5 : slot 5 fr = .int .i64 k
  s6 : slot 6 fr = .int .i64 i
  tab : ∀ j v, vals[j]? = some v → D j = true → slot (43 + j) fr = v
  le : St.le σ σ'
  b7 : D 16 = true → ∃ β, slot 7 fr = .ptr β 0 ∧ σ'.box β = some (bif D 18 then x else smZ) ∧ σ.box β = none
  b8 : D 17 = true → ∃ β, slot 8 fr = .ptr β 0 ∧ σ'.box β = some (bif D 19 then y else smZ) ∧ σ.box β = none
  ne : D 16 = true → D 17 = true → slot 7 fr ≠ slot 8 fr
  d18 : D 18 = true → D 16 = true
  d19 : D 19 = true → D 17 = true
theorem smI_pure {σ : St} {vals : List AV} {A B : AV} {k i : Int} {x y : List AV} {D : Nat → Bool} {fr : Fr} {σ' : St} (h : SmI σ vals A B k i x y D fr σ') {j : Nat} {v : AV} (hj : j < 16) (hv : vals[j]? = some v) : SmI σ vals A B k i x y (fun m => D m || Nat.beq m j) ((43 + j, v) :: fr) σ' := by
  have e : ∀ t, t ≠ 43 + j → slot t ((43 + j, v) :: fr) = slot t fr := fun t ht => by simp only [slot, if_neg ht]
  have f : ∀ m, m ≠ j → (D m || Nat.beq m j) = D m := fun m hm => by
    have : Nat.beq m j = false := by rw [← Bool.not_eq_true]; exact fun e => hm (Nat.eq_of_beq_eq_true e)
    rw [this, Bool.or_false]
  refine ⟨?_, ?_, ?_, ?_, fun m w hw hm => ?_, h.le, ?_, ?_, ?_, ?_, ?_⟩
  · rw [e 0 (by omega)]; exact h.s0
  · rw [e 1 (by omega)]; exact h.s1
  · rw [e 5 (by omega)]; exact h.s5
  · rw [e 6 (by omega)]; exact h.s6
  · by_cases hmj : m = j
    · subst hmj
      rw [hv] at hw; cases hw
      simp only [slot, if_true]
    · rw [f m hmj] at hm
      rw [e (43 + m) (by omega)]
      exact h.tab m w hw hm
  · rw [f 16 (by omega), f 18 (by omega), e 7 (by omega)]; exact h.b7
  · rw [f 17 (by omega), f 19 (by omega), e 8 (by omega)]; exact h.b8
  · rw [f 16 (by omega), f 17 (by omega), e 7 (by omega), e 8 (by omega)]; exact h.ne
  · rw [f 16 (by omega), f 18 (by omega)]; exact h.d18
  · rw [f 17 (by omega), f 19 (by omega)]; exact h.d19
theorem box_upd (σ : St) (β γ : Nat) (c : List AV) : (σ.setBox β c).box γ = if γ = β then some c else σ.box γ := rfl
theorem none_of_le {σ σ' : St} (h : St.le σ σ') {β : Nat} (hn : σ'.box β = none) : σ.box β = none := by
  cases hc : σ.box β with
  | none => rfl
  | some c => have := h.1 β c hc; rw [hn] at this; cases this
theorem keepD {D : Nat → Bool} {j m : Nat} (h : m ≠ j) : (D m || Nat.beq m j) = D m := by
  have : Nat.beq m j = false := by rw [← Bool.not_eq_true]; exact fun e => h (Nat.eq_of_beq_eq_true e)
  rw [this, Bool.or_false]
theorem newD {D : Nat → Bool} {j : Nat} : (D j || Nat.beq j j) = true := by
  rw [show Nat.beq j j = true from Nat.beq_refl j, Bool.or_true]
theorem smI_a7 {σ : St} {vals : List AV} {A B : AV} {k i : Int} {x y : List AV} {D : Nat → Bool} {fr : Fr} {σ' : St} (hv : vals.length = 16) (h : SmI σ vals A B k i x y D fr σ') (hD : D 16 = false) {β : Nat} (hβ : σ'.box β = none) : SmI σ vals A B k i x y (fun m => D m || Nat.beq m 16) ((7, .ptr β 0) :: fr) (σ'.setBox β smZ) := by
  have e : ∀ t, t ≠ 7 → slot t ((7, .ptr β 0) :: fr) = slot t fr := fun t ht => by simp only [slot, if_neg ht]
  have e7 : slot 7 ((7, .ptr β 0) :: fr) = .ptr β 0 := by simp only [slot, if_true]
  have h18 : D 18 = false := by
    cases hd : D 18 with
    | false => rfl
    | true => have := h.d18 hd; rw [hD] at this; cases this
  have hn := none_of_le h.le hβ
  have oth : D 17 = true → ∃ γ, slot 8 fr = .ptr γ 0 ∧ (σ'.setBox β smZ).box γ = some (bif D 19 then y else smZ) ∧ σ.box γ = none ∧ γ ≠ β := fun h17 => by
    obtain ⟨γ, g1, g2, g3⟩ := h.b8 h17
    have hg : γ ≠ β := by rintro rfl; rw [hβ] at g2; cases g2
    exact ⟨γ, g1, by rw [box_upd, if_neg hg]; exact g2, g3, hg⟩
  have main : ∃ γ, slot 7 ((7, .ptr β 0) :: fr) = .ptr γ 0 ∧ (σ'.setBox β smZ).box γ = some (bif D 18 then x else smZ) ∧ σ.box γ = none :=
    ⟨β, e7, by rw [h18, box_upd, if_pos rfl]; rfl, hn⟩
  have hne : D 17 = true → AV.ptr β 0 ≠ slot 8 fr := fun h17 e => by
    obtain ⟨γ, g1, _, _, g4⟩ := oth h17
    rw [g1] at e; cases e; exact g4 rfl
  refine ⟨?_, ?_, ?_, ?_, fun m w hw hm => ?_, St.le_setBox h.le hn, ?_, ?_, ?_, ?_, ?_⟩
  · rw [e 0 (by omega)]; exact h.s0
  · rw [e 1 (by omega)]; exact h.s1
  · rw [e 5 (by omega)]; exact h.s5
  · rw [e 6 (by omega)]; exact h.s6
  · have hml : m < 16 := by rw [← hv]; exact (List.getElem?_eq_some_iff.1 hw).1
    rw [keepD (by omega)] at hm
    rw [e (43 + m) (by omega)]
    exact h.tab m w hw hm
  · rw [keepD (show 18 ≠ 16 by omega)]; exact fun _ => main
  · rw [keepD (show 17 ≠ 16 by omega), keepD (show 19 ≠ 16 by omega), e 8 (by omega)]
    intro h17
    obtain ⟨γ, g1, g2, g3, _⟩ := oth h17
    exact ⟨γ, g1, g2, g3⟩
  · rw [keepD (show 17 ≠ 16 by omega), e 8 (by omega), e7]
    exact fun _ h17 => hne h17
  · intro _; exact newD
  · rw [keepD (show 19 ≠ 16 by omega), keepD (show 17 ≠ 16 by omega)]; exact h.d19
theorem smI_a8 {σ : St} {vals : List AV} {A B : AV} {k i : Int} {x y : List AV} {D : Nat → Bool} {fr : Fr} {σ' : St} (hv : vals.length = 16) (h : SmI σ vals A B k i x y D fr σ') (hD : D 17 = false) {β : Nat} (hβ : σ'.box β = none) : SmI σ vals A B k i x y (fun m => D m || Nat.beq m 17) ((8, .ptr β 0) :: fr) (σ'.setBox β smZ) := by
  have e : ∀ t, t ≠ 8 → slot t ((8, .ptr β 0) :: fr) = slot t fr := fun t ht => by simp only [slot, if_neg ht]
  have e7 : slot 8 ((8, .ptr β 0) :: fr) = .ptr β 0 := by simp only [slot, if_true]
  have h18 : D 19 = false := by
    cases hd : D 19 with
    | false => rfl
    | true => have := h.d19 hd; rw [hD] at this; cases this
  have hn := none_of_le h.le hβ
  have oth : D 16 = true → ∃ γ, slot 7 fr = .ptr γ 0 ∧ (σ'.setBox β smZ).box γ = some (bif D 18 then x else smZ) ∧ σ.box γ = none ∧ γ ≠ β := fun h17 => by
    obtain ⟨γ, g1, g2, g3⟩ := h.b7 h17
    have hg : γ ≠ β := by rintro rfl; rw [hβ] at g2; cases g2
    exact ⟨γ, g1, by rw [box_upd, if_neg hg]; exact g2, g3, hg⟩
  have main : ∃ γ, slot 8 ((8, .ptr β 0) :: fr) = .ptr γ 0 ∧ (σ'.setBox β smZ).box γ = some (bif D 19 then y else smZ) ∧ σ.box γ = none :=
    ⟨β, e7, by rw [h18, box_upd, if_pos rfl]; rfl, hn⟩
  have hne : D 16 = true → AV.ptr β 0 ≠ slot 7 fr := fun h17 e => by
    obtain ⟨γ, g1, _, _, g4⟩ := oth h17
    rw [g1] at e; cases e; exact g4 rfl
  refine ⟨?_, ?_, ?_, ?_, fun m w hw hm => ?_, St.le_setBox h.le hn, ?_, ?_, ?_, ?_, ?_⟩
  · rw [e 0 (by omega)]; exact h.s0
  · rw [e 1 (by omega)]; exact h.s1
  · rw [e 5 (by omega)]; exact h.s5
  · rw [e 6 (by omega)]; exact h.s6
  · have hml : m < 16 := by rw [← hv]; exact (List.getElem?_eq_some_iff.1 hw).1
    rw [keepD (by omega)] at hm
    rw [e (43 + m) (by omega)]
    exact h.tab m w hw hm
  · rw [keepD (show 16 ≠ 17 by omega), keepD (show 18 ≠ 17 by omega), e 7 (by omega)]
    intro h17
    obtain ⟨γ, g1, g2, g3, _⟩ := oth h17
    exact ⟨γ, g1, g2, g3⟩
  · rw [keepD (show 19 ≠ 17 by omega)]; exact fun _ => main
  · rw [keepD (show 16 ≠ 17 by omega), e 7 (by omega), e7]
    exact fun h17 _ => (hne h17).symm
  · rw [keepD (show 18 ≠ 17 by omega), keepD (show 16 ≠ 17 by omega)]; exact h.d18
  · intro _; exact newD
theorem smI_s7 {σ : St} {vals : List AV} {A B : AV} {k i : Int} {x y : List AV} {D : Nat → Bool} {fr : Fr} {σ' : St} (hv : vals.length = 16) (h : SmI σ vals A B k i x y D fr σ') (h16 : D 16 = true) {β : Nat} (hs : slot 7 fr = .ptr β 0) (hn : σ.box β = none) : SmI σ vals A B k i x y (fun m => D m || Nat.beq m 18) fr (σ'.setBox β x) := by
  refine ⟨h.s0, h.s1, h.s5, h.s6, fun m w hw hm => ?_, St.le_setBox h.le hn, ?_, ?_, ?_, ?_, ?_⟩
  · have hml : m < 16 := by rw [← hv]; exact (List.getElem?_eq_some_iff.1 hw).1
    rw [keepD (by omega)] at hm
    exact h.tab m w hw hm
  · intro _
    refine ⟨β, hs, ?_, hn⟩
    rw [newD, box_upd, if_pos rfl]; rfl
  · rw [keepD (show 17 ≠ 18 by omega), keepD (show 19 ≠ 18 by omega)]
    intro h17
    obtain ⟨γ, g1, g2, g3⟩ := h.b8 h17
    have hg : γ ≠ β := by
      rintro rfl
      exact h.ne h16 h17 (hs.trans g1.symm)
    exact ⟨γ, g1, by rw [box_upd, if_neg hg]; exact g2, g3⟩
  · rw [keepD (show 16 ≠ 18 by omega), keepD (show 17 ≠ 18 by omega)]; exact h.ne
  · intro _; rw [keepD (show 16 ≠ 18 by omega)]; exact h16
  · rw [keepD (show 19 ≠ 18 by omega), keepD (show 17 ≠ 18 by omega)]; exact h.d19
theorem smI_s8 {σ : St} {vals : List AV} {A B : AV} {k i : Int} {x y : List AV} {D : Nat → Bool} {fr : Fr} {σ' : St} (hv : vals.length = 16) (h : SmI σ vals A B k i x y D fr σ') (h16 : D 17 = true) {β : Nat} (hs : slot 8 fr = .ptr β 0) (hn : σ.box β = none) : SmI σ vals A B k i x y (fun m => D m || Nat.beq m 19) fr (σ'.setBox β y) := by
  refine ⟨h.s0, h.s1, h.s5, h.s6, fun m w hw hm => ?_, St.le_setBox h.le hn, ?_, ?_, ?_, ?_, ?_⟩
  · have hml : m < 16 := by rw [← hv]; exact (List.getElem?_eq_some_iff.1 hw).1
    rw [keepD (by omega)] at hm
    exact h.tab m w hw hm
  · rw [keepD (show 16 ≠ 19 by omega), keepD (show 18 ≠ 19 by omega)]
    intro h17
    obtain ⟨γ, g1, g2, g3⟩ := h.b7 h17
    have hg : γ ≠ β := by
      rintro rfl
      exact h.ne h17 h16 (g1.trans hs.symm)
    exact ⟨γ, g1, by rw [box_upd, if_neg hg]; exact g2, g3⟩
  · intro _
    refine ⟨β, hs, ?_, hn⟩
    rw [newD, box_upd, if_pos rfl]; rfl
  · rw [keepD (show 16 ≠ 19 by omega), keepD (show 17 ≠ 19 by omega)]; exact h.ne
  · rw [keepD (show 18 ≠ 19 by omega), keepD (show 16 ≠ 19 by omega)]; exact h.d18
  · intro _; rw [keepD (show 17 ≠ 19 by omega)]; exact h16
set_option maxHeartbeats 4000000 in
theorem same_inv {P : Program} {cs ds wsC vsC : List AV} {N n k i : Nat} {a b : AV} {q1 q2 : Bool} {t1 t2 : List UInt8} {c1 c2 : Int} {σ : St} {K : Fr → St → Prop} {h : Hold (smOps, [(0, AV.sl false N cs), (1, AV.sl false N ds), (5, AV.int .i64 k), (6, AV.int .i64 i)], σ, K)}
    (hk : k < N) (hc : k * 2 + 2 ≤ cs.length) (hd : k * 2 + 2 ≤ ds.length) (hi : i < n) (hw : i * 3 + 3 ≤ wsC.length) (hv : i * 3 + 3 ≤ vsC.length)
    (g1 : (cs.drop (k * 2)).take 2 = [a, .sl false n wsC]) (g2 : (ds.drop (k * 2)).take 2 = [b, .sl false n vsC])
    (g3 : (wsC.drop (i * 3)).take 3 = [.bool q1, .str t1, .int .i64 c1]) (g4 : (vsC.drop (i * 3)).take 3 = [.bool q2, .str t2, .int .i64 c2])
    (hK : ∀ fr σ' β γ, slot 0 fr = .sl false N cs → slot 1 fr = .sl false N ds → slot 5 fr = .int .i64 k → slot 6 fr = .int .i64 i → slot 7 fr = .ptr β 0 → slot 8 fr = .ptr γ 0 → σ'.box β = some [.bool q1, .str t1, .int .i64 c1] → σ'.box γ = some [.bool q2, .str t2, .int .i64 c2] → St.le σ σ' → K fr σ') :
    invV P smOps smDps [(0, .sl false N cs), (1, .sl false N ds), (5, .int .i64 k), (6, .int .i64 i)] σ K h := by
  obtain ⟨vals, hvals⟩ : ∃ vals, vals = smV cs ds wsC vsC N n k i a b [.bool q1, .str t1, .int .i64 c1] [.bool q2, .str t2, .int .i64 c2] := ⟨_, rfl⟩
  have hl : vals.length = 16 := by rw [hvals]; rfl
  refine ⟨SmI σ vals (.sl false N cs) (.sl false N ds) k i [.bool q1, .str t1, .int .i64 c1] [.bool q2, .str t2, .int .i64 c2], ⟨rfl, rfl, rfl, rfl, fun _ _ _ h => (by cases h), St.le_refl _, (fun h => by cases h), (fun h => by cases h), (fun h => by cases h), (fun h => by cases h), (fun h => by cases h)⟩, ?_, ?_⟩
  · intro D j ins hj hD hdep fr σ' hI
    have tb : ∀ m w, vals[m]? = some w → D m = true → slot (43 + m) fr = w := hI.tab
    rw [hvals] at tb
    have hjl : j < 20 := (List.getElem?_eq_some_iff.1 hj).1
    have ik : (intOfA (.int .i64 (k : Int))).toNat = k := rfl
    have ii : (intOfA (.int .i64 (i : Int))).toNat = i := rfl
    match j, hjl with
    | 0, _ =>
      cases hj
      have st := smI_pure hI (j := 0) (by omega) (by rw [hvals]; rfl)
      simp only [aOps, aOp, putF, ev, ps, pf, slv, pcells, hI.s0]
      exact ⟨trivial, st⟩
    | 1, _ =>
      cases hj
      have st := smI_pure hI (j := 1) (by omega) (by rw [hvals]; rfl)
      simp only [aOps, aOp, putF, ev, ps, pf, slv, pcells, hI.s5]
      exact ⟨trivial, st⟩
    | 2, _ =>
      cases hj
      simp only [smDps, List.getD_cons_succ, List.getD_cons_zero, List.all_cons, List.all_nil, Bool.and_true, Bool.and_eq_true] at hdep
      have f1 : slot 43 fr = _ := tb 0 _ rfl hdep.1
      have f2 : slot 44 fr = _ := tb 1 _ rfl hdep.2
      have st := smI_pure hI (j := 2) (by omega) (by rw [hvals]; rfl)
      simp only [aOps, aOp, putF, ev, ps, pf, slv, pcells, f1, f2]
      rw [ik, g1]
      exact ⟨⟨trivial, Int.natCast_nonneg k, Int.ofNat_lt.2 hk, hc⟩, st⟩
    | 3, _ =>
      cases hj
      simp only [smDps, List.getD_cons_succ, List.getD_cons_zero, List.all_cons, List.all_nil, Bool.and_true, Bool.and_eq_true] at hdep
      have f1 : slot 45 fr = _ := tb 2 _ rfl hdep
      have st := smI_pure hI (j := 3) (by omega) (by rw [hvals]; rfl)
      simp only [aOps, aOp, putF, ev, ps, pf, slv, pcells, f1]
      exact ⟨by simp, st⟩
    | 4, _ =>
      cases hj
      simp only [smDps, List.getD_cons_succ, List.getD_cons_zero, List.all_cons, List.all_nil, Bool.and_true, Bool.and_eq_true] at hdep
      have f1 : slot 46 fr = _ := tb 3 _ rfl hdep
      have st := smI_pure hI (j := 4) (by omega) (by rw [hvals]; rfl)
      simp only [aOps, aOp, putF, ev, ps, pf, slv, pcells, f1]
      exact ⟨by simp [ldS, AV.one], st⟩
    | 5, _ =>
      cases hj
      have st := smI_pure hI (j := 5) (by omega) (by rw [hvals]; rfl)
      simp only [aOps, aOp, putF, ev, ps, pf, slv, pcells, hI.s6]
      exact ⟨trivial, st⟩
    | 6, _ =>
      cases hj
      simp only [smDps, List.getD_cons_succ, List.getD_cons_zero, List.all_cons, List.all_nil, Bool.and_true, Bool.and_eq_true] at hdep
      have f1 : slot 47 fr = _ := tb 4 _ rfl hdep.1
      have f2 : slot 48 fr = _ := tb 5 _ rfl hdep.2
      have st := smI_pure hI (j := 6) (by omega) (by rw [hvals]; rfl)
      simp only [aOps, aOp, putF, ev, ps, pf, slv, pcells, f1, f2]
      rw [ii, g3]
      exact ⟨⟨trivial, Int.natCast_nonneg i, Int.ofNat_lt.2 hi, hw⟩, st⟩
    | 7, _ =>
      cases hj
      simp only [smDps, List.getD_cons_succ, List.getD_cons_zero, List.all_cons, List.all_nil, Bool.and_true, Bool.and_eq_true] at hdep
      have f1 : slot 49 fr = _ := tb 6 _ rfl hdep
      have st := smI_pure hI (j := 7) (by omega) (by rw [hvals]; rfl)
      simp only [aOps, aOp, putF, ev, ps, pf, slv, pcells, f1]
      exact ⟨by simp [ldS, AV.one], st⟩
    | 8, _ =>
      cases hj
      have st := smI_pure hI (j := 8) (by omega) (by rw [hvals]; rfl)
      simp only [aOps, aOp, putF, ev, ps, pf, slv, pcells, hI.s1]
      exact ⟨trivial, st⟩
    | 9, _ =>
      cases hj
      have st := smI_pure hI (j := 9) (by omega) (by rw [hvals]; rfl)
      simp only [aOps, aOp, putF, ev, ps, pf, slv, pcells, hI.s5]
      exact ⟨trivial, st⟩
    | 10, _ =>
      cases hj
      simp only [smDps, List.getD_cons_succ, List.getD_cons_zero, List.all_cons, List.all_nil, Bool.and_true, Bool.and_eq_true] at hdep
      have f1 : slot 51 fr = _ := tb 8 _ rfl hdep.1
      have f2 : slot 52 fr = _ := tb 9 _ rfl hdep.2
      have st := smI_pure hI (j := 10) (by omega) (by rw [hvals]; rfl)
      simp only [aOps, aOp, putF, ev, ps, pf, slv, pcells, f1, f2]
      rw [ik, g2]
      exact ⟨⟨trivial, Int.natCast_nonneg k, Int.ofNat_lt.2 hk, hd⟩, st⟩
    | 11, _ =>
      cases hj
      simp only [smDps, List.getD_cons_succ, List.getD_cons_zero, List.all_cons, List.all_nil, Bool.and_true, Bool.and_eq_true] at hdep
      have f1 : slot 53 fr = _ := tb 10 _ rfl hdep
      have st := smI_pure hI (j := 11) (by omega) (by rw [hvals]; rfl)
      simp only [aOps, aOp, putF, ev, ps, pf, slv, pcells, f1]
      exact ⟨by simp, st⟩
    | 12, _ =>
      cases hj
      simp only [smDps, List.getD_cons_succ, List.getD_cons_zero, List.all_cons, List.all_nil, Bool.and_true, Bool.and_eq_true] at hdep
      have f1 : slot 54 fr = _ := tb 11 _ rfl hdep
      have st := smI_pure hI (j := 12) (by omega) (by rw [hvals]; rfl)
      simp only [aOps, aOp, putF, ev, ps, pf, slv, pcells, f1]
      exact ⟨by simp [ldS, AV.one], st⟩
    | 13, _ =>
      cases hj
      have st := smI_pure hI (j := 13) (by omega) (by rw [hvals]; rfl)
      simp only [aOps, aOp, putF, ev, ps, pf, slv, pcells, hI.s6]
      exact ⟨trivial, st⟩
    | 14, _ =>
      cases hj
      simp only [smDps, List.getD_cons_succ, List.getD_cons_zero, List.all_cons, List.all_nil, Bool.and_true, Bool.and_eq_true] at hdep
      have f1 : slot 55 fr = _ := tb 12 _ rfl hdep.1
      have f2 : slot 56 fr = _ := tb 13 _ rfl hdep.2
      have st := smI_pure hI (j := 14) (by omega) (by rw [hvals]; rfl)
      simp only [aOps, aOp, putF, ev, ps, pf, slv, pcells, f1, f2]
      rw [ii, g4]
      exact ⟨⟨trivial, Int.natCast_nonneg i, Int.ofNat_lt.2 hi, hv⟩, st⟩
    | 15, _ =>
      cases hj
      simp only [smDps, List.getD_cons_succ, List.getD_cons_zero, List.all_cons, List.all_nil, Bool.and_true, Bool.and_eq_true] at hdep
      have f1 : slot 57 fr = _ := tb 14 _ rfl hdep
      have st := smI_pure hI (j := 15) (by omega) (by rw [hvals]; rfl)
      simp only [aOps, aOp, putF, ev, ps, pf, slv, pcells, f1]
      exact ⟨by simp [ldS, AV.one], st⟩
    | 16, _ =>
      cases hj
      exact fun β hβ => smI_a7 hl hI hD hβ
    | 17, _ =>
      cases hj
      exact fun β hβ => smI_a8 hl hI hD hβ
    | 18, _ =>
      cases hj
      have h16 : D 16 = true := List.all_eq_true.1 hdep 16 (by decide)
      have f1 : slot 50 fr = _ := tb 7 _ rfl (List.all_eq_true.1 hdep 7 (by decide))
      obtain ⟨β, e1, e2, e3⟩ := hI.b7 h16
      rw [hD] at e2
      have st := smI_s7 hl hI h16 e1 e3
      simp only [aOps, aOp, putF, ev, e1, e2, f1, cond_false]
      exact ⟨rfl, rfl, by decide, st⟩
    | 19, _ =>
      cases hj
      have h17 : D 17 = true := List.all_eq_true.1 hdep 17 (by decide)
      have f1 : slot 58 fr = _ := tb 15 _ rfl (List.all_eq_true.1 hdep 15 (by decide))
      obtain ⟨β, e1, e2, e3⟩ := hI.b8 h17
      rw [hD] at e2
      have st := smI_s8 hl hI h17 e1 e3
      simp only [aOps, aOp, putF, ev, e1, e2, f1, cond_false]
      exact ⟨rfl, rfl, by decide, st⟩
  · intro D fr σ' hend hI
    have h0 : D 0 = true := (hend 0 (by decide)).resolve_right (by simp [smDps])
    have h1 : D 1 = true := (hend 1 (by decide)).resolve_right (by simp [smDps])
    have h2 : D 2 = true := (hend 2 (by decide)).resolve_right (by simp [smDps, h0, h1])
    have h3 : D 3 = true := (hend 3 (by decide)).resolve_right (by simp [smDps, h2])
    have h4 : D 4 = true := (hend 4 (by decide)).resolve_right (by simp [smDps, h3])
    have h5 : D 5 = true := (hend 5 (by decide)).resolve_right (by simp [smDps])
    have h6 : D 6 = true := (hend 6 (by decide)).resolve_right (by simp [smDps, h4, h5])
    have h7 : D 7 = true := (hend 7 (by decide)).resolve_right (by simp [smDps, h6])
    have h8 : D 8 = true := (hend 8 (by decide)).resolve_right (by simp [smDps])
    have h9 : D 9 = true := (hend 9 (by decide)).resolve_right (by simp [smDps])
    have h10 : D 10 = true := (hend 10 (by decide)).resolve_right (by simp [smDps, h8, h9])
    have h11 : D 11 = true := (hend 11 (by decide)).resolve_right (by simp [smDps, h10])
    have h12 : D 12 = true := (hend 12 (by decide)).resolve_right (by simp [smDps, h11])
    have h13 : D 13 = true := (hend 13 (by decide)).resolve_right (by simp [smDps])
    have h14 : D 14 = true := (hend 14 (by decide)).resolve_right (by simp [smDps, h12, h13])
    have h15 : D 15 = true := (hend 15 (by decide)).resolve_right (by simp [smDps, h14])
    have h16 : D 16 = true := (hend 16 (by decide)).resolve_right (by simp [smDps])
    have h17 : D 17 = true := (hend 17 (by decide)).resolve_right (by simp [smDps])
    have h18 : D 18 = true := (hend 18 (by decide)).resolve_right (by simp [smDps, h0, h1, h2, h3, h4, h5, h6, h7, h16, h17])
    have h19 : D 19 = true := (hend 19 (by decide)).resolve_right (by simp [smDps, h0, h1, h2, h3, h4, h5, h6, h7, h8, h9, h10, h11, h12, h13, h14, h15, h16, h17, h18])
    obtain ⟨β, e1, e2, _⟩ := hI.b7 h16
    obtain ⟨γ, e3, e4, _⟩ := hI.b8 h17
    rw [h18] at e2
    rw [h19] at e4
    exact hK fr σ' β γ hI.s0 hI.s1 hI.s5 hI.s6 e1 e3 e2 e4 hI.le
end Go.Proofs.YtemddijemikleaaDoor
