import Derived.Test.YtpkpfgpfkajkpaaGAvI
import Derived.Test.YtpkpfgpfkajkpaaProg
import Derived.KernelRfl
import Derived.Test.YtpkpfgpfkajkpaaGCoC
import Derived.Test.YtpkpfgpfkajkpaaGAvK4
namespace Go.Proofs.Ytpkpfgpfkajkpaa
open Go.Av Go.Proofs
set_option maxRecDepth 100000
def F21 : IFun := ⟨12, (.seq (.region [⟨some 2, none, .op (.move (.const (.slice none 0 0)))⟩]) (.seq (.seq (.region [⟨some 3, none, .op (.move (.tmp 0))⟩, ⟨some 4, none, (.call 64 [(.tmp 3)])⟩, ⟨some 5, none, .op (.un .not (.tmp 4))⟩]) (.cond (.tmp 5) (.seq (.region [⟨some 2, none, .op (.move (.const (.slice none 0 0)))⟩]) .ret) .skip)) (.seq (.region [⟨some 6, none, .op (.move (.tmp 0))⟩, ⟨some 7, none, .op (.nilCheck (.tmp 6))⟩, ⟨some 8, none, .op (.fieldAddr 0 (.tmp 7))⟩, ⟨some 9, none, .op (.load 1 false (.tmp 8))⟩, ⟨some 10, none, (.call 66 [(.tmp 9)])⟩, ⟨some 11, none, (.call 65 [(.tmp 10)])⟩, ⟨some 2, none, .op (.move (.tmp 11))⟩]) .ret))), [(.tmp 2)]⟩
theorem cF21 : cfun Try.prog 21 = some F21 := by kernel_rfl
def F23 : IFun := ⟨17, (.seq (.region [⟨some 4, none, .op (.move (.const (.bool false)))⟩]) (.seq (.seq (.region [⟨some 7, none, .op (.move (.tmp 0))⟩, ⟨some 8, none, .op (.len (.tmp 7))⟩, ⟨some 9, none, .op (.move (.const (.int .i64 0)))⟩]) (.block 0 (.loop (.seq (.region [⟨some 10, none, .op (.bin .lss 3 (.tmp 9) (.tmp 8))⟩]) (.seq (.cond (.tmp 10) .skip (.exit 0)) (.seq (.block 1 (.seq (.region [⟨some 11, none, .op (.idxSl 1 (.tmp 7) (.tmp 9))⟩, ⟨some 12, none, .op (.load 1 false (.tmp 11))⟩, ⟨some 6, none, .op (.move (.tmp 12))⟩]) (.seq (.region [⟨some 13, none, .op (.move (.tmp 1))⟩, ⟨some 14, none, .op (.move (.tmp 6))⟩, ⟨some 15, none, .op (.bin .eql 3 (.tmp 13) (.tmp 14))⟩]) (.cond (.tmp 15) (.seq (.region [⟨some 4, none, .op (.move (.const (.bool true)))⟩]) .ret) .skip)))) (.region [⟨some 16, none, .op (.bin .add 3 (.tmp 9) (.const (.int .i64 1)))⟩, ⟨some 9, none, .op (.move (.tmp 16))⟩]))))))) (.seq (.region [⟨some 4, none, .op (.move (.const (.bool false)))⟩]) .ret))), [(.tmp 4)]⟩
theorem cF23 : cfun Try.prog 23 = some F23 := by kernel_rfl
end Go.Proofs.Ytpkpfgpfkajkpaa
namespace Go.Proofs.Ytpkpfgpfkajkpaa
open Go.Av Go.Proofs
set_option maxRecDepth 100000
def F118 : IFun := ⟨220, (.seq (.seq (.region [⟨some 25, none, .op (.move (.tmp 2))⟩, ⟨some 26, none, .op (.move (.tmp 1))⟩, ⟨some 27, none, .op (.bin .sub 3 (.tmp 25) (.tmp 26))⟩, ⟨some 28, none, .op (.bin .eql 3 (.tmp 27) (.const (.int .i64 1)))⟩]) (.cond (.tmp 28) (.seq (.region [⟨some 29, none, .op (.move (.tmp 2))⟩, ⟨some 10, none, .op (.move (.tmp 29))⟩]) (.seq (.region [⟨some 30, none, .op (.move (.tmp 3))⟩, ⟨some 11, none, .op (.move (.tmp 30))⟩]) (.seq (.block 0 (.loop (.seq (.seq (.region [⟨some 31, none, .op (.move (.tmp 10))⟩, ⟨some 32, none, .op (.move (.tmp 11))⟩, ⟨some 33, none, .op (.bin .lss 3 (.tmp 31) (.tmp 32))⟩]) (.cond (.tmp 33) .skip (.exit 0))) (.block 1 (.seq (.region [⟨some 34, none, .op (.move (.tmp 10))⟩, ⟨some 35, none, .op (.move (.tmp 11))⟩, ⟨some 36, none, .op (.bin .add 3 (.tmp 34) (.tmp 35))⟩, ⟨some 37, none, .op (.conv .u64 (.tmp 36))⟩, ⟨some 38, none, .op (.bin .shr 123 (.tmp 37) (.const (.int .u64 1)))⟩, ⟨some 39, none, .op (.conv .i64 (.tmp 38))⟩, ⟨some 12, none, .op (.move (.tmp 39))⟩]) (.seq (.draw [⟨some 40, none, .op (.move (.tmp 4))⟩, ⟨some 41, none, .op (.move (.tmp 0))⟩, ⟨some 42, none, .op (.move (.tmp 12))⟩, ⟨some 43, none, .op (.idxSl 1 (.tmp 41) (.tmp 42))⟩, ⟨some 44, none, .op (.load 1 false (.tmp 43))⟩, ⟨some 45, none, .op (.move (.tmp 0))⟩, ⟨some 46, none, .op (.move (.tmp 1))⟩, ⟨some 47, none, .op (.idxSl 1 (.tmp 45) (.tmp 46))⟩, ⟨some 48, none, .op (.load 1 false (.tmp 47))⟩, ⟨some 49, none, (.callV (.tmp 40) [(.tmp 44), (.tmp 48)])⟩, ⟨some 50, none, .op (.bin .lss 3 (.tmp 49) (.const (.int .i64 0)))⟩] [[], [], [], [1, 2], [3], [], [], [5, 6], [7], [0, 4, 8], [9]]) (.cond (.tmp 50) (.region [⟨some 51, none, .op (.move (.tmp 12))⟩, ⟨some 52, none, .op (.bin .add 3 (.tmp 51) (.const (.int .i64 1)))⟩, ⟨some 10, none, .op (.move (.tmp 52))⟩]) (.region [⟨some 53, none, .op (.move (.tmp 12))⟩, ⟨some 11, none, .op (.move (.tmp 53))⟩])))))))) (.seq (.seq (.region [⟨some 54, none, .op (.move (.tmp 1))⟩, ⟨some 13, none, .op (.move (.tmp 54))⟩]) (.block 2 (.loop (.seq (.seq (.region [⟨some 55, none, .op (.move (.tmp 13))⟩, ⟨some 56, none, .op (.move (.tmp 10))⟩, ⟨some 57, none, .op (.bin .sub 3 (.tmp 56) (.const (.int .i64 1)))⟩, ⟨some 58, none, .op (.bin .lss 3 (.tmp 55) (.tmp 57))⟩]) (.cond (.tmp 58) .skip (.exit 2))) (.seq (.block 3 (.draw [⟨some 61, none, .op (.move (.tmp 0))⟩, ⟨some 62, none, .op (.move (.tmp 13))⟩, ⟨some 63, none, .op (.move (.tmp 0))⟩, ⟨some 64, none, .op (.move (.tmp 13))⟩, ⟨some 65, none, .op (.bin .add 3 (.tmp 64) (.const (.int .i64 1)))⟩, ⟨some 66, none, .op (.move (.tmp 0))⟩, ⟨some 67, none, .op (.move (.tmp 13))⟩, ⟨some 68, none, .op (.bin .add 3 (.tmp 67) (.const (.int .i64 1)))⟩, ⟨some 69, none, .op (.idxSl 1 (.tmp 66) (.tmp 68))⟩, ⟨some 70, none, .op (.load 1 false (.tmp 69))⟩, ⟨some 71, none, .op (.move (.tmp 0))⟩, ⟨some 72, none, .op (.move (.tmp 13))⟩, ⟨some 73, none, .op (.idxSl 1 (.tmp 71) (.tmp 72))⟩, ⟨some 74, none, .op (.load 1 false (.tmp 73))⟩, ⟨some 75, none, .op (.idxSl 1 (.tmp 61) (.tmp 62))⟩, ⟨none, none, .op (.store 1 (.tmp 75) (.tmp 70))⟩, ⟨some 76, none, .op (.idxSl 1 (.tmp 63) (.tmp 65))⟩, ⟨none, none, .op (.store 1 (.tmp 76) (.tmp 74))⟩] [[], [], [], [], [3], [], [], [6], [5, 7], [8], [], [], [10, 11], [12], [0, 1, 0, 1, 5, 6, 7, 8, 9, 13], [14, 9, 0, 1, 5, 6, 7, 8, 9, 13], [2, 4, 0, 1, 2, 3, 4, 5, 6, 7, 8, 9, 10, 11, 12, 13, 14, 15], [16, 13, 15, 0, 1, 2, 3, 4, 5, 6, 7, 8, 9, 10, 11, 12, 13, 14, 15]])) (.region [⟨some 59, none, .op (.move (.tmp 13))⟩, ⟨some 60, none, .op (.bin .add 3 (.tmp 59) (.const (.int .i64 1)))⟩, ⟨some 13, none, .op (.move (.tmp 60))⟩])))))) .ret)))) .skip)) (.seq (.seq (.region [⟨some 77, none, .op (.move (.tmp 3))⟩, ⟨some 78, none, .op (.move (.tmp 2))⟩, ⟨some 79, none, .op (.bin .sub 3 (.tmp 77) (.tmp 78))⟩, ⟨some 80, none, .op (.bin .eql 3 (.tmp 79) (.const (.int .i64 1)))⟩]) (.cond (.tmp 80) (.seq (.region [⟨some 81, none, .op (.move (.tmp 1))⟩, ⟨some 14, none, .op (.move (.tmp 81))⟩]) (.seq (.region [⟨some 82, none, .op (.move (.tmp 2))⟩, ⟨some 15, none, .op (.move (.tmp 82))⟩]) (.seq (.block 4 (.loop (.seq (.seq (.region [⟨some 83, none, .op (.move (.tmp 14))⟩, ⟨some 84, none, .op (.move (.tmp 15))⟩, ⟨some 85, none, .op (.bin .lss 3 (.tmp 83) (.tmp 84))⟩]) (.cond (.tmp 85) .skip (.exit 4))) (.block 5 (.seq (.region [⟨some 86, none, .op (.move (.tmp 14))⟩, ⟨some 87, none, .op (.move (.tmp 15))⟩, ⟨some 88, none, .op (.bin .add 3 (.tmp 86) (.tmp 87))⟩, ⟨some 89, none, .op (.conv .u64 (.tmp 88))⟩, ⟨some 90, none, .op (.bin .shr 123 (.tmp 89) (.const (.int .u64 1)))⟩, ⟨some 91, none, .op (.conv .i64 (.tmp 90))⟩, ⟨some 16, none, .op (.move (.tmp 91))⟩]) (.seq (.draw [⟨some 92, none, .op (.move (.tmp 4))⟩, ⟨some 93, none, .op (.move (.tmp 0))⟩, ⟨some 94, none, .op (.move (.tmp 2))⟩, ⟨some 95, none, .op (.idxSl 1 (.tmp 93) (.tmp 94))⟩, ⟨some 96, none, .op (.load 1 false (.tmp 95))⟩, ⟨some 97, none, .op (.move (.tmp 0))⟩, ⟨some 98, none, .op (.move (.tmp 16))⟩, ⟨some 99, none, .op (.idxSl 1 (.tmp 97) (.tmp 98))⟩, ⟨some 100, none, .op (.load 1 false (.tmp 99))⟩, ⟨some 101, none, (.callV (.tmp 92) [(.tmp 96), (.tmp 100)])⟩, ⟨some 102, none, .op (.bin .lss 3 (.tmp 101) (.const (.int .i64 0)))⟩, ⟨some 103, none, .op (.un .not (.tmp 102))⟩] [[], [], [], [1, 2], [3], [], [], [5, 6], [7], [0, 4, 8], [9], [10]]) (.cond (.tmp 103) (.region [⟨some 104, none, .op (.move (.tmp 16))⟩, ⟨some 105, none, .op (.bin .add 3 (.tmp 104) (.const (.int .i64 1)))⟩, ⟨some 14, none, .op (.move (.tmp 105))⟩]) (.region [⟨some 106, none, .op (.move (.tmp 16))⟩, ⟨some 15, none, .op (.move (.tmp 106))⟩])))))))) (.seq (.seq (.region [⟨some 107, none, .op (.move (.tmp 2))⟩, ⟨some 17, none, .op (.move (.tmp 107))⟩]) (.block 6 (.loop (.seq (.seq (.region [⟨some 108, none, .op (.move (.tmp 17))⟩, ⟨some 109, none, .op (.move (.tmp 14))⟩, ⟨some 110, none, .op (.bin .gtr 3 (.tmp 108) (.tmp 109))⟩]) (.cond (.tmp 110) .skip (.exit 6))) (.seq (.block 7 (.draw [⟨some 113, none, .op (.move (.tmp 0))⟩, ⟨some 114, none, .op (.move (.tmp 17))⟩, ⟨some 115, none, .op (.move (.tmp 0))⟩, ⟨some 116, none, .op (.move (.tmp 17))⟩, ⟨some 117, none, .op (.bin .sub 3 (.tmp 116) (.const (.int .i64 1)))⟩, ⟨some 118, none, .op (.move (.tmp 0))⟩, ⟨some 119, none, .op (.move (.tmp 17))⟩, ⟨some 120, none, .op (.bin .sub 3 (.tmp 119) (.const (.int .i64 1)))⟩, ⟨some 121, none, .op (.idxSl 1 (.tmp 118) (.tmp 120))⟩, ⟨some 122, none, .op (.load 1 false (.tmp 121))⟩, ⟨some 123, none, .op (.move (.tmp 0))⟩, ⟨some 124, none, .op (.move (.tmp 17))⟩, ⟨some 125, none, .op (.idxSl 1 (.tmp 123) (.tmp 124))⟩, ⟨some 126, none, .op (.load 1 false (.tmp 125))⟩, ⟨some 127, none, .op (.idxSl 1 (.tmp 113) (.tmp 114))⟩, ⟨none, none, .op (.store 1 (.tmp 127) (.tmp 122))⟩, ⟨some 128, none, .op (.idxSl 1 (.tmp 115) (.tmp 117))⟩, ⟨none, none, .op (.store 1 (.tmp 128) (.tmp 126))⟩] [[], [], [], [], [3], [], [], [6], [5, 7], [8], [], [], [10, 11], [12], [0, 1, 0, 1, 5, 6, 7, 8, 9, 13], [14, 9, 0, 1, 5, 6, 7, 8, 9, 13], [2, 4, 0, 1, 2, 3, 4, 5, 6, 7, 8, 9, 10, 11, 12, 13, 14, 15], [16, 13, 15, 0, 1, 2, 3, 4, 5, 6, 7, 8, 9, 10, 11, 12, 13, 14, 15]])) (.region [⟨some 111, none, .op (.move (.tmp 17))⟩, ⟨some 112, none, .op (.bin .sub 3 (.tmp 111) (.const (.int .i64 1)))⟩, ⟨some 17, none, .op (.move (.tmp 112))⟩])))))) .ret)))) .skip)) (.seq (.region [⟨some 129, none, .op (.move (.tmp 1))⟩, ⟨some 130, none, .op (.move (.tmp 3))⟩, ⟨some 131, none, .op (.bin .add 3 (.tmp 129) (.tmp 130))⟩, ⟨some 132, none, .op (.conv .u64 (.tmp 131))⟩, ⟨some 133, none, .op (.bin .shr 123 (.tmp 132) (.const (.int .u64 1)))⟩, ⟨some 134, none, .op (.conv .i64 (.tmp 133))⟩, ⟨some 18, none, .op (.move (.tmp 134))⟩]) (.seq (.region [⟨some 135, none, .op (.move (.tmp 18))⟩, ⟨some 136, none, .op (.move (.tmp 2))⟩, ⟨some 137, none, .op (.bin .add 3 (.tmp 135) (.tmp 136))⟩, ⟨some 19, none, .op (.move (.tmp 137))⟩]) (.seq (.region [⟨some 20, none, .op (.move (.const (.int .i64 0)))⟩, ⟨some 21, none, .op (.move (.const (.int .i64 0)))⟩]) (.seq (.seq (.region [⟨some 138, none, .op (.move (.tmp 2))⟩, ⟨some 139, none, .op (.move (.tmp 18))⟩, ⟨some 140, none, .op (.bin .gtr 3 (.tmp 138) (.tmp 139))⟩]) (.cond (.tmp 140) (.seq (.region [⟨some 141, none, .op (.move (.tmp 19))⟩, ⟨some 142, none, .op (.move (.tmp 3))⟩, ⟨some 143, none, .op (.bin .sub 3 (.tmp 141) (.tmp 142))⟩, ⟨some 20, none, .op (.move (.tmp 143))⟩]) (.region [⟨some 144, none, .op (.move (.tmp 18))⟩, ⟨some 21, none, .op (.move (.tmp 144))⟩])) (.seq (.region [⟨some 145, none, .op (.move (.tmp 1))⟩, ⟨some 20, none, .op (.move (.tmp 145))⟩]) (.region [⟨some 146, none, .op (.move (.tmp 2))⟩, ⟨some 21, none, .op (.move (.tmp 146))⟩])))) (.seq (.region [⟨some 147, none, .op (.move (.tmp 19))⟩, ⟨some 148, none, .op (.bin .sub 3 (.tmp 147) (.const (.int .i64 1)))⟩, ⟨some 22, none, .op (.move (.tmp 148))⟩]) (.seq (.block 8 (.loop (.seq (.seq (.region [⟨some 149, none, .op (.move (.tmp 20))⟩, ⟨some 150, none, .op (.move (.tmp 21))⟩, ⟨some 151, none, .op (.bin .lss 3 (.tmp 149) (.tmp 150))⟩]) (.cond (.tmp 151) .skip (.exit 8))) (.block 9 (.seq (.region [⟨some 152, none, .op (.move (.tmp 20))⟩, ⟨some 153, none, .op (.move (.tmp 21))⟩, ⟨some 154, none, .op (.bin .add 3 (.tmp 152) (.tmp 153))⟩, ⟨some 155, none, .op (.conv .u64 (.tmp 154))⟩, ⟨some 156, none, .op (.bin .shr 123 (.tmp 155) (.const (.int .u64 1)))⟩, ⟨some 157, none, .op (.conv .i64 (.tmp 156))⟩, ⟨some 23, none, .op (.move (.tmp 157))⟩]) (.seq (.draw [⟨some 158, none, .op (.move (.tmp 4))⟩, ⟨some 159, none, .op (.move (.tmp 0))⟩, ⟨some 160, none, .op (.move (.tmp 22))⟩, ⟨some 161, none, .op (.move (.tmp 23))⟩, ⟨some 162, none, .op (.bin .sub 3 (.tmp 160) (.tmp 161))⟩, ⟨some 163, none, .op (.idxSl 1 (.tmp 159) (.tmp 162))⟩, ⟨some 164, none, .op (.load 1 false (.tmp 163))⟩, ⟨some 165, none, .op (.move (.tmp 0))⟩, ⟨some 166, none, .op (.move (.tmp 23))⟩, ⟨some 167, none, .op (.idxSl 1 (.tmp 165) (.tmp 166))⟩, ⟨some 168, none, .op (.load 1 false (.tmp 167))⟩, ⟨some 169, none, (.callV (.tmp 158) [(.tmp 164), (.tmp 168)])⟩, ⟨some 170, none, .op (.bin .lss 3 (.tmp 169) (.const (.int .i64 0)))⟩, ⟨some 171, none, .op (.un .not (.tmp 170))⟩] [[], [], [], [], [2, 3], [1, 4], [5], [], [], [7, 8], [9], [0, 6, 10], [11], [12]]) (.cond (.tmp 171) (.region [⟨some 172, none, .op (.move (.tmp 23))⟩, ⟨some 173, none, .op (.bin .add 3 (.tmp 172) (.const (.int .i64 1)))⟩, ⟨some 20, none, .op (.move (.tmp 173))⟩]) (.region [⟨some 174, none, .op (.move (.tmp 23))⟩, ⟨some 21, none, .op (.move (.tmp 174))⟩])))))))) (.seq (.region [⟨some 175, none, .op (.move (.tmp 19))⟩, ⟨some 176, none, .op (.move (.tmp 20))⟩, ⟨some 177, none, .op (.bin .sub 3 (.tmp 175) (.tmp 176))⟩, ⟨some 24, none, .op (.move (.tmp 177))⟩]) (.seq (.seq (.region [⟨some 178, none, .op (.move (.tmp 20))⟩, ⟨some 179, none, .op (.move (.tmp 2))⟩, ⟨some 180, none, .op (.bin .lss 3 (.tmp 178) (.tmp 179))⟩, ⟨some 181, none, .op (.move (.tmp 180))⟩, ⟨some 182, some (181, true), .op (.move (.tmp 2))⟩, ⟨some 183, some (181, true), .op (.move (.tmp 24))⟩, ⟨some 184, some (181, true), .op (.bin .lss 3 (.tmp 182) (.tmp 183))⟩, ⟨some 185, none, .op (.pick (.tmp 181) (.tmp 184) (.const (.bool false)))⟩]) (.cond (.tmp 185) (.region [⟨some 186, none, .op (.move (.tmp 0))⟩, ⟨some 187, none, .op (.move (.tmp 20))⟩, ⟨some 188, none, .op (.move (.tmp 2))⟩, ⟨some 189, none, .op (.move (.tmp 24))⟩, ⟨some 190, none, .op (.move (.tmp 4))⟩, ⟨some 191, none, (.call 131 [(.tmp 186), (.tmp 187), (.tmp 188), (.tmp 189), (.tmp 190)])⟩]) .skip)) (.seq (.seq (.region [⟨some 192, none, .op (.move (.tmp 1))⟩, ⟨some 193, none, .op (.move (.tmp 20))⟩, ⟨some 194, none, .op (.bin .lss 3 (.tmp 192) (.tmp 193))⟩, ⟨some 195, none, .op (.move (.tmp 194))⟩, ⟨some 196, some (195, true), .op (.move (.tmp 20))⟩, ⟨some 197, some (195, true), .op (.move (.tmp 18))⟩, ⟨some 198, some (195, true), .op (.bin .lss 3 (.tmp 196) (.tmp 197))⟩, ⟨some 199, none, .op (.pick (.tmp 195) (.tmp 198) (.const (.bool false)))⟩]) (.cond (.tmp 199) (.region [⟨some 200, none, .op (.move (.tmp 0))⟩, ⟨some 201, none, .op (.move (.tmp 1))⟩, ⟨some 202, none, .op (.move (.tmp 20))⟩, ⟨some 203, none, .op (.move (.tmp 18))⟩, ⟨some 204, none, .op (.move (.tmp 4))⟩, ⟨some 205, none, (.call 118 [(.tmp 200), (.tmp 201), (.tmp 202), (.tmp 203), (.tmp 204)])⟩]) .skip)) (.seq (.region [⟨some 206, none, .op (.move (.tmp 18))⟩, ⟨some 207, none, .op (.move (.tmp 24))⟩, ⟨some 208, none, .op (.bin .lss 3 (.tmp 206) (.tmp 207))⟩, ⟨some 209, none, .op (.move (.tmp 208))⟩, ⟨some 210, some (209, true), .op (.move (.tmp 24))⟩, ⟨some 211, some (209, true), .op (.move (.tmp 3))⟩, ⟨some 212, some (209, true), .op (.bin .lss 3 (.tmp 210) (.tmp 211))⟩, ⟨some 213, none, .op (.pick (.tmp 209) (.tmp 212) (.const (.bool false)))⟩]) (.cond (.tmp 213) (.region [⟨some 214, none, .op (.move (.tmp 0))⟩, ⟨some 215, none, .op (.move (.tmp 18))⟩, ⟨some 216, none, .op (.move (.tmp 24))⟩, ⟨some 217, none, .op (.move (.tmp 3))⟩, ⟨some 218, none, .op (.move (.tmp 4))⟩, ⟨some 219, none, (.call 118 [(.tmp 214), (.tmp 215), (.tmp 216), (.tmp 217), (.tmp 218)])⟩]) .skip))))))))))))), []⟩
theorem cF118 : cfun Try.prog 118 = some F118 := by kernel_rfl
def F131 : IFun := ⟨58, (.seq (.region [⟨some 12, none, .op (.move (.tmp 2))⟩, ⟨some 13, none, .op (.move (.tmp 1))⟩, ⟨some 14, none, .op (.bin .sub 3 (.tmp 12) (.tmp 13))⟩, ⟨some 10, none, .op (.move (.tmp 14))⟩]) (.seq (.region [⟨some 15, none, .op (.move (.tmp 3))⟩, ⟨some 16, none, .op (.move (.tmp 2))⟩, ⟨some 17, none, .op (.bin .sub 3 (.tmp 15) (.tmp 16))⟩, ⟨some 11, none, .op (.move (.tmp 17))⟩]) (.seq (.block 0 (.loop (.seq (.seq (.region [⟨some 18, none, .op (.move (.tmp 10))⟩, ⟨some 19, none, .op (.move (.tmp 11))⟩, ⟨some 20, none, .op (.bin .neq 3 (.tmp 18) (.tmp 19))⟩]) (.cond (.tmp 20) .skip (.exit 0))) (.block 1 (.seq (.region [⟨some 21, none, .op (.move (.tmp 10))⟩, ⟨some 22, none, .op (.move (.tmp 11))⟩, ⟨some 23, none, .op (.bin .gtr 3 (.tmp 21) (.tmp 22))⟩]) (.cond (.tmp 23) (.seq (.region [⟨some 24, none, .op (.move (.tmp 0))⟩, ⟨some 25, none, .op (.move (.tmp 2))⟩, ⟨some 26, none, .op (.move (.tmp 10))⟩, ⟨some 27, none, .op (.bin .sub 3 (.tmp 25) (.tmp 26))⟩, ⟨some 28, none, .op (.move (.tmp 2))⟩, ⟨some 29, none, .op (.move (.tmp 11))⟩, ⟨some 30, none, .op (.move (.tmp 4))⟩, ⟨some 31, none, (.call 138 [(.tmp 24), (.tmp 27), (.tmp 28), (.tmp 29), (.tmp 30)])⟩]) (.region [⟨some 32, none, .op (.move (.tmp 10))⟩, ⟨some 33, none, .op (.move (.tmp 11))⟩, ⟨some 34, none, .op (.bin .sub 3 (.tmp 32) (.tmp 33))⟩, ⟨some 10, none, .op (.move (.tmp 34))⟩])) (.seq (.region [⟨some 35, none, .op (.move (.tmp 0))⟩, ⟨some 36, none, .op (.move (.tmp 2))⟩, ⟨some 37, none, .op (.move (.tmp 10))⟩, ⟨some 38, none, .op (.bin .sub 3 (.tmp 36) (.tmp 37))⟩, ⟨some 39, none, .op (.move (.tmp 2))⟩, ⟨some 40, none, .op (.move (.tmp 11))⟩, ⟨some 41, none, .op (.bin .add 3 (.tmp 39) (.tmp 40))⟩, ⟨some 42, none, .op (.move (.tmp 10))⟩, ⟨some 43, none, .op (.bin .sub 3 (.tmp 41) (.tmp 42))⟩, ⟨some 44, none, .op (.move (.tmp 10))⟩, ⟨some 45, none, .op (.move (.tmp 4))⟩, ⟨some 46, none, (.call 138 [(.tmp 35), (.tmp 38), (.tmp 43), (.tmp 44), (.tmp 45)])⟩]) (.region [⟨some 47, none, .op (.move (.tmp 11))⟩, ⟨some 48, none, .op (.move (.tmp 10))⟩, ⟨some 49, none, .op (.bin .sub 3 (.tmp 47) (.tmp 48))⟩, ⟨some 11, none, .op (.move (.tmp 49))⟩])))))))) (.region [⟨some 50, none, .op (.move (.tmp 0))⟩, ⟨some 51, none, .op (.move (.tmp 2))⟩, ⟨some 52, none, .op (.move (.tmp 10))⟩, ⟨some 53, none, .op (.bin .sub 3 (.tmp 51) (.tmp 52))⟩, ⟨some 54, none, .op (.move (.tmp 2))⟩, ⟨some 55, none, .op (.move (.tmp 10))⟩, ⟨some 56, none, .op (.move (.tmp 4))⟩, ⟨some 57, none, (.call 138 [(.tmp 50), (.tmp 53), (.tmp 54), (.tmp 55), (.tmp 56)])⟩])))), []⟩
theorem cF131 : cfun Try.prog 131 = some F131 := by kernel_rfl
def F138 : IFun := ⟨38, (.seq (.region [⟨some 10, none, .op (.move (.const (.int .i64 0)))⟩]) (.block 0 (.loop (.seq (.seq (.region [⟨some 11, none, .op (.move (.tmp 10))⟩, ⟨some 12, none, .op (.move (.tmp 3))⟩, ⟨some 13, none, .op (.bin .lss 3 (.tmp 11) (.tmp 12))⟩]) (.cond (.tmp 13) .skip (.exit 0))) (.seq (.block 1 (.draw [⟨some 16, none, .op (.move (.tmp 0))⟩, ⟨some 17, none, .op (.move (.tmp 1))⟩, ⟨some 18, none, .op (.move (.tmp 10))⟩, ⟨some 19, none, .op (.bin .add 3 (.tmp 17) (.tmp 18))⟩, ⟨some 20, none, .op (.move (.tmp 0))⟩, ⟨some 21, none, .op (.move (.tmp 2))⟩, ⟨some 22, none, .op (.move (.tmp 10))⟩, ⟨some 23, none, .op (.bin .add 3 (.tmp 21) (.tmp 22))⟩, ⟨some 24, none, .op (.move (.tmp 0))⟩, ⟨some 25, none, .op (.move (.tmp 2))⟩, ⟨some 26, none, .op (.move (.tmp 10))⟩, ⟨some 27, none, .op (.bin .add 3 (.tmp 25) (.tmp 26))⟩, ⟨some 28, none, .op (.idxSl 1 (.tmp 24) (.tmp 27))⟩, ⟨some 29, none, .op (.load 1 false (.tmp 28))⟩, ⟨some 30, none, .op (.move (.tmp 0))⟩, ⟨some 31, none, .op (.move (.tmp 1))⟩, ⟨some 32, none, .op (.move (.tmp 10))⟩, ⟨some 33, none, .op (.bin .add 3 (.tmp 31) (.tmp 32))⟩, ⟨some 34, none, .op (.idxSl 1 (.tmp 30) (.tmp 33))⟩, ⟨some 35, none, .op (.load 1 false (.tmp 34))⟩, ⟨some 36, none, .op (.idxSl 1 (.tmp 16) (.tmp 19))⟩, ⟨none, none, .op (.store 1 (.tmp 36) (.tmp 29))⟩, ⟨some 37, none, .op (.idxSl 1 (.tmp 20) (.tmp 23))⟩, ⟨none, none, .op (.store 1 (.tmp 37) (.tmp 35))⟩] [[], [], [], [1, 2], [], [], [], [5, 6], [], [], [], [9, 10], [8, 11], [12], [], [], [], [15, 16], [14, 17], [18], [0, 3, 0, 1, 2, 3, 8, 9, 10, 11, 12, 13, 19], [20, 13, 0, 1, 2, 3, 8, 9, 10, 11, 12, 13, 19], [4, 7, 0, 1, 2, 3, 4, 5, 6, 7, 8, 9, 10, 11, 12, 13, 14, 15, 16, 17, 18, 19, 20, 21], [22, 19, 21, 0, 1, 2, 3, 4, 5, 6, 7, 8, 9, 10, 11, 12, 13, 14, 15, 16, 17, 18, 19, 20, 21]])) (.region [⟨some 14, none, .op (.move (.tmp 10))⟩, ⟨some 15, none, .op (.bin .add 3 (.tmp 14) (.const (.int .i64 1)))⟩, ⟨some 10, none, .op (.move (.tmp 15))⟩])))))), []⟩
theorem cF138 : cfun Try.prog 138 = some F138 := by kernel_rfl
end Go.Proofs.Ytpkpfgpfkajkpaa
namespace Go.Proofs.Ytpkpfgpfkajkpaa
open Go.Av Go.Proofs
set_option maxRecDepth 100000
end Go.Proofs.Ytpkpfgpfkajkpaa
namespace Go.Proofs.Ytpkpfgpfkajkpaa
open Go.Av Go.Proofs
set_option maxRecDepth 20000
theorem mixed : Try.prog.follows .mixedOrders = true := by kernel_rfl
def intsR (l : List Int) : List (List AV) := l.map fun n => [.sc (.int .i64 n)]
theorem intsR_len (l : List Int) : (intsR l).length = l.length := by simp [intsR]
instance (l : List Int) : PRs (intsR l) := ⟨fun r hr => by
 obtain ⟨a, _, rfl⟩ := List.mem_map.1 hr
 exact allPure_cons (.sc _) allPure_nil⟩
theorem intsR_ix (l : List Int) (k : Nat) (h : k < l.length) : rowIx (intsR l) (k : Int) = some [.sc (.int .i64 l[k])] := rowIx_map (fun n : Int => [.sc (.int .i64 n)]) l k h
def keyM (l : List (Int × AV)) : List (Value × AV) := l.map fun p => (.int .i64 p.1, p.2)
theorem keyM_pure {l : List (Int × AV)} (h : ∀ x ∈ l, Pure x.2) : ∀ x ∈ keyM l, Pure x.2 := fun x hx => by
 obtain ⟨y, hy, rfl⟩ := List.mem_map.1 hx
 exact h y hy
set_option maxHeartbeats 4000000 in
theorem keys_ok (es : List (Int × AV)) (hp : ∀ x ∈ es, Pure x.2) (hn : es.length ≤ 1000000) (c : AV) (hc : Pure c) (L : LC) (hL : LOK Try.prog 13 L [7] (.region [⟨some 5, none, .op (.move (.tmp 7))⟩]) (.block 1 (.region [⟨some 8, none, .op (.load 1 false (.tmp 2))⟩, ⟨some 9, none, .op (.move (.tmp 5))⟩, ⟨some 10, none, .op (.buildSlice 1 [(1, (.int .i64 0))] 1 [(0, (.tmp 9))])⟩, ⟨some 11, none, .op (.append 1 8 (.tmp 8) (.tmp 10))⟩, ⟨none, none, .op (.store 1 (.tmp 2) (.tmp 11))⟩]))) :
  CallOK Try.prog 103 [.yld 1 0, .cptr [.tmap (keyM es)]] [[.cells 1 [[.sc (.slice none 0 0)]]], [.lp L [(2, .ptr 0 0 0 0), (6, c)] .ready none]] fun _ H' =>
   ∃ ks : List Int, ks.Perm (es.map (·.1)) ∧ H' = [[.cells 1 [[.hsl 2 0 0 ks.length]]], [.lp L [(2, .ptr 0 0 0 0), (6, c)] .ready none], [.cells 1 (intsR ks)]] := by
 refine CallOK.of cF103 ?_ (Nat.le_of_ble_eq_true rfl)
 refine walkX ?_
 refine AWP.loop3 (fun (ks : List Int) (cur : Option (Value × AV)) (left : List (Int × AV)) => [(0, .yld 1 0), (5, .ptr 2 0 0 0)])
  (fun ks cur left => [[.cells 1 [[.hsl 3 0 0 ks.length]]], [.lp L [(2, .ptr 0 0 0 0), (6, c)] .ready none], [.it cur (keyM left)], [.cells 1 (intsR ks)]])
  (fun ks cur left => (ks ++ left.map (·.1)).Perm (es.map (·.1)) ∧ (∀ x ∈ left, Pure x.2) ∧ (∀ x, cur = some x → Pure x.2)) (fun ks cur left => left.length) [] none es ⟨.refl _, hp, fun x h => by cases h⟩ ?_ ?_
 ·(apply Sub.to [1] [[(0,0)],[(1,0)],[(2,0)],[(3,0)]]; all_goals (repeat' (first | exact ToAll.nil | exact famsTo.nil | exact famTo.nil | exact ToL.nil | exact ToR.nil | refine ToAll.cons ?_ ?_ | refine famsTo.cons ?_ ?_ | refine wt10 ?_ ?_ | exact To.undef _ | exact To.sc _ | exact To.hslL rfl rfl | exact To.ptrO rfl rfl rfl | exact To.mrefO rfl | exact To.nil rfl rfl rfl | exact wt1 | exact To.nilL | refine To.int ?_ | refine To.bool ?_ | refine To.hslL rfl ?_ | refine wt2 rfl ?_ ?_ ?_ | refine To.tupL ?_ | refine To.aggL ?_ | refine To.cptrL ?_ | refine wt3 ?_ | refine wt4 ?_ | refine To.cloL ?_ ?_ | exact wt5 | refine wt6 ?_ | refine ToB.one ?_ | exact wt7 | ((with_reducible apply ToL.consE); case e9 => rfl) | refine wt8 ?_ | refine ToL.cons ?_ ?_ | exact wt11 | refine wt9 ?_ ?_ | refine wt12 ?_ | (with_reducible rfl) | assumption)); all_goals (first | rfl | assumption | (simp; done) | (simp; omega) | (rw [wrap_small (by omega) (by omega)]; done) | (rw [wrap_small (by omega) (by omega)]; omega) | (refine congrArg Nat.cast ?_; assumption) | skip))
  all_goals (first | exact .yld _ _ _ _ rfl | exact ToB.dead _ | exact ToB.it _ _ (keyM_pure hp) (fun x h => by cases h) | (refine ToB.lp _ _ _ _ _ fun x hx => ?_; simp only [List.mem_cons, List.not_mem_nil, or_false] at hx; rcases hx with rfl | rfl; exact To.ptrO rfl rfl rfl; exact To.pure hc))
 rintro ks cur left ⟨hk1, hk2, hk3⟩
 refine AWP.seq ?_
 refine AWP.region ?_
 refine Reg.next rfl rfl rfl (fun h => ?_) (fun l1 y l2 h => ?_)
 ·have hl : left = [] := List.map_eq_nil_iff.1 h
  subst hl
  rw [List.map_nil, List.append_nil] at hk1
  refine walkX ?_
  refine endH (res' := .tup []) [[(0,0)],[(1,0)],[(3,0)]] (.inl rfl) rfl ⟨ks, hk1, rfl⟩ ?_ ?_ rfl rfl rfl
  (all_goals (repeat' (first | exact ToAll.nil | exact famsTo.nil | exact famTo.nil | exact ToL.nil | exact ToR.nil | refine ToAll.cons ?_ ?_ | refine famsTo.cons ?_ ?_ | refine wt10 ?_ ?_ | exact To.undef _ | exact To.sc _ | exact To.hslL rfl rfl | exact To.ptrO rfl rfl rfl | exact To.mrefO rfl | exact To.nil rfl rfl rfl | exact wt1 | exact To.nilL | refine To.int ?_ | refine To.bool ?_ | refine To.hslL rfl ?_ | refine wt2 rfl ?_ ?_ ?_ | refine To.tupL ?_ | refine To.aggL ?_ | refine To.cptrL ?_ | refine wt3 ?_ | refine wt4 ?_ | refine To.cloL ?_ ?_ | exact wt5 | refine wt6 ?_ | refine ToB.one ?_ | exact wt7 | ((with_reducible apply ToL.consE); case e9 => rfl) | refine wt8 ?_ | refine ToL.cons ?_ ?_ | exact wt11 | refine wt9 ?_ ?_ | refine wt12 ?_ | (with_reducible rfl) | assumption)); all_goals (first | rfl | assumption | (simp; done) | (simp; omega) | (rw [wrap_small (by omega) (by omega)]; done) | (rw [wrap_small (by omega) (by omega)]; omega) | (refine congrArg Nat.cast ?_; assumption) | skip))
  all_goals (first | exact .yld _ _ _ _ rfl | exact ToB.dead _ | exact ToB.it _ _ (hk2) (hk3) | (refine ToB.lp _ _ _ _ _ fun x hx => ?_; simp only [List.mem_cons, List.not_mem_nil, or_false] at hx; rcases hx with rfl | rfl; exact To.ptrO rfl rfl rfl; exact To.pure hc))
 ·obtain ⟨m1, m2, rfl, e1, e2⟩ := List.map_eq_append_iff.1 h
  obtain ⟨x, m3, rfl, e3, e4⟩ := List.map_eq_cons_iff.1 e2
  subst e1; subst e3; subst e4
  have hx : Pure x.2 := hk2 x (by simp)
  have hp2 : ∀ y ∈ m1 ++ m3, Pure y.2 := fun y hy => hk2 y (by rcases List.mem_append.1 hy with h | h <;> simp [h])
  have g2 : ∀ y : Value × AV, some (Value.int .i64 x.1, x.2) = some y → Pure y.2 := fun y hy => by injection hy with hy; subst hy; exact hx
  have e0 := intsR_len ks
  have hkl : ks.length ≤ 1000000 := by
   have := hk1.length_eq
   rw [List.length_append, List.length_map, List.length_map] at this
   omega
  refine walkR ?_
  refine AWP.seq ?_
  refine AWP.condT rfl ?_
  refine AWP.skip ?_
  refine AWP.block ?_
  refine AWP.seq ?_
  refine AWP.region ?_
  refine walkR ?_
  refine AWP.seq ?_
  refine AWP.rY rfl ?_
  refine walkX ?_
  refine ⟨rfl, Nat.le_of_ble_eq_true rfl, 1, 0, rfl, ?_⟩
  refine ⟨L, _, _, _, _, _, hL, rfl, rfl, ?_⟩
  refine walkX ?_
  refine ⟨rfl, _, rfl, ?_⟩
  refine AWP.fin ?_
  refine walkX ?_
  refine ⟨[], [[.cells 1 [[.hsl 4 0 0 (ks ++ [x.1]).length]]], [.lp L [(2, .ptr 0 0 0 0), (6, c)] .busy none], [.it (some (.int .i64 x.1, x.2)) (keyM (m1 ++ m3))], [.dead], [.cells 1 (intsR (ks ++ [x.1]))]], ?_, _, rfl, ?_⟩
  ·have hr : intsR (ks ++ [x.1]) = intsR ks ++ [[.sc (.int .i64 x.1)]] := by simp [intsR]
   have hl : (ks ++ [x.1]).length = ks.length + 1 := by simp
   have hm : keyM (m1 ++ m3) = keyM m1 ++ keyM m3 := List.map_append
   have g1 : ∀ y ∈ keyM m1 ++ keyM m3, Pure y.2 := by rw [← hm]; exact keyM_pure hp2
   rw [hr, hl, hm]
   (apply Sub.to [] [[(0,0)],[(1,0)],[(2,0)],[(3,0)],[(5,0)]]; all_goals (repeat' (first | exact ToAll.nil | exact famsTo.nil | exact famTo.nil | exact ToL.nil | exact ToR.nil | refine ToAll.cons ?_ ?_ | refine famsTo.cons ?_ ?_ | refine wt10 ?_ ?_ | exact To.undef _ | exact To.sc _ | exact To.hslL rfl rfl | exact To.ptrO rfl rfl rfl | exact To.mrefO rfl | exact To.nil rfl rfl rfl | exact wt1 | exact To.nilL | refine To.int ?_ | refine To.bool ?_ | refine To.hslL rfl ?_ | refine wt2 rfl ?_ ?_ ?_ | refine To.tupL ?_ | refine To.aggL ?_ | refine To.cptrL ?_ | refine wt3 ?_ | refine wt4 ?_ | refine To.cloL ?_ ?_ | exact wt5 | refine wt6 ?_ | refine ToB.one ?_ | exact wt7 | ((with_reducible apply ToL.consE); case e9 => rfl) | refine wt8 ?_ | refine ToL.cons ?_ ?_ | exact wt11 | refine wt9 ?_ ?_ | refine wt12 ?_ | (with_reducible rfl) | assumption)); all_goals (first | rfl | assumption | (simp; done) | (simp; omega) | (rw [wrap_small (by omega) (by omega)]; done) | (rw [wrap_small (by omega) (by omega)]; omega) | (refine congrArg Nat.cast ?_; assumption) | skip))
   all_goals (first | exact .yld _ _ _ _ rfl | exact ToB.dead _ | exact ToB.it _ _ (g1) (g2) | (refine ToB.lp _ _ _ _ _ fun x hx => ?_; simp only [List.mem_cons, List.not_mem_nil, or_false] at hx; rcases hx with rfl | rfl; exact To.ptrO rfl rfl rfl; exact To.pure hc))
  show Reg Try.prog F103.n _ _ _ _ _
  refine walkX ?_
  refine ⟨ks ++ [x.1], some (.int .i64 x.1, x.2), m1 ++ m3, ⟨?_, hp2, g2⟩, by simp, ?_⟩
  ·refine List.Perm.trans ?_ hk1
   rw [List.map_append, List.map_append, List.map_cons, List.append_assoc]
   refine List.Perm.append_left _ ?_
   show (x.1 :: (m1.map (·.1) ++ m3.map (·.1))).Perm _
   exact List.perm_middle.symm
  ·(apply Sub.to [] [[(0,0)],[(1,0)],[(2,0)],[(4,0)]]; all_goals (repeat' (first | exact ToAll.nil | exact famsTo.nil | exact famTo.nil | exact ToL.nil | exact ToR.nil | refine ToAll.cons ?_ ?_ | refine famsTo.cons ?_ ?_ | refine wt10 ?_ ?_ | exact To.undef _ | exact To.sc _ | exact To.hslL rfl rfl | exact To.ptrO rfl rfl rfl | exact To.mrefO rfl | exact To.nil rfl rfl rfl | exact wt1 | exact To.nilL | refine To.int ?_ | refine To.bool ?_ | refine To.hslL rfl ?_ | refine wt2 rfl ?_ ?_ ?_ | refine To.tupL ?_ | refine To.aggL ?_ | refine To.cptrL ?_ | refine wt3 ?_ | refine wt4 ?_ | refine To.cloL ?_ ?_ | exact wt5 | refine wt6 ?_ | refine ToB.one ?_ | exact wt7 | ((with_reducible apply ToL.consE); case e9 => rfl) | refine wt8 ?_ | refine ToL.cons ?_ ?_ | exact wt11 | refine wt9 ?_ ?_ | refine wt12 ?_ | (with_reducible rfl) | assumption)); all_goals (first | rfl | assumption | (simp; done) | (simp; omega) | (rw [wrap_small (by omega) (by omega)]; done) | (rw [wrap_small (by omega) (by omega)]; omega) | (refine congrArg Nat.cast ?_; assumption) | skip))
   all_goals (first | exact .yld _ _ _ _ rfl | exact ToB.dead _ | exact ToB.it _ _ (keyM_pure hp2) (g2) | (refine ToB.lp _ _ _ _ _ fun x hx => ?_; simp only [List.mem_cons, List.not_mem_nil, or_false] at hx; rcases hx with rfl | rfl; exact To.ptrO rfl rfl rfl; exact To.pure hc))
theorem appendSeq_ok (es : List (Int × AV)) (hp : ∀ x ∈ es, Pure x.2) (hn : es.length ≤ 1000000) :
  CallOK Try.prog 112 [.sc (.slice none 0 0), .clo (.func 103) [] [.cptr [.tmap (keyM es)]]] [] fun res H' => ∃ ks : List Int, ks.Perm (es.map (·.1)) ∧ res = .hsl 0 0 0 ks.length ∧ H' = [[.cells 1 (intsR ks)]] := by
 refine CallOK.of cF112 ?_ (Nat.le_of_ble_eq_true rfl)
 refine walkX ?_
 have hc : Pure (.clo (.func 103) [] [.cptr [.tmap (keyM es)]]) := .clo _ _ _ (fun _ h => by cases h) (allPure_cons (.cptr _ (allPure_cons (.tmap _ (keyM_pure hp)) allPure_nil)) allPure_nil)
 generalize hcc : AV.clo (.func 103) [] [.cptr [.tmap (keyM es)]] = c at *
 refine AWP.sub (fr' := [(2, .ptr 0 0 0 0), (6, c)]) (H' := [[.cells 1 [[.sc (.slice none 0 0)]]]]) ?_ ?_
 ·(apply Sub.to [] [[(0,0)]]; all_goals (repeat' (first | exact ToAll.nil | exact famsTo.nil | exact famTo.nil | exact ToL.nil | exact ToR.nil | refine ToAll.cons ?_ ?_ | refine famsTo.cons ?_ ?_ | refine wt10 ?_ ?_ | exact To.undef _ | exact To.sc _ | exact To.hslL rfl rfl | exact To.ptrO rfl rfl rfl | exact To.mrefO rfl | exact To.nil rfl rfl rfl | exact wt1 | exact To.nilL | refine To.int ?_ | refine To.bool ?_ | refine To.hslL rfl ?_ | refine wt2 rfl ?_ ?_ ?_ | refine To.tupL ?_ | refine To.aggL ?_ | refine To.cptrL ?_ | refine wt3 ?_ | refine wt4 ?_ | refine To.cloL ?_ ?_ | exact wt5 | refine wt6 ?_ | refine ToB.one ?_ | exact wt7 | ((with_reducible apply ToL.consE); case e9 => rfl) | refine wt8 ?_ | refine ToL.cons ?_ ?_ | exact wt11 | refine wt9 ?_ ?_ | refine wt12 ?_ | (with_reducible rfl) | assumption)); all_goals (first | rfl | assumption | (simp; done) | (simp; omega) | (rw [wrap_small (by omega) (by omega)]; done) | (rw [wrap_small (by omega) (by omega)]; omega) | (refine congrArg Nat.cast ?_; assumption) | skip))
  all_goals exact To.pure hc
 refine AWP.rangeF (g := 103) (fs := []) (cs := [.cptr [.tmap (keyM es)]]) (by rw [← hcc]; rfl) (Nat.zero_le _) rfl fun L hL => ?_
 refine (keys_ok es hp hn c hc L hL).mono ?_
 rintro res H' ⟨ks, hk, rfl⟩
 refine ⟨_, _, none, rfl, by decide, ?_⟩
 refine walkX ?_
 refine endH (res' := .hsl 0 0 0 ks.length) [[(2,0)]] (.inr rfl) rfl ⟨ks, hk, rfl, rfl⟩ ?_ ?_ rfl rfl rfl
 (all_goals (repeat' (first | exact ToAll.nil | exact famsTo.nil | exact famTo.nil | exact ToL.nil | exact ToR.nil | refine ToAll.cons ?_ ?_ | refine famsTo.cons ?_ ?_ | refine wt10 ?_ ?_ | exact To.undef _ | exact To.sc _ | exact To.hslL rfl rfl | exact To.ptrO rfl rfl rfl | exact To.mrefO rfl | exact To.nil rfl rfl rfl | exact wt1 | exact To.nilL | refine To.int ?_ | refine To.bool ?_ | refine To.hslL rfl ?_ | refine wt2 rfl ?_ ?_ ?_ | refine To.tupL ?_ | refine To.aggL ?_ | refine To.cptrL ?_ | refine wt3 ?_ | refine wt4 ?_ | refine To.cloL ?_ ?_ | exact wt5 | refine wt6 ?_ | refine ToB.one ?_ | exact wt7 | ((with_reducible apply ToL.consE); case e9 => rfl) | refine wt8 ?_ | refine ToL.cons ?_ ?_ | exact wt11 | refine wt9 ?_ ?_ | refine wt12 ?_ | (with_reducible rfl) | assumption)); all_goals (first | rfl | assumption | (simp; done) | (simp; omega) | (rw [wrap_small (by omega) (by omega)]; done) | (rw [wrap_small (by omega) (by omega)]; omega) | (refine congrArg Nat.cast ?_; assumption) | skip))
end Go.Proofs.Ytpkpfgpfkajkpaa
namespace Go.Proofs.Ytpkpfgpfkajkpaa
open Go.Av Go.Proofs
theorem backward_ok (rows : List (List AV)) (hp : ∀ r ∈ rows, ∀ c ∈ r, Pure c) : PureRun Try.prog 107 [.list 1 rows] (.clo (.func 119) [] [.cptr [.list 1 rows]]) := by
 have hpl : Pure (.list 1 rows) := .list _ _ hp
 refine PureRun.of (fun a h => by simp at h; subst h; exact hpl) (.clo _ _ _ (fun c h => by cases h) fun c h => by simp at h; subst h; exact .cptr _ fun c h => by simp at h; subst h; exact hpl) ?_
 refine CallOK.of cF107 ?_ (by simp [F107])
 refine walkW ?_
 refine ⟨.inr rfl, _, _, [], rfl, SubV.to [] [] ?_ trivial rfl rfl rfl, rfl⟩
 refine To.cloL trivial (ToL.cons (To.fzp rfl rfl rfl (To.cptrL (ToL.cons (To.pure hpl) trivial))) trivial)
theorem back_ok (rows : List (List AV)) (hn : rows.length ≤ 1000000) (g i : Nat) (Inv : Nat → Heap → Prop) (Stop : Heap → Prop) (H0 : Heap) (h0 : Inv 0 H0)
  (hlen : ∀ j H, Inv j H → H0.length ≤ H.length)
  (hround : ∀ j H c, j < rows.length → Inv j H → rows[rows.length - 1 - j]? = some [c] → YieldOK Try.prog g i [.sc (.int .i64 (rows.length - 1 - j : Nat)), c] H fun b H' => (b = true ∧ Inv (j + 1) H') ∨ (b = false ∧ Stop H')) (hr1 : ∀ r ∈ rows, r.length = 1) :
  CallOK Try.prog 119 [.yld g i, .cptr [.list 1 rows]] H0 fun _ H' => Inv rows.length H' ∨ Stop H' := by
 refine CallOK.of cF119 ?_ (by simp [F119])
 refine walkW ?_
 refine AWP.loop (σ := Nat × Heap) (fun s => [(0, .yld g i), (1, .cptr [.list 1 rows]), (3, .sc (.int .i64 ((rows.length : Int) - 1 - s.1)))]) (fun s => s.2) (fun s => s.1 ≤ rows.length ∧ Inv s.1 s.2) (fun s => rows.length - s.1) (0, H0)
  ⟨Nat.zero_le _, h0⟩ (Sub.le ?_) ?_
 ·intro x hx
  simp only [List.mem_cons, List.not_mem_nil, or_false] at hx
  rcases hx with rfl | rfl | rfl
  ·exact Le.refl _
  ·exact Le.refl _
  ·show Le (.sc (.int .i64 (IntKind.i64.wrap ((rows.length : Int) - 1)))) _
   rw [wrap_small (by omega) (by omega)]
   simp only [Int.ofNat_zero, Int.sub_zero]
   exact Le.refl _
 rintro ⟨j, H⟩ ⟨hj, hI⟩
 simp only at hj hI
 refine walkW ?_
 refine AWP.cond rfl (fun h => ?_) (fun h => ?_)
 ·have hlt : j < rows.length := by simp at h; omega
  have hcast : (rows.length : Int) - 1 - (j : Int) = ((rows.length - 1 - j : Nat) : Int) := by omega
  obtain ⟨c, hc⟩ : ∃ c, rows[rows.length - 1 - j]? = some [c] := by
   have hlt2 : rows.length - 1 - j < rows.length := by omega
   have h1 := hr1 _ (List.getElem_mem hlt2)
   obtain ⟨c, hc⟩ := List.length_eq_one_iff.1 h1
   exact ⟨c, by rw [List.getElem?_eq_getElem hlt2, hc]⟩
  have hix : rowIx rows ((rows.length : Int) - 1 - (j : Int)) = some [c] := by rw [hcast, rowIx_nat]; exact hc
  refine AWP.skip ?_
  refine AWP.seq ?_
  refine AWP.block ?_
  refine AWP.seq ?_
  refine AWP.rY rfl ?_
  refine walkW ?_
  refine ⟨rfl, hlen j H hI, g, i, rfl, ?_⟩
  have hy := hround j H c hlt hI hc
  rw [← hcast] at hy
  refine hy.mono fun b H' hb => ?_
  rcases hb with ⟨rfl, hI'⟩ | ⟨rfl, hS⟩
  ·refine walkW ?_
   refine ⟨(j + 1, H'), ⟨by simp only; omega, hI'⟩, by simp only; omega, Sub.le ?_⟩
   intro x hx
   simp only [List.mem_cons, List.not_mem_nil, or_false] at hx
   rcases hx with rfl | rfl | rfl
   ·exact Le.refl _
   ·exact Le.refl _
   ·show Le (.sc (.int .i64 (IntKind.i64.wrap ((rows.length : Int) - 1 - j - 1)))) _
    rw [wrap_small (by omega) (by omega), show (rows.length : Int) - 1 - j - 1 = (rows.length : Int) - 1 - ((j + 1 : Nat) : Int) by omega]
    exact Le.refl _
  ·refine walkW ?_
   exact ⟨.inr rfl, _, _, _, rfl, .refl _ _ _, .inr hS⟩
 ·have hjn : j = rows.length := by simp at h; omega
  subst hjn
  refine walkW ?_
  exact ⟨.inl rfl, _, _, _, rfl, .refl _ _ _, .inl hI⟩
end Go.Proofs.Ytpkpfgpfkajkpaa
namespace Go.Proofs.Ytpkpfgpfkajkpaa
open Go.Av Go.Proofs
set_option maxRecDepth 20000
theorem isNaN_ok (x : Int) : PureRun Try.prog 137 [.sc (.int .i64 x)] (.sc (.bool false)) := by
 refine PureRun.mkI cF137 (Nat.le_of_ble_eq_true rfl) ?_
 refine walkX ?_
 rw [show (x != x) = false by simp]
 exact EndP.w
theorem less_ok (x y : Int) : PureRun Try.prog 126 [.sc (.int .i64 x), .sc (.int .i64 y)] (.sc (.bool (decide (x < y)))) := by
 refine PureRun.mkI cF126 (Nat.le_of_ble_eq_true rfl) ?_
 have h1 := isNaN_ok x
 have h2 := isNaN_ok y
 refine walkX ?_
 exact EndP.w
def swapN (l : List Int) (j : Nat) : List Int := (l.set (j + 1) (l.getD j 0)).set j (l.getD (j + 1) 0)
theorem swapN_perm {l : List Int} {j : Nat} (h : j + 1 < l.length) : (swapN l j).Perm l := by
 unfold swapN
 have e1 : l.getD j 0 = l[j] := by simp [List.getD, List.getElem?_eq_getElem (show j < l.length by omega)]
 have e2 : l.getD (j + 1) 0 = l[j + 1] := by simp [List.getD, List.getElem?_eq_getElem h]
 rw [e1, e2]
 exact List.set_set_perm h (by omega)
theorem swapN_get {l : List Int} {j q : Nat} (h : j + 1 < l.length) : (swapN l j).getD q 0 = if q = j then l.getD (j + 1) 0 else if q = j + 1 then l.getD j 0 else l.getD q 0 := by
 unfold swapN
 simp only [List.getD_eq_getElem?_getD, List.getElem?_set, List.length_set]
 by_cases e1 : q = j
 ·subst e1
  rw [if_pos rfl, if_pos rfl, if_pos (by omega)]
  rfl
 ·rw [if_neg (fun e => e1 e.symm), if_neg e1]
  by_cases e2 : q = j + 1
  ·subst e2
   rw [if_pos rfl, if_pos rfl, if_pos h]
   rfl
  ·rw [if_neg (fun e => e2 e.symm), if_neg e2]
def InsI (l : List Int) (i j : Nat) : Prop := ∀ p q, p < q → q ≤ i → q ≠ j → l.getD p 0 ≤ l.getD q 0
theorem InsI.step {l : List Int} {i j : Nat} (h : InsI l i (j + 1)) (hi : i < l.length) (hj : j + 1 ≤ i) (hlt : l.getD (j + 1) 0 < l.getD j 0) : InsI (swapN l j) i j := by
 intro p q hpq hq hne
 rw [swapN_get (by omega), swapN_get (by omega), if_neg hne]
 by_cases e2 : q = j + 1
 ·rw [if_pos e2]
  by_cases e3 : p = j
  ·rw [if_pos e3]; omega
  ·rw [if_neg e3, if_neg (by omega)]
   exact h p j (by omega) (by omega) (by omega)
 ·rw [if_neg e2]
  by_cases e3 : p = j
  ·rw [if_pos e3]
   exact h (j + 1) q (by omega) hq e2
  ·rw [if_neg e3]
   by_cases e4 : p = j + 1
   ·rw [if_pos e4]
    exact h j q (by omega) hq e2
   ·rw [if_neg e4]
    exact h p q hpq hq e2
theorem InsI.done {l : List Int} {i j : Nat} (h : InsI l i j) (hj : j = 0 ∨ ¬ l.getD j 0 < l.getD (j - 1) 0) : ∀ p q, p < q → q ≤ i → l.getD p 0 ≤ l.getD q 0 := by
 intro p q hpq hq
 by_cases e : q = j
 ·subst e
  rcases hj with hj | hj
  ·omega
  ·by_cases e2 : p = q - 1
   ·subst e2; omega
   ·have := h p (q - 1) (by omega) (by omega) (by omega)
    omega
 ·exact h p q hpq hq e
theorem intsR_at {l : List Int} {q : Nat} (h : q < l.length) : (intsR l)[q]? = some [.sc (.int .i64 (l.getD q 0))] := by
 unfold intsR
 rw [List.getElem?_map, List.getElem?_eq_getElem h]
 simp [List.getD, List.getElem?_eq_getElem h]
theorem intsR_set (l : List Int) (q : Nat) (x : Int) : (intsR l).set q [.sc (.int .i64 x)] = intsR (l.set q x) := by
 unfold intsR
 rw [List.map_set]
set_option maxHeartbeats 4000000 in
theorem insertion_ok (l : List Int) (hl : l.length ≤ 1000000) : CallOK Try.prog 120 [.hsl 0 0 0 l.length, .sc (.int .i64 (0 : Nat)), .sc (.int .i64 (l.length : Int))] [[.cells 1 (intsR l)]] fun _ H' =>
  ∃ m : List Int, m.Perm l ∧ (∀ p q, p < q → q < m.length → m.getD p 0 ≤ m.getD q 0) ∧ H' = [[.cells 1 (intsR m)]] := by
 refine CallOK.of cF120 ?_ (Nat.le_of_ble_eq_true rfl)
 refine walkX ?_
 refine AWP.loop2 (fun (m : List Int) (i : Nat) => [(0, .hsl 0 0 0 l.length), (1, .sc (.int .i64 (0 : Nat))), (2, .sc (.int .i64 (l.length : Int))), (6, .sc (.int .i64 (i : Int)))])
  (fun m i => [[.cells 1 (intsR m)]]) (fun m i => m.Perm l ∧ 1 ≤ i ∧ (i ≤ l.length ∨ i = 1) ∧ ∀ p q, p < q → q < i → m.getD p 0 ≤ m.getD q 0) (fun m i => l.length - i) l 1 ⟨.refl _, Nat.le_refl _, .inr rfl, fun p q h1 h2 => by omega⟩ ?_ ?_
 ·exact Sub.w [] [[(0,0)]]
 rintro m i ⟨hm, hi1, hi2, hs⟩
 have hml := hm.length_eq
 refine walkX ?_
 refine AWP.condD rfl (fun hlt => ?_) (fun hge => ?_)
 ·refine walkX ?_
  refine AWP.loop2 (fun (m : List Int) (j : Nat) => [(0, .hsl 0 0 0 l.length), (1, .sc (.int .i64 (0 : Nat))), (2, .sc (.int .i64 (l.length : Int))), (6, .sc (.int .i64 (i : Int))), (7, .sc (.int .i64 (j : Int)))])
   (fun m j => [[.cells 1 (intsR m)]]) (fun m j => m.Perm l ∧ j ≤ i ∧ InsI m i j) (fun m j => j) m i ⟨hm, Nat.le_refl _, fun p q h1 h2 h3 => hs p q h1 (by omega)⟩ ?_ ?_
  ·exact Sub.w [] [[(0,0)]]
  clear hm hs hml
  rintro m j ⟨hm, hj, hI⟩
  have hml := hm.length_eq
  by_cases j0 : j = 0
  ·subst j0
   refine walkX ?_
   refine DK.nil ⟨by kernel_rfl, ?_⟩
   refine walkX ?_
   refine ⟨m, i + 1, ⟨hm, by omega, .inl (by omega), fun p q h1 h2 => InsI.done hI (.inl rfl) p q h1 (by omega)⟩, by omega, ?_⟩
   exact Sub.w [] [[(0,0)]]
  obtain ⟨q, rfl⟩ : ∃ q, j = q + 1 := ⟨j - 1, by omega⟩
  have x1 := intsR_at (l := m) (q := q + 1) (by omega)
  have x2 := intsR_at (l := m) (q := q) (by omega)
  have e0 := intsR_len m
  have hles := less_ok (m.getD (q + 1) 0) (m.getD q 0)
  have c1 : decide (0 < q + 1) = true := decide_eq_true (by omega)
  refine walkX ?_
  refine DK.nil ⟨by kernel_rfl, ?_⟩
  refine AWP.condD rfl (fun hless => ?_) (fun hless => ?_)
  ·have x3 : ((intsR m).set (q + 1) [.sc (.int .i64 (m.getD q 0))])[q]? = some [.sc (.int .i64 (m.getD q 0))] := by
    rw [intsR_set, intsR_at (by simp; omega)]
    simp [List.getD]
   have hset : ((intsR m).set (q + 1) [.sc (.int .i64 (m.getD q 0))]).set q [.sc (.int .i64 (m.getD (q + 1) 0))] = intsR (swapN m q) := by
    rw [intsR_set, intsR_set]
    rfl
   refine walkX ?_
   refine DK.nil ⟨by kernel_rfl, ?_⟩
   refine walkX ?_
   refine ⟨swapN m q, q, ⟨(swapN_perm (by omega)).trans hm, by omega, InsI.step hI (by omega) hj hless⟩, by omega, ?_⟩
   (apply Sub.to [] [[(0,0)]]; all_goals (repeat' (first | exact ToAll.nil | exact famsTo.nil | exact famTo.nil | exact ToL.nil | exact ToR.nil | refine ToAll.cons ?_ ?_ | refine famsTo.cons ?_ ?_ | refine wt10 ?_ ?_ | exact To.undef _ | exact To.sc _ | exact To.hslL rfl rfl | exact To.ptrO rfl rfl rfl | exact To.mrefO rfl | exact To.nil rfl rfl rfl | exact wt1 | exact To.nilL | refine To.int ?_ | refine To.bool ?_ | refine To.hslL rfl ?_ | refine wt2 rfl ?_ ?_ ?_ | refine To.tupL ?_ | refine To.aggL ?_ | refine To.cptrL ?_ | refine wt3 ?_ | refine wt4 ?_ | refine To.cloL ?_ ?_ | exact wt5 | refine wt6 ?_ | refine ToB.one ?_ | exact wt7 | ((with_reducible apply ToL.consE); case e9 => rfl) | refine wt8 ?_ | refine ToL.cons ?_ ?_ | exact wt11 | refine wt9 ?_ ?_ | refine wt12 ?_ | (with_reducible rfl) | assumption)); all_goals (first | rfl | assumption | (simp; done) | (simp; omega) | (rw [wrap_small (by omega) (by omega)]; done) | (rw [wrap_small (by omega) (by omega)]; omega) | (refine congrArg Nat.cast ?_; assumption) | skip))
  ·refine walkX ?_
   refine ⟨m, i + 1, ⟨hm, by omega, .inl (by omega), fun p r h1 h2 => InsI.done hI (.inr hless) p r h1 (by omega)⟩, by omega, ?_⟩
   exact Sub.w [] [[(0,0)]]
 ·refine walkX ?_
  refine endH (res' := .tup []) [[(0,0)]] (.inl rfl) rfl ⟨m, hm, fun p q h1 h2 => hs p q h1 (by omega), rfl⟩ ?_ ?_ rfl rfl rfl
  (all_goals (repeat' (first | exact ToAll.nil | exact famsTo.nil | exact famTo.nil | exact ToL.nil | exact ToR.nil | refine ToAll.cons ?_ ?_ | refine famsTo.cons ?_ ?_ | refine wt10 ?_ ?_ | exact To.undef _ | exact To.sc _ | exact To.hslL rfl rfl | exact To.ptrO rfl rfl rfl | exact To.mrefO rfl | exact To.nil rfl rfl rfl | exact wt1 | exact To.nilL | refine To.int ?_ | refine To.bool ?_ | refine To.hslL rfl ?_ | refine wt2 rfl ?_ ?_ ?_ | refine To.tupL ?_ | refine To.aggL ?_ | refine To.cptrL ?_ | refine wt3 ?_ | refine wt4 ?_ | refine To.cloL ?_ ?_ | exact wt5 | refine wt6 ?_ | refine ToB.one ?_ | exact wt7 | ((with_reducible apply ToL.consE); case e9 => rfl) | refine wt8 ?_ | refine ToL.cons ?_ ?_ | exact wt11 | refine wt9 ?_ ?_ | refine wt12 ?_ | (with_reducible rfl) | assumption)); all_goals (first | rfl | assumption | (simp; done) | (simp; omega) | (rw [wrap_small (by omega) (by omega)]; done) | (rw [wrap_small (by omega) (by omega)]; omega) | (refine congrArg Nat.cast ?_; assumption) | skip))
theorem len64_0 : PureRun Try.prog 130 [.sc (.int .u64 0)] (.sc (.int .i64 0)) := by
 refine PureRun.mkI cF130 (Nat.le_of_ble_eq_true rfl) ?_
 refine walkX ?_
 exact EndP.w
theorem len64_1 : PureRun Try.prog 130 [.sc (.int .u64 1)] (.sc (.int .i64 1)) := by
 refine PureRun.mkI cF130 (Nat.le_of_ble_eq_true rfl) ?_
 refine walkX ?_
 exact EndP.w
theorem len64_2 : PureRun Try.prog 130 [.sc (.int .u64 2)] (.sc (.int .i64 2)) := by
 refine PureRun.mkI cF130 (Nat.le_of_ble_eq_true rfl) ?_
 refine walkX ?_
 exact EndP.w
theorem len64_3 : PureRun Try.prog 130 [.sc (.int .u64 3)] (.sc (.int .i64 2)) := by
 refine PureRun.mkI cF130 (Nat.le_of_ble_eq_true rfl) ?_
 refine walkX ?_
 exact EndP.w
theorem len64_4 : PureRun Try.prog 130 [.sc (.int .u64 4)] (.sc (.int .i64 3)) := by
 refine PureRun.mkI cF130 (Nat.le_of_ble_eq_true rfl) ?_
 refine walkX ?_
 exact EndP.w
theorem len64_5 : PureRun Try.prog 130 [.sc (.int .u64 5)] (.sc (.int .i64 3)) := by
 refine PureRun.mkI cF130 (Nat.le_of_ble_eq_true rfl) ?_
 refine walkX ?_
 exact EndP.w
theorem len64_6 : PureRun Try.prog 130 [.sc (.int .u64 6)] (.sc (.int .i64 3)) := by
 refine PureRun.mkI cF130 (Nat.le_of_ble_eq_true rfl) ?_
 refine walkX ?_
 exact EndP.w
theorem len64_7 : PureRun Try.prog 130 [.sc (.int .u64 7)] (.sc (.int .i64 3)) := by
 refine PureRun.mkI cF130 (Nat.le_of_ble_eq_true rfl) ?_
 refine walkX ?_
 exact EndP.w
theorem len64_8 : PureRun Try.prog 130 [.sc (.int .u64 8)] (.sc (.int .i64 4)) := by
 refine PureRun.mkI cF130 (Nat.le_of_ble_eq_true rfl) ?_
 refine walkX ?_
 exact EndP.w
theorem len64_9 : PureRun Try.prog 130 [.sc (.int .u64 9)] (.sc (.int .i64 4)) := by
 refine PureRun.mkI cF130 (Nat.le_of_ble_eq_true rfl) ?_
 refine walkX ?_
 exact EndP.w
theorem len64_10 : PureRun Try.prog 130 [.sc (.int .u64 10)] (.sc (.int .i64 4)) := by
 refine PureRun.mkI cF130 (Nat.le_of_ble_eq_true rfl) ?_
 refine walkX ?_
 exact EndP.w
theorem len64_11 : PureRun Try.prog 130 [.sc (.int .u64 11)] (.sc (.int .i64 4)) := by
 refine PureRun.mkI cF130 (Nat.le_of_ble_eq_true rfl) ?_
 refine walkX ?_
 exact EndP.w
theorem len64_12 : PureRun Try.prog 130 [.sc (.int .u64 12)] (.sc (.int .i64 4)) := by
 refine PureRun.mkI cF130 (Nat.le_of_ble_eq_true rfl) ?_
 refine walkX ?_
 exact EndP.w
theorem len64_ok (x : Nat) (h : x ≤ 12) : ∃ n : Int, PureRun Try.prog 130 [.sc (.int .u64 (x : Int))] (.sc (.int .i64 n)) := by
 match x, h with
 | 0, _ => exact ⟨_, len64_0⟩
 | 1, _ => exact ⟨_, len64_1⟩
 | 2, _ => exact ⟨_, len64_2⟩
 | 3, _ => exact ⟨_, len64_3⟩
 | 4, _ => exact ⟨_, len64_4⟩
 | 5, _ => exact ⟨_, len64_5⟩
 | 6, _ => exact ⟨_, len64_6⟩
 | 7, _ => exact ⟨_, len64_7⟩
 | 8, _ => exact ⟨_, len64_8⟩
 | 9, _ => exact ⟨_, len64_9⟩
 | 10, _ => exact ⟨_, len64_10⟩
 | 11, _ => exact ⟨_, len64_11⟩
 | 12, _ => exact ⟨_, len64_12⟩
theorem len_ok (x : Nat) (h : x ≤ 12) : ∃ n : Int, PureRun Try.prog 114 [.sc (.int .u64 (x : Int))] (.sc (.int .i64 n)) := by
 obtain ⟨n, hn⟩ := len64_ok x h
 refine ⟨n, ?_⟩
 refine PureRun.mkI cF114 (Nat.le_of_ble_eq_true rfl) ?_
 refine walkX ?_
 exact EndP.w
theorem pdq_ok (l : List Int) (hl : l.length ≤ 12) (n : Int) : CallOK Try.prog 113 [.hsl 0 0 0 l.length, .sc (.int .i64 (0 : Nat)), .sc (.int .i64 (l.length : Int)), .sc (.int .i64 n)] [[.cells 1 (intsR l)]] fun _ H' =>
  ∃ m : List Int, m.Perm l ∧ (∀ p q, p < q → q < m.length → m.getD p 0 ≤ m.getD q 0) ∧ H' = [[.cells 1 (intsR m)]] := by
 refine CallOK.of cF113 ?_ (Nat.le_of_ble_eq_true rfl)
 have hi := insertion_ok l (by omega)
 refine walkX ?_
 refine AWP.loop (fun (_ : Unit) => [(0, .hsl 0 0 0 l.length), (1, .sc (.int .i64 (0 : Nat))), (2, .sc (.int .i64 (l.length : Int))), (3, .sc (.int .i64 n))]) (fun _ => [[.cells 1 (intsR l)]]) (fun _ => True) (fun _ => 0) () trivial ?_ ?_
 ·exact Sub.w [] [[(0,0)]]
 intro _ _
 refine walkX ?_
 rw [decide_eq_true (show l.length - 0 ≤ 12 by omega)]
 refine walkX ?_
 refine Reg.c (Nat.le_refl _) rfl (hi.mono ?_)
 rintro res H' ⟨m, h1, h2, rfl⟩
 refine walkX ?_
 refine endH (res' := .tup []) [[(0,0)]] (.inr rfl) rfl ⟨m, h1, h2, rfl⟩ ?_ ?_ rfl rfl rfl
 (all_goals (repeat' (first | exact ToAll.nil | exact famsTo.nil | exact famTo.nil | exact ToL.nil | exact ToR.nil | refine ToAll.cons ?_ ?_ | refine famsTo.cons ?_ ?_ | refine wt10 ?_ ?_ | exact To.undef _ | exact To.sc _ | exact To.hslL rfl rfl | exact To.ptrO rfl rfl rfl | exact To.mrefO rfl | exact To.nil rfl rfl rfl | exact wt1 | exact To.nilL | refine To.int ?_ | refine To.bool ?_ | refine To.hslL rfl ?_ | refine wt2 rfl ?_ ?_ ?_ | refine To.tupL ?_ | refine To.aggL ?_ | refine To.cptrL ?_ | refine wt3 ?_ | refine wt4 ?_ | refine To.cloL ?_ ?_ | exact wt5 | refine wt6 ?_ | refine ToB.one ?_ | exact wt7 | ((with_reducible apply ToL.consE); case e9 => rfl) | refine wt8 ?_ | refine ToL.cons ?_ ?_ | exact wt11 | refine wt9 ?_ ?_ | refine wt12 ?_ | (with_reducible rfl) | assumption)); all_goals (first | rfl | assumption | (simp; done) | (simp; omega) | (rw [wrap_small (by omega) (by omega)]; done) | (rw [wrap_small (by omega) (by omega)]; omega) | (refine congrArg Nat.cast ?_; assumption) | skip))
theorem sort_ok (l : List Int) (hl : l.length ≤ 12) : CallOK Try.prog 102 [.hsl 0 0 0 l.length] [[.cells 1 (intsR l)]] fun _ H' =>
  ∃ m : List Int, m.Perm l ∧ (∀ p q, p < q → q < m.length → m.getD p 0 ≤ m.getD q 0) ∧ H' = [[.cells 1 (intsR m)]] := by
 refine CallOK.of cF102 ?_ (Nat.le_of_ble_eq_true rfl)
 obtain ⟨n, hn⟩ := len_ok l.length hl
 have hp := pdq_ok l hl n
 refine walkX ?_
 refine Reg.c (Nat.le_refl _) rfl (hp.mono ?_)
 rintro res H' ⟨m, h1, h2, rfl⟩
 refine walkX ?_
 refine endH (res' := .tup []) [[(0,0)]] (.inl rfl) rfl ⟨m, h1, h2, rfl⟩ ?_ ?_ rfl rfl rfl
 (all_goals (repeat' (first | exact ToAll.nil | exact famsTo.nil | exact famTo.nil | exact ToL.nil | exact ToR.nil | refine ToAll.cons ?_ ?_ | refine famsTo.cons ?_ ?_ | refine wt10 ?_ ?_ | exact To.undef _ | exact To.sc _ | exact To.hslL rfl rfl | exact To.ptrO rfl rfl rfl | exact To.mrefO rfl | exact To.nil rfl rfl rfl | exact wt1 | exact To.nilL | refine To.int ?_ | refine To.bool ?_ | refine To.hslL rfl ?_ | refine wt2 rfl ?_ ?_ ?_ | refine To.tupL ?_ | refine To.aggL ?_ | refine To.cptrL ?_ | refine wt3 ?_ | refine wt4 ?_ | refine To.cloL ?_ ?_ | exact wt5 | refine wt6 ?_ | refine ToB.one ?_ | exact wt7 | ((with_reducible apply ToL.consE); case e9 => rfl) | refine wt8 ?_ | refine ToL.cons ?_ ?_ | exact wt11 | refine wt9 ?_ ?_ | refine wt12 ?_ | (with_reducible rfl) | assumption)); all_goals (first | rfl | assumption | (simp; done) | (simp; omega) | (rw [wrap_small (by omega) (by omega)]; done) | (rw [wrap_small (by omega) (by omega)]; omega) | (refine congrArg Nat.cast ?_; assumption) | skip))
theorem collect_ok (es : List (Int × AV)) (hp : ∀ x ∈ es, Pure x.2) (hn : es.length ≤ 1000000) :
  CallOK Try.prog 101 [.clo (.func 103) [] [.cptr [.tmap (keyM es)]]] [] fun res H' => ∃ ks : List Int, ks.Perm (es.map (·.1)) ∧ res = .hsl 0 0 0 ks.length ∧ H' = [[.cells 1 (intsR ks)]] := by
 refine CallOK.of cF101 ?_ (Nat.le_of_ble_eq_true rfl)
 refine walkX ?_
 refine Reg.c (Nat.zero_le _) rfl ((appendSeq_ok es hp hn).mono ?_)
 rintro res H' ⟨ks, h1, rfl, rfl⟩
 refine walkX ?_
 refine endH (res' := .hsl 0 0 0 ks.length) [[(0,0)]] (.inr rfl) rfl ⟨ks, h1, rfl, rfl⟩ ?_ ?_ rfl rfl rfl
 (all_goals (repeat' (first | exact ToAll.nil | exact famsTo.nil | exact famTo.nil | exact ToL.nil | exact ToR.nil | refine ToAll.cons ?_ ?_ | refine famsTo.cons ?_ ?_ | refine wt10 ?_ ?_ | exact To.undef _ | exact To.sc _ | exact To.hslL rfl rfl | exact To.ptrO rfl rfl rfl | exact To.mrefO rfl | exact To.nil rfl rfl rfl | exact wt1 | exact To.nilL | refine To.int ?_ | refine To.bool ?_ | refine To.hslL rfl ?_ | refine wt2 rfl ?_ ?_ ?_ | refine To.tupL ?_ | refine To.aggL ?_ | refine To.cptrL ?_ | refine wt3 ?_ | refine wt4 ?_ | refine To.cloL ?_ ?_ | exact wt5 | refine wt6 ?_ | refine ToB.one ?_ | exact wt7 | ((with_reducible apply ToL.consE); case e9 => rfl) | refine wt8 ?_ | refine ToL.cons ?_ ?_ | exact wt11 | refine wt9 ?_ ?_ | refine wt12 ?_ | (with_reducible rfl) | assumption)); all_goals (first | rfl | assumption | (simp; done) | (simp; omega) | (rw [wrap_small (by omega) (by omega)]; done) | (rw [wrap_small (by omega) (by omega)]; omega) | (refine congrArg Nat.cast ?_; assumption) | skip))
def sortI (l : List Int) : List Int := l.mergeSort (fun a b => decide (a ≤ b))
theorem sorted_eq {l m : List Int} (h : m.Perm l) (hs : ∀ p q, p < q → q < m.length → m.getD p 0 ≤ m.getD q 0) : m = sortI l := by
 have tr : ∀ a b c : Int, decide (a ≤ b) = true → decide (b ≤ c) = true → decide (a ≤ c) = true := fun a b c h1 h2 => by simp only [decide_eq_true_eq] at *; omega
 have to : ∀ a b : Int, (decide (a ≤ b) || decide (b ≤ a)) = true := fun a b => by simp only [Bool.or_eq_true, decide_eq_true_eq]; omega
 have hp : m.Pairwise (fun a b => decide (a ≤ b) = true) := List.pairwise_iff_getElem.2 fun p q h1 h2 h3 => by
  have := hs p q h3 h2
  simp only [List.getD_eq_getElem?_getD, List.getElem?_eq_getElem h1, List.getElem?_eq_getElem h2, Option.getD_some] at this
  exact decide_eq_true this
 refine List.Perm.eq_of_pairwise (le := fun a b => decide (a ≤ b) = true) (fun a b _ _ h1 h2 => ?_) hp (List.pairwise_mergeSort tr to l) (h.trans (List.mergeSort_perm l _).symm)
 simp only [decide_eq_true_eq] at h1 h2
 omega
theorem sortI_perm {l m : List Int} (h : l.Perm m) : sortI l = sortI m := by
 have h1 := List.mergeSort_perm l (fun a b => decide (a ≤ b))
 have tr : ∀ a b c : Int, decide (a ≤ b) = true → decide (b ≤ c) = true → decide (a ≤ c) = true := fun a b c h1 h2 => by simp only [decide_eq_true_eq] at *; omega
 have to : ∀ a b : Int, (decide (a ≤ b) || decide (b ≤ a)) = true := fun a b => by simp only [Bool.or_eq_true, decide_eq_true_eq]; omega
 refine List.Perm.eq_of_pairwise (le := fun a b => decide (a ≤ b) = true) (fun a b _ _ h1 h2 => ?_) (List.pairwise_mergeSort tr to l) (List.pairwise_mergeSort tr to m) ((h1.trans h).trans (List.mergeSort_perm m _).symm)
 simp only [decide_eq_true_eq] at h1 h2
 omega
def intsV (l : List Int) : AV := .list 1 (intsR l)
instance (l : List Int) : PV (intsV l) := ⟨.list _ _ (prs _)⟩
theorem sorted_ok (es : List (Int × AV)) (hp : ∀ x ∈ es, Pure x.2) (hn : es.length ≤ 12) : CallOK Try.prog 65 [.clo (.func 103) [] [.cptr [.tmap (keyM es)]]] [] fun res H' => res = .hsl 0 0 0 es.length ∧ H' = [[.cells 1 (intsR (sortI (es.map (·.1))))]] := by
 refine CallOK.of cF65 ?_ (Nat.le_of_ble_eq_true rfl)
 refine walkX ?_
 refine Reg.c (Nat.zero_le _) rfl ((collect_ok es hp (by omega)).mono ?_)
 rintro res H' ⟨ks, h1, rfl, rfl⟩
 have hl := h1.length_eq
 rw [List.length_map] at hl
 refine walkX ?_
 refine Reg.c (Nat.zero_le _) rfl ((sort_ok ks (by omega)).mono ?_)
 rintro res H' ⟨m, h2, h3, rfl⟩
 have hml := h2.length_eq
 rw [sorted_eq h2 h3, sortI_perm h1, hl]
 refine walkX ?_
 exact endW [[(0,0)]] (⟨rfl, rfl⟩)
theorem sorted_at {H : Heap} {g i g' i' : Nat} (es : List (Int × AV)) (h1 : hget H g i = some (.cells 1 [[.mref g' i']])) (h2 : hget H g' i' = some (.map (keyM es))) (hn : es.length ≤ 12) :
  CallOK Try.prog 65 [.clo (.func 103) [] [.ptr g i 0 0]] H fun res H' => res = .hsl H.length 0 0 es.length ∧ H' = H ++ [[.cells 1 (intsR (sortI (es.map (·.1))))]] := by
 have e1 : (es.map fun p => (p.1, AV.undef)).map (·.1) = es.map (·.1) := by rw [List.map_map]; rfl
 have e2 : (es.map fun p => (p.1, AV.undef)).length = es.length := by simp
 have hs := sorted_ok (es.map fun p => (p.1, AV.undef)) (fun x hx => by obtain ⟨y, _, rfl⟩ := List.mem_map.1 hx; exact .undef) (by rw [e2]; exact hn)
 rw [e1, e2] at hs
 have h1' : hget (H ++ gh []) g i = some (.cells 1 [[.mref g' i']]) := by rw [show H ++ gh [] = H from List.append_nil H]; exact h1
 have h2' : hget (H ++ gh []) g' i' = some (.map (keyM es)) := by rw [show H ++ gh [] = H from List.append_nil H]; exact h2
 refine CallOK.viewL (fun r hr c hc => ?_) hs (ToL.cons (To.cloL trivial (ToL.cons (To.fzp h1' rfl rfl (To.cptrL (ToL.cons (To.fzm h2' rfl (.tmap _ _ ?_ (fun j x y a b => ?_) fun j x y a b => ?_)) ToL.nil))) ToL.nil)) ToL.nil)
 ·obtain ⟨n, _, rfl⟩ := List.mem_map.1 hr
  exact ⟨_, List.mem_singleton.1 hc⟩
 ·simp [keyM]
 ·unfold keyM at a b
  rw [List.getElem?_map] at a
  rw [List.map_map, List.getElem?_map] at b
  cases hq : es[j]? with
  | none => rw [hq] at a; cases a
  | some p =>
   rw [hq] at a b
   simp only [Option.map_some, Option.some.injEq] at a b
   subst a; subst b
   rfl
 ·unfold keyM at b
  rw [List.map_map, List.getElem?_map] at b
  cases hq : es[j]? with
  | none => rw [hq] at b; cases b
  | some p =>
   rw [hq] at b
   simp only [Option.map_some, Option.some.injEq] at b
   subst b
   exact .undef _
end Go.Proofs.Ytpkpfgpfkajkpaa
namespace Go.Proofs.Ytpkpfgpfkajkpaa
open Go.Av Go.Proofs
set_option maxRecDepth 20000
def natsR (l : List Nat) : List (List AV) := l.map fun n : Nat => [.sc (.int .i64 (n : Int))]
theorem natsR_len (l : List Nat) : (natsR l).length = l.length := by simp [natsR]
instance (l : List Nat) : PRs (natsR l) := ⟨fun r hr => by
 obtain ⟨a, _, rfl⟩ := List.mem_map.1 hr
 exact allPure_cons (.sc _) allPure_nil⟩
theorem natsR_ix (l : List Nat) (k : Nat) (h : k < l.length) : rowIx (natsR l) (k : Int) = some [.sc (.int .i64 (l[k] : Nat))] := rowIx_map (fun n : Nat => [.sc (.int .i64 (n : Int))]) l k h
def natsV (l : List Nat) : AV := .list 1 (natsR l)
instance (l : List Nat) : PV (natsV l) := ⟨.list _ _ (prs _)⟩
def prodN (l : List Nat) : Nat := l.foldr (· * ·) 1
def coordN : List Nat → Nat → List Nat
 | [], _ => []
 | a :: t, r => r / prodN t % a :: coordN t r
theorem coordN_len : ∀ (l : List Nat) (r : Nat), (coordN l r).length = l.length
 | [], _ => rfl
 | _ :: t, r => by simp [coordN, coordN_len t r]
def coordsAt (s : List Nat) (r p : Nat) : List Nat := List.replicate p 0 ++ coordN (s.drop p) r
theorem coordsAt_len {s : List Nat} {r p : Nat} (h : p ≤ s.length) : (coordsAt s r p).length = s.length := by simp [coordsAt, coordN_len]; omega
theorem coordsAt_set {s : List Nat} {r p : Nat} (h : p < s.length) : (coordsAt s r (p + 1)).set p (r / prodN (s.drop (p + 1)) % s[p]) = coordsAt s r p := by
 unfold coordsAt
 rw [List.drop_eq_getElem_cons h]
 show _ = List.replicate p 0 ++ (r / prodN (s.drop (p + 1)) % s[p]) :: coordN (s.drop (p + 1)) r
 rw [List.replicate_succ', List.append_assoc, List.set_append_right _ _ (by simp)]
 simp
theorem prodN_drop {s : List Nat} {p : Nat} (h : p < s.length) : prodN (s.drop p) = s[p] * prodN (s.drop (p + 1)) := by
 rw [List.drop_eq_getElem_cons h]
 rfl
theorem natsR_set (l : List Nat) (q x : Nat) : (natsR l).set q [.sc (.int .i64 (x : Int))] = natsR (l.set q x) := by
 unfold natsR
 rw [List.map_set]
instance (l : List (List AV)) (k : Nat) (r : List AV) [PRs l] [PR r] : PRs (l.set k r) := ⟨fun x hx => by
 rcases List.mem_or_eq_of_mem_set hx with h | rfl
 ·exact prs l x h
 ·exact pr _⟩
set_option maxHeartbeats 4000000 in
theorem coords_ok (s : List Nat) (W : List (List AV)) [PRs W] (r : Nat) (hs : s.length ≤ 1000) (h0 : ∀ a ∈ s, 0 < a ∧ a ≤ 1000) (hr : r ≤ 1000000) :
  CallOK Try.prog 74 [.agg [natsV s, .list 1 W], .sc (.int .i64 (r : Int))] [] fun res H' => res = .hsl 0 0 0 s.length ∧ H' = [[.cells 1 (natsR (coordN s r))]] := by
 refine CallOK.of cF74 ?_ (Nat.le_of_ble_eq_true rfl)
 have e0 := natsR_len s
 unfold natsV
 have hbk := backward_ok (natsR s) (prs _)
 refine walkX ?_
 rw [e0]
 refine Reg.o rfl (dstep_mk (n := s.length) rfl (by omega) (by omega)) ?_
 refine walkX ?_
 have hz : List.replicate s.length (zrow [(1, Value.int .i64 0)]) = natsR (coordsAt s r s.length) := by
  unfold coordsAt natsR
  rw [List.drop_length]
  simp [coordN, zrow]
 refine AWP.sub (fr' := [(3, .ptr 1 0 0 0), (5, .ptr 2 0 0 0), (14, .clo (.func 119) [] [.cptr [.list 1 (natsR s)]])]) (H' := [[.cells 2 [[.list 1 (natsR s), .list 1 W]]], [.cells 1 [[.sc (.int .i64 (r : Int))]]], [.cells 1 [[.hsl 3 0 0 s.length]]], [.cells 1 (natsR (coordsAt s r s.length))]]) ?_ ?_
 ·rw [← hz]
  exact Sub.wx [] [[(0,0)],[(1,0)],[(3,0)],[(2,0)]]
 refine AWP.rangeF rfl (Nat.zero_le _) rfl fun L hL => ?_
 refine (back_ok (natsR s) (by omega) 4 0
  (fun j H => H = [[.cells 2 [[.list 1 (natsR s), .list 1 W]]], [.cells 1 [[.sc (.int .i64 ((r / prodN (s.drop (s.length - j)) : Nat) : Int))]]], [.cells 1 [[.hsl 3 0 0 s.length]]], [.cells 1 (natsR (coordsAt s r (s.length - j)))],
   [.lp L [(3, .ptr 1 0 0 0), (5, .ptr 2 0 0 0), (14, .clo (.func 119) [] [.cptr [.list 1 (natsR s)]])] .ready none]]) (fun _ => False) _
  (by rw [Nat.sub_zero, List.drop_length, show prodN [] = 1 from rfl, Nat.div_one]; rfl) (fun j H h => by subst h; exact Nat.le_refl _) ?_ (fun q hq => by obtain ⟨b, _, rfl⟩ := List.mem_map.1 hq; rfl)).mono ?_
 ·rintro j H c hj rfl hc
  rw [e0] at hj hc ⊢
  have hp : s.length - 1 - j < s.length := by omega
  have hcd : c = .sc (.int .i64 (s[s.length - 1 - j] : Nat)) := by
   have := natsR_ix s _ hp
   rw [rowIx_nat, hc] at this
   injection this with this
   injection this with this
  subst hcd
  refine ⟨L, _, _, _, _, _, hL, rfl, rfl, ?_⟩
  refine walkX ?_
  refine ⟨rfl, _, rfl, ?_⟩
  refine AWP.fin ?_
  have ha := h0 _ (List.getElem_mem hp)
  have hset := coordsAt_set (r := r) hp
  have hpd := prodN_drop hp
  have hlen := coordsAt_len (s := s) (r := r) (p := s.length - 1 - j + 1) (by omega)
  rw [show s.length - (j + 1) = s.length - 1 - j by omega, show s.length - j = s.length - 1 - j + 1 by omega]
  have hdiv : r / prodN (s.drop (s.length - 1 - j)) = r / prodN (s.drop (s.length - 1 - j + 1)) / s[s.length - 1 - j] := by rw [hpd, Nat.div_div_eq_div_mul, Nat.mul_comm]
  have hrl : r / prodN (s.drop (s.length - 1 - j + 1)) ≤ r := Nat.div_le_self _ _
  rw [hdiv, ← hset, ← natsR_set]
  obtain ⟨v, x0⟩ : ∃ v : Nat, (natsR (coordsAt s r (s.length - 1 - j + 1)))[s.length - 1 - j]? = some [.sc (.int .i64 (v : Int))] := ⟨_, natsR_ix _ _ (by omega)⟩
  have x1 := natsR_len (coordsAt s r (s.length - 1 - j + 1))
  rw [hlen] at x1
  have hpr : PRs (natsR (coordsAt s r (s.length - 1 - j + 1))) := inferInstance
  generalize r / prodN (s.drop (s.length - 1 - j + 1)) = R at *
  generalize natsR (coordsAt s r (s.length - 1 - j + 1)) = rows at *
  generalize s[s.length - 1 - j] = a at *
  clear hset hpd hdiv hlen hc
  generalize s.length - 1 - j = p at *
  obtain ⟨ha1, ha2⟩ := ha
  refine walkX ?_
  refine DK.nil ⟨by kernel_rfl, ?_⟩
  refine ⟨[], [[.cells 2 [[.list 1 (natsR s), .list 1 W]]], [.cells 1 [[.sc (.int .i64 ((R / a : Nat) : Int))]]], [.cells 1 [[.hsl 3 0 0 s.length]]], [.cells 1 (rows.set p [.sc (.int .i64 ((R % a : Nat) : Int))])],
   [.lp L [(3, .ptr 1 0 0 0), (5, .ptr 2 0 0 0), (14, .clo (.func 119) [] [.cptr [.list 1 (natsR s)]])] .busy none]], ?_, _, rfl, .inl ⟨rfl, rfl⟩⟩
  (apply Sub.to [] [[(0,0)],[(1,0)],[(2,0)],[(3,0)],[(4,0)]]; all_goals (repeat' (first | exact ToAll.nil | exact famsTo.nil | exact famTo.nil | exact ToL.nil | exact ToR.nil | refine ToAll.cons ?_ ?_ | refine famsTo.cons ?_ ?_ | refine wt10 ?_ ?_ | exact To.undef _ | exact To.sc _ | exact To.hslL rfl rfl | exact To.ptrO rfl rfl rfl | exact To.mrefO rfl | exact To.nil rfl rfl rfl | exact wt1 | exact To.nilL | refine To.int ?_ | refine To.bool ?_ | refine To.hslL rfl ?_ | refine wt2 rfl ?_ ?_ ?_ | refine To.tupL ?_ | refine To.aggL ?_ | refine To.cptrL ?_ | refine wt3 ?_ | refine wt4 ?_ | refine To.cloL ?_ ?_ | refine ToB.one ?_ | exact wt5 | refine wt6 ?_ | ((with_reducible apply ToL.consE); case e9 => rfl) | refine ToL.cons ?_ ?_ | exact wt7 | refine wt8 ?_ | exact wt11 | refine wt9 ?_ ?_ | refine wt12 ?_ | (with_reducible rfl) | assumption)); all_goals (first | rfl | assumption | (simp; done) | (simp; omega) | (rw [wrap_small (by omega) (by omega)]; done) | (rw [wrap_small (by omega) (by omega)]; omega) | (refine congrArg Nat.cast ?_; assumption) | skip))
  refine ToB.lp _ _ _ _ _ fun x hx => ?_
  simp only [List.mem_cons, List.not_mem_nil, or_false] at hx
  rcases hx with rfl | rfl | rfl
  ·exact To.ptrO rfl rfl rfl
  ·exact To.ptrO rfl rfl rfl
  ·exact wt1
 ·rintro _ H' (rfl | h)
  case inr => exact h.elim
  rw [e0, Nat.sub_self]
  refine ⟨_, _, none, rfl, by decide, ?_⟩
  refine walkX ?_
  exact endW [[(3,0)]] (⟨rfl, rfl⟩)
end Go.Proofs.Ytpkpfgpfkajkpaa
namespace Go.Proofs.Ytpkpfgpfkajkpaa
open Go.Av Go.Proofs
set_option maxRecDepth 20000
theorem grow_ok (n : Nat) (hn : n ≤ 1000000) : CallOK Try.prog 109 [.sc (.slice none 0 0), .sc (.int .i64 (n : Int))] [] fun res H' => res = .hsl 0 0 0 0 ∧ ∃ rows, H' = [[.cells 1 rows]] := by
 refine CallOK.of cF109 ?_ (Nat.le_of_ble_eq_true rfl)
 refine walkX ?_
 rw [decide_eq_false (show ¬ n < 0 by omega)]
 refine walkX ?_
 by_cases h0 : n = 0
 ·subst h0
  refine walkX ?_
  refine ⟨.inr rfl, _, .hsl 0 0 0 0, [[.cells 1 []]], rfl, SubV.to [1] [[(0,0)]] ?_ ?_ rfl rfl rfl, rfl, _, rfl⟩
  (all_goals (repeat' (first | exact ToAll.nil | exact famsTo.nil | exact famTo.nil | exact ToL.nil | exact ToR.nil | refine ToAll.cons ?_ ?_ | refine famsTo.cons ?_ ?_ | refine wt10 ?_ ?_ | exact To.undef _ | exact To.sc _ | exact To.hslL rfl rfl | exact To.ptrO rfl rfl rfl | exact To.mrefO rfl | exact To.nil rfl rfl rfl | exact wt1 | exact To.nilL | refine To.int ?_ | refine To.bool ?_ | refine To.hslL rfl ?_ | refine wt2 rfl ?_ ?_ ?_ | refine To.tupL ?_ | refine To.aggL ?_ | refine To.cptrL ?_ | refine wt3 ?_ | refine wt4 ?_ | refine To.cloL ?_ ?_ | exact wt5 | refine wt6 ?_ | refine ToB.one ?_ | exact wt7 | ((with_reducible apply ToL.consE); case e9 => rfl) | refine wt8 ?_ | refine ToL.cons ?_ ?_ | exact wt11 | refine wt9 ?_ ?_ | refine wt12 ?_ | (with_reducible rfl) | assumption)); all_goals (first | rfl | assumption | (simp; done) | (simp; omega) | (rw [wrap_small (by omega) (by omega)]; done) | (rw [wrap_small (by omega) (by omega)]; omega) | (refine congrArg Nat.cast ?_; assumption) | skip))
 ·obtain ⟨m, rfl⟩ : ∃ m, n = m + 1 := ⟨n - 1, by omega⟩
  refine walkX ?_
  refine Reg.o rfl (dstep_appN (m := m) rfl rfl (by omega)) ?_
  refine walkX ?_
  refine Reg.o rfl (dstep_cut (q := 0) rfl rfl rfl (Nat.zero_le _)) ?_
  refine walkX ?_
  refine endH (res' := .hsl 0 0 0 0) [[(0,0)]] (.inr rfl) rfl ⟨rfl, List.replicate (m + 1) (zrow [(1, .int .i64 0)]), rfl⟩ ?_ ?_ rfl rfl rfl
  (all_goals (repeat' (first | exact ToAll.nil | exact famsTo.nil | exact famTo.nil | exact ToL.nil | exact ToR.nil | refine ToAll.cons ?_ ?_ | refine famsTo.cons ?_ ?_ | refine wt10 ?_ ?_ | exact To.undef _ | exact To.sc _ | exact To.hslL rfl rfl | exact To.ptrO rfl rfl rfl | exact To.mrefO rfl | exact To.nil rfl rfl rfl | exact wt1 | exact To.nilL | refine To.int ?_ | refine To.bool ?_ | refine To.hslL rfl ?_ | refine wt2 rfl ?_ ?_ ?_ | refine To.tupL ?_ | refine To.aggL ?_ | refine To.cptrL ?_ | refine wt3 ?_ | refine wt4 ?_ | refine To.cloL ?_ ?_ | exact wt5 | refine wt6 ?_ | refine ToB.one ?_ | exact wt7 | ((with_reducible apply ToL.consE); case e9 => rfl) | refine wt8 ?_ | refine ToL.cons ?_ ?_ | exact wt11 | refine wt9 ?_ ?_ | refine wt12 ?_ | (with_reducible rfl) | assumption)); all_goals (first | rfl | assumption | (simp; done) | (simp; omega) | (rw [wrap_small (by omega) (by omega)]; done) | (rw [wrap_small (by omega) (by omega)]; omega) | (refine congrArg Nat.cast ?_; assumption) | skip))
def listsR (ls : List (List Int)) : List (List AV) := ls.map fun l => [.list 1 (intsR l)]
theorem listsR_len (ls : List (List Int)) : (listsR ls).length = ls.length := by simp [listsR]
instance (ls : List (List Int)) : PRs (listsR ls) := ⟨fun r hr => by
 obtain ⟨a, _, rfl⟩ := List.mem_map.1 hr
 exact allPure_cons (.list _ _ (prs _)) allPure_nil⟩
theorem listsR_ix (ls : List (List Int)) (k : Nat) (h : k < ls.length) : rowIx (listsR ls) (k : Int) = some [.list 1 (intsR ls[k])] := rowIx_map (fun l : List Int => [.list 1 (intsR l)]) ls k h
def sumLen (ls : List (List Int)) : Nat := ls.flatten.length
theorem sumLen_take (ls : List (List Int)) (k : Nat) (h : k < ls.length) : sumLen (ls.take (k + 1)) = sumLen (ls.take k) + ls[k].length := by
 unfold sumLen
 rw [List.take_succ_eq_append_getElem h, List.flatten_append, List.length_append]
 simp
theorem sumLen_le (ls : List (List Int)) (k : Nat) : sumLen (ls.take k) ≤ sumLen ls := by
 unfold sumLen
 have : ls.flatten = (ls.take k).flatten ++ (ls.drop k).flatten := by rw [← List.flatten_append, List.take_append_drop]
 rw [this, List.length_append]
 omega
set_option maxHeartbeats 4000000 in
theorem concat_ok (ls : List (List Int)) (hn : ls.length ≤ 1000) (hs : sumLen ls ≤ 1000000) : CallOK Try.prog 80 [.list 1 (listsR ls)] [] fun res H' => res = .hsl 0 0 0 (sumLen ls) ∧ H' = [[.cells 1 (intsR ls.flatten)]] := by
 refine CallOK.of cF80 ?_ (Nat.le_of_ble_eq_true rfl)
 have e0 := listsR_len ls
 refine walkX ?_
 rw [e0]
 refine AWP.loop (fun k : Nat => [(0, .list 1 (listsR ls)), (3, .sc (.int .i64 (sumLen (ls.take k) : Nat))), (9, .list 1 (listsR ls)), (10, .sc (.int .i64 (ls.length : Int))), (11, .sc (.int .i64 (k : Int)))])
  (fun k => []) (fun k => k ≤ ls.length) (fun k => ls.length - k) 0 (Nat.zero_le _) ?_ ?_
 ·exact Sub.w [] []
 intro k hk
 refine walkX ?_
 refine AWP.condD rfl (fun h => ?_) (fun h => ?_)
 ·have hr := listsR_ix ls k h
  have ht := sumLen_take ls k h
  have hle := sumLen_le ls (k + 1)
  have e1 := intsR_len ls[k]
  generalize ls[k] = l at *
  refine walkX ?_
  rw [e1, ← ht]
  refine walkX ?_
  rw [decide_eq_false (show ¬ sumLen (ls.take (k + 1)) < 0 by omega)]
  refine walkX ?_
  refine ⟨k + 1, by omega, by omega, ?_⟩
  exact Sub.w [] []
 have hk : k = ls.length := by omega
 subst hk
 rw [List.take_of_length_le (Nat.le_refl _)]
 refine walkX ?_
 refine Reg.c (Nat.zero_le _) rfl ((grow_ok (sumLen ls) hs).mono ?_)
 rintro res H' ⟨rfl, rows, rfl⟩
 refine walkX ?_
 rw [e0]
 refine AWP.sub (Sub.trunc 0 (g := 0) (i := 0) rfl) ?_
 refine AWP.loop (fun k : Nat => [(6, .hsl 0 0 0 (sumLen (ls.take k))), (25, .list 1 (listsR ls)), (26, .sc (.int .i64 (ls.length : Int))), (27, .sc (.int .i64 (k : Int)))])
  (fun k => [[.cells 1 (intsR (ls.take k).flatten)]]) (fun k => k ≤ ls.length) (fun k => ls.length - k) 0 (Nat.zero_le _) ?_ ?_
 ·exact Sub.w [] [[(0,0)]]
 intro k hk
 refine walkX ?_
 refine AWP.condD rfl (fun h => ?_) (fun h => ?_)
 ·have hr := listsR_ix ls k h
  have ht := sumLen_take ls k h
  have hle := sumLen_le ls (k + 1)
  have e1 := intsR_len ls[k]
  have e2 : (intsR (ls.take k).flatten).length = sumLen (ls.take k) := intsR_len _
  have e3 : intsR (ls.take (k + 1)).flatten = intsR (ls.take k).flatten ++ intsR ls[k] := by
   rw [List.take_succ_eq_append_getElem h, List.flatten_append]
   simp [intsR]
  generalize ls[k] = l at *
  refine walkX ?_
  refine ⟨k + 1, by omega, by omega, ?_⟩
  rw [ht, e3, ← e1]
  exact Sub.w [] [[(1,0)]]
 have hk : k = ls.length := by omega
 subst hk
 rw [List.take_of_length_le (Nat.le_refl _)]
 refine walkX ?_
 exact endW [[(0,0)]] (⟨rfl, rfl⟩)
end Go.Proofs.Ytpkpfgpfkajkpaa
