import Derived.Test.YtgdocflpobncmaaGreatGFiK1
import Derived.Test.YtgdocflpobncmaaGreatProg
import Derived.KernelRfl
import Derived.Test.YtgdocflpobncmaaGreatGFtE5
import Derived.Test.YtgdocflpobncmaaGreatGAvU
import Derived.Shelf.Sort.Plain
import Derived.Shelf.Slices.In.SortNone
import Derived.Test.YtgdocflpobncmaaGreatGAvM3
set_option maxHeartbeats 4000000
namespace Go.Proofs.YtgdocflpobncmaaGreat
open Go.Av Go.Proofs
set_option maxRecDepth 100000
abbrev aK (d s:Nat):IOper:=⟨some d,none,.op (.move (.tmp s))⟩
abbrev jA (d s:Nat):IOper:=⟨some d,none,.op (.load 1 false (.tmp s))⟩
abbrev lF (d z s i:Nat):IOper:=⟨some d,none,.op (.idxSl z (.tmp s) (.tmp i))⟩
abbrev kC (d k s:Nat):IOper:=⟨some d,none,.op (.fieldAddr k (.tmp s))⟩
abbrev iM (d:Nat) (n:Int):IOper:=⟨some d,none,.op (.move (.const (.int .i64 n)))⟩
abbrev j8 (d s:Nat):IOper:=⟨some d,none,.op (.len (.tmp s))⟩
abbrev jG (d:Nat) (o:BinOp) (k s:Nat) (n:Int):IOper:=⟨some d,none,.op (.bin o k (.tmp s) (.const (.int .i64 n)))⟩
abbrev gW (d c:Nat) (b:Bool) (s:Nat):IOper:=⟨some d,some (c,b),.op (.move (.tmp s))⟩
def F141:IFun:=⟨48,(sr [oq 1 (.box (.tmp 0)),oq 2 (.move (.const (.slice none 0 0))),iM 3 0] (sr [kC 9 0 1,dA 10 17 9,oc 11 63 [(.tmp 10)],aK 8 11,cN 12 8 0,cN 13 8 1,oq 4 (.alloc [(3,(.int .i64 0)),(1,(.slice none 0 0))]),bP 4 4 12,aK 5 13] (.seq (.block 0 (sr [aK 15 5,jG 16 .neq 33 15 0,aK 14 16] (cd 14 (sr [aK 17 5,oq 2 (.move (.const (.slice none 0 0))),aK 3 17] .ret) (sr [kC 19 17 1,jA 20 19,jG 21 .lss 3 20 0,aK 18 21] (cd 18 (sr [oq 2 (.move (.const (.slice none 0 0))),iM 3 3] .ret) (sr [kC 23 18 1,jA 24 23,j8 25 24,kC 26 1 4,jA 27 26,aN .rem 28 3 25 27,jG 29 .neq 3 28 0,aK 22 29] (cd 22 (sr [oq 2 (.move (.const (.slice none 0 0))),iM 3 26] .ret) (sr [kC 31 18 1,jA 32 31,j8 33 32,jG 34 .gtr 3 33 4096,aK 30 34] (cd 30 (sr [oq 2 (.move (.const (.slice none 0 0))),iM 3 9] .ret) .skip))))))))) (sr [dA 36 4 4,kC 37 17 1,jA 38 37,kC 39 18 1,jA 40 39,j8 41 40,oc 42 64 [(.tmp 36),(.tmp 38),(.tmp 41)],aK 35 42,cN 43 35 0,cN 44 35 1,aK 6 43,aK 7 44] (.seq (sr [aK 45 7,oq 46 (.un .not (.tmp 45))] (cd 46 (sr [oq 2 (.move (.const (.slice none 0 0))),iM 3 3] .ret) .skip)) (sr [aK 47 6,aK 2 47,iM 3 0] .ret)))))),[(.tmp 2),(.tmp 3)]⟩
theorem cF141:bG Tryz.prog 141=some F141:=by kernel_rfl
def F95:IFun:=⟨32,(sr [oq 2 (.move (.const (.slice none 0 0))),iM 3 0] (.seq (sr [aK 9 0,j8 10 9,jG 11 .gtr 3 10 64] (cd 11 (sr [oq 2 (.move (.const (.slice none 0 0))),iM 3 9] .ret) .skip)) (sr [oq 4 (.move (.const (.slice none 0 0)))] (.seq (sr [aK 12 0,j8 13 12,iM 14 0] (.block 0 (.loop (sr [aN .lss 15 3 14 13] (.seq (cd 15 .skip (.exit 0)) (.seq (.block 1 (sr [lF 16 19 12 14,dA 17 19 16,oq 6 (.alloc [(5,(.int .i64 0)),(4,(.slice none 0 0)),(4,(.int .i64 0)),(4,(.slice none 0 0)),(1,(.int .i64 0)),(1,(.slice none 0 0))]),bP 19 6 17] (sr [dA 19 19 6,oc 20 141 [(.tmp 19)],aK 18 20,cN 21 18 0,cN 22 18 1,aK 7 21,aK 8 22] (.seq (sr [aK 23 8,jG 24 .neq 33 23 0] (cd 24 (sr [aK 25 8,oq 2 (.move (.const (.slice none 0 0))),aK 3 25] .ret) .skip)) (.region [aK 26 4,aK 27 7,oq 28 (.buildSlice 1 [(1,(.slice none 0 0))] 1 [(0,(.tmp 27))]),oq 29 (.append 1 24 (.tmp 26) (.tmp 28)),aK 4 29]))))) (.region [jG 30 .add 3 14 1,aK 14 30]))))))) (sr [aK 31 4,aK 2 31,iM 3 0] .ret))))),[(.tmp 2),(.tmp 3)]⟩
theorem cF95:bG Tryz.prog 95=some F95:=by kernel_rfl
def F32:IFun:=⟨165,(sr [oq 4 (.move (.const (.slice none 0 0))),iM 5 0] (sr [aK 24 0,oc 25 95 [(.tmp 24)],aK 23 25,cN 26 23 0,cN 27 23 1,aK 6 26,aK 7 27] (.seq (.block 0 (sr [aK 29 7,jG 30 .neq 33 29 0,aK 28 30] (cd 28 (sr [aK 31 7,oq 4 (.move (.const (.slice none 0 0))),aK 5 31] .ret) (sr [aK 33 1,jG 34 .lss 3 33 1,aK 35 34,gW 36 35 false 1,ou 37 35 (.bin .gtr 3 (.tmp 36) (oi 64)),oq 38 (.pick (.tmp 35) (.const (.bool true)) (.tmp 37)),aK 32 38] (cd 32 (sr [oq 4 (.move (.const (.slice none 0 0))),iM 5 3] .ret) .skip))))) (sr [oq 39 .makeMap,aK 8 39] (sr [oq 9 (.move (.const (.slice none 0 0)))] (.seq (sr [aK 40 6,j8 41 40,iM 42 0] (.block 1 (.loop (sr [aN .lss 43 3 42 41] (.seq (cd 43 .skip (.exit 1)) (.seq (.block 2 (sr [aK 44 42,lF 45 1 40 42,jA 46 45,aK 10 44,aK 11 46] (sr [aK 47 11,j8 48 47,iM 49 0] (.block 3 (.loop (sr [aN .lss 50 3 49 48] (.seq (cd 50 .skip (.exit 3)) (.seq (.block 4 (sr [aK 51 49,lF 52 1 47 49,jA 53 52,aK 12 51,aK 13 53] (.seq (sr [aK 55 8,aK 56 13,oq 57 (.lookup (.sc (.int .u8 0)) .i64 (.tmp 55) (.tmp 56) true),aK 54 57,cN 58 54 0,cN 59 54 1,aK 14 58,aK 15 59] (sr [aK 60 15,oq 61 (.un .not (.tmp 60))] (cd 61 (.region [aK 62 9,aK 63 13,oq 64 (.buildSlice 1 [(1,(.int .i64 0))] 1 [(0,(.tmp 63))]),oq 65 (.append 1 8 (.tmp 62) (.tmp 64)),aK 9 65]) .skip))) (.region [aK 66 8,aK 67 13,aK 68 0,aK 69 10,lF 70 19 68 69,kC 71 18 70,jA 72 71,aK 73 12,lF 74 1 72 73,jA 75 74,os (.mapUpdate .i64 (.tmp 66) (.tmp 67) (.tmp 75))])))) (.region [jG 76 .add 3 49 1,aK 49 76]))))))))) (.region [jG 77 .add 3 42 1,aK 42 77]))))))) (.seq (sr [aK 78 9,j8 79 78,jG 80 .eql 3 79 0] (cd 80 (sr [oq 4 (.move (.const (.slice none 0 0))),iM 5 0] .ret) .skip)) (sr [aK 81 9,oc 82 96 [(.tmp 81)]] (sr [aK 83 9,oq 84 (.idxSl 1 (.tmp 83) (oi 0)),jA 85 84,aK 16 85] (sr [aK 86 9,aK 87 9,j8 88 87,bK .sub 89 3 88 1,lF 90 1 86 89,jA 91 90,aK 92 16,aN .sub 93 3 91 92,aK 94 1,aN .add 95 3 93 94,aK 96 1,aN .quo 97 3 95 96,aK 17 97] (sr [oq 18 (.move (.const (.slice none 0 0)))] (.seq (sr [aK 98 9,j8 99 98,iM 100 0] (.block 5 (.loop (sr [aN .lss 101 3 100 99] (.seq (cd 101 .skip (.exit 5)) (.seq (.block 6 (sr [lF 102 1 98 100,jA 103 102,aK 20 103] (sr [aK 104 20,aK 105 16,aN .sub 106 3 104 105,aK 107 17,aN .quo 108 3 106 107,aK 109 18,j8 110 109,bK .sub 111 3 110 1,aK 21 108,aK 22 111] (.seq (.draw [aK 112 22,jG 113 .geq 3 112 0,aK 114 113,gW 115 114 true 18,gW 116 114 true 22,ot 117 114 (.idxSl 3 (.tmp 115) (.tmp 116)),ot 118 114 (.fieldAddr 0 (.tmp 117)),ot 119 114 (.load 1 false (.tmp 118)),gW 120 114 true 21,ot 121 114 (.bin .eql 3 (.tmp 119) (.tmp 120)),oq 122 (.pick (.tmp 114) (.tmp 121) (.const (.bool false))),aK 123 122,gW 124 123 true 18,gW 125 123 true 22,ot 126 123 (.idxSl 3 (.tmp 124) (.tmp 125)),ot 127 123 (.fieldAddr 1 (.tmp 126)),ot 128 123 (.load 1 false (.tmp 127)),gW 129 123 true 18,gW 130 123 true 22,ot 131 123 (.idxSl 3 (.tmp 129) (.tmp 130)),ot 132 123 (.fieldAddr 2 (.tmp 131)),ot 133 123 (.load 1 false (.tmp 132)),ot 134 123 (.len (.tmp 133)),ot 135 123 (.bin .add 3 (.tmp 128) (.tmp 134)),gW 136 123 true 20,ot 137 123 (.bin .eql 3 (.tmp 135) (.tmp 136)),oq 138 (.pick (.tmp 123) (.tmp 137) (.const (.bool false)))] [[],[0],[1],[2],[2],[3,4,2],[5,2],[6,2],[2],[7,8,2],[2,9],[10,2],[11],[11],[12,13,11],[14,11],[15,11],[11],[11],[17,18,11],[19,11],[20,11],[21,11],[16,22,11],[11],[23,24,11],[11,25]]) (cd 138 (.draw [aK 139 18,aK 140 22,aK 141 18,aK 142 22,lF 143 3 141 142,kC 144 2 143,jA 145 144,aK 146 8,aK 147 20,oq 148 (.lookup (.sc (.int .u8 0)) .i64 (.tmp 146) (.tmp 147) false),oq 149 (.buildSlice 1 [(1,(.int .u8 0))] 1 [(0,(.tmp 148))]),oq 150 (.append 1 1 (.tmp 145) (.tmp 149)),lF 151 3 139 140,kC 152 2 151,bP 1 152 150] [[],[],[],[],[2,3],[4],[5],[],[],[7,8],[9],[6,10],[0,1,0,1,2,3,4,5,6,7,8,9,10,11],[12,0,1,2,3,4,5,6,7,8,9,10,11],[13,11,11,0,1,2,3,4,5,6,7,8,9,10,11]]) (.region [aK 153 18,aK 154 21,aK 155 20,aK 156 8,aK 157 20,oq 158 (.lookup (.sc (.int .u8 0)) .i64 (.tmp 156) (.tmp 157) false),oq 159 (.buildSlice 1 [(1,(.int .u8 0))] 1 [(0,(.tmp 158))]),oq 160 (.build [(2,(.int .i64 0)),(1,(.slice none 0 0))] [(0,(1,(.tmp 154))),(1,(1,(.tmp 155))),(2,(1,(.tmp 159)))]),oq 161 (.buildSlice 3 [(2,(.int .i64 0)),(1,(.slice none 0 0))] 1 [(0,(.tmp 160))]),oq 162 (.append 3 40 (.tmp 153) (.tmp 161)),aK 18 162])))))) (.region [jG 163 .add 3 100 1,aK 100 163]))))))) (sr [aK 164 18,aK 4 164,iM 5 0] .ret))))))))))))),[(.tmp 4),(.tmp 5)]⟩
theorem cF32:bG Tryz.prog 32=some F32:=by kernel_rfl
def F31:IFun:=⟨82,(sr [oq 2 (.move (.const (.slice none 0 0))),oq 3 (.move (.const (.bool false)))] (sr [oq 4 (.move (.const (.slice none 0 0)))] (.seq (sr [aK 9 0,j8 10 9,jG 11 .gtr 3 10 12,aK 12 11,gW 13 12 true 0,ot 14 12 (.len (.tmp 13)),ot 15 12 (.bin .leq 3 (.tmp 14) (oi 64)),gW 16 12 true 15,gW 17 16 false 0,ou 18 16 (.len (.tmp 17)),ou 19 16 (.bin .gtr 3 (.tmp 18) (oi 70)),ot 20 12 (.pick (.tmp 16) (.const (.bool true)) (.tmp 19)),oq 21 (.pick (.tmp 12) (.tmp 20) (.const (.bool false)))] (cd 21 (sr [oq 2 (.move (.const (.slice none 0 0))),oq 3 (.move (.const (.bool false)))] .ret) .skip)) (.seq (sr [iM 5 0] (.block 0 (.loop (.seq (sr [aK 22 5,aK 23 0,j8 24 23,aN .lss 25 3 22 24] (cd 25 .skip (.exit 0))) (.seq (.block 1 (sr [aK 29 0,aK 30 5,lF 31 19 29 30,kC 32 0 31,dA 33 17 32,oc 34 12 [(.tmp 33)],aK 28 34,cN 35 28 0,cN 36 28 1,oq 6 (.alloc [(5,(.int .i64 0)),(4,(.slice none 0 0)),(4,(.int .i64 0)),(4,(.slice none 0 0))]),bP 17 6 35,aK 7 36] (sr [aK 37 0,aK 38 5,lF 39 19 37 38,kC 40 18 39,jA 41 40,j8 42 41,aK 8 42] (.seq (sr [aK 43 7,oq 44 (.un .not (.tmp 43)),aK 45 44,gW 46 45 false 8,ou 47 45 (.bin .gtr 3 (.tmp 46) (oi 300)),gW 48 45 false 47,gW 49 48 true 8,ot 50 48 (.bin .leq 3 (.tmp 49) (oi 4096)),gW 51 48 true 50,gW 52 51 false 8,ou 53 51 (.bin .gtr 3 (.tmp 52) (oi 5000)),ot 54 48 (.pick (.tmp 51) (.const (.bool true)) (.tmp 53)),ou 55 45 (.pick (.tmp 48) (.tmp 54) (.const (.bool false))),oq 56 (.pick (.tmp 45) (.const (.bool true)) (.tmp 55)),aK 57 56,gW 58 57 false 0,ou 59 57 (.len (.tmp 58)),ou 60 57 (.bin .gtr 3 (.tmp 59) (oi 12)),gW 61 57 false 60,gW 62 61 true 8,ot 63 61 (.bin .gtr 3 (.tmp 62) (oi 0)),ou 64 57 (.pick (.tmp 61) (.tmp 63) (.const (.bool false))),oq 65 (.pick (.tmp 57) (.const (.bool true)) (.tmp 64))] (cd 65 (sr [oq 2 (.move (.const (.slice none 0 0))),oq 3 (.move (.const (.bool false)))] .ret) .skip)) (.draw [aK 66 4,dA 67 17 6,aK 68 0,aK 69 5,lF 70 19 68 69,kC 71 17 70,jA 72 71,aK 73 0,aK 74 5,lF 75 19 73 74,kC 76 18 75,jA 77 76,oq 78 (.build [(5,(.int .i64 0)),(4,(.slice none 0 0)),(4,(.int .i64 0)),(4,(.slice none 0 0)),(1,(.int .i64 0)),(1,(.slice none 0 0))] [(0,(17,(.tmp 67))),(17,(1,(.tmp 72))),(18,(1,(.tmp 77)))]),oq 79 (.buildSlice 19 [(5,(.int .i64 0)),(4,(.slice none 0 0)),(4,(.int .i64 0)),(4,(.slice none 0 0)),(1,(.int .i64 0)),(1,(.slice none 0 0))] 1 [(0,(.tmp 78))]),oq 80 (.append 19 296 (.tmp 66) (.tmp 79)),aK 4 80] [[],[],[],[],[2,3],[4],[5],[],[],[7,8],[9],[10],[1,6,11],[12],[0,13],[14,14,0,1,2,3,4,5,6,7,8,9,10,11,12,13,14]]))))) (.region [aK 26 5,jG 27 .add 3 26 1,aK 5 27])))))) (sr [aK 81 4,aK 2 81,oq 3 (.move (.const (.bool true)))] .ret))))),[(.tmp 2),(.tmp 3)]⟩
theorem TN:bG Tryz.prog 31=some F31:=by kernel_rfl
abbrev bA (d s:Nat):IOper:=⟨some d,none,.op (.move (.tmp s))⟩
abbrev oI (d s:Nat):IOper:=⟨some d,none,.op (.load 1 false (.tmp s))⟩
abbrev o4 (d z s i:Nat):IOper:=⟨some d,none,.op (.idxSl z (.tmp s) (.tmp i))⟩
abbrev qV (d k s:Nat):IOper:=⟨some d,none,.op (.fieldAddr k (.tmp s))⟩
abbrev mL (d:Nat) (n:Int):IOper:=⟨some d,none,.op (.move (.const (.int .i64 n)))⟩
abbrev oW (d:Nat) (o:BinOp) (k s:Nat) (n:Int):IOper:=⟨some d,none,.op (.bin o k (.tmp s) (.const (.int .i64 n)))⟩
abbrev mO (d c:Nat) (b:Bool) (s:Nat):IOper:=⟨some d,some (c,b),.op (.move (.tmp s))⟩
def F33:IFun:=⟨164,(sr [oq 4 (.move (.const (.slice none 0 0))),mL 5 0] (sr [bA 21 0,oc 22 97 [(.tmp 21)],bA 20 22,cN 23 20 0,cN 24 20 1,bA 6 23,bA 7 24] (.seq (sr [bA 25 7,oW 26 .neq 33 25 0] (cd 26 (sr [bA 27 7,oq 4 (.move (.const (.slice none 0 0))),bA 5 27] .ret) .skip)) (.seq (sr [bA 28 1,oW 29 .lss 3 28 1,bA 30 29,mO 31 30 false 1,ou 32 30 (.bin .gtr 3 (.tmp 31) (oi 64)),oq 33 (.pick (.tmp 30) (.const (.bool true)) (.tmp 32))] (cd 33 (sr [oq 4 (.move (.const (.slice none 0 0))),mL 5 3] .ret) .skip)) (sr [oq 34 (.makeSlice 1 1 [(1,(.int .u8 0))] (oi 65536)),bA 8 34] (sr [oq 35 (.makeSlice 1 1 [(1,(.bool false))] (oi 65536)),bA 9 35] (sr [mL 10 65536,mL 11 0] (.seq (sr [mL 12 0] (.block 0 (.loop (.seq (sr [bA 36 12,bA 37 6,dQ 38 37,aN .lss 39 3 36 38] (cd 39 .skip (.exit 0))) (.seq (.block 1 (sr [mL 13 0] (.block 2 (.loop (.seq (sr [bA 42 13,bA 43 6,bA 44 12,o4 45 1 43 44,oI 46 45,dQ 47 46,aN .lss 48 3 42 47] (cd 48 .skip (.exit 2))) (.seq (.block 3 (sr [bA 51 6,bA 52 12,o4 53 1 51 52,oI 54 53,bA 55 13,o4 56 1 54 55,oI 57 56,bA 14 57] (sr [bA 58 8,bA 59 14,bA 60 0,bA 61 12,o4 62 19 60 61,qV 63 18 62,oI 64 63,bA 65 13,o4 66 1 64 65,oI 67 66,o4 68 1 58 59,bP 1 68 67] (sr [bA 69 9,bA 70 14,o4 71 1 69 70,os (.store 1 (.tmp 71) (.const (.bool true)))] (.region [bA 72 10,bA 73 14,oq 74 (.min [(.tmp 72),(.tmp 73)]),bA 75 11,bA 76 14,oW 77 .add 3 76 1,oq 78 (.max [(.tmp 75),(.tmp 77)]),bA 10 74,bA 11 78]))))) (.region [bA 49 13,oW 50 .add 3 49 1,bA 13 50]))))))) (.region [bA 40 12,oW 41 .add 3 40 1,bA 12 41])))))) (sr [bA 79 11,bA 80 10,aN .sub 81 3 79 80,bA 82 1,aN .add 83 3 81 82,bK .sub 84 3 83 1,bA 85 1,aN .quo 86 3 84 85,bA 15 86] (sr [oq 16 (.move (.const (.slice none 0 0)))] (.seq (sr [bA 87 10,bA 17 87] (.block 4 (.loop (.seq (sr [bA 88 17,bA 89 11,aN .lss 90 3 88 89] (cd 90 .skip (.exit 4))) (.seq (.block 5 (.seq (sr [bA 93 9,bA 94 17,o4 95 1 93 94,oI 96 95,oq 97 (.un .not (.tmp 96))] (cd 97 (.exit 5) .skip)) (sr [bA 98 17,bA 99 10,aN .sub 100 3 98 99,bA 101 15,aN .quo 102 3 100 101,bA 103 16,dQ 104 103,bA 18 102,bA 19 104] (.seq (.draw [bA 105 19,oW 106 .gtr 3 105 0,bA 107 106,mO 108 107 true 16,mO 109 107 true 19,ot 110 107 (.bin .sub 3 (.tmp 109) (oi 1)),ot 111 107 (.idxSl 3 (.tmp 108) (.tmp 110)),ot 112 107 (.fieldAddr 0 (.tmp 111)),ot 113 107 (.load 1 false (.tmp 112)),mO 114 107 true 18,ot 115 107 (.bin .eql 3 (.tmp 113) (.tmp 114)),oq 116 (.pick (.tmp 107) (.tmp 115) (.const (.bool false))),bA 117 116,mO 118 117 true 16,mO 119 117 true 19,ot 120 117 (.bin .sub 3 (.tmp 119) (oi 1)),ot 121 117 (.idxSl 3 (.tmp 118) (.tmp 120)),ot 122 117 (.fieldAddr 1 (.tmp 121)),ot 123 117 (.load 1 false (.tmp 122)),mO 124 117 true 16,mO 125 117 true 19,ot 126 117 (.bin .sub 3 (.tmp 125) (oi 1)),ot 127 117 (.idxSl 3 (.tmp 124) (.tmp 126)),ot 128 117 (.fieldAddr 2 (.tmp 127)),ot 129 117 (.load 1 false (.tmp 128)),ot 130 117 (.len (.tmp 129)),ot 131 117 (.bin .add 3 (.tmp 123) (.tmp 130)),mO 132 117 true 17,ot 133 117 (.bin .eql 3 (.tmp 131) (.tmp 132)),oq 134 (.pick (.tmp 117) (.tmp 133) (.const (.bool false)))] [[],[0],[1],[2],[2],[4,2],[3,5,2],[6,2],[7,2],[2],[8,9,2],[2,10],[11,2],[12],[12],[14,12],[13,15,12],[16,12],[17,12],[12],[12],[20,12],[19,21,12],[22,12],[23,12],[24,12],[18,25,12],[12],[26,27,12],[12,28]]) (cd 134 (.draw [bA 135 16,bA 136 19,bK .sub 137 3 136 1,bA 138 16,bA 139 19,bK .sub 140 3 139 1,o4 141 3 138 140,qV 142 2 141,oI 143 142,bA 144 8,bA 145 17,o4 146 1 144 145,oI 147 146,oq 148 (.buildSlice 1 [(1,(.int .u8 0))] 1 [(0,(.tmp 147))]),oq 149 (.append 1 1 (.tmp 143) (.tmp 148)),o4 150 3 135 137,qV 151 2 150,bP 1 151 149] [[],[],[1],[],[],[4],[3,5],[6],[7],[],[],[9,10],[11],[12],[8,13],[0,2,0,1,2,3,4,5,6,7,8,9,10,11,12,13,14],[15,0,1,2,3,4,5,6,7,8,9,10,11,12,13,14],[16,14,14,0,1,2,3,4,5,6,7,8,9,10,11,12,13,14]]) (.region [bA 152 16,bA 153 18,bA 154 17,bA 155 8,bA 156 17,o4 157 1 155 156,oI 158 157,oq 159 (.buildSlice 1 [(1,(.int .u8 0))] 1 [(0,(.tmp 158))]),oq 160 (.build [(2,(.int .i64 0)),(1,(.slice none 0 0))] [(0,(1,(.tmp 153))),(1,(1,(.tmp 154))),(2,(1,(.tmp 159)))]),oq 161 (.buildSlice 3 [(2,(.int .i64 0)),(1,(.slice none 0 0))] 1 [(0,(.tmp 160))]),oq 162 (.append 3 40 (.tmp 152) (.tmp 161)),bA 16 162])))))) (.region [bA 91 17,oW 92 .add 3 91 1,bA 17 92])))))) (sr [bA 163 16,bA 4 163,mL 5 0] .ret)))))))))))),[(.tmp 4),(.tmp 5)]⟩
theorem cF33:bG Tryz.prog 33=some F33:=by kernel_rfl
def F34:IFun:=⟨56,(sr [oq 4 (.move (.const (.bool false)))] (.seq (sr [bA 6 0,dQ 7 6,bA 8 1,dQ 9 8,aN .neq 10 3 7 9] (cd 10 (sr [oq 4 (.move (.const (.bool false)))] .ret) .skip)) (.seq (sr [mL 5 0] (.block 0 (.loop (.seq (sr [bA 11 5,bA 12 0,dQ 13 12,aN .lss 14 3 11 13] (cd 14 .skip (.exit 0))) (.seq (.block 1 (.seq (.draw [bA 17 0,bA 18 5,o4 19 3 17 18,qV 20 0 19,oI 21 20,bA 22 1,bA 23 5,o4 24 3 22 23,qV 25 0 24,oI 26 25,aN .neq 27 3 21 26,bA 28 27,mO 29 28 false 0,mO 30 28 false 5,ou 31 28 (.idxSl 3 (.tmp 29) (.tmp 30)),ou 32 28 (.fieldAddr 1 (.tmp 31)),ou 33 28 (.load 1 false (.tmp 32)),mO 34 28 false 1,mO 35 28 false 5,ou 36 28 (.idxSl 3 (.tmp 34) (.tmp 35)),ou 37 28 (.fieldAddr 1 (.tmp 36)),ou 38 28 (.load 1 false (.tmp 37)),ou 39 28 (.bin .neq 3 (.tmp 33) (.tmp 38)),oq 40 (.pick (.tmp 28) (.const (.bool true)) (.tmp 39)),bA 41 40,mO 42 41 false 0,mO 43 41 false 5,ou 44 41 (.idxSl 3 (.tmp 42) (.tmp 43)),ou 45 41 (.fieldAddr 2 (.tmp 44)),ou 46 41 (.load 1 false (.tmp 45)),ou 47 41 (.xop .bstr [(.tmp 46)]),mO 48 41 false 1,mO 49 41 false 5,ou 50 41 (.idxSl 3 (.tmp 48) (.tmp 49)),ou 51 41 (.fieldAddr 2 (.tmp 50)),ou 52 41 (.load 1 false (.tmp 51)),ou 53 41 (.xop .bstr [(.tmp 52)]),ou 54 41 (.bin .neq 9 (.tmp 47) (.tmp 53)),oq 55 (.pick (.tmp 41) (.const (.bool true)) (.tmp 54))] [[],[],[0,1],[2],[3],[],[],[5,6],[7],[8],[4,9],[10],[11],[11],[12,13,11],[14,11],[15,11],[11],[11],[17,18,11],[19,11],[20,11],[16,21,11],[11,22],[23,11],[24],[24],[25,26,24],[27,24],[28,24],[29,24],[24],[24],[31,32,24],[33,24],[34,24],[35,24],[30,36,24],[24,37]]) (cd 55 (sr [oq 4 (.move (.const (.bool false)))] .ret) .skip))) (.region [bA 15 5,oW 16 .add 3 15 1,bA 5 16])))))) (sr [oq 4 (.move (.const (.bool true)))] .ret)))),[(.tmp 4)]⟩
theorem cF34:bG Tryz.prog 34=some F34:=by kernel_rfl
def F97:IFun:=⟨33,(sr [oq 2 (.move (.const (.slice none 0 0))),mL 3 0] (.seq (sr [bA 8 0,dQ 9 8,oW 10 .gtr 3 9 64] (cd 10 (sr [oq 2 (.move (.const (.slice none 0 0))),mL 3 9] .ret) .skip)) (sr [oq 4 (.move (.const (.slice none 0 0)))] (.seq (sr [mL 5 0] (.block 0 (.loop (.seq (sr [bA 11 5,bA 12 0,dQ 13 12,aN .lss 14 3 11 13] (cd 14 .skip (.exit 0))) (.seq (.block 1 (sr [bA 18 0,bA 19 5,o4 20 19 18 19,dA 21 19 20,oc 22 144 [(.tmp 21)],bA 17 22,cN 23 17 0,cN 24 17 1,bA 6 23,bA 7 24] (.seq (sr [bA 25 7,oW 26 .neq 33 25 0] (cd 26 (sr [bA 27 7,oq 2 (.move (.const (.slice none 0 0))),bA 3 27] .ret) .skip)) (.region [bA 28 4,bA 29 6,oq 30 (.buildSlice 1 [(1,(.slice none 0 0))] 1 [(0,(.tmp 29))]),oq 31 (.append 1 24 (.tmp 28) (.tmp 30)),bA 4 31])))) (.region [bA 15 5,oW 16 .add 3 15 1,bA 5 16])))))) (sr [bA 32 4,bA 2 32,mL 3 0] .ret))))),[(.tmp 2),(.tmp 3)]⟩
theorem cF97:bG Tryz.prog 97=some F97:=by kernel_rfl
def F144:IFun:=⟨49,(sr [oq 1 (.box (.tmp 0)),oq 2 (.move (.const (.slice none 0 0))),mL 3 0] (sr [qV 9 0 1,dA 10 17 9,oc 11 17 [(.tmp 10)],bA 4 11] (.seq (sr [bA 12 4,oW 13 .neq 33 12 0] (cd 13 (sr [bA 14 4,oq 2 (.move (.const (.slice none 0 0))),bA 3 14] .ret) .skip)) (sr [qV 16 0 1,qV 17 1 16,dA 18 8 17,oc 19 65 [(.tmp 18)],bA 15 19,cN 20 15 0,cN 21 15 1,bA 5 20,bA 6 21] (.seq (sr [qV 22 17 1,oI 23 22,oW 24 .lss 3 23 0] (cd 24 (sr [oq 2 (.move (.const (.slice none 0 0))),mL 3 3] .ret) .skip)) (.seq (sr [qV 25 18 1,oI 26 25,dQ 27 26,bA 28 5,aN .rem 29 3 27 28,oW 30 .neq 3 29 0] (cd 30 (sr [oq 2 (.move (.const (.slice none 0 0))),mL 3 26] .ret) .skip)) (.seq (sr [qV 31 18 1,oI 32 31,dQ 33 32,oW 34 .gtr 3 33 4096] (cd 34 (sr [oq 2 (.move (.const (.slice none 0 0))),mL 3 9] .ret) .skip)) (sr [qV 36 0 1,dA 37 17 36,qV 38 17 1,oI 39 38,qV 40 18 1,oI 41 40,dQ 42 41,oc 43 66 [(.tmp 37),(.tmp 39),(.tmp 42)],bA 35 43,cN 44 35 0,cN 45 35 1,bA 7 44,bA 8 45] (.seq (sr [bA 46 8,oq 47 (.un .not (.tmp 46))] (cd 47 (sr [oq 2 (.move (.const (.slice none 0 0))),mL 3 3] .ret) .skip)) (sr [bA 48 7,bA 2 48,mL 3 0] .ret)))))))))),[(.tmp 2),(.tmp 3)]⟩
theorem cF144:bG Tryz.prog 144=some F144:=by kernel_rfl
set_option maxRecDepth 20000
abbrev uv (b:Nat):AV:=.sc (.int .u8 (b:Int))
def bys (l:List Nat):List (List AV):=l.map fun b=>[uv b]
theorem iX (l:List Nat):(bys l).length=l.length:=by simp[bys]
theorem zQ (l:List Nat) (k:Nat) (h:k < l.length):dO (bys l) (k:Int)=some [uv l[k]]:=eD (fun n:Nat=>[uv n]) l k h
instance (l:List Nat):PRs (bys l):=by unfold bys; infer_instance
structure Rq where
 at':Int
 e:Ty
 o:Ty
 off:Int
 data:List Nat
def rqR (r:Rq):List AV:=vwR r.at' r.e r.o++[iv r.off,.list 1 (bys r.data)]
def rqs (l:List Rq):List (List AV):=l.map rqR
theorem lZ (l:List Rq):(rqs l).length=l.length:=by simp[rqs]
theorem rL (l:List Rq) (k:Nat) (h:k < l.length):dO (rqs l) (k:Int)=some (rqR l[k]):=eD rqR l k h
theorem zP (r:Rq):PR (rqR r):=by unfold rqR vwR; infer_instance
def Rq.v (r:Rq):Int×Sn:=cT r.at' r.e r.o
def Rq.ok (r:Rq):Prop:=aX 3 r.e=true∧aX 3 r.o=true∧r.off < 9223372036854775808∧r.data.length≤1000000000
def dF (r:Rq):List Int×Int:=
 if r.v.1≠0 then([],r.v.1)
 else if r.off < 0 then([],3)
 else if r.data.length % r.v.2.elem.toNat≠0 then([],26)
 else if 4096 < r.data.length then([],9)
 else if (jN r.v.2 r.off.toNat r.data.length).2=true then((jN r.v.2 r.off.toNat r.data.length).1,0) else([],3)
theorem TF {r:Rq} (hr:r.ok):aB Tryz.prog 141 [.agg (rqR r)] (.tup [.list 1 (inR (dF r).1),iv (dF r).2]):=by
 obtain⟨he,ho,hoff,hdl⟩:=hr;have hc:=LX (a:=r.at') he ho;have hsn:=m5 (a:=r.at') he ho;refine aB.mkI (ha:=⟨fun c hc=>by rw[List.mem_singleton.1 hc]; exact .agg _ (zP r).out⟩) cF141 (nlB rfl) ?_;unfold dF rqR Rq.v;obtain⟨a,e,o,off,data⟩:=r;simp only at he ho hoff hdl hc hsn ⊢;generalize cT a e o=r at *;obtain⟨er,s⟩:=r;simp only at hsn ⊢;obtain⟨_,k1,c1,b1,s1,z1,l1,p1,f1,_,rfl,_⟩:=aO he;obtain⟨_,k2,c2,b2,s2,z2,l2,p2,f2,_,rfl,_⟩:=aO ho;have hbl:=iX data;unfold vwR snR at *;rw[tyR,tyR] at *;replace hc:aB Tryz.prog 63 _ (.tup [.agg [iv s.at',iv s.elem,iv s.ext,.list 1 (inR s.pl)],iv er]):=hc;refine aA ?_;refine AWP.condN (er≠0) rfl (d9 _) (fun h1=>?_) (fun h1=>?_)
 ·rw[if_pos h1,show inR (([],er):List Int×Int).1=[] from rfl]
  refine aA ?_;exact aG.w
 rw[if_neg h1];have hs:=hsn (dBc h1);obtain⟨_,⟨q1,q2⟩,_⟩:=id hs
 obtain⟨E,hE⟩:∃ E:Nat,s.elem=E:=⟨s.elem.toNat,by omega⟩
 have hE0:1≤E:=by omega
 rw[hE] at hc ⊢;rw[Int.toNat_natCast];refine aA ?_;refine AWP.condN (off < 0) rfl rfl (fun g1=>?_) (fun g1=>?_)
 ·rw[if_pos g1,show inR (([],3):List Int×Int).1=[] from rfl]
  refine aA ?_;exact aG.w
 rw[if_neg g1]
 obtain⟨O,rfl⟩:∃ O:Nat,off=O:=⟨off.toNat,by omega⟩
 refine aA ?_;refine AWP.condN (data.length % E≠0) rfl (by simp[hbl]) (fun g2=>?_) (fun g2=>?_)
 ·rw[if_pos g2,show inR (([],26):List Int×Int).1=[] from rfl]
  refine aA ?_;exact aG.w
 rw[if_neg g2];refine aA ?_;refine AWP.condN (4096 < data.length) rfl (by rw[hbl]) (fun g3=>?_) (fun g3=>?_)
 ·rw[if_pos g3,show inR (([],9):List Int×Int).1=[] from rfl]
  refine aA ?_;exact aG.w
 rw[if_neg g3,Int.toNat_natCast];have hli:=O3 (off:=O) (n:=data.length) hs (by omega) (by omega);rw[hE] at hli;generalize jN s O data.length=l at *;obtain⟨l,ok⟩:=l;simp only at hli ⊢;rw[← hbl] at hli;refine aA ?_
 cases ok with
 | false=>
  rw[if_neg (by simp),show inR (([],3):List Int×Int).1=[] from rfl];refine aA ?_;exact aG.w
 | true=>
 rw[if_pos rfl];refine aA ?_;exact aG.w
def kU (l:List Rq):List (List Int)×Int:=
 if 64 < l.length then([],9) else match l.find? (fun r=>decide ((dF r).2≠0)) with
  | some r=>([],(dF r).2)
  | none=>(l.map fun r=>(dF r).1,0)
def plR (ps:List (List Int)):List (List AV):=ps.map fun p=>[.list 1 (inR p)]
theorem uH (l:List (List Int)):(plR l).length=l.length:=by simp[plR]
instance (l:List (List Int)):PRs (plR l):=by unfold plR; infer_instance
instance (l:List Rq):PRs (rqs l):=⟨fun r hr c hc=>by
 obtain⟨q,_,rfl⟩:=List.mem_map.1 hr
 exact(zP q).out c hc⟩
theorem HQ {l:List Rq} {i:Nat} (h64:¬ 64 < l.length) (hi:i < l.length) (hp:∀ j (h:j < i),(dF (l[j]'(by omega))).2=0) (hb:(dF l[i]).2≠0):kU l=([],(dF l[i]).2):=by
 unfold kU;rw[if_neg h64]
 have:l.find? (fun r=>decide ((dF r).2≠0))=some l[i]:=by
  rw[List.find?_eq_some_iff_getElem];refine⟨by simpa using hb,i,hi,rfl,fun j hj=>by simpa using hp j hj⟩
 rw[this]
theorem CB {l:List Rq} (h64:¬ 64 < l.length) (hp:∀ j (h:j < l.length),(dF l[j]).2=0):kU l=(l.map fun r=>(dF r).1,0):=by
 unfold kU;rw[if_neg h64]
 have:l.find? (fun r=>decide ((dF r).2≠0))=none:=by
  rw[List.find?_eq_none];intro r hr;obtain⟨j,hj,rfl⟩:=List.mem_iff_getElem.1 hr
  simpa using hp j hj
 rw[this]
theorem SZ {l:List Rq} (hl:∀ r∈l,r.ok) (hn:l.length < 1000000000):aB Tryz.prog 95 [.list 19 (rqs l)] (.tup [.list 1 (plR (kU l).1),iv (kU l).2]):=by
 refine aB.mkI cF95 (nlB rfl) ?_;have hll:=lZ l;refine aA ?_;refine AWP.condN (64 < l.length) rfl (by rw[hll]) (fun h64=>?_) (fun h64=>?_)
 ·rw[show kU l=([],9) from if_pos h64,show plR (([],9):List (List Int)×Int).1=[] from rfl]
  refine aA ?_;exact aG.w
 refine aA ?_;refine AWP.loop (fun i:Nat=>[(4,.hsl 0 0 0 i),(12,.list 19 (rqs l)),(13,iv l.length),(14,iv i)]) (fun i=>[[.cells 1 (plR ((l.take i).map fun r=>(dF r).1))]]) (fun i=>i≤l.length∧∀ j (h:j < l.length),j < i→(dF l[j]).2=0) (fun i=>l.length - i) 0 ⟨nZl _,fun j _ h=>absurd h (Nat.not_lt_zero j)⟩ ?_ ?_
 ·exact Sub.w [1] [[(0,0)]]
 rintro i ⟨hi,hg⟩;refine aA ?_;refine AWP.condN (i < l.length) rfl rfl (fun h=>?_) (fun h=>?_)
 ·have hr:=rL l i h
  have hc:=TF (hl l[i] (gMe _))
  have hbad:=fun hb=>HQ h64 h (fun j hj=>hg j (by omega) hj) hb
  have htk:(l.take (i+1)).map (fun r=>(dF r).1)=(l.take i).map (fun r=>(dF r).1)++[(dF l[i]).1]:=by
   rw[List.take_add_one,gEg h,List.map_append];rfl
  have hpl:((l.take i).map fun r=>(dF r).1).length=i:=by simp; omega
  have hgi:(dF l[i]).2=0→∀ j (h:j < l.length),j < i+1→(dF l[j]).2=0:=fun h0 j hj hlt=>by
   rcases Nat.lt_or_ge j i with q | q
   ·exact hg j hj q
   ·obtain rfl:j=i:=by omega
    exact h0
  generalize dF l[i]=z at *;obtain⟨p,e⟩:=z;generalize (l.take i).map (fun r=>(dF r).1)=ps at *;have hpr:=uH ps;have hok:=hl l[i] (gMe _);generalize l[i]=q at *;obtain⟨a,t1,t2,off,data⟩:=q;obtain⟨he,ho,_,_⟩:=hok;obtain⟨_,k1,c1,b1,s1,z1,l1,p1,f1,_,rfl,_⟩:=aO he;obtain⟨_,k2,c2,b2,s2,z2,l2,p2,f2,_,rfl,_⟩:=aO ho;unfold rqR vwR at hr hc;rw[tyR,tyR] at hr hc;replace hr:dO (rqs l) (i:Int)=some [iv a,iv k1,iv c1,iv b1,iv s1,.list 1 (inR z1),.list 1 (inR l1),.list 1 (inR p1),.list 8 (aM f1),iv k2,iv c2,iv b2,iv s2,.list 1 (inR z2),.list 1 (inR l2),.list 1 (inR p2),.list 8 (aM f2),iv off,.list 1 (bys data)]:=hr;replace hc:aB Tryz.prog 141 [.agg [iv a,iv k1,iv c1,iv b1,iv s1,.list 1 (inR z1),.list 1 (inR l1),.list 1 (inR p1),.list 8 (aM f1),iv k2,iv c2,iv b2,iv s2,.list 1 (inR z2),.list 1 (inR l2),.list 1 (inR p2),.list 8 (aM f2),iv off,.list 1 (bys data)]] (.tup [.list 1 (inR p),iv e]):=hc;refine aA ?_;refine AWP.condN (e≠0) rfl (d9 _) (fun h0=>?_) (fun h0=>?_)
  ·rw[hbad h0]
   rw[show plR (([],e):List (List Int)×Int).1=[] from rfl];refine aA ?_;exact aG.w
  ·refine aA ?_
   refine⟨i+1,⟨by omega,hgi (dBc h0)⟩,by omega,?_⟩;rw[htk]
   have e1:plR (ps++[p])=plR ps++[[.list 1 (inR p)]]:=by simp[plR]
   rw[e1];exact Sub.wl [] [[(3,0)]]
 ·obtain rfl:l.length=i:=by omega
  rw[CB h64 fun j h=>hg j h h,List.take_length];have:=uH (l.map fun r=>(dF r).1);rw[List.length_map] at this;refine aA ?_;exact aG.w
end Go.Proofs.YtgdocflpobncmaaGreat
namespace Go.Av
open Go.Proofs Go.Shelf Go.RowKit Go.Sort
abbrev ivR (l:List Int):List (List AV):=l.map fun x=>[.sc (.int .i64 x)]
theorem HI {l:List Int} {i:Nat} {r:List AV} (h:(ivR l)[i]?=some r):∃ x,l[i]?=some x∧r=[.sc (.int .i64 x)]:=by
 rw[List.getElem?_map] at h;obtain⟨x,hx,rfl⟩:=Option.map_eq_some_iff.1 h;exact⟨x,hx,rfl⟩
theorem A6 {f:Int→Value} {d:Array Int} {cs:Array Value} {j:Nat} (hj:j < d.size) (hc:j < cs.size):(putCells f 0 d cs)[j]?=some (f d[j]!):=by
 unfold putCells;rw[Array.getElem?_mapIdx,Array.getElem?_eq_getElem hc];simp[hj]
theorem A7 {l:List Int} {i:Nat} {x:Int} (h:l[i]?=some x):l.toArray[i]! = x:=by
 obtain⟨h1,h2⟩:=gEs.1 h;rw[getElem!_pos l.toArray i (by simpa using h1)]
 simpa using h2
theorem aH.sortInts {P:Program} {ρ:Go.Shelf.Ren} (L:Lays.n189 P ρ) (hf:Callable P (ρ.f 189)) (l:List Int) (hl:l.length < 4611686018427387904):
  aH P (ρ.f 189) [.hsl 0 0 0 l.length] [[.cells 1 (ivR l)]] fun res H'=>res=.tup []∧H'=[[.cells 1 (ivR (l.mergeSort fun x y=>decide (x≤y)))]]:=by
 refine⟨hf,fun M J w cargs ha hr hH hM=>?_⟩
 obtain⟨c0,rfl⟩:∃ c0,cargs=#[c0]:=by
  obtain⟨l⟩:=cargs
  match l,ha with
  | [a],_=>exact⟨a,rfl⟩
 have r0:=hr 0 _ c0 rfl rfl;have hlen:(l.mergeSort fun x y=>decide (x≤y)).length=l.length:=List.length_mergeSort _;obtain⟨lc,hJ,hB⟩:=hH.blk 0 0 _ rfl rfl;generalize hn:l.length=n at r0
 cases r0 with
 | hslNil _ _ a l' hJ' hb=>
  obtain rfl:l=[]:=List.eq_nil_of_length_eq_zero hn;refine(Any.slices_Sort_int_none L a 0 w).mono ?_;rintro e w' ⟨rfl,rfl⟩;exact⟨_,M,J,.tup [],_,rfl,.refl _ hH hM,.tup _ _ rfl (fun j c v hc=>by cases hc),rfl,by simp⟩
 | hsl _ _ _ _ cap β lc' hJ' hb hc hlc=>
  obtain rfl:lc'=lc:=by rw[hJ] at hJ'; injection hJ' with e; exact e.symm
  unfold f9 at hB;rw[hb] at hB;obtain⟨hsz,hrows,cs,ty,⟨ff,hheap,hff⟩,hcs,hle,hone,hrep⟩:=hB;rw[List.length_map] at hle hone;obtain rfl:=hn
  have hcell:∀ i x,l[i]?=some x→cs[i]?=some (Value.int .i64 x):=fun i x hx=>by
   have hi:=(gEs.1 hx).1
   have hjc:i < cs.size:=by omega
   have h5:=hrep i [.sc (.int .i64 x)] 0 (.sc (.int .i64 x)) cs[i] (by rw[List.getElem?_map,hx]; rfl) rfl (by rw[Nat.mul_one,Nat.add_zero]; exact Array.getElem?_eq_getElem hjc);rw[Array.getElem?_eq_getElem hjc,h5.sc_inv]
  have hHK:Holds (Value.int .i64) w β 0 l.toArray:=fun j hj=>by
   rw[List.size_toArray] at hj;unfold World.cell? World.frozen?;simp only[Nat.zero_add];rw[hheap];refine⟨?_,?_⟩
   ·simp only[Option.isSome_none,Bool.false_eq_true,if_false]
    have h6:l[j]?=some l[j]:=gEg hj;rw[A7 h6];exact hcell j _ h6
   ·rcases hff with rfl | hff
    ·simp
    ·rw[Bool.and_eq_false_imp]
     intro h0;simp at h0;omega
  have hbl:β < w.heap.size:=(Array.getElem?_eq_some_iff.1 hheap).1;have hcon:=Any.slices_Sort_int L β 0 cap l w hHK hbl hl;rw[Nat.zero_mul];refine hcon.mono ?_;rintro e w' ⟨rfl,nn,os,rfl⟩;generalize (l.mergeSort fun x y=>decide (x≤y))=m at hlen
  have hcsz:l.length≤cs.size:=by omega
  have s1:aZ 1 M J [[.cells 1 (ivR l)]] w M J (aQ [[.cells 1 (ivR l)]] 0 0 (.cells 1 (ivR m))) (putRow (Value.int .i64) (Sort.ahead w nn) β 0 m.toArray):=by
   refine aZ.write 1 hH hM 0 0 lc' β _ rfl rfl hJ hb (.cells (putCells (Value.int .i64) 0 m.toArray cs) ty ff) _ (fun _=>?_) ?_ rfl rfl rfl
   ·unfold f9
    rw[hb];refine⟨hsz,fun i r hr=>?_,putCells (Value.int .i64) 0 m.toArray cs,ty,?_,?_,?_,fun j v hj hv=>?_,fun i r j c v hr hc hv=>?_⟩
    ·obtain⟨x,_,rfl⟩:=HI hr
     rfl
    ·refine⟨ff,?_,?_⟩
     ·show(w.heap.modify β (onCells (putCells (Value.int .i64) 0 m.toArray)))[β]?=_
      rw[Array.getElem?_modify,if_pos rfl,hheap];rfl
     ·unfold putCells
      rw[Array.size_mapIdx];exact hff
    ·unfold putCells
     rw[Array.size_mapIdx];exact hcs
    ·rw[List.length_map,hlen]; exact hle
    ·rw[List.length_map,Nat.mul_one] at hj
     rw[A6 (by simpa using hj) (by omega)] at hv
     injection hv with hv
     subst hv;rfl
    ·obtain⟨x,hx,rfl⟩:=HI hr
     have hi:=(gEs.1 hx).1
     match j,hc with
     | 0,hc=>
      injection hc with hc
      subst hc;rw[Nat.mul_one,Nat.add_zero,A6 (by simpa using hi) (by omega),A7 hx] at hv
      injection hv with hv
      subst hv;exact .sc _
   ·show w.heap.modify β (onCells (putCells (Value.int .i64) 0 m.toArray))=_
    apply Array.ext_getElem?;intro γ;rw[Array.getElem?_modify,Array.getElem?_setIfInBounds]
    by_cases e:β=γ
    ·subst e
     rw[if_pos rfl,if_pos rfl,if_pos hbl,hheap];rfl
    ·rw[if_neg e,if_neg e]
  have s2:aZ 1 M J (aQ [[.cells 1 (ivR l)]] 0 0 (.cells 1 (ivR m))) (putRow (Value.int .i64) (Sort.ahead w nn) β 0 m.toArray) M J (aQ [[.cells 1 (ivR l)]] 0 0 (.cells 1 (ivR m))) (Go.Sort.grow (putRow (Value.int .i64) (Sort.ahead w nn) β 0 m.toArray) os):=by
   have hold:∀(γ:Nat) o,(putRow (Value.int .i64) (Sort.ahead w nn) β 0 m.toArray).heap[γ]?=some o→(Go.Sort.grow (putRow (Value.int .i64) (Sort.ahead w nn) β 0 m.toArray) os).heap[γ]?=some o:=fun γ o h=>by
    show((putRow (Value.int .i64) (Sort.ahead w nn) β 0 m.toArray).heap++os)[γ]?=some o;rw[Array.getElem?_append,if_pos (Array.getElem?_eq_some_iff.1 h).1];exact h
   refine aB.step 1 s1.hrep (fun _ _ h=>h) (fun γ o h=>hold γ o (s1.mrep γ o h)) rfl (.refl _) rfl ?_ hold (fun _ _ h=>.inl h);show _≤((putRow (Value.int .i64) (Sort.ahead w nn) β 0 m.toArray).heap++os).size;rw[Array.size_append];omega
  exact⟨_,M,J,.tup [],_,rfl,s1.trans s2,.tup _ _ rfl (fun j c v hc=>by cases hc),rfl,rfl⟩
end Go.Av
namespace Go.Proofs
open Go.Shelf
def Tryz.laysSort_ren:Go.Shelf.Ren:=⟨fun | 189=>96 | 125=>143 | 257=>142 | 128=>175 | 129=>176 | 294=>166 | 295=>167 | 296=>168 | 297=>169 | 298=>170 | 299=>171 | 216=>172 | 300=>173 | 301=>174 | 328=>196 | 329=>197 | 330=>198 | 331=>199 | 332=>200 | 215=>201 | 343=>211 | n=>n,fun | 28=>22 | 3=>3 | 46=>193 | 0=>0 | 51=>273 | 53=>84 | 4=>4 | 183=>267 | 182=>266 | 131=>250 | 5=>5 | 9=>9 | 218=>286 | 222=>290 | 228=>295 | 229=>169 | n=>n,fun | n=>n⟩
theorem Tryz.laysSort:Go.Proofs.Lays.n189 Tryz.prog Tryz.laysSort_ren:={
 mixed:=by kernel_rfl
 f125:=Tryz.func143.trans (congrArg some (by kernel_rfl))
 f128:=Tryz.func175.trans (congrArg some (by kernel_rfl))
 f129:=Tryz.func176.trans (congrArg some (by kernel_rfl))
 f189:=Tryz.func96.trans (congrArg some (by kernel_rfl))
 f215:=Tryz.func201.trans (congrArg some (by kernel_rfl))
 f216:=Tryz.func172.trans (congrArg some (by kernel_rfl))
 f257:=Tryz.func142.trans (congrArg some (by kernel_rfl))
 f294:=Tryz.func166.trans (congrArg some (by kernel_rfl))
 f295:=Tryz.func167.trans (congrArg some (by kernel_rfl))
 f296:=Tryz.func168.trans (congrArg some (by kernel_rfl))
 f297:=Tryz.func169.trans (congrArg some (by kernel_rfl))
 f298:=Tryz.func170.trans (congrArg some (by kernel_rfl))
 f299:=Tryz.func171.trans (congrArg some (by kernel_rfl))
 f300:=Tryz.func173.trans (congrArg some (by kernel_rfl))
 f301:=Tryz.func174.trans (congrArg some (by kernel_rfl))
 f328:=Tryz.func196.trans (congrArg some (by kernel_rfl))
 f329:=Tryz.func197.trans (congrArg some (by kernel_rfl))
 f330:=Tryz.func198.trans (congrArg some (by kernel_rfl))
 f331:=Tryz.func199.trans (congrArg some (by kernel_rfl))
 f332:=Tryz.func200.trans (congrArg some (by kernel_rfl))
 f343:=Tryz.func211.trans (congrArg some (by kernel_rfl))
 t0:=Tryz.underlying0
 a0:=Tryz.isAgg0
 z0:=Tryz.sizeOf0
 v0:=Tryz.zeroValue0
 t3:=Tryz.underlying3
 a3:=Tryz.isAgg3
 z3:=Tryz.sizeOf3
 v3:=Tryz.zeroValue3
 t4:=Tryz.underlying4
 a4:=Tryz.isAgg4
 z4:=Tryz.sizeOf4
 v4:=Tryz.zeroValue4
 t5:=Tryz.underlying5
 a5:=Tryz.isAgg5
 z5:=Tryz.sizeOf5
 v5:=Tryz.zeroValue5
 t9:=Tryz.underlying9
 a9:=Tryz.isAgg9
 z9:=Tryz.sizeOf9
 v9:=Tryz.zeroValue9
 t28:=Tryz.underlying22
 a28:=Tryz.isAgg22
 z28:=Tryz.sizeOf22
 v28:=Tryz.zeroValue22
 t46:=Tryz.underlying193
 a46:=Tryz.isAgg193
 z46:=Tryz.sizeOf193
 v46:=Tryz.zeroValue193
 t51:=Tryz.underlying273
 a51:=Tryz.isAgg273
 z51:=Tryz.sizeOf273
 v51:=Tryz.zeroValue273
 t53:=Tryz.underlying84
 a53:=Tryz.isAgg84
 z53:=Tryz.sizeOf84
 v53:=Tryz.zeroValue84
 t131:=Tryz.underlying250
 a131:=Tryz.isAgg250
 z131:=Tryz.sizeOf250
 v131:=Tryz.zeroValue250
 t182:=Tryz.underlying266
 a182:=Tryz.isAgg266
 z182:=Tryz.sizeOf266
 v182:=Tryz.zeroValue266
 t183:=Tryz.underlying267
 a183:=Tryz.isAgg267
 z183:=Tryz.sizeOf267
 v183:=Tryz.zeroValue267
 t218:=Tryz.underlying286
 a218:=Tryz.isAgg286
 z218:=Tryz.sizeOf286
 v218:=Tryz.zeroValue286
 t222:=Tryz.underlying290
 a222:=Tryz.isAgg290
 z222:=Tryz.sizeOf290
 v222:=Tryz.zeroValue290
 t228:=Tryz.underlying295
 a228:=Tryz.isAgg295
 z228:=Tryz.sizeOf295
 v228:=Tryz.zeroValue295
 t229:=Tryz.underlying169
 a229:=Tryz.isAgg169
 z229:=Tryz.sizeOf169
 v229:=Tryz.zeroValue169 }
end Go.Proofs
namespace Go.Proofs.YtgdocflpobncmaaGreat
open Go.Av Go.Proofs
set_option maxRecDepth 20000
def TQ (l:List Int):List Int:=l.mergeSort fun x y=>decide (x≤y)
theorem ME (l:List Int) (hl:l.length < 4611686018427387904):aH Tryz.prog 96 [.hsl 0 0 0 l.length] [[.cells 1 (inR l)]] fun res H'=>res=.tup []∧H'=[[.cells 1 (inR (TQ l))]]:=
 aH.sortInts Tryz.laysSort ⟨_,Tryz.func96,by kernel_rfl,rfl⟩ l hl
end Go.Proofs.YtgdocflpobncmaaGreat
namespace Go.Proofs.YtgdocflpobncmaaGreat
open Go.Av Go.Proofs
set_option maxRecDepth 20000
def nxR (l:List Nat):List (List AV):=l.map fun x:Nat=>[iv (x:Int)]
theorem zU (l:List Nat):nxR l=inR (l.map fun x:Nat=>(x:Int)):=by simp[nxR,inR]
theorem uF (l:List Nat):(nxR l).length=l.length:=by simp[nxR]
theorem uX (l:List Nat) (k:Nat) (h:k < l.length):dO (nxR l) (k:Int)=some [iv l[k]]:=eD (fun n:Nat=>[iv n]) l k h
instance (l:List Nat):PRs (nxR l):=by unfold nxR; infer_instance
def eE:List (Nat×Nat)→Nat→Option Nat
 | [],_=>none
 | (y,c)::r,x=>if x=y then some c else eE r x
def fN:List (Nat×Nat)→Nat→Nat→List (Nat×Nat)
 | [],x,b=>[(x,b)]
 | (y,c)::r,x,b=>if x=y then(y,b)::r else(y,c)::fN r x b
def bmE (bm:List (Nat×Nat)):List (Value×AV):=bm.map fun y=>(.int .i64 (y.1:Nat),uv y.2)
theorem uT (x:Nat):∀ bm,eJ .i64 (x:Int) (bmE bm)=some ((eE bm x).map uv)
 | []=>rfl
 | (y,c)::bm=>by
  show(match decide (IntKind.i64=IntKind.i64) with
   | true=>match decide ((x:Int)=(y:Int)) with
    | true=>some (some (uv c))
    | false=>eJ .i64 (x:Int) (bmE bm)
   | false=>none)=_
  rw[dTr (rfl:IntKind.i64=IntKind.i64)]
  by_cases h:x=y
  ·subst h
   rw[dTr rfl];simp[eE]
  ·rw[dFa (by omega)]
   show eJ .i64 (x:Int) (bmE bm)=_;rw[uT x bm];simp[eE,h]
theorem DV (x b:Nat):∀ bm,eE bm x=none→fN bm x b=bm++[(x,b)]
 | [],_=>rfl
 | (y,c)::bm,h=>by
  unfold eE at h;unfold fN
  by_cases e:x=y
  ·rw[if_pos e] at h; cases h
  ·rw[if_neg e] at h
   rw[if_neg e,DV x b bm h];rfl
theorem FC (x b:Nat):∀ bm c,eE bm x=some c→tW x (uv b) (bmE bm)=bmE (fN bm x b)∧(fN bm x b).map (·.1)=bm.map (·.1)
 | [],_,h=>by cases h
 | (y,c)::bm,c',h=>by
  unfold eE at h;unfold fN
  have e0:tW x (uv b) (bmE ((y,c)::bm))=match decide ((x:Int)=(y:Int)) with
   | true=>(Value.int .i64 (y:Int),uv b)::bmE bm
   | false=>(Value.int .i64 (y:Int),uv c)::tW x (uv b) (bmE bm):=rfl
  rw[e0]
  by_cases e:x=y
  ·subst e
   rw[if_pos rfl,dTr rfl];exact⟨rfl,rfl⟩
  ·rw[if_neg e] at h
   obtain⟨h1,h2⟩:=FC x b bm c' h;rw[if_neg e,dFa (by omega)];refine⟨?_,?_⟩
   ·show _::tW _ _ _=_
    rw[h1];rfl
   ·show y::List.map (·.1) (fN bm x b)=_
    rw[h2];rfl
theorem sB (x b:Nat):∀ bm y,eE (fN bm x b) y=if y=x then some b else eE bm y
 | [],y=>by simp[fN,eE]
 | (z,c)::bm,y=>by
  unfold fN
  by_cases e:x=z
  ·subst e
   rw[if_pos rfl];unfold eE
   by_cases h:y=x<;>simp[h]
  ·rw[if_neg e]
   unfold eE;rw[sB x b bm y]
   by_cases h:y=z
   ·subst h
    simp[Ne.symm e]
   ·simp[h]
theorem kZ (x:Nat):∀ bm,eE bm x≠none↔x∈bm.map (·.1)
 | []=>by simp[eE]
 | (y,c)::bm=>by
  unfold eE
  by_cases e:x=y
  ·simp[e]
  ·rw[if_neg e,kZ x bm]
   simp[e]
def dT (bm l:List (Nat×Nat)):List (Nat×Nat):=l.foldl (fun bm y=>fN bm y.1 y.2) bm
theorem E6 (bm l:List (Nat×Nat)) (y:Nat×Nat):dT bm (l++[y])=fN (dT bm l) y.1 y.2:=by simp[dT]
theorem y7 (x b:Nat):∀ bm,(fN bm x b).length≤bm.length+1
 | []=>by simp[fN]
 | (y,c)::bm=>by
  unfold fN;split
  ·simp
  ·have:=y7 x b bm
   simp only[List.length_cons];omega
theorem nW:∀(l bm:List (Nat×Nat)),(dT bm l).length≤bm.length+l.length
 | [],bm=>Nat.le_refl _
 | y::l,bm=>by
  have h1:=nW l (fN bm y.1 y.2);have h2:=y7 y.1 y.2 bm;show(dT (fN bm y.1 y.2) l).length≤_;simp only[List.length_cons];omega
def pU (ps ds:List (List Nat)) (i:Nat):List (Nat×Nat):=(List.range i).flatMap fun j=>(ps.getD j []).zip (ds.getD j [])
theorem wS (ps ds:List (List Nat)) (i:Nat):pU ps ds (i+1)=pU ps ds i++(ps.getD i []).zip (ds.getD i []):=by
 unfold pU;rw[List.range_succ,List.flatMap_append];simp
theorem JV (bm l m:List (Nat×Nat)):dT bm (l++m)=dT (dT bm l) m:=by simp[dT]
abbrev Ac:=Nat×Nat×List Nat
def acF (a:Ac):List AV:=[iv a.1,iv a.2.1,.list 1 (bys a.2.2)]
def acR (l:List Ac):List (List AV):=l.map acF
def lH (w lo:Nat) (bm:List (Nat×Nat)) (out:List Ac) (x:Nat):List Ac:=
 match out.getLast? with
 | some a=>if a.1=(x - lo) / w∧a.2.1+a.2.2.length=x then out.dropLast++[(a.1,a.2.1,a.2.2++[(eE bm x).getD 0])] else out++[((x - lo) / w,x,[(eE bm x).getD 0])]
 | none=>[((x - lo) / w,x,[(eE bm x).getD 0])]
def sW (out:List Ac):List (List AV):=
 match out.getLast? with
 | some a=>acR out.dropLast++[[iv a.1,iv a.2.1,.hsl 1 0 0 a.2.2.length]]
 | none=>[]
def mT (out:List Ac):List Nat:=
 match out.getLast? with
 | some a=>a.2.2
 | none=>[]
theorem IG:sW []=[]:=rfl
theorem JF:mT []=[]:=rfl
theorem dH (o:List Ac) (a:Ac):sW (o++[a])=acR o++[[iv a.1,iv a.2.1,.hsl 1 0 0 a.2.2.length]]:=by simp[sW]
theorem cF (o:List Ac) (a:Ac):mT (o++[a])=a.2.2:=by simp[mT]
theorem yY (out:List Ac):(sW out).length=out.length:=by
 rcases List.eq_nil_or_concat out with rfl | ⟨o,a,rfl⟩
 ·rfl
 ·rw[List.concat_eq_append,dH]
  simp[acR]
theorem I8 (w lo:Nat) (bm:List (Nat×Nat)) (out:List Ac) (x:Nat):(lH w lo bm out x).length≤out.length+1:=by
 rcases List.eq_nil_or_concat out with rfl | ⟨o,a,rfl⟩
 ·simp[lH]
 ·rw[List.concat_eq_append]
  unfold lH;simp only[List.getLast?_concat,List.dropLast_concat]
  split<;>simp
def gX (w lo:Nat) (bm:List (Nat×Nat)) (xs:List Nat):List Ac:=xs.foldl (lH w lo bm) []
theorem BL (w lo:Nat) (bm:List (Nat×Nat)) (xs:List Nat) (x:Nat):gX w lo bm (xs++[x])=lH w lo bm (gX w lo bm xs) x:=by simp[gX]
theorem wJ {s:Sn} (h:lG s.pl s.ext=true) (hl:0 < s.pl.length) (k:Nat):∀ d,dD s k < dD s (k+1+d)
 | 0=>pF h hl k
 | d+1=>Int.lt_trans (wJ h hl k d) (pF h hl (k+1+d))
theorem LD {s:Sn} (h:lG s.pl s.ext=true) (hl:0 < s.pl.length) (ha:0≤s.at') (k:Nat):0≤dD s k:=by
 have h0:0≤dD s 0:=by
  unfold dD;have h1:=(rB h hl).1;unfold gJ at h1;rw[if_pos rfl] at h1;rw[Nat.zero_div,Nat.zero_mod];show 0≤s.at'+(0:Int) * s.ext+_;rw[Int.zero_mul];omega
 cases k with
 | zero=>exact h0
 | succ k=>
  have:=wJ h hl 0 k;rw[show 0+1+k=k+1 by omega] at this;omega
theorem OJ {s:Sn} (h:lG s.pl s.ext=true) (hl:0 < s.pl.length) (O n:Nat):(iU s O n).Pairwise (· < ·):=by
 unfold iU;rw[List.pairwise_map]
 refine List.pairwise_lt_range.imp fun {a b} hab=>?_
 have:=wJ h hl (O * s.elem.toNat+a) (b - a - 1)
 rwa[show O * s.elem.toNat+a+1+(b - a - 1)=O * s.elem.toNat+b by omega] at this
def pN (l:List Int):List Nat:=l.map Int.toNat
theorem K8 {l:List Int} (h:∀ x∈l,0≤x):(pN l).map (fun x:Nat=>(x:Int))=l:=by
 unfold pN;rw[List.map_map]
 conv=>rhs; rw[← List.map_id l]
 refine List.map_congr_left fun x hx=>?_
 have:=h x hx;show((x.toNat:Nat):Int)=x;omega
theorem BR {r:Rq} (hr:r.ok) (h:(dF r).2=0):(pN (dF r).1).map (fun x:Nat=>(x:Int))=(dF r).1∧(pN (dF r).1).length=r.data.length∧r.data.length≤4096∧(∀ x∈pN (dF r).1,x < 65536)∧(pN (dF r).1).Pairwise (· < ·):=by
 obtain⟨he,ho,hoff,hdl⟩:=hr;have hinv:=@KM r.at' r.e r.o;have hsn:=m5 (a:=r.at') he ho;unfold dF Rq.v at h ⊢;generalize cT r.at' r.e r.o=z at *;obtain⟨er,s⟩:=z;simp only at h hinv hsn ⊢
 by_cases c1:er≠0
 ·rw[if_pos c1] at h; exact absurd h c1
 rw[if_neg c1] at h ⊢;have c1:=dBc c1;have hs:=hsn c1;obtain⟨i1,_⟩:=hinv c1
 by_cases c2:r.off < 0
 ·rw[if_pos c2] at h; cases h
 rw[if_neg c2] at h ⊢
 by_cases c3:r.data.length % s.elem.toNat≠0
 ·rw[if_pos c3] at h; cases h
 rw[if_neg c3] at h ⊢
 by_cases c4:4096 < r.data.length
 ·rw[if_pos c4] at h; cases h
 rw[if_neg c4] at h ⊢
 by_cases c5:(jN s r.off.toNat r.data.length).2=true
 ·rw[if_pos c5] at h ⊢
  unfold jN at c5 ⊢
  by_cases c6:0 < r.data.length∧65536 < r.off.toNat
  ·rw[if_pos c6] at c5; cases c5
  rw[if_neg c6] at c5 ⊢
  by_cases c7:okV (iU s r.off.toNat r.data.length)=true
  ·rw[if_pos c7]
   show(pN (iU s r.off.toNat r.data.length)).map _=iU s r.off.toNat r.data.length∧(pN (iU s r.off.toNat r.data.length)).length=_∧_∧(∀ x∈pN (iU s r.off.toNat r.data.length),_)∧(pN (iU s r.off.toNat r.data.length)).Pairwise _
   have hnn:∀ x∈iU s r.off.toNat r.data.length,0≤x:=fun x hx=>by
    obtain⟨i,_,rfl⟩:=List.mem_map.1 hx;exact LD i1 hs.2.2.2.1 hs.1.1 _
   refine⟨K8 hnn,by simp[pN,iU],by omega,fun x hx=>?_,?_⟩
   ·obtain⟨y,hy,rfl⟩:=List.mem_map.1 hx
    have:=nO.1 c7 y hy;have:=hnn y hy;omega
   ·unfold pN
    rw[List.pairwise_map];refine List.Pairwise.imp_of_mem (fun {a b} ha hb hab=>?_) (OJ i1 hs.2.2.2.1 _ _);have:=hnn a ha;have:=hnn b hb;omega
  ·rw[if_neg c7] at c5; cases c5
 ·rw[if_neg c5] at h; cases h
def psN (l:List Rq):List (List Nat):=l.map fun r=>pN (dF r).1
def dsN (l:List Rq):List (List Nat):=l.map (·.data)
theorem F4 {l:List Rq} (h:(kU l).2=0):l.length≤64∧(∀ r∈l,(dF r).2=0)∧(kU l).1=l.map fun r=>(dF r).1:=by
 unfold kU at h ⊢
 by_cases c:64 < l.length
 ·rw[if_pos c] at h; cases h
 rw[if_neg c] at h ⊢
 cases q:l.find? (fun r=>decide ((dF r).2≠0)) with
 | none=>
  refine⟨by omega,fun r hr=>?_,rfl⟩;have:=List.find?_eq_none.1 q r hr
  simpa using this
 | some r=>
  rw[q] at h;have:=List.find?_some q;simp only[decide_eq_true_eq] at this;exact absurd h this
theorem CR {r:Rq} (h:r.ok):∃ c0 c1 c2 c3 c4 c5 c6 c7 c8 c9 c10 c11 c12 c13 c14 c15 c16,rqR r=[c0,c1,c2,c3,c4,c5,c6,c7,c8,c9,c10,c11,c12,c13,c14,c15,c16,iv r.off,.list 1 (bys r.data)]:=by
 obtain⟨a,t1,t2,off,data⟩:=r;obtain⟨he,ho,_,_⟩:=h;obtain⟨_,k1,c1,b1,s1,z1,l1,p1,f1,_,rfl,_⟩:=aO he;obtain⟨_,k2,c2,b2,s2,z2,l2,p2,f2,_,rfl,_⟩:=aO ho;unfold rqR vwR;rw[tyR,tyR];exact⟨_,_,_,_,_,_,_,_,_,_,_,_,_,_,_,_,_,rfl⟩
def bmF (l:List Rq):List (Nat×Nat):=dT [] (pU (psN l) (dsN l) l.length)
def gI (bm:List (Nat×Nat)):List Nat:=(bm.map (·.1)).mergeSort fun x y=>decide (x≤y)
def DZ (bm:List (Nat×Nat)) (N:Nat):List Ac:=gX (((gI bm).getLastD 0 - (gI bm).headD 0+N) / N) ((gI bm).headD 0) bm (gI bm)
def zW (l:List Rq) (parts:Int):List Ac×Int:=
 if (kU l).2≠0 then([],(kU l).2) else if parts < 1∨64 < parts then([],3) else(DZ (bmF l) parts.toNat,0)
theorem LF (bm:List (Nat×Nat)):TQ ((bm.map (·.1)).map fun x:Nat=>(x:Int))=(gI bm).map fun x:Nat=>(x:Int):=by
 unfold TQ gI;rw[List.map_mergeSort (s:=fun x y:Int=>decide (x≤y))];intro a _ b _;simp
instance (l:List Ac):PRs (acR l):=⟨fun r hr c hc=>by
 obtain⟨q,_,rfl⟩:=List.mem_map.1 hr;unfold acF at hc;simp only[List.mem_cons,List.not_mem_nil,or_false] at hc
 rcases hc with rfl | rfl | rfl
 ·exact .sc _
 ·exact .sc _
 ·exact(pv _)⟩
instance (bm:List (Nat×Nat)):PM (bmE bm):=⟨fun x hx=>by
 obtain⟨y,_,rfl⟩:=List.mem_map.1 hx
 exact .sc _⟩
def bmI (l:List Rq) (i j:Nat):List (Nat×Nat):=dT (dT [] (pU (psN l) (dsN l) i)) ((((psN l).getD i []).zip ((dsN l).getD i [])).take j)
theorem BT (l:List Rq) (i:Nat):bmI l i 0=dT [] (pU (psN l) (dsN l) i):=by unfold bmI; rw[List.take_zero]; rfl
theorem JX (l:List Rq) (i n:Nat) (h:(((psN l).getD i []).zip ((dsN l).getD i [])).length≤n):bmI l i n=bmI l (i+1) 0:=by
 rw[BT,wS,JV];unfold bmI;rw[List.take_of_length_le h]
theorem MP (l:List Rq) (i j:Nat) {x b:Nat} (hx:((psN l).getD i [])[j]?=some x) (hb:((dsN l).getD i [])[j]?=some b):bmI l i (j+1)=fN (bmI l i j) x b:=by
 unfold bmI
 have:(((psN l).getD i []).zip ((dsN l).getD i []))[j]?=some (x,b):=by
  rw[List.getElem?_zip_eq_some];exact⟨hx,hb⟩
 rw[List.take_add_one,this];exact E6 _ _ _
theorem B6 {w lo:Nat} {bm:List (Nat×Nat)} {out:List Ac} {x:Nat} (hx:x < 65536) (h:∀ a∈out,a.2.1 < 65536):∀ a∈lH w lo bm out x,a.2.1 < 65536:=by
 rcases List.eq_nil_or_concat out with rfl | ⟨o,a,rfl⟩
 ·intro a ha
  rw[List.mem_singleton.1 ha];exact hx
 ·rw[List.concat_eq_append] at h ⊢
  unfold lH;simp only[List.getLast?_concat,List.dropLast_concat];split
  ·intro b hb
   rcases List.mem_append.1 hb with hb | hb
   ·exact h b (by simp[hb])
   ·rw[List.mem_singleton.1 hb]
    exact h a (by simp)
  ·intro b hb
   rcases List.mem_append.1 hb with hb | hb
   ·exact h b hb
   ·rw[List.mem_singleton.1 hb]
    exact hx
theorem acB {T:AV→AV→Prop} {ρ:Nat→Nat→Option (Nat×Nat)} {o:List Ac} {a1 a2:Nat} {a3:List Nat} {l:AV} {r r':List AV} (h1:To T ρ l (.list 1 (bys a3))) (h2:ToL T ρ r r'):ToB T ρ (.cells 3 (acR o++[[iv a1,iv a2,l]]++[r])) (.cells 3 (acR (o++[(a1,a2,a3)])++[r'])):=by
 rw[show acR (o++[(a1,a2,a3)])=acR o++[[iv a1,iv a2,.list 1 (bys a3)]] by simp[acR,acF]];exact ToB.rowsR (ToR.append (ToR.append (ToR.pure (prs _)) (ToR.cons (ToL.cons (.sc _) (ToL.cons (.sc _) (ToL.cons h1 ToL.nil))) ToR.nil)) (ToR.cons h2 ToR.nil))
theorem acS {T:AV→AV→Prop} {ρ:Nat→Nat→Option (Nat×Nat)} {o:List Ac} {n:Nat} {q r r':List AV} (hn:n=(acR o).length) (h:ToL T ρ r r'):ToB T ρ (.cells 3 ((acR o++[q]).set n r)) (.cells 3 (acR o++[r'])):=by
 subst hn;rw[show(acR o++[q]).set (acR o).length r=acR o++[r] by simp];exact wt9 rfl h
theorem GZ (bm:List (Nat×Nat)):∀(i j:Nat) (hi:i < (gI bm).length) (hj:j < (gI bm).length),i≤j→(gI bm)[i]≤(gI bm)[j]:=fun i j hi hj h=>by
 have h1:(gI bm).Pairwise fun a b=>decide (a≤b)=true:=List.pairwise_mergeSort (fun a b c h1 h2=>by simp at h1 h2 ⊢; omega) (fun a b=>by simp; omega) _
 rcases Nat.lt_or_ge i j with q | q
 ·simpa using List.pairwise_iff_getElem.1 h1 i j hi hj q
 ·obtain rfl:i=j:=by omega
  exact Nat.le_refl _
def IP (bm:List (Nat×Nat)):Heap:=[[.cells 1 (nxR (bm.map (·.1)))],[.map (bmE bm)]]
theorem MR {N:Nat} (h1:1≤N) (h2:N≤64) (bm:List (Nat×Nat)) (hn:bm.length≤300000) (hb:∀ x∈bm.map (·.1),x < 65536) (hne:bm≠[]):
  AWP Tryz.prog F32.n 0 (gZ [1,1,1,1,1,1,1] F32.code) (aG F32.res (.tup [.list 3 (acR (DZ bm N)),iv 0])) [(1,iv N),(8,.tmap (bmE bm)),(9,.hsl 0 0 0 bm.length)] [[.cells 1 (nxR (bm.map (·.1)))]]:=by
 show AWP _ _ _ (.seq _ _) _ _ _;have hs:=ME ((bm.map (·.1)).map fun x:Nat=>(x:Int)) (by simp; omega);rw[← zU,LF,← zU] at hs;simp only[List.length_map] at hs
 have hsl:(gI bm).length=bm.length:=by unfold gI; rw[List.length_mergeSort,List.length_map]
 have hsb:∀ x∈gI bm,x < 65536∧eE bm x≠none:=fun x hx=>by
  unfold gI at hx;rw[List.mem_mergeSort] at hx;exact⟨hb x hx,(kZ x bm).2 hx⟩
 refine AWP.seq ?_;refine AWP.region ?_;refine Reg.o rfl rfl ?_;refine Reg.c (nZl _) rfl (hs.mono ?_);rintro res H' ⟨rfl,rfl⟩;unfold DZ;have hasc:=GZ bm;generalize gI bm=s at *;have hsl2:=uF s;refine Reg.nil ?_;refine AWP.sub (fr':=[(1,iv N),(8,.tmap (bmE bm)),(9,.list 1 (nxR s))]) (H':=[]) ?_ ?_
 ·rw[← hsl]
  exact Sub.w [] []
 have hs0:0 < s.length:=by
  rw[hsl];exact List.length_pos_iff.2 hne
 have r0:=uX s 0 hs0;have r1:=uX s (s.length - 1) (by omega);have hlo:=(hsb s[0] (gMe _)).1;have hhi:=(hsb s[s.length - 1] (gMe _)).1;rw[show s.headD 0=s[0] by cases s with | nil=>exact absurd hs0 (Nat.lt_irrefl 0) | cons=>rfl,show s.getLastD 0=s[s.length - 1] by rw[List.getLastD_eq_getLast?,List.getLast?_eq_getElem?,gEg (by omega)]; rfl];have hlh:=hasc 0 (s.length - 1) hs0 (by omega) (nZl _)
 have hlx:=fun i hi=>hasc 0 i hs0 hi (nZl _)
 have hxh:=fun i hi=>hasc i (s.length - 1) hi (by omega) (by omega)
 generalize s[0]=lo at *;generalize s[s.length - 1]=hi at *;rw[← hsl2] at r1;refine aA ?_
 obtain⟨w,hw⟩:∃ w,w=(hi - lo+N) / N:=⟨_,rfl⟩
 rw[← hw]
 have hw1:w≠0:=by
  have:=Nat.div_le_div_right (c:=N) (show N≤hi - lo+N by omega);rw[Nat.div_self (by omega)] at this;omega
 rw[hsl2];refine AWP.loop (fun i:Nat=>[(8,.tmap (bmE bm)),(16,iv lo),(17,iv w),(18,.hsl 0 0 0 (gX w lo bm (s.take i)).length),(98,.list 1 (nxR s)),(99,iv s.length),(100,iv i)]) (fun i=>[[.cells 3 (sW (gX w lo bm (s.take i)))],[.cells 1 (bys (mT (gX w lo bm (s.take i))))]]) (fun i=>i≤s.length∧(gX w lo bm (s.take i)).length≤i∧(mT (gX w lo bm (s.take i))).length≤i∧∀ a∈gX w lo bm (s.take i),a.2.1 < 65536) (fun i=>s.length - i) 0 ⟨nZl _,Nat.le_refl _,Nat.le_refl _,fun a ha=>by cases ha⟩ ?_ ?_
 ·show Sub _ _ _ _ [(8,.tmap (bmE bm)),(16,iv lo),(17,iv w),(18,.hsl 0 0 0 0),(98,.list 1 (nxR s)),(99,iv s.length),(100,iv 0)] [[.cells 3 []],[.cells 1 []]]
  exact Sub.wl [3,1] [[(0,0)],[(1,0)]]
 rintro i ⟨hi9,hol,hdl,hat⟩;refine aA ?_;refine AWP.condN (i < s.length) rfl rfl (fun h=>?_) (fun h=>?_)
 ·have hr:=uX s i h
  have hx:=hsb s[i] (gMe _);have hxl:=hlx i h;have hxu:=hxh i h;have hsn:=BL w lo bm (s.take i) s[i];rw[show s.take i++[s[i]]=s.take (i+1) by rw[List.take_add_one,gEg h]; rfl] at hsn;generalize s[i]=x at *;generalize gX w lo bm (s.take i)=out at *;have hat2:=B6 (w:=w) (lo:=lo) (bm:=bm) hx.1 hat;rw[← hsn] at hat2;obtain⟨b,hb⟩:=Option.ne_none_iff_exists'.1 hx.2;have hmf:=uT x bm;rw[hb] at hmf;replace hmf:eJ .i64 (x:Int) (bmE bm)=some (some (uv b)):=hmf;unfold lH at hsn;rw[hb] at hsn;have hrl:=yY out
  obtain⟨pp,hpp⟩:∃ pp,pp=(x - lo) / w:=⟨_,rfl⟩
  rw[← hpp] at hsn
  rcases List.eq_nil_or_concat out with rfl | ⟨o,a,hox⟩
  ·refine aA ?_
   rw[← hpp];refine aA ?_;refine DK.nil ⟨by kernel_rfl,?_⟩;refine aA ?_;refine Reg.o rfl (kJ rfl rfl hmf) ?_;refine aA ?_;replace hsn:gX w lo bm (s.take (i+1))=[(pp,x,[b])]:=hsn;refine⟨i+1,⟨by omega,by rw[hsn]; simp,by rw[hsn]; simp[mT],hat2⟩,by omega,?_⟩;rw[hsn,show sW [(pp,x,[b])]=[[iv pp,iv x,.hsl 1 0 0 1]] from rfl,show bys (mT [(pp,x,[b])])=[[uv b]] from rfl];exact Sub.wl [] [[(5,0)],[(3,0)]]
  ·rw[List.concat_eq_append] at hox
   subst hox;obtain⟨a1,a2,a3⟩:=a
   have hln:(o++[(a1,a2,a3)]).length=o.length+1:=by simp
   have hal:(acR o).length=o.length:=by simp[acR]
   have hr2:dO (acR o++[[iv a1,iv a2,.hsl 1 0 0 a3.length]]) ((o.length:Nat):Int)=some [iv a1,iv a2,.hsl 1 0 0 a3.length]:=by
    rw[lC,← hal,List.getElem?_concat_length]
   rw[hln] at hrl ⊢;rw[dH] at hrl ⊢;rw[cF] at hdl ⊢;have ha2:a2 < 65536:=hat (a1,a2,a3) (by simp);replace hdl:a3.length≤i:=hdl;have hbl:=iX a3;simp only[List.getLast?_concat,List.dropLast_concat] at hsn
   replace hsn:gX w lo bm (s.take (i+1))=if a1=pp∧a2+a3.length=x then o++[(a1,a2,a3++[b])] else o++[(a1,a2,a3)]++[(pp,x,[b])]:=hsn
   show AWP _ _ _ _ _ _ [[.cells 3 (acR o++[[iv a1,iv a2,.hsl 1 0 0 a3.length]])],[.cells 1 (bys a3)]];refine aA ?_;rw[← hpp]
   by_cases e1:a1=pp
   ·rw[dTr e1]
    refine aA ?_;refine DK.nil ⟨by kernel_rfl,?_⟩;refine aA ?_;refine AWP.condN (a2+a3.length=x) rfl rfl (fun e2=>?_) (fun e2=>?_)
    ·rw[if_pos ⟨e1,e2⟩] at hsn
     refine aA ?_;refine DK.o rfl (kJ rfl rfl hmf) ?_;refine aA ?_;refine DK.nil ⟨by kernel_rfl,?_⟩;refine aA ?_;refine⟨i+1,⟨by omega,by rw[hsn]; simp only[lAp,List.length_cons,List.length_nil] at hol ⊢; omega,by rw[hsn,cF]; simp only[lAp,List.length_cons,List.length_nil]; omega,hat2⟩,by omega,?_⟩;rw[hsn,dH,cF]
     have hbs:bys a3++[[uv b]]=bys (a3++[b]):=by simp[bys]
     refine Sub.to [] [[(0,0)],[(3,11)]] ?_ (aI.cons (eF (acS (n:=o.length+1 - 1) ?hn ?_) bQ.nil rfl) (aI.cons ?_ aI.nil)) rfl rfl rfl
     case hn=>omega
     (all_goals exact gY)
    ·rw[if_neg (fun q=>e2 q.2)] at hsn
     refine aA ?_;refine Reg.o rfl (kJ rfl rfl hmf) ?_;refine aA ?_;refine⟨i+1,⟨by omega,by rw[hsn]; simpa using hol,by rw[hsn,cF]; simp,hat2⟩,by omega,?_⟩;rw[hsn,dH,cF];refine Sub.to [] [[(5,0)],[(3,0)]] ?_ (aI.cons (eF (acB (wt2 rfl rfl hbl rfl) ?_) bQ.nil) (aI.cons ?_ aI.nil)) rfl rfl rfl
     (all_goals exact gY)
   ·rw[dFa e1,if_neg (fun q=>e1 q.1)] at *
    refine aA ?_;refine DK.nil ⟨by kernel_rfl,?_⟩;refine aA ?_;refine Reg.o rfl (kJ rfl rfl hmf) ?_;refine aA ?_;refine⟨i+1,⟨by omega,by rw[hsn]; simpa using hol,by rw[hsn,cF]; simp,hat2⟩,by omega,?_⟩;rw[hsn,dH,cF];refine Sub.to [] [[(5,0)],[(3,0)]] ?_ (aI.cons (eF (acB (wt2 rfl rfl hbl rfl) ?_) bQ.nil) (aI.cons ?_ aI.nil)) rfl rfl rfl
    (all_goals exact gY)
 ·obtain rfl:s.length=i:=by omega
  rw[List.take_length];generalize gX w lo bm s=out at *;refine aA ?_
  rcases List.eq_nil_or_concat out with rfl | ⟨o,a,hox⟩
  ·exact aG.w
  ·rw[List.concat_eq_append] at hox
   subst hox;obtain⟨a1,a2,a3⟩:=a
   have hln:(o++[(a1,a2,a3)]).length=o.length+1:=by simp
   have hal:(acR o).length=o.length:=by simp[acR]
   have hbl:=iX a3;rw[dH,cF,show acR (o++[(a1,a2,a3)])=acR o++[[iv a1,iv a2,.list 1 (bys a3)]] by simp[acR,acF]];refine aG.mk (.inr rfl) rfl rfl ?_;refine To.tupL (ToL.cons ?_ (ToL.cons (.sc _) ToL.nil));refine To.fzT rfl rfl (by simp[hal]) (To.listR (ToR.append (ToR.pure (prs _)) (ToR.cons (ToL.cons (.sc _) (ToL.cons (.sc _) (ToL.cons ?_ ToL.nil))) ToR.nil)));exact wt2 rfl rfl hbl rfl
theorem ET (x b y:Nat) (bm:List (Nat×Nat)):y∈(fN bm x b).map (·.1)↔y=x∨y∈bm.map (·.1):=by
 rw[← kZ,← kZ,sB]
 by_cases h:y=x
 ·simp[h]
 ·simp[h]
theorem pG (y:Nat):∀(l bm:List (Nat×Nat)),y∈(dT bm l).map (·.1)↔y∈bm.map (·.1)∨y∈l.map (·.1)
 | [],bm=>by simp[dT]
 | z::l,bm=>by
  show y∈(dT (fN bm z.1 z.2) l).map (·.1)↔_;rw[pG y l,ET,List.map_cons,List.mem_cons];constructor
  ·rintro((h | h) | h)<;>simp[h]
  ·rintro(h | h | h)<;>simp[h]
def plN (qs:List (List Nat)):List (List AV):=qs.map fun q=>[.list 1 (nxR q)]
theorem G4 (l:List (List Nat)):(plN l).length=l.length:=by simp[plN]
theorem M9 (l:List (List Nat)) (k:Nat) (h:k < l.length):dO (plN l) (k:Int)=some [.list 1 (nxR l[k])]:=eD (fun p:List Nat=>[.list 1 (nxR p)]) l k h
instance (l:List (List Nat)):PRs (plN l):=by unfold plN; infer_instance
theorem HM {l:List Rq} (hl:∀ r∈l,r.ok) (h:(kU l).2=0):plR (kU l).1=plN (psN l):=by
 obtain⟨_,h2,h3⟩:=F4 h;rw[h3];unfold plR plN psN;rw[List.map_map,List.map_map]
 refine List.map_congr_left fun r hr=>?_
 show[AV.list 1 (inR (dF r).1)]=[AV.list 1 (nxR (pN (dF r).1))];rw[zU,(BR (hl r hr) (h2 r hr)).1]
structure MN (l:List Rq):Prop where
 le:l.length≤64
 len:∀ i (h:i < l.length),((psN l).getD i []).length=l[i].data.length∧l[i].data.length≤4096
 ds:∀ i (h:i < l.length),(dsN l).getD i []=l[i].data
 bd:∀ i,∀ x∈(psN l).getD i [],x < 65536
 asc:∀ i,((psN l).getD i []).Pairwise (· < ·)
theorem AP {l:List Rq} (hl:∀ r∈l,r.ok) (h:(kU l).2=0):MN l:=by
 obtain⟨h1,h2,_⟩:=F4 h
 have hg:∀ i (h:i < l.length),(psN l).getD i []=pN (dF l[i]).1:=fun i h=>by simp[psN,h]
 have ho:∀ i,¬ i < l.length→(psN l).getD i []=[]:=fun i h=>by simp[psN,h]
 have hk:=fun i (h:i < l.length)=>BR (hl l[i] (gMe _)) (h2 l[i] (gMe _))
 refine⟨h1,fun i h=>?_,fun i h=>by simp[dsN,h],fun i=>?_,fun i=>?_⟩
 ·rw[hg i h]
  exact⟨(hk i h).2.1,(hk i h).2.2.1⟩
 ·by_cases h:i < l.length
  ·rw[hg i h]
   exact(hk i h).2.2.2.1
  ·rw[ho i h]
   intro x hx
   cases hx
 ·by_cases h:i < l.length
  ·rw[hg i h]
   exact(hk i h).2.2.2.2
  ·rw[ho i h]
   exact .nil
theorem nA {l:List Rq} (g:MN l):∀ i,i≤l.length→(pU (psN l) (dsN l) i).length≤i * 4096∧∀ y∈pU (psN l) (dsN l) i,y.1 < 65536
 | 0,_=>⟨Nat.le_refl _,fun y hy=>by cases hy⟩
 | i+1,h=>by
  obtain⟨h1,h2⟩:=nA g i (by omega);rw[wS];obtain⟨h3,h4⟩:=g.len i h;refine⟨?_,fun y hy=>?_⟩
  ·rw[lAp,List.length_zip]
   omega
  ·rcases List.mem_append.1 hy with hy | hy
   ·exact h2 y hy
   ·exact g.bd i _ (List.of_mem_zip hy).1
theorem QJ {l:List Rq} (g:MN l) {i j:Nat} (hi:i < l.length):(bmI l i j).length≤270000:=by
 unfold bmI;have h1:=nW ((((psN l).getD i []).zip ((dsN l).getD i [])).take j) (dT [] (pU (psN l) (dsN l) i));have h2:=nW (pU (psN l) (dsN l) i) [];have h3:=(nA g i (by omega)).1;have h4:=g.len i hi
 have h5:((((psN l).getD i []).zip ((dsN l).getD i [])).take j).length≤4096:=by
  rw[List.length_take,List.length_zip];omega
 have:=g.le;simp only[List.length_nil] at h2;omega
theorem N1 {l:List Rq} (g:MN l):(bmF l).length≤300000∧∀ x∈(bmF l).map (·.1),x < 65536:=by
 obtain⟨h1,h2⟩:=nA g l.length (Nat.le_refl _);have h3:=nW (pU (psN l) (dsN l) l.length) [];have:=g.le;unfold bmF;simp only[List.length_nil] at h3;refine⟨by omega,fun x hx=>?_⟩;rw[pG] at hx
 rcases hx with hx | hx
 ·cases hx
 ·obtain⟨y,hy,rfl⟩:=List.mem_map.1 hx
  exact h2 y hy
theorem BI (N:Nat):DZ [] N=[]:=by unfold DZ gI; simp[gX]
theorem TW {l:List Rq} {parts:Int} (hl:∀ r∈l,r.ok) (hn:l.length < 1000000000):aB Tryz.prog 32 [.list 19 (rqs l),iv parts] (.tup [.list 3 (acR (zW l parts).1),iv (zW l parts).2]):=by
 refine aB.mkI cF32 (nlB rfl) ?_;have ha:=SZ hl hn;unfold zW;have hgood:=AP hl;have hpl:=HM hl;generalize kU l=z at *;obtain⟨pz,er⟩:=z;simp only at ha hgood hpl ⊢;refine aA ?_;refine AWP.condN (er≠0) rfl (d9 _) (fun h0=>?_) (fun h0=>?_)
 ·rw[if_pos h0,show acR (([],er):List Ac×Int).1=[] from rfl]
  refine aA ?_;exact aG.w
 rw[if_neg h0];obtain rfl:er=0:=dBc h0;have g:=hgood rfl;rw[hpl rfl] at ha ⊢;refine aA ?_
 by_cases c1:parts < 1
 ·rw[dTr c1,if_pos (.inl c1),show acR (([],3):List Ac×Int).1=[] from rfl]
  refine aA ?_;exact aG.w
 rw[dFa c1];refine aA ?_;refine AWP.condN (64 < parts) rfl rfl (fun c2=>?_) (fun c2=>?_)
 ·rw[if_pos (.inr c2),show acR (([],3):List Ac×Int).1=[] from rfl]
  refine aA ?_;exact aG.w
 rw[if_neg (by omega)]
 obtain⟨N,rfl⟩:∃ N:Nat,parts=N:=⟨parts.toNat,by omega⟩
 rw[Int.toNat_natCast];have hpn:=G4 (psN l)
 have hps:(psN l).length=l.length:=by simp[psN]
 refine aA ?_;rw[hpn];refine AWP.loop (fun i:Nat=>[(0,.list 19 (rqs l)),(1,iv N),(8,.mref 1 0),(40,.list 1 (plN (psN l))),(41,iv (psN l).length),(9,.hsl 0 0 0 (bmI l i 0).length),(42,iv i)]) (fun i=>IP (bmI l i 0)) (fun i=>i≤(psN l).length) (fun i=>(psN l).length - i) 0 (nZl _) ?_ ?_
 ·show Sub _ _ _ _ [(0,.list 19 (rqs l)),(1,iv N),(8,.mref 1 0),(40,.list 1 (plN (psN l))),(41,iv (psN l).length),(9,.hsl 0 0 0 0),(42,iv 0)] [[.cells 1 []],[.map []]]
  exact Sub.wl [1] [[(1,0)],[(0,0)]]
 rintro i hi;refine aA ?_;refine AWP.condN (i < (psN l).length) rfl rfl (fun h=>?_) (fun h=>?_)
 ·have hr:=M9 (psN l) i h
  have hil:i < l.length:=by omega
  obtain⟨q1,q2⟩:=g.len i hil;have hds:=g.ds i hil;have hnx:=JX l i ((psN l).getD i []).length (by rw[List.length_zip]; omega)
  have hle:=fun j=>QJ g (j:=j) hil
  have hsc:=fun j x b=>@MP l i j x b
  obtain⟨c0,c1',c2',c3,c4,c5,c6,c7,c8,c9,c10,c11,c12,c13,c14,c15,c16,hrow⟩:=CR (hl l[i] (gMe _));have hr2:=rL l i hil;rw[hrow] at hr2;rw[hds] at hsc;rw[show(psN l)[i]=(psN l).getD i [] by simp[h]] at hr;generalize (psN l).getD i []=q at *;generalize l[i].data=d at *;generalize l[i].off=off at *;have hql:=uF q;refine aA ?_;rw[hql];refine AWP.loop (fun j:Nat=>[(0,.list 19 (rqs l)),(1,iv N),(8,.mref 1 0),(40,.list 1 (plN (psN l))),(41,iv (psN l).length),(9,.hsl 0 0 0 (bmI l i j).length),(42,iv i),(10,iv i),(47,.list 1 (nxR q)),(48,iv q.length),(49,iv j)]) (fun j=>IP (bmI l i j)) (fun j=>j≤q.length) (fun j=>q.length - j) 0 (nZl _) ?_ ?_
  ·unfold IP
   exact Sub.wl [] [[(0,0)],[(1,0)]]
  rintro j hj;refine aA ?_;refine AWP.condN (j < q.length) rfl rfl (fun h2=>?_) (fun h2=>?_)
  ·have hr3:=uX q j h2
   have hr4:=zQ d j (by omega);have hs:=hsc j q[j] (d[j]'(by omega)) (gEg h2) (gEg _);have hle1:=hle j;generalize q[j]=x at *;generalize d[j]'(by omega)=b at *;have hmf:=uT x (bmI l i j);have hnew:=DV x b (bmI l i j);have hold:=FC x b (bmI l i j);generalize bmI l i j=bm at *
   have hkl:(nxR (bm.map (·.1))).length=bm.length:=by rw[uF,List.length_map]
   unfold IP;refine aA ?_
   cases hg:eE bm x with
   | none=>
    rw[hg] at hmf;replace hmf:eJ .i64 (x:Int) (bmE bm)=some none:=hmf;refine Reg.o rfl (nM rfl rfl rfl hmf) ?_;refine aA ?_;refine Reg.on rfl (FE rfl rfl rfl rfl hmf) ?_;refine aA ?_;refine⟨j+1,by omega,by omega,?_⟩;rw[hs,hnew hg]
    have e1:nxR ((bm++[(x,b)]).map (·.1))=nxR (bm.map (·.1))++[[iv x]]:=by simp[nxR]
    have e2:bmE bm++[(.int .i64 (x:Int),uv b)]=bmE (bm++[(x,b)]):=by simp[bmE]
    rw[e1,lAp];exact Sub.wl [] [[(3,0)],[(1,0)]]
   | some c=>
    rw[hg] at hmf;replace hmf:eJ .i64 (x:Int) (bmE bm)=some (some (uv c)):=hmf;refine Reg.o rfl (nM rfl rfl rfl hmf) ?_;refine aA ?_;refine Reg.on rfl (DN rfl rfl rfl rfl hmf) ?_;refine aA ?_;refine⟨j+1,by omega,by omega,?_⟩;obtain⟨e1,e2⟩:=hold c hg
    have e3:(fN bm x b).length=bm.length:=by rw[← List.length_map (·.1),e2,List.length_map]
    rw[hs,e2,e3];exact Sub.wl [] [[(0,0)],[(1,0)]]
  ·obtain rfl:q.length=j:=by omega
   rw[hnx];refine aA ?_;refine⟨i+1,by omega,by omega,?_⟩;unfold IP;exact Sub.wl [] [[(0,0)],[(1,0)]]
 ·obtain rfl:(psN l).length=i:=by omega
  rw[BT,hps,show dT [] (pU (psN l) (dsN l) l.length)=bmF l from rfl];obtain⟨hb1,hb2⟩:=N1 g;generalize bmF l=bm at *;unfold IP;refine aA ?_;refine AWP.condN (bm.length=0) rfl rfl (fun h5=>?_) (fun h5=>?_)
  ·obtain rfl:=List.eq_nil_of_length_eq_zero h5
   rw[BI,show acR (([],0):List Ac×Int).1=[] from rfl];refine aA ?_;exact aG.w
  ·refine AWP.skip ?_
   refine AWP.sub ?_ (MR (N:=N) (by omega) (by omega) bm hb1 hb2 (fun q=>h5 (by rw[q]; rfl)));exact Sub.wl [] [[(0,0)]]
end Go.Proofs.YtgdocflpobncmaaGreat
