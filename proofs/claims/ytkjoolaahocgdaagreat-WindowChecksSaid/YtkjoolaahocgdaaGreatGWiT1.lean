import Derived.Test.YtkjoolaahocgdaaGreatGAvL2
import Derived.Test.YtkjoolaahocgdaaGreatProg
import Derived.KernelRfl
import Derived.Test.YtkjoolaahocgdaaGreatGWiCs
import Derived.Test.YtkjoolaahocgdaaGreatGWiC
namespace Go.Proofs.YtkjoolaahocgdaaGreat
open Go.Av Go.Proofs
set_option maxRecDepth 100000
abbrev mv17 (d s:Nat):IOper:=⟨some d,none,.op (.move (.tmp s))⟩
abbrev ld17 (d s:Nat):IOper:=⟨some d,none,.op (.load 1 false (.tmp s))⟩
abbrev fa17 (d k s:Nat):IOper:=⟨some d,none,.op (.fieldAddr k (.tmp s))⟩
abbrev mc17 (d:Nat) (n:Int):IOper:=⟨some d,none,.op (.move (.const (.int .i64 n)))⟩
abbrev ln17 (d s:Nat):IOper:=⟨some d,none,.op (.len (.tmp s))⟩
abbrev bc17 (d:Nat) (o:BinOp) (k s:Nat) (n:Int):IOper:=⟨some d,none,.op (.bin o k (.tmp s) (.const (.int .i64 n)))⟩
abbrev pt17 (d a b:Nat):IOper:=⟨some d,none,.op (.pick (.tmp a) (.const (.bool true)) (.tmp b))⟩
abbrev gl17 (d c:Nat) (b:Bool) (z s:Nat):IOper:=⟨some d,some (c,b),.op (.load z false (.tmp s))⟩
abbrev gf17 (d c:Nat) (b:Bool) (z s:Nat):IOper:=⟨some d,some (c,b),.op (.fieldAddr z (.tmp s))⟩
abbrev gm17 (d c:Nat) (b:Bool) (s:Nat):IOper:=⟨some d,some (c,b),.op (.move (.tmp s))⟩
def F17:IFun:=⟨45,(.seq (.region [⟨some 1,none,.op (.box (.tmp 0))⟩,⟨some 2,none,.op (.alloc [(1,(.int .i64 0)),(1,(.slice none 0 0))])⟩]) (.seq (.region [fa17 7 0 1,ld17 8 7,⟨some 9,none,.op (.build [(1,(.int .i64 0)),(1,(.slice none 0 0))] [(0,(1,(.tmp 8)))])⟩,⟨some 3,none,.op (.alloc [(1,(.int .i64 0)),(1,(.slice none 0 0))])⟩,⟨none,none,.op (.store 2 (.tmp 3) (.tmp 9))⟩]) (.seq (.seq (.region [mc17 4 0]) (.block 0 (.loop (.seq (.seq (.region [mv17 10 4,fa17 11 1 1,ld17 12 11,ln17 13 12,⟨some 14,none,.op (.bin .lss 3 (.tmp 10) (.tmp 13))⟩]) (.cond (.tmp 14) .skip (.exit 0))) (.seq (.block 1 (.seq (.region [⟨some 5,none,.op (.move (.const (.slice none 0 0)))⟩]) (.seq (.seq (.region [mc17 6 0]) (.block 2 (.loop (.seq (.seq (.region [mv17 17 6,fa17 18 1 1,ld17 19 18,mv17 20 4,⟨some 21,none,.op (.idxSl 1 (.tmp 19) (.tmp 20))⟩,ld17 22 21,ln17 23 22,⟨some 24,none,.op (.bin .lss 3 (.tmp 17) (.tmp 23))⟩]) (.cond (.tmp 24) .skip (.exit 2))) (.seq (.block 3 (.region [mv17 27 5,fa17 28 1 1,ld17 29 28,mv17 30 4,⟨some 31,none,.op (.idxSl 1 (.tmp 29) (.tmp 30))⟩,ld17 32 31,mv17 33 6,⟨some 34,none,.op (.idxSl 7 (.tmp 32) (.tmp 33))⟩,⟨some 35,none,.op (.load 7 true (.tmp 34))⟩,⟨some 36,none,.op (.buildSlice 7 [(6,(.int .i64 0)),(1,(.slice none 0 0))] 1 [(0,(.tmp 35))])⟩,⟨some 37,none,.op (.append 7 72 (.tmp 27) (.tmp 36))⟩,mv17 5 37])) (.region [mv17 25 6,bc17 26 .add 3 25 1,mv17 6 26])))))) (.region [fa17 38 1 3,ld17 39 38,mv17 40 5,⟨some 41,none,.op (.buildSlice 1 [(1,(.slice none 0 0))] 1 [(0,(.tmp 40))])⟩,⟨some 42,none,.op (.append 1 24 (.tmp 39) (.tmp 41))⟩,fa17 43 1 3,⟨none,none,.op (.store 1 (.tmp 43) (.tmp 42))⟩])))) (.region [mv17 15 4,bc17 16 .add 3 15 1,mv17 4 16])))))) (.seq (.region [⟨some 44,none,.op (.load 2 true (.tmp 3))⟩,⟨none,none,.op (.store 2 (.tmp 2) (.tmp 44))⟩]) .ret)))),[(.cell 2 2 true)]⟩
theorem cF17:cfun Tryz.prog 17=some F17:=by kernel_rfl
def F25:IFun:=⟨98,(.seq (.region [⟨some 1,none,.op (.box (.tmp 0))⟩,⟨some 2,none,.op (.alloc [(2,(.int .i64 0))])⟩,mc17 3 0]) (.seq (.seq (.region [fa17 9 0 1,ld17 10 9,bc17 11 .lss 3 10 1,mv17 12 11,gf17 13 12 false 0 1,gl17 14 12 false 1 13,⟨some 15,some (12,false),.op (.bin .gtr 3 (.tmp 14) (.const (.int .i64 64)))⟩,pt17 16 12 15]) (.cond (.tmp 16) (.seq (.region [⟨some 17,none,.op (.build [(2,(.int .i64 0))] [])⟩,⟨none,none,.op (.store 2 (.tmp 2) (.tmp 17))⟩,mc17 3 3]) .ret) .skip)) (.seq (.seq (.region [fa17 18 1 1,ld17 19 18,ln17 20 19,bc17 21 .eql 3 20 0,mv17 22 21,gf17 23 22 false 1 1,gl17 24 22 false 1 23,⟨some 25,some (22,false),.op (.len (.tmp 24))⟩,⟨some 26,some (22,false),.op (.bin .gtr 3 (.tmp 25) (.const (.int .i64 64)))⟩,pt17 27 22 26]) (.cond (.tmp 27) (.seq (.region [⟨some 28,none,.op (.build [(2,(.int .i64 0))] [])⟩,⟨none,none,.op (.store 2 (.tmp 2) (.tmp 28))⟩,mc17 3 9]) .ret) .skip)) (.seq (.seq (.region [mc17 4 0]) (.block 0 (.loop (.seq (.seq (.region [mv17 29 4,fa17 30 1 1,ld17 31 30,ln17 32 31,⟨some 33,none,.op (.bin .lss 3 (.tmp 29) (.tmp 32))⟩]) (.cond (.tmp 33) .skip (.exit 0))) (.seq (.block 1 (.seq (.region [fa17 36 1 1,ld17 37 36,mv17 38 4,⟨some 39,none,.op (.idxSl 1 (.tmp 37) (.tmp 38))⟩,ld17 40 39,mv17 5 40]) (.seq (.seq (.region [mv17 41 5,ln17 42 41,bc17 43 .gtr 3 42 100]) (.cond (.tmp 43) (.seq (.region [mv17 44 4,⟨some 45,none,.op (.build [(2,(.int .i64 0))] [(0,(1,(.tmp 44))),(1,(1,(.const (.int .i64 100))))])⟩,⟨none,none,.op (.store 2 (.tmp 2) (.tmp 45))⟩,mc17 3 9]) .ret) .skip)) (.seq (.region [⟨some 6,none,.op (.alloc [(1,(.bool false)),(2,(.slice none 0 0)),(1,(.bool false)),(1,(.int .i64 0))])⟩]) (.seq (.seq (.region [mc17 7 0]) (.block 2 (.loop (.seq (.seq (.region [mv17 46 7,mv17 47 5,ln17 48 47,⟨some 49,none,.op (.bin .lss 3 (.tmp 46) (.tmp 48))⟩]) (.cond (.tmp 49) .skip (.exit 2))) (.seq (.block 3 (.seq (.draw [⟨some 52,none,.op (.load 2 true (.tmp 1))⟩,mv17 53 4,mv17 54 5,mv17 55 7,⟨some 56,none,.op (.idxSl 7 (.tmp 54) (.tmp 55))⟩,⟨some 57,none,.op (.load 7 true (.tmp 56))⟩,⟨some 58,none,(.call 50 [(.tmp 52),(.tmp 53),(.tmp 57)])⟩,mv17 8 58] [[],[],[],[],[2,3],[4],[0,1,5],[6,6,0,1,2,3,4,5,6]]) (.seq (.seq (.region [mv17 59 8,bc17 60 .neq 28 59 0]) (.cond (.tmp 60) (.seq (.region [mv17 61 4,mv17 62 7,⟨some 63,none,.op (.build [(2,(.int .i64 0))] [(0,(1,(.tmp 61))),(1,(1,(.tmp 62)))])⟩,mv17 64 8,⟨none,none,.op (.store 2 (.tmp 2) (.tmp 63))⟩,mv17 3 64]) .ret) .skip)) (.seq (.seq (.region [⟨some 65,none,.op (.load 5 true (.tmp 6))⟩,mv17 66 5,mv17 67 7,⟨some 68,none,(.call 51 [(.tmp 65),(.tmp 66),(.tmp 67)])⟩,⟨some 69,none,.op (.un .not (.tmp 68))⟩]) (.cond (.tmp 69) (.seq (.region [mv17 70 4,mv17 71 7,⟨some 72,none,.op (.build [(2,(.int .i64 0))] [(0,(1,(.tmp 70))),(1,(1,(.tmp 71)))])⟩,⟨none,none,.op (.store 2 (.tmp 2) (.tmp 72))⟩,mc17 3 6]) .ret) .skip)) (.draw [⟨some 73,none,.op (.load 5 true (.tmp 6))⟩,mv17 74 5,mv17 75 7,⟨some 76,none,.op (.idxSl 7 (.tmp 74) (.tmp 75))⟩,⟨some 77,none,.op (.load 7 true (.tmp 76))⟩,⟨some 78,none,(.call 52 [(.tmp 73),(.tmp 77)])⟩,⟨none,none,.op (.store 5 (.tmp 6) (.tmp 78))⟩] [[],[],[],[1,2],[3],[0,4],[5,5,0,1,2,3,4,5]]))))) (.region [mv17 50 7,bc17 51 .add 3 50 1,mv17 7 51])))))) (.seq (.region [fa17 79 1 6,ld17 80 79,ln17 81 80,bc17 82 .gtr 3 81 0,mv17 83 82,gf17 84 83 false 2 6,gl17 85 83 false 1 84,⟨some 86,some (83,false),.op (.len (.tmp 85))⟩,⟨some 87,some (83,false),.op (.bin .gtr 3 (.tmp 86) (.const (.int .i64 0)))⟩,pt17 88 83 87,mv17 89 88,gf17 90 89 false 3 6,gl17 91 89 false 1 90,pt17 92 89 91]) (.cond (.tmp 92) (.seq (.region [mv17 93 4,mv17 94 5,ln17 95 94,⟨some 96,none,.op (.build [(2,(.int .i64 0))] [(0,(1,(.tmp 93))),(1,(1,(.tmp 95)))])⟩,⟨none,none,.op (.store 2 (.tmp 2) (.tmp 96))⟩,mc17 3 6]) .ret) .skip))))))) (.region [mv17 34 4,bc17 35 .add 3 34 1,mv17 4 35])))))) (.seq (.region [⟨some 97,none,.op (.build [(2,(.int .i64 0))] [])⟩,⟨none,none,.op (.store 2 (.tmp 2) (.tmp 97))⟩,mc17 3 0]) .ret))))),[(.cell 2 2 true),(.tmp 3)]⟩
theorem cF25:cfun Tryz.prog 25=some F25:=by kernel_rfl
def F50:IFun:=⟨80,(.seq (.region [⟨some 3,none,.op (.box (.tmp 0))⟩,⟨some 5,none,.op (.box (.tmp 2))⟩,mc17 6 0]) (.seq (.seq (.region [fa17 7 0 5,ld17 8 7,bc17 9 .lss 3 8 1,mv17 10 9,gf17 11 10 false 0 5,gl17 12 10 false 1 11,⟨some 13,some (10,false),.op (.bin .gtr 3 (.tmp 12) (.const (.int .i64 16)))⟩,pt17 14 10 13]) (.cond (.tmp 14) (.seq (.region [mc17 6 2]) .ret) .skip)) (.seq (.seq (.region [fa17 15 0 5,ld17 16 15,⟨some 17,none,(.call 75 [(.tmp 16)])⟩,mv17 18 17,gf17 19 18 false 0 5,gl17 20 18 false 1 19,⟨some 21,some (18,false),.op (.bin .geq 3 (.tmp 20) (.const (.int .i64 13)))⟩,pt17 22 18 21,mv17 23 22,gf17 24 23 true 1 5,gl17 25 23 true 1 24,⟨some 26,some (23,true),.op (.bin .lss 3 (.tmp 25) (.const (.int .i64 0)))⟩,gm17 27 23 true 26,gf17 28 27 false 1 5,gl17 29 27 false 1 28,gf17 30 27 false 1 3,gl17 31 27 false 1 30,⟨some 32,some (27,false),.op (.len (.tmp 31))⟩,⟨some 33,some (27,false),.op (.bin .geq 3 (.tmp 29) (.tmp 32))⟩,⟨some 34,some (23,true),.op (.pick (.tmp 27) (.const (.bool true)) (.tmp 33))⟩,⟨some 35,none,.op (.pick (.tmp 23) (.tmp 34) (.const (.bool false)))⟩]) (.cond (.tmp 35) (.seq (.region [mc17 6 11]) .ret) .skip)) (.seq (.seq (.region [fa17 36 0 5,ld17 37 36,⟨some 38,none,(.call 75 [(.tmp 37)])⟩,mv17 39 38,gf17 40 39 false 0 5,gl17 41 39 false 1 40,⟨some 42,some (39,false),(.call 74 [(.tmp 41)])⟩,pt17 43 39 42,mv17 44 43,gf17 45 44 true 2 5,gl17 46 44 true 1 45,⟨some 47,some (44,true),.op (.bin .lss 3 (.tmp 46) (.const (.int .i64 0)))⟩,gm17 48 44 true 47,gf17 49 48 false 2 5,gl17 50 48 false 1 49,gf17 51 48 false 0 3,gl17 52 48 false 1 51,⟨some 53,some (48,false),.op (.bin .geq 3 (.tmp 50) (.tmp 52))⟩,⟨some 54,some (44,true),.op (.pick (.tmp 48) (.const (.bool true)) (.tmp 53))⟩,⟨some 55,none,.op (.pick (.tmp 44) (.tmp 54) (.const (.bool false)))⟩]) (.cond (.tmp 55) (.seq (.region [mc17 6 3]) .ret) .skip)) (.seq (.seq (.region [fa17 56 0 5,ld17 57 56,bc17 58 .eql 3 57 3,mv17 59 58,gf17 60 59 false 0 5,gl17 61 59 false 1 60,⟨some 62,some (59,false),.op (.bin .eql 3 (.tmp 61) (.const (.int .i64 4)))⟩,pt17 63 59 62]) (.cond (.tmp 63) (.seq (.region [fa17 64 3 5,ld17 65 64,⟨some 66,none,(.call 77 [(.tmp 65),(.const (.int .i64 1))])⟩,mv17 6 66]) .ret) .skip)) (.seq (.seq (.region [fa17 67 0 5,ld17 68 67,bc17 69 .eql 3 68 9,mv17 70 69,gf17 71 70 false 0 5,gl17 72 70 false 1 71,⟨some 73,some (70,false),.op (.bin .eql 3 (.tmp 72) (.const (.int .i64 10)))⟩,pt17 74 70 73]) (.cond (.tmp 74) (.seq (.region [⟨some 75,none,.op (.load 2 true (.tmp 3))⟩,mv17 76 1,fa17 77 6 5,ld17 78 77,⟨some 79,none,(.call 78 [(.tmp 75),(.tmp 76),(.tmp 78)])⟩,mv17 6 79]) .ret) .skip)) (.seq (.region [mc17 6 0]) .ret))))))),[(.tmp 6)]⟩
theorem cF50:cfun Tryz.prog 50=some F50:=by kernel_rfl
def F51:IFun:=⟨113,(.seq (.region [⟨some 3,none,.op (.box (.tmp 0))⟩,⟨some 6,none,.op (.move (.const (.bool false)))⟩]) (.seq (.region [mv17 8 1,mv17 9 2,⟨some 10,none,.op (.idxSl 7 (.tmp 8) (.tmp 9))⟩,⟨some 11,none,.op (.load 7 true (.tmp 10))⟩,⟨some 7,none,.op (.alloc [(6,(.int .i64 0)),(1,(.slice none 0 0))])⟩,⟨none,none,.op (.store 7 (.tmp 7) (.tmp 11))⟩]) (.seq (.seq (.region [fa17 12 0 7,ld17 13 12]) (.block 0 (.seq (.seq (.region [bc17 15 .eql 3 13 1,mv17 14 15]) (.cond (.tmp 14) .skip (.seq (.region [bc17 16 .eql 3 13 2,mv17 14 16]) (.cond (.tmp 14) .skip (.seq (.region [bc17 17 .eql 3 13 3,mv17 14 17]) (.cond (.tmp 14) .skip (.seq (.region [bc17 18 .eql 3 13 4,mv17 14 18]) (.cond (.tmp 14) .skip (.region [bc17 19 .eql 3 13 5,mv17 14 19]))))))))) (.cond (.tmp 14) (.seq (.seq (.region [fa17 20 1 3,ld17 21 20,ln17 22 21,bc17 23 .gtr 3 22 0]) (.cond (.tmp 23) (.seq (.region [fa17 24 1 3,ld17 25 24,fa17 26 1 7,ld17 27 26,⟨some 28,none,(.call 79 [(.tmp 25),(.tmp 27)])⟩,mv17 6 28]) .ret) .skip)) (.seq (.seq (.region [fa17 29 3 3,ld17 30 29]) (.cond (.tmp 30) (.seq (.region [fa17 31 4 3,ld17 32 31,fa17 33 1 7,ld17 34 33,⟨some 35,none,.op (.bin .eql 3 (.tmp 32) (.tmp 34))⟩,mv17 6 35]) .ret) .skip)) (.seq (.region [fa17 36 0 3,ld17 37 36,mv17 38 37,gm17 39 38 true 1,gm17 40 38 true 2,⟨some 41,some (38,true),(.call 80 [(.tmp 39),(.tmp 40)])⟩,⟨some 42,none,.op (.pick (.tmp 38) (.tmp 41) (.const (.bool false)))⟩,mv17 6 42]) .ret))) (.seq (.seq (.region [bc17 44 .eql 3 13 6,mv17 43 44]) (.cond (.tmp 43) .skip (.region [bc17 45 .eql 3 13 7,mv17 43 45]))) (.cond (.tmp 43) (.seq (.region [⟨some 6,none,.op (.move (.const (.bool true)))⟩]) .ret) (.seq (.region [bc17 47 .eql 3 13 8,mv17 46 47]) (.cond (.tmp 46) (.seq (.region [fa17 48 1 3,ld17 49 48,ln17 50 49,bc17 51 .eql 3 50 0,mv17 52 51,gf17 53 52 true 2 3,gl17 54 52 true 1 53,⟨some 55,some (52,true),.op (.len (.tmp 54))⟩,⟨some 56,some (52,true),.op (.bin .eql 3 (.tmp 55) (.const (.int .i64 0)))⟩,⟨some 57,none,.op (.pick (.tmp 52) (.tmp 56) (.const (.bool false)))⟩,mv17 58 57,gf17 59 58 true 3 3,gl17 60 58 true 1 59,⟨some 61,some (58,true),.op (.un .not (.tmp 60))⟩,⟨some 62,none,.op (.pick (.tmp 58) (.tmp 61) (.const (.bool false)))⟩,mv17 6 62]) .ret) (.seq (.region [bc17 64 .eql 3 13 9,mv17 63 64]) (.cond (.tmp 63) (.seq (.region [fa17 65 2 3,ld17 66 65,ln17 67 66,bc17 68 .eql 3 67 0,mv17 69 68,gf17 70 69 true 3 3,gl17 71 69 true 1 70,⟨some 72,some (69,true),.op (.un .not (.tmp 71))⟩,⟨some 73,none,.op (.pick (.tmp 69) (.tmp 72) (.const (.bool false)))⟩,mv17 6 73]) .ret) (.seq (.seq (.region [bc17 75 .eql 3 13 10,mv17 74 75]) (.cond (.tmp 74) .skip (.seq (.region [bc17 76 .eql 3 13 13,mv17 74 76]) (.cond (.tmp 74) .skip (.region [bc17 77 .eql 3 13 14,mv17 74 77]))))) (.cond (.tmp 74) (.seq (.region [fa17 78 1 3,ld17 79 78,ln17 80 79,bc17 81 .eql 3 80 0,mv17 82 81,gf17 83 82 true 3 3,gl17 84 82 true 1 83,⟨some 85,some (82,true),.op (.un .not (.tmp 84))⟩,⟨some 86,none,.op (.pick (.tmp 82) (.tmp 85) (.const (.bool false)))⟩,mv17 6 86]) .ret) (.seq (.region [bc17 88 .eql 3 13 11,mv17 87 88]) (.cond (.tmp 87) (.seq (.region [fa17 89 1 3,ld17 90 89,ln17 91 90,bc17 92 .gtr 3 91 0,mv17 6 92]) .ret) (.seq (.region [bc17 94 .eql 3 13 12,mv17 93 94]) (.cond (.tmp 93) (.seq (.region [fa17 95 2 3,ld17 96 95,ln17 97 96,bc17 98 .gtr 3 97 0,mv17 99 98,gf17 100 99 true 3 3,gl17 101 99 true 1 100,⟨some 102,some (99,true),.op (.un .not (.tmp 101))⟩,⟨some 103,none,.op (.pick (.tmp 99) (.tmp 102) (.const (.bool false)))⟩,mv17 6 103]) .ret) .skip)))))))))))))))) (.seq (.region [fa17 104 3 3,ld17 105 104,mv17 106 105,gf17 107 106 true 4 3,gl17 108 106 true 1 107,gf17 109 106 true 1 7,gl17 110 106 true 1 109,⟨some 111,some (106,true),.op (.bin .eql 3 (.tmp 108) (.tmp 110))⟩,⟨some 112,none,.op (.pick (.tmp 106) (.tmp 111) (.const (.bool false)))⟩,mv17 6 112]) .ret)))),[(.tmp 6)]⟩
theorem cF51:cfun Tryz.prog 51=some F51:=by kernel_rfl
def F52:IFun:=⟨37,(.seq (.region [⟨some 2,none,.op (.box (.tmp 0))⟩,⟨some 3,none,.op (.box (.tmp 1))⟩,⟨some 4,none,.op (.alloc [(1,(.bool false)),(2,(.slice none 0 0)),(1,(.bool false)),(1,(.int .i64 0))])⟩]) (.seq (.seq (.region [fa17 5 0 3,ld17 6 5]) (.block 0 (.seq (.region [bc17 8 .eql 3 6 8,mv17 7 8]) (.cond (.tmp 7) (.region [fa17 9 0 2,⟨none,none,.op (.store 1 (.tmp 9) (.const (.bool true)))⟩]) (.seq (.region [bc17 11 .eql 3 6 9,mv17 10 11]) (.cond (.tmp 10) (.region [fa17 12 6 3,ld17 13 12,fa17 14 2 2,⟨none,none,.op (.store 1 (.tmp 14) (.tmp 13))⟩]) (.seq (.region [bc17 16 .eql 3 6 10,mv17 15 16]) (.cond (.tmp 15) (.region [fa17 17 6 3,ld17 18 17,fa17 19 1 2,⟨none,none,.op (.store 1 (.tmp 19) (.tmp 18))⟩]) (.seq (.region [bc17 21 .eql 3 6 11,mv17 20 21]) (.cond (.tmp 20) (.region [fa17 22 1 2,⟨none,none,.op (.store 1 (.tmp 22) (.const (.slice none 0 0)))⟩]) (.seq (.region [bc17 24 .eql 3 6 12,mv17 23 24]) (.cond (.tmp 23) (.region [fa17 25 2 2,⟨none,none,.op (.store 1 (.tmp 25) (.const (.slice none 0 0)))⟩]) (.seq (.seq (.region [bc17 27 .eql 3 6 13,mv17 26 27]) (.cond (.tmp 26) .skip (.region [bc17 28 .eql 3 6 14,mv17 26 28]))) (.cond (.tmp 26) (.seq (.region [fa17 29 3 2,⟨none,none,.op (.store 1 (.tmp 29) (.const (.bool true)))⟩]) (.region [fa17 30 1 3,ld17 31 30,fa17 32 4 2,⟨none,none,.op (.store 1 (.tmp 32) (.tmp 31))⟩])) (.seq (.region [bc17 34 .eql 3 6 16,mv17 33 34]) (.cond (.tmp 33) (.region [fa17 35 3 2,⟨none,none,.op (.store 1 (.tmp 35) (.const (.bool false)))⟩]) .skip)))))))))))))))) (.seq (.region [⟨some 36,none,.op (.load 5 true (.tmp 2))⟩,⟨none,none,.op (.store 5 (.tmp 4) (.tmp 36))⟩]) .ret))),[(.cell 4 5 true)]⟩
theorem cF52:cfun Tryz.prog 52=some F52:=by kernel_rfl
def F74:IFun:=⟨9,(.seq (.region [⟨some 2,none,.op (.move (.const (.bool false)))⟩]) (.seq (.region [mv17 3 0,bc17 4 .eql 3 3 6,mv17 5 4,gm17 6 5 false 0,⟨some 7,some (5,false),.op (.bin .eql 3 (.tmp 6) (.const (.int .i64 7)))⟩,pt17 8 5 7,mv17 2 8]) .ret)),[(.tmp 2)]⟩
theorem cF74:cfun Tryz.prog 74=some F74:=by kernel_rfl
def F75:IFun:=⟨9,(.seq (.region [⟨some 2,none,.op (.move (.const (.bool false)))⟩]) (.seq (.region [mv17 3 0,bc17 4 .geq 3 3 1,mv17 5 4,gm17 6 5 true 0,⟨some 7,some (5,true),.op (.bin .leq 3 (.tmp 6) (.const (.int .i64 5)))⟩,⟨some 8,none,.op (.pick (.tmp 5) (.tmp 7) (.const (.bool false)))⟩,mv17 2 8]) .ret)),[(.tmp 2)]⟩
theorem cF75:cfun Tryz.prog 75=some F75:=by kernel_rfl
def F77:IFun:=⟨43,(.seq (.region [mc17 4 0]) (.seq (.seq (.region [mv17 6 0,bc17 7 .lss 3 6 1,mv17 8 7,gm17 9 8 false 0,⟨some 10,some (8,false),.op (.bin .gtr 3 (.tmp 9) (.const (.int .i64 11)))⟩,pt17 11 8 10,mv17 12 11,gm17 13 12 false 1,⟨some 14,some (12,false),.op (.bin .lss 3 (.tmp 13) (.const (.int .i64 1)))⟩,pt17 15 12 14,mv17 16 15,gm17 17 16 false 1,⟨some 18,some (16,false),.op (.bin .gtr 3 (.tmp 17) (.const (.int .i64 3)))⟩,pt17 19 16 18]) (.cond (.tmp 19) (.seq (.region [mc17 4 2]) .ret) .skip)) (.seq (.region [⟨some 5,none,.op (.move (.const (.bool false)))⟩]) (.seq (.seq (.region [mv17 20 1]) (.block 0 (.seq (.region [bc17 22 .eql 3 20 1,mv17 21 22]) (.cond (.tmp 21) (.region [mv17 23 0,bc17 24 .leq 3 23 9,mv17 5 24]) (.seq (.region [bc17 26 .eql 3 20 2,mv17 25 26]) (.cond (.tmp 25) (.region [mv17 27 0,bc17 28 .eql 3 27 1,mv17 29 28,gm17 30 29 false 0,⟨some 31,some (29,false),.op (.bin .eql 3 (.tmp 30) (.const (.int .i64 3)))⟩,pt17 32 29 31,mv17 33 32,gm17 34 33 false 0,⟨some 35,some (33,false),.op (.bin .eql 3 (.tmp 34) (.const (.int .i64 4)))⟩,pt17 36 33 35,mv17 5 36]) (.seq (.region [bc17 38 .eql 3 20 3,mv17 37 38]) (.cond (.tmp 37) (.region [mv17 39 0,bc17 40 .geq 3 39 10,mv17 5 40]) .skip)))))))) (.seq (.seq (.region [mv17 41 5,⟨some 42,none,.op (.un .not (.tmp 41))⟩]) (.cond (.tmp 42) (.seq (.region [mc17 4 13]) .ret) .skip)) (.seq (.region [mc17 4 0]) .ret)))))),[(.tmp 4)]⟩
theorem cF77:cfun Tryz.prog 77=some F77:=by kernel_rfl
def F78:IFun:=⟨48,(.seq (.region [⟨some 3,none,.op (.box (.tmp 0))⟩,mc17 6 0]) (.seq (.seq (.region [mv17 8 2,ln17 9 8,bc17 10 .eql 3 9 0]) (.cond (.tmp 10) (.seq (.region [mc17 6 2]) .ret) .skip)) (.seq (.seq (.region [mc17 7 0]) (.block 0 (.loop (.seq (.seq (.region [mv17 11 7,mv17 12 2,ln17 13 12,⟨some 14,none,.op (.bin .lss 3 (.tmp 11) (.tmp 13))⟩]) (.cond (.tmp 14) .skip (.exit 0))) (.seq (.block 1 (.seq (.seq (.draw [mv17 17 2,mv17 18 7,⟨some 19,none,.op (.idxSl 1 (.tmp 17) (.tmp 18))⟩,ld17 20 19,bc17 21 .lss 3 20 0,mv17 22 21,gm17 23 22 false 2,gm17 24 22 false 7,⟨some 25,some (22,false),.op (.idxSl 1 (.tmp 23) (.tmp 24))⟩,gl17 26 22 false 1 25,gf17 27 22 false 1 3,gl17 28 22 false 1 27,⟨some 29,some (22,false),.op (.len (.tmp 28))⟩,⟨some 30,some (22,false),.op (.bin .geq 3 (.tmp 26) (.tmp 29))⟩,pt17 31 22 30,mv17 32 31,gm17 33 32 false 2,gm17 34 32 false 7,⟨some 35,some (32,false),.op (.idxSl 1 (.tmp 33) (.tmp 34))⟩,gl17 36 32 false 1 35,gm17 37 32 false 1,⟨some 38,some (32,false),.op (.bin .eql 3 (.tmp 36) (.tmp 37))⟩,pt17 39 32 38] [[],[],[0,1],[2],[3],[4],[5],[5],[6,7,5],[8,5],[5],[10,5],[11,5],[9,12,5],[5,13],[14,5],[15],[15],[16,17,15],[18,15],[15],[19,20,15],[15,21]]) (.cond (.tmp 39) (.seq (.region [mc17 6 11]) .ret) .skip)) (.seq (.draw [mv17 40 2,mv17 41 7,⟨some 42,none,.op (.slice 1 (.tmp 40) none (some (.tmp 41)) none)⟩,mv17 43 2,mv17 44 7,⟨some 45,none,.op (.idxSl 1 (.tmp 43) (.tmp 44))⟩,ld17 46 45,⟨some 47,none,(.call 79 [(.tmp 42),(.tmp 46)])⟩] [[],[],[0,1],[],[],[3,4],[5],[2,6]]) (.cond (.tmp 47) (.seq (.region [mc17 6 5]) .ret) .skip)))) (.region [mv17 15 7,bc17 16 .add 3 15 1,mv17 7 16])))))) (.seq (.region [mc17 6 0]) .ret)))),[(.tmp 6)]⟩
theorem cF78:cfun Tryz.prog 78=some F78:=by kernel_rfl
def F79:IFun:=⟨18,(.seq (.region [⟨some 4,none,.op (.move (.const (.bool false)))⟩]) (.seq (.seq (.region [mc17 5 0]) (.block 0 (.loop (.seq (.seq (.region [mv17 6 5,mv17 7 0,ln17 8 7,⟨some 9,none,.op (.bin .lss 3 (.tmp 6) (.tmp 8))⟩]) (.cond (.tmp 9) .skip (.exit 0))) (.seq (.block 1 (.seq (.region [mv17 12 0,mv17 13 5,⟨some 14,none,.op (.idxSl 1 (.tmp 12) (.tmp 13))⟩,ld17 15 14,mv17 16 1,⟨some 17,none,.op (.bin .eql 3 (.tmp 15) (.tmp 16))⟩]) (.cond (.tmp 17) (.seq (.region [⟨some 4,none,.op (.move (.const (.bool true)))⟩]) .ret) .skip))) (.region [mv17 10 5,bc17 11 .add 3 10 1,mv17 5 11])))))) (.seq (.region [⟨some 4,none,.op (.move (.const (.bool false)))⟩]) .ret))),[(.tmp 4)]⟩
theorem cF79:cfun Tryz.prog 79=some F79:=by kernel_rfl
def F80:IFun:=⟨25,(.seq (.region [⟨some 4,none,.op (.move (.const (.bool false)))⟩]) (.seq (.seq (.region [mv17 6 1,bc17 7 .add 3 6 1,mv17 5 7]) (.block 0 (.loop (.seq (.seq (.region [mv17 8 5,mv17 9 0,ln17 10 9,⟨some 11,none,.op (.bin .lss 3 (.tmp 8) (.tmp 10))⟩]) (.cond (.tmp 11) .skip (.exit 0))) (.seq (.block 1 (.seq (.region [mv17 14 0,mv17 15 5,⟨some 16,none,.op (.idxSl 7 (.tmp 14) (.tmp 15))⟩,fa17 17 0 16,ld17 18 17]) (.block 2 (.seq (.region [bc17 20 .eql 3 18 8,mv17 19 20]) (.cond (.tmp 19) (.seq (.region [⟨some 4,none,.op (.move (.const (.bool true)))⟩]) .ret) (.seq (.seq (.region [bc17 22 .eql 3 18 10,mv17 21 22]) (.cond (.tmp 21) .skip (.seq (.region [bc17 23 .eql 3 18 13,mv17 21 23]) (.cond (.tmp 21) .skip (.region [bc17 24 .eql 3 18 14,mv17 21 24]))))) (.cond (.tmp 21) (.seq (.region [⟨some 4,none,.op (.move (.const (.bool false)))⟩]) .ret) .skip))))))) (.region [mv17 12 5,bc17 13 .add 3 12 1,mv17 5 13])))))) (.seq (.region [⟨some 4,none,.op (.move (.const (.bool false)))⟩]) .ret))),[(.tmp 4)]⟩
theorem cF80:cfun Tryz.prog 80=some F80:=by kernel_rfl
set_option maxRecDepth 20000
theorem mixed:Tryz.prog.follows .mixedOrders=true:=by kernel_rfl
def vR (b:Nat) (p:Int):List AV:=[.sc (.int .u64 (b:Int)),.sc (.int .i64 p)]
def vV (b:Nat) (p:Int):AV:=.agg (vR b p)
instance (b:Nat) (p:Int):PR (vR b p):=⟨allPure_cons (.sc _) (allPure_cons (.sc _) allPure_nil)⟩
instance (b:Nat) (p:Int):PV (vV b p):=⟨.agg _ (pr _)⟩
def sg (b:Nat):Int:=IntKind.i64.wrap (b:Int)
def cmpI (x y:Int):Int:=if x < y then -1 else if y < x then 1 else 0
theorem f118_ok (x:Int):PureRun Tryz.prog 185 [.sc (.int .i64 x)] (.sc (.bool false)):=by
 refine PureRun.mkI cF185 (nlB rfl) ?_
 refine walkX ?_
 rw[show(x != x)=false by simp]
 exact EndP.w
theorem cmpi_ok (x y:Int):PureRun Tryz.prog 171 [.sc (.int .i64 x),.sc (.int .i64 y)] (.sc (.int .i64 (cmpI x y))):=by
 refine PureRun.mkI cF171 (nlB rfl) ?_
 have h1:=f118_ok x
 have h2:=f118_ok y
 refine walkX ?_
 unfold cmpI
 refine AWP.condD rfl (fun h=>?_) (fun h=>?_)
 ·rw[if_pos h]
  refine walkX ?_
  exact EndP.w
 ·rw[if_neg h]
  refine walkX ?_
  refine AWP.condD rfl (fun h=>?_) (fun h=>?_)
  ·rw[if_pos h]
   refine walkX ?_
   exact EndP.w
  ·rw[if_neg h]
   refine walkX ?_
   exact EndP.w
def fT (n:Nat):AV:=.clo (.func n) [] []
def cT (n:Nat) (f:AV):AV:=.clo (.func n) [] [.cptr [f]]
instance (n:Nat):PV (fT n):=⟨.clo _ _ _ allPure_nil allPure_nil⟩
instance (n:Nat) (f:AV) [h:PV f]:PV (cT n f):=⟨.clo _ _ _ allPure_nil (allPure_cons (.cptr _ (allPure_cons h.out allPure_nil)) allPure_nil)⟩
def Does (f:AV) (args:List AV) (v:AV):Prop:=∃ g cs,f=.clo (.func g) [] cs∧PureRun Tryz.prog g ([]++args++cs) v
theorem does_fT {n:Nat} {args:List AV} {v:AV} (h:PureRun Tryz.prog n args v):Does (fT n) args v:=⟨n,[],rfl,by rw[List.append_nil]; exact h⟩
theorem does_cT {n:Nat} {f:AV} {args:List AV} {v:AV} (h:PureRun Tryz.prog n (args++[.cptr [f]]) v):Does (cT n f) args v:=⟨n,_,rfl,h⟩
theorem mk77 (fn:Fn) (cs:List AV) [PR cs]:PureRun Tryz.prog 148 [.clo fn [] cs] (cT 169 (.clo fn [] cs)):=by
 refine PureRun.mkI cF148 (nlB rfl) ?_
 refine walkX ?_
 exact EndP.mk (.inr rfl) rfl rfl (To.cloL trivial (ToL.cons (To.fzp rfl rfl rfl (To.cptrL (ToL.cons wt1 trivial))) trivial))
theorem mk80 (fn:Fn) (cs:List AV) [PR cs]:PureRun Tryz.prog 151 [.clo fn [] cs] (cT 170 (.clo fn [] cs)):=by
 refine PureRun.mkI cF151 (nlB rfl) ?_
 refine walkX ?_
 exact EndP.mk (.inr rfl) rfl rfl (To.cloL trivial (ToL.cons (To.fzp rfl rfl rfl (To.cptrL (ToL.cons wt1 trivial))) trivial))
theorem mk82 (fn:Fn) (cs:List AV) [PR cs]:PureRun Tryz.prog 153 [.clo fn [] cs] (cT 172 (.clo fn [] cs)):=by
 refine PureRun.mkI cF153 (nlB rfl) ?_
 refine walkX ?_
 exact EndP.mk (.inr rfl) rfl rfl (To.cloL trivial (ToL.cons (To.fzp rfl rfl rfl (To.cptrL (ToL.cons wt1 trivial))) trivial))
theorem mk90 (fn:Fn) (cs:List AV) [PR cs]:PureRun Tryz.prog 161 [.clo fn [] cs] (cT 177 (.clo fn [] cs)):=by
 refine PureRun.mkI cF161 (nlB rfl) ?_
 refine walkX ?_
 exact EndP.mk (.inr rfl) rfl rfl (To.cloL trivial (ToL.cons (To.fzp rfl rfl rfl (To.cptrL (ToL.cons wt1 trivial))) trivial))
theorem mk86 (fn:Fn) (cs:List AV) [PR cs]:PureRun Tryz.prog 157 [.clo fn [] cs] (cT 169 (cT 173 (.clo fn [] cs))):=by
 refine PureRun.mkI cF157 (nlB rfl) ?_
 have h:=mk77 (.func 173) [.cptr [.clo fn [] cs]]
 refine walkX ?_
 refine Reg.sub (fr':=[(3,.clo (.func 173) [] [.cptr [.clo fn [] cs]])]) (H':=[]) (Sub.to [] [] (.cons (To.cloL trivial (ToL.cons (To.fzp rfl rfl rfl (To.cptrL (ToL.cons wt1 trivial))) trivial)) .nil) trivial rfl rfl rfl) ?_
 refine walkX ?_
 exact EndP.w
theorem mk92 (n:Int):PureRun Tryz.prog 163 [.sc (.int .i64 n)] (.clo (.func 180) [] [.cptr [.sc (.int .i64 n)]]):=by
 refine PureRun.mkI cF163 (nlB rfl) ?_
 refine walkX ?_
 exact EndP.mk (.inr rfl) rfl rfl (To.cloL trivial (ToL.cons (To.fzp rfl rfl rfl (To.cptrL (ToL.cons wt1 trivial))) trivial))
theorem do78 (a b:Nat):PureRun Tryz.prog 149 [.sc (.int .u64 (a:Int)),.sc (.int .u64 (b:Int))] (.sc (.int .u64 ((a+b) % 18446744073709551616:Nat))):=by
 refine PureRun.mkI cF149 (nlB rfl) ?_
 refine walkW ?_
 rw[show(a:Int)+(b:Int)=((a+b:Nat):Int) by omega,wrapU]
 exact EndP.w
theorem do79 (a b:Nat):PureRun Tryz.prog 150 [.sc (.int .u64 (a:Int)),.sc (.int .u64 (b:Int))] (.sc (.int .u64 (a * b % 18446744073709551616:Nat))):=by
 refine PureRun.mkI cF150 (nlB rfl) ?_
 refine walkW ?_
 rw[show(a:Int) * (b:Int)=((a * b:Nat):Int) by rw[Int.natCast_mul],wrapU]
 exact EndP.w
theorem do83 {a b:Nat} (ha:a < 18446744073709551616) (hb:b < 18446744073709551616):PureRun Tryz.prog 154 [.sc (.int .u64 (a:Int)),.sc (.int .u64 (b:Int))] (.sc (.int .u64 (a &&& b:Nat))):=by
 refine PureRun.mkI cF154 (nlB rfl) ?_
 refine walkX ?_
 exact EndP.w
theorem do84 {a b:Nat} (ha:a < 18446744073709551616) (hb:b < 18446744073709551616):PureRun Tryz.prog 155 [.sc (.int .u64 (a:Int)),.sc (.int .u64 (b:Int))] (.sc (.int .u64 (a ||| b:Nat))):=by
 refine PureRun.mkI cF155 (nlB rfl) ?_
 refine walkX ?_
 exact EndP.w
theorem do85 {a b:Nat} (ha:a < 18446744073709551616) (hb:b < 18446744073709551616):PureRun Tryz.prog 156 [.sc (.int .u64 (a:Int)),.sc (.int .u64 (b:Int))] (.sc (.int .u64 (a ^^^ b:Nat))):=by
 refine PureRun.mkI cF156 (nlB rfl) ?_
 refine walkX ?_
 exact EndP.w
theorem do87 (a b:Bool):PureRun Tryz.prog 158 [.sc (.bool a),.sc (.bool b)] (.sc (.bool (a && b))):=by
 refine PureRun.mkI cF158 (nlB rfl) ?_
 cases a
 all_goals
  refine walkX ?_
  exact EndP.w
theorem do88 (a b:Bool):PureRun Tryz.prog 159 [.sc (.bool a),.sc (.bool b)] (.sc (.bool (a || b))):=by
 refine PureRun.mkI cF159 (nlB rfl) ?_
 cases a
 all_goals
  refine walkX ?_
  exact EndP.w
theorem do81 (a b:Nat) (p q:Int):PureRun Tryz.prog 152 [vV a p,vV b q] (.sc (.int .i64 (cmpI (sg a) (sg b)))):=by
 refine PureRun.mkI cF152 (nlB rfl) ?_
 have h:=cmpi_ok (sg a) (sg b)
 refine walkW ?_
 exact EndP.w
theorem do106 {f:AV} [PV f] {a b c:Nat} (p q:Int) (h:Does f [.sc (.int .u64 (a:Int)),.sc (.int .u64 (b:Int))] (.sc (.int .u64 (c:Int)))):Does (cT 169 f) [vV a p,vV b q] (vV c 0):=by
 refine does_cT (PureRun.mkI cF169 (nlB rfl) ?_)
 obtain⟨g,cs,rfl,hp⟩:=h
 refine walkX ?_
 exact EndP.w
theorem do107 {f:AV} [PV f] {a b:Nat} (p q c:Int) (h:Does f [vV b q,vV a p] (.sc (.int .i64 c))):Does (cT 170 f) [vV a p,vV b q] (if c < 0 then vV b q else vV a p):=by
 have hv:PV (if c < 0 then vV b q else vV a p):=by split<;>infer_instance
 refine does_cT (PureRun.mkI cF170 (nlB rfl) ?_)
 obtain⟨g,cs,rfl,hp⟩:=h
 refine walkX ?_
 refine AWP.condD rfl (fun h=>?_) (fun h=>?_)
 ·rw[if_pos h]
  refine walkW ?_
  exact EndP.w
 ·rw[if_neg h]
  refine walkW ?_
  exact EndP.w
theorem do109 {f:AV} [PV f] {a b:Nat} (p q c:Int) (h:Does f [vV b q,vV a p] (.sc (.int .i64 c))):Does (cT 172 f) [vV a p,vV b q] (.sc (.int .i64 c)):=by
 refine does_cT (PureRun.mkI cF172 (nlB rfl) ?_)
 obtain⟨g,cs,rfl,hp⟩:=h
 refine walkX ?_
 exact EndP.w
theorem do110 {f:AV} [PV f] {a b:Nat} (c:Bool) (h:Does f [.sc (.bool (!decide (a=0))),.sc (.bool (!decide (b=0)))] (.sc (.bool c))):Does (cT 173 f) [.sc (.int .u64 (a:Int)),.sc (.int .u64 (b:Int))] (.sc (.int .u64 (c.toNat:Int))):=by
 refine does_cT (PureRun.mkI cF173 (nlB rfl) ?_)
 obtain⟨g,cs,rfl,hp⟩:=h
 cases c
 all_goals
  refine walkX ?_
  exact EndP.w
def loc (n:Int):AV:=.clo (.func 180) [] [.cptr [.sc (.int .i64 n)]]
def opTab:List (List Int×AV):=[([1,1],cT 169 (fT 149)),([1,2],cT 169 (fT 160)),([2,1],cT 169 (fT 150)),([3,1],cT 170 (fT 152)),([3,2],cT 177 (cT 170 (fT 162))),([4,1],cT 170 (cT 172 (fT 152))),
 ([4,2],cT 177 (cT 170 (cT 172 (fT 162)))),([5,1],cT 169 (fT 154)),([6,1],cT 169 (fT 155)),([7,1],cT 169 (fT 156)),([8,1],cT 169 (cT 173 (fT 158))),([9,1],cT 169 (cT 173 (fT 159))),([10,3],cT 170 (loc 1)),([11,3],cT 170 (loc (-1)))]
theorem opTab_pure:∀ p∈opTab,Pure p.2:=by
 intro p hp
 simp only[opTab,List.mem_cons,List.not_mem_nil,or_false] at hp
 rcases hp with rfl | rfl | rfl | rfl | rfl | rfl | rfl | rfl | rfl | rfl | rfl | rfl | rfl | rfl<;>(simp only[loc]; exact pv _)
def opV (op kind:Int):AV:=(ufind [op,kind] opTab).getD (.sc .nilFunc)
instance (op kind:Int):PV (opV op kind):=⟨by
 unfold opV
 cases h:ufind [op,kind] opTab with
 | none=>exact .sc _
 | some x=>exact opTab_pure _ (ufind_mem h)⟩
def fnC (n:Nat):AV:=.sc (.func (.func n) #[] #[])
theorem le_fn (n:Nat):∀(j:Nat) a b,[fnC n][j]?=some a→[fT n][j]?=some b→Le a b:=fun j a b ha hb=>by
 cases j with
 | zero=>simp at ha hb; subst ha; subst hb; exact Le.func n
 | succ j=>simp at ha
theorem mk77f (n:Nat):PureRun Tryz.prog 148 [fnC n] (cT 169 (fT n)):=(mk77 (.func n) []).args rfl (le_fn n)
theorem mk80f (n:Nat):PureRun Tryz.prog 151 [fnC n] (cT 170 (fT n)):=(mk80 (.func n) []).args rfl (le_fn n)
theorem mk82f (n:Nat):PureRun Tryz.prog 153 [fnC n] (cT 172 (fT n)):=(mk82 (.func n) []).args rfl (le_fn n)
theorem mk86f (n:Nat):PureRun Tryz.prog 157 [fnC n] (cT 169 (cT 173 (fT n))):=(mk86 (.func n) []).args rfl (le_fn n)
theorem dstep_lookU {g i:Nat} {fr:Fr} {H:Heap} {ks:List LK} {z:AV} {x ix:Operand} {g' i' n:Nat} {k:List Value} {c:List Int} {es:List (List Int×AV)} {r:Bool} (hx:ev fr x=.mref g' i') (hk:flatOf (ev fr ix)=some k) (hr:cellsEq ks k k=some r) (hu:ukey k=some c)
  (hh:hget H g' i'=some (.umap n es)) (hn:Nat.beq c.length n=true):dstep g i (.xop (.lookF ks z false) [x,ix]) fr H=some ((ufind c es).getD z,H):=by
 simp only[dstep,avals,List.map_cons,List.map_nil,xstep,hk,hr,hx,mlookF,hh,hu,hn]
 cases ufind c es<;>rfl
theorem dstep_lookV {g i:Nat} {fr:Fr} {H:Heap} {ks:List LK} {z v:AV} {x ix:Operand} {g' i' n:Nat} {k:List Value} {c:List Int} {es:List (List Int×AV)} {r:Bool} (hx:ev fr x=.mref g' i') (hk:flatOf (ev fr ix)=some k) (hr:cellsEq ks k k=some r) (hu:ukey k=some c)
  (hh:hget H g' i'=some (.umap n es)) (hn:Nat.beq c.length n=true) (hv:(ufind c es).getD z=v):dstep g i (.xop (.lookF ks z false) [x,ix]) fr H=some (v,H):=by rw[dstep_lookU hx hk hr hu hh hn,hv]
theorem dstep_mv {g i:Nat} {fr:Fr} {H:Heap} (x:Operand):dstep g i (.move x) fr H=some (ev fr x,H):=fz_eq _ _
theorem endp_tmp {t:Nat} {X:AV} {e:Exit} {fr:Fr} {H:Heap} (he:e=.normal∨e=.ret) (ht:fr.get t=X) [h:PV X]:EndP [.tmp t] X e fr H:=
 EndP.mk he (show resOf fr H _=some X by unfold resOf; simp only[resAll,resOne,ht,fz_eq]) rfl (.pure h.out)
set_option maxHeartbeats 4000000 in
theorem operations_ok (op kind:Int):PureRun Tryz.prog 141 [.sc (.int .i64 op),.sc (.int .i64 kind)] (opV op kind):=by
 refine PureRun.mkI cF141 (nlB rfl) ?_
 have a1:=mk77f 149
 have a2:=mk77f 150
 have a3:=mk80f 152
 have a4:=mk82f 152
 have a5:=mk80 (.func 172) [.cptr [fT 152]]
 have a6:=mk77f 154
 have a7:=mk77f 155
 have a8:=mk77f 156
 have a9:=mk86f 158
 have b1:=mk86f 159
 have b2:=mk77f 160
 have b3:=mk80f 162
 have b4:=mk90 (.func 170) [.cptr [fT 162]]
 have b5:=mk82f 162
 have b6:=mk80 (.func 172) [.cptr [fT 162]]
 have b7:=mk90 (.func 170) [.cptr [cT 172 (fT 162)]]
 have b8:=mk92 1
 have b9:=mk80 (.func 180) [.cptr [.sc (.int .i64 1)]]
 have c1:=mk92 (-1)
 have c2:=mk80 (.func 180) [.cptr [.sc (.int .i64 (-1))]]
 refine walkW ?_
 refine DK.o (v:=opV op kind) rfl (dstep_lookV (r:=decide (op=op) && (decide (kind=kind) && true)) rfl rfl rfl rfl rfl rfl (by kernel_rfl)) ?_
 refine DK.o rfl (dstep_mv _) ?_
 refine DK.nil ⟨by kernel_rfl,?_⟩
 refine walkW ?_
 exact endp_tmp (.inr rfl) rfl
abbrev Vl:=Nat×Int
def vrow (v:Vl):List AV:=vR v.1 v.2
def vsR (l:List Vl):List (List AV):=l.map vrow
def vsV (l:List Vl):AV:=.list 2 (vsR l)
instance (v:Vl):PR (vrow v):=⟨pr (vR v.1 v.2)⟩
instance (l:List Vl):PRs (vsR l):=⟨fun r hr=>by
 obtain⟨a,_,rfl⟩:=List.mem_map.1 hr
 exact pr (vrow a)⟩
instance (l:List Vl):PV (vsV l):=⟨.list _ _ (prs _)⟩
theorem vsR_len (l:List Vl):(vsR l).length=l.length:=by simp[vsR]
theorem vsR_ix (l:List Vl) (k:Nat) (h:k < l.length):rowIx (vsR l) (k:Int)=some (vrow l[k]):=rowIx_map vrow l k h
def opNil (op kind:Int):Bool:=(ufind [op,kind] opTab).isNone
def checkE (op kind:Int):Int:=if op < 1∨11 < op∨kind < 1∨3 < kind then 2 else if opNil op kind=true then 13 else 0
theorem opTab_clo:∀ p∈opTab,∃ g cs,p.2=.clo (.func g) [] cs:=by
 intro p hp
 simp only[opTab,List.mem_cons,List.not_mem_nil,or_false] at hp
 rcases hp with rfl | rfl | rfl | rfl | rfl | rfl | rfl | rfl | rfl | rfl | rfl | rfl | rfl | rfl<;>exact⟨_,_,rfl⟩
theorem opV_clo {op kind:Int} (h:opNil op kind=false):∃ f,ufind [op,kind] opTab=some f∧opV op kind=f∧∃ g cs,f=.clo (.func g) [] cs:=by
 unfold opNil at h
 cases e:ufind [op,kind] opTab with
 | none=>rw[e] at h; cases h
 | some f=>exact⟨f,rfl,by unfold opV; rw[e]; rfl,opTab_clo _ (ufind_mem e)⟩
theorem opV_nil {op kind:Int} (h:opNil op kind=true):opV op kind=.sc .nilFunc:=by
 unfold opNil at h
 cases e:ufind [op,kind] opTab with
 | none=>unfold opV; rw[e]; rfl
 | some f=>rw[e] at h; cases h
theorem check_ok (op kind:Int):PureRun Tryz.prog 124 [.sc (.int .i64 op),.sc (.int .i64 kind)] (.sc (.int .i64 (checkE op kind))):=by
 refine PureRun.mkI cF124 (nlB rfl) ?_
 have ho:=operations_ok op kind
 have hV:PV (opV op kind):=inferInstance
 unfold checkE
 refine walkW ?_
 refine Reg.gs rfl (fun g1=>?_) (fun g1=>?_)
 ·rw[g1,if_pos (.inl (of_decide_eq_true g1))]
  refine walkW ?_
  exact EndP.w
 rw[g1]
 have g1:=of_decide_eq_false g1
 refine walkW ?_
 refine Reg.gs rfl (fun g2=>?_) (fun g2=>?_)
 ·rw[g2,if_pos (.inr (.inl (of_decide_eq_true g2)))]
  refine walkW ?_
  exact EndP.w
 rw[g2]
 have g2:=of_decide_eq_false g2
 refine walkW ?_
 refine Reg.gs rfl (fun g3=>?_) (fun g3=>?_)
 ·rw[g3,if_pos (.inr (.inr (.inl (of_decide_eq_true g3))))]
  refine walkW ?_
  exact EndP.w
 rw[g3]
 have g3:=of_decide_eq_false g3
 refine walkW ?_
 refine AWP.condD rfl (fun g4=>?_) (fun g4=>?_)
 ·rw[if_pos (.inr (.inr (.inr g4)))]
  refine walkW ?_
  exact EndP.w
 rw[if_neg (by omega)]
 cases hn:opNil op kind with
 | true=>
  rw[if_pos rfl]
  rw[opV_nil hn] at ho
  refine walkW ?_
  exact EndP.w
 | false=>
  rw[if_neg (by simp)]
  obtain⟨f,_,e,g,cs,e2⟩:=opV_clo hn
  rw[e,e2] at ho
  refine walkW ?_
  exact EndP.w
def validS (kind:Int) (l:List Vl):Bool:=decide (kind=3) || l.all fun v=>decide (v.2=0)
theorem valid_list_ok (kind:Int) (l:List Vl) (hl:l.length≤1000000):PureRun Tryz.prog 140 [.sc (.int .i64 kind),vsV l] (.sc (.bool (validS kind l))):=by
 refine PureRun.mkI cF140 (nlB rfl) ?_
 have e0:=vsR_len l
 have hnp:∀ k,(l.take k).all (fun v=>decide (v.2=0))=true∨True:=fun _=>.inr trivial
 refine walkW ?_
 rw[e0]
 refine AWP.loop (fun k:Nat=>[(0,.sc (.int .i64 kind)),(7,vsV l),(8,.sc (.int .i64 (l.length:Int))),(9,.sc (.int .i64 (k:Int)))]) (fun _=>[]) (fun k=>k≤l.length∧(decide (kind=3)=true∨(l.take k).all (fun v=>decide (v.2=0))=true)) (fun k=>l.length - k) 0
  ⟨Nat.zero_le _,.inr (by simp)⟩ ?_ ?_
 ·exact Sub.w [] []
 rintro k ⟨hk,hv⟩
 refine walkX ?_
 refine AWP.condD rfl (fun h=>?_) (fun h=>?_)
 ·have hr:=vsR_ix l k h
  have ht:l.take (k+1)=l.take k++[l[k]]:=List.take_succ_eq_append_getElem h
  have hm:l[k]∈l:=List.getElem_mem h
  generalize l[k]=v at hr ht hm
  have hr:rowIx (vsR l) (k:Int)=some (vR v.1 v.2):=hr
  refine walkX ?_
  refine Reg.gs rfl (fun g=>?_) (fun g=>?_)
  ·rw[g]
   have g3:¬ kind=3:=by simpa using g
   refine walkX ?_
   refine AWP.cond rfl (fun g2=>?_) (fun g2=>?_)
   ·have g2:¬ v.2=0:=by simpa using g2
    have e:validS kind l=false:=by
     unfold validS
     rw[dFa g3,Bool.false_or]
     apply Bool.eq_false_iff.2
     intro hall
     exact g2 (of_decide_eq_true (List.all_eq_true.1 hall v hm))
    rw[e]
    refine walkX ?_
    exact EndP.w
   ·have g2:v.2=0:=by simpa using g2
    refine walkX ?_
    refine⟨k+1,⟨by omega,.inr ?_⟩,by omega,?_⟩
    ·rw[ht,List.all_append]
     rcases hv with hv | hv
     ·exact absurd (of_decide_eq_true hv) g3
     ·rw[hv]; simp[g2]
    ·exact Sub.w [] []
  ·rw[g]
   have g3:kind=3:=by simpa using g
   refine walkX ?_
   refine⟨k+1,⟨by omega,.inl (dTr g3)⟩,by omega,?_⟩
   exact Sub.w [] []
 ·have e:k=l.length:=by omega
  subst e
  have e:validS kind l=true:=by
   unfold validS
   rw[Bool.or_eq_true]
   rw[List.take_of_length_le (Nat.le_refl _)] at hv
   exact hv
  rw[e]
  refine walkX ?_
  exact EndP.w
theorem does_run {g:FuncId} {cs args:List AV} {v:AV} (h:Does (.clo (.func g) [] cs) args v):PureRun Tryz.prog g ([]++args++cs) v:=by
 obtain⟨g',cs',e,hp⟩:=h
 injection e with e1 e2 e3
 injection e1 with e1
 subst e1; subst e3
 exact hp
theorem check_op {op kind:Int} (h:checkE op kind=0):opNil op kind=false:=by
 cases hn:opNil op kind with
 | false=>rfl
 | true=>
  unfold checkE at h
  rw[hn,if_pos rfl] at h
  split at h<;>cases h
theorem cmpI_lt (x y:Int):cmpI x y < 0↔x < y:=by
 unfold cmpI
 split
 ·omega
 ·split<;>omega
theorem opNil_iff {op kind:Int} (h1:1≤op) (h2:op≤11) (h3:1≤kind) (h4:kind≤3):opNil op kind=!((decide (kind=1) && decide (op≤9)) || (decide (kind=2) && (decide (op=1) || decide (op=3) || decide (op=4))) || (decide (kind=3) && decide (10≤op))):=by
 have:∀ a∈List.range 11,∀ b∈List.range 3,opNil ((a:Int)+1) ((b:Int)+1)=!((decide ((b:Int)+1=1) && decide ((a:Int)+1≤9)) || (decide ((b:Int)+1=2) && (decide ((a:Int)+1=1) || decide ((a:Int)+1=3) || decide ((a:Int)+1=4))) || (decide ((b:Int)+1=3) && decide (10≤(a:Int)+1))):=by decide
 have:=this (op - 1).toNat (List.mem_range.2 (by omega)) (kind - 1).toNat (List.mem_range.2 (by omega))
 rw[show(((op - 1).toNat:Nat):Int)+1=op by omega,show(((kind - 1).toNat:Nat):Int)+1=kind by omega] at this
 exact this
set_option maxHeartbeats 2000000 in
theorem rcheck_ok (op kind:Int):PureRun Tryz.prog 77 [.sc (.int .i64 op),.sc (.int .i64 kind)] (.sc (.int .i64 (checkE op kind))):=by
 refine PureRun.mkI cF77 (nlB rfl) ?_
 unfold checkE
 refine walkW ?_
 refine Reg.gs rfl (fun g1=>?_) (fun g1=>?_)
 ·rw[g1,if_pos (.inl (of_decide_eq_true g1))]
  refine walkW ?_
  exact EndP.w
 rw[g1]
 have g1:=of_decide_eq_false g1
 refine walkW ?_
 refine Reg.gs rfl (fun g2=>?_) (fun g2=>?_)
 ·rw[g2,if_pos (.inr (.inl (of_decide_eq_true g2)))]
  refine walkW ?_
  exact EndP.w
 rw[g2]
 have g2:=of_decide_eq_false g2
 refine walkW ?_
 refine Reg.gs rfl (fun g3=>?_) (fun g3=>?_)
 ·rw[g3,if_pos (.inr (.inr (.inl (of_decide_eq_true g3))))]
  refine walkW ?_
  exact EndP.w
 rw[g3]
 have g3:=of_decide_eq_false g3
 refine walkW ?_
 refine AWP.condD rfl (fun g4=>?_) (fun g4=>?_)
 ·rw[if_pos (.inr (.inr (.inr g4)))]
  refine walkW ?_
  exact EndP.w
 rw[if_neg (by omega)]
 rw[opNil_iff (by omega) (by omega) (by omega) (by omega)]
 have hk:kind=1∨kind=2∨kind=3:=by omega
 rcases hk with rfl | rfl | rfl
 ·refine walkW ?_
  by_cases h9:op≤9
  ·rw[dTr h9]
   refine walkW ?_
   exact EndP.w
  ·rw[dFa h9]
   refine walkW ?_
   exact EndP.w
 ·refine walkW ?_
  by_cases h1:op=1
  ·subst h1
   refine walkW ?_
   exact EndP.w
  ·have e1:(op == 1)=false:=by simpa using h1
   rw[e1]
   refine walkW ?_
   by_cases h3:op=3
   ·subst h3
    refine walkW ?_
    exact EndP.w
   ·have e3:(op == 3)=false:=by simpa using h3
    rw[e3]
    refine walkW ?_
    by_cases h4:op=4
    ·subst h4
     refine walkW ?_
     exact EndP.w
    ·have e4:(op == 4)=false:=by simpa using h4
     rw[e4]
     rw[dFa h1,dFa h3,dFa h4]
     refine walkW ?_
     exact EndP.w
 ·refine walkW ?_
  by_cases h10:10≤op
  ·have e:decide (op≥10)=true:=dTr h10
   rw[e]
   refine walkW ?_
   exact EndP.w
  ·have e:decide (op≥10)=false:=dFa h10
   rw[e]
   refine walkW ?_
   exact EndP.w
def opI (op:Int) (a b:Nat):Nat:=
 if op=1 then(a+b) % 18446744073709551616
 else if op=2 then a * b % 18446744073709551616
 else if op=3 then(if sg b < sg a then b else a)
 else if op=4 then(if sg a < sg b then b else a)
 else if op=5 then a &&& b
 else if op=6 then a ||| b
 else if op=7 then a ^^^ b
 else if op=8 then(!decide (a=0) && !decide (b=0)).toNat
 else(!decide (a=0) || !decide (b=0)).toNat
theorem ite_vV0 {c c':Prop} [Decidable c] [Decidable c'] (h:c↔c') (a b:Nat):(if c then vV b 0 else vV a 0)=vV (if c' then b else a) 0:=by
 by_cases hc:c
 ·rw[if_pos hc,if_pos (h.1 hc)]
 ·rw[if_neg hc,if_neg (fun x=>hc (h.2 x))]
theorem op_does {op:Int} {f:AV} (hf:ufind [op,1] opTab=some f) {a b:Nat} (ha:a < 18446744073709551616) (hb:b < 18446744073709551616):Does f [vV a 0,vV b 0] (vV (opI op a b) 0):=by
 have hm:=ufind_mem hf
 simp only[opTab,List.mem_cons,List.not_mem_nil,or_false,pIn,List.cons.injEq,and_true] at hm
 rcases hm with h | h | h | h | h | h | h | h | h | h | h | h | h | h<;>obtain⟨⟨rfl,h1⟩,rfl⟩:=h<;>(try (exact absurd h1 (by decide)))
 ·exact do106 _ _ (does_fT (do78 _ _))
 ·exact do106 _ _ (does_fT (do79 _ _))
 ·have:=do107 0 0 _ (does_fT (do81 b a 0 0))
  rw[ite_vV0 (cmpI_lt _ _)] at this
  exact this
 ·have:=do107 0 0 _ (do109 (f:=fT 152) 0 0 _ (does_fT (do81 a b 0 0)))
  rw[ite_vV0 (cmpI_lt _ _)] at this
  exact this
 ·exact do106 _ _ (does_fT (do83 ha hb))
 ·exact do106 _ _ (does_fT (do84 ha hb))
 ·exact do106 _ _ (does_fT (do85 ha hb))
 ·exact do106 _ _ (do110 (f:=fT 158) _ (does_fT (do87 _ _)))
 ·exact do106 _ _ (do110 (f:=fT 159) _ (does_fT (do88 _ _)))
theorem validS_int (a b:Nat):validS 1 [(a,0),(b,0)]=true:=by simp[validS]
set_option maxHeartbeats 1000000 in
theorem do_ok {op:Int} (h:checkE op 1=0) {a b:Nat} (ha:a < 18446744073709551616) (hb:b < 18446744073709551616):
  PureRun Tryz.prog 118 [.sc (.int .i64 op),.sc (.int .i64 1),vV a 0,vV b 0] (.tup [vV (opI op a b) 0,.sc (.int .i64 0)]):=by
 refine PureRun.mkI cF118 (nlB rfl) ?_
 have hc:=check_ok op 1
 rw[h] at hc
 have hv:=valid_list_ok 1 [(a,0),(b,0)] (by simp)
 have hvv:vsV [(a,0),(b,0)]=.list 2 [vR a 0,vR b 0]:=rfl
 rw[hvv,validS_int] at hv
 unfold vR at hv
 unfold vV vR
 refine walkW ?_
 (refine Reg.pv (by first | exact Nat.zero_le _ | exact Nat.le_refl _ | (simp; done) | (simp; omega)) rfl hv (by first | exact .sc _ | (exact .agg _ (fun c hc=>by simp at hc; rcases hc with h | h<;>subst h<;>exact .sc _)) | assumption) ?vw9 ?_; case vw9=>(all_goals (repeat' (first | exact ToAll.nil | exact famsTo.nil | exact famTo.nil | exact ToL.nil | exact ToR.nil | refine ToAll.cons ?_ ?_ | refine famsTo.cons ?_ ?_ | refine wt10 ?_ ?_ | exact To.undef _ | exact To.sc _ | exact To.hslL rfl rfl | exact To.asl _ _ _ _ _ _ rfl | exact To.ptrO rfl rfl rfl | exact To.mrefO rfl | exact To.nil rfl rfl rfl | exact wt1 | exact To.nilL | refine To.int ?_ | refine To.bool ?_ | refine To.hslL rfl ?_ | refine wt2 rfl ?_ ?_ ?_ | refine To.tupL ?_ | refine To.aggL ?_ | refine To.cptrL ?_ | refine To.fzp rfl rfl rfl ?_ | refine To.fzm rfl rfl ?_ | refine To.cloL ?_ ?_ | refine wt3 ?_ | refine wt4 ?_ | exact wt5 | refine wt6 ?_ | refine ToB.one ?_ | exact wt7 | ((with_reducible apply ToL.consE); case e9=>rfl) | refine wt8 ?_ | refine ToL.cons ?_ ?_ | exact wt11 | refine wt9 ?_ ?_ | refine wt12 ?_ | (with_reducible rfl) | assumption)); all_goals (first | rfl | assumption | (simp; done) | (simp; omega))))
 refine walkX0 ?_
 obtain⟨f,hf,e,g,cs,e2⟩:=opV_clo (check_op h)
 have ho:=operations_ok op 1
 have hd:=op_does hf ha hb
 have hpf:=opTab_pure _ (ufind_mem hf)
 rw[e,e2] at ho
 rw[e2] at hd hpf
 have hr:=does_run hd
 generalize opI op a b=r at *
 unfold vV vR at hr
 first | refine AWP.dkm 5 _ mixed rfl rfl (by kernel_rfl) (by kernel_rfl) (by kernel_rfl) ?_
 refine walkX ?_
 refine DK.nil ⟨by kernel_rfl,?_⟩
 refine walkX ?_
 refine DK.nil ⟨by kernel_rfl,?_⟩
 refine walkX ?_
 exact EndP.w
structure Act where
 k:Int
 r:Int
 a:Int
 o:Int
 v:Int
 w:Int
 g:List Int
 deriving DecidableEq
structure Pg where
 cells:Int
 acts:List (List Act)
structure Ep where
 f:Bool
 o:List Int
 p:List Int
 l:Int
structure Ac where
 r:Int
 a:Int
 d:Nat
 deriving DecidableEq
structure Ln where
 e:Ep
 acc:List (Nat×Ac)
 fe:List Nat
 st:List Nat
 po:List Nat
 co:List (Nat×Nat)
 wt:List (Nat×Nat)
def ep0:Ep:=⟨false,[],[],-1⟩
def ln0:Ln:=⟨ep0,[],[],[],[],[],[]⟩
def isRem (k:Int):Bool:=decide (1≤k∧k≤5)
def isUpd (k:Int):Bool:=decide (3≤k∧k≤5)
def isRet (k:Int):Bool:=decide (k=2∨k=4∨k=5∨k=6)
def hasRank (k:Int):Bool:=decide ((1≤k∧k≤5)∨13≤k)
def hasAt (k:Int):Bool:=decide (1≤k∧k≤7)
def hasOp (k:Int):Bool:=decide (k=3∨k=4)
def hasGrp (k:Int):Bool:=decide (k=9∨k=10)
def intsR (l:List Int):List (List AV):=l.map fun n=>[.sc (.int .i64 n)]
theorem intsR_len (l:List Int):(intsR l).length=l.length:=by simp[intsR]
instance (l:List Int):PRs (intsR l):=inferInstanceAs (PRs (l.map fun n=>[.sc (.int .i64 n)]))
theorem intsR_ix (l:List Int) (k:Nat) (h:k < l.length):rowIx (intsR l) (k:Int)=some [.sc (.int .i64 l[k])]:=rowIx_map (fun n:Int=>[.sc (.int .i64 n)]) l k h
def natsR (l:List Nat):List (List AV):=l.map fun n:Nat=>[.sc (.int .i64 (n:Int))]
theorem natsR_len (l:List Nat):(natsR l).length=l.length:=by simp[natsR]
instance (l:List Nat):PRs (natsR l):=inferInstanceAs (PRs (l.map fun n:Nat=>[.sc (.int .i64 (n:Int))]))
theorem natsR_ix (l:List Nat) (k:Nat) (h:k < l.length):rowIx (natsR l) (k:Int)=some [.sc (.int .i64 (l[k]:Nat))]:=rowIx_map (fun n:Nat=>[.sc (.int .i64 (n:Int))]) l k h
theorem natsR_get (l:List Nat) (k:Nat) (h:k < l.length):(natsR l)[k]?=some [.sc (.int .i64 (l[k]:Nat))]:=by simp[natsR,h]
theorem natsR_I (s:List Nat):natsR s=intsR (s.map fun j:Nat=>(j:Int)):=by simp[natsR,intsR]
def actR (x:Act):List AV:=[.sc (.int .i64 x.k),.sc (.int .i64 x.r),.sc (.int .i64 x.a),.sc (.int .i64 x.o),.sc (.int .i64 x.v),.sc (.int .i64 x.w),.list 1 (intsR x.g)]
instance (x:Act):PR (actR x):=by unfold actR; infer_instance
def actsR (l:List Act):List (List AV):=l.map actR
theorem actsR_len (l:List Act):(actsR l).length=l.length:=by simp[actsR]
instance (l:List Act):PRs (actsR l):=inferInstanceAs (PRs (l.map actR))
theorem actsR_ix (l:List Act) (k:Nat) (h:k < l.length):rowIx (actsR l) (k:Int)=some (actR l[k]):=rowIx_map actR l k h
def progR (p:List (List Act)):List (List AV):=p.map fun l=>[.list 7 (actsR l)]
theorem progR_len (p:List (List Act)):(progR p).length=p.length:=by simp[progR]
instance (p:List (List Act)):PRs (progR p):=inferInstanceAs (PRs (p.map fun l=>[AV.list 7 (actsR l)]))
theorem progR_ix (p:List (List Act)) (k:Nat) (h:k < p.length):rowIx (progR p) (k:Int)=some [.list 7 (actsR p[k])]:=rowIx_map (fun l:List Act=>[AV.list 7 (actsR l)]) p k h
def progV (p:Pg):AV:=.agg [.sc (.int .i64 p.cells),.list 1 (progR p.acts)]
instance (p:Pg):PV (progV p):=by unfold progV; infer_instance
def epR (e:Ep):List AV:=[.sc (.bool e.f),.list 1 (intsR e.o),.list 1 (intsR e.p),.sc (.int .i64 e.l)]
instance (e:Ep):PR (epR e):=by unfold epR; infer_instance
def acR (x:Ac):List AV:=[.sc (.int .i64 x.r),.sc (.int .i64 x.a),.sc (.int .i64 (x.d:Int))]
instance (x:Ac):PR (acR x):=by unfold acR; infer_instance
def accE (l:List (Nat×Ac)):List (Value×AV):=l.map fun x=>(.int .i64 (x.1:Int),.agg (acR x.2))
def mapE (l:List (Nat×Nat)):List (Value×AV):=l.map fun x=>(.int .i64 (x.1:Int),.sc (.int .i64 (x.2:Int)))
instance (l:List (Nat×Ac)):PM (accE l):=⟨fun x hx=>by
 obtain⟨a,_,rfl⟩:=List.mem_map.1 hx
 exact pv (.agg (acR a.2))⟩
instance (l:List (Nat×Nat)):PM (mapE l):=⟨fun x hx=>by
 obtain⟨a,_,rfl⟩:=List.mem_map.1 hx
 exact .sc _⟩
instance (l m:List (Value×AV)) [h:PM l] [h':PM m]:PM (l++m):=⟨fun x hx=>(List.mem_append.1 hx).elim (h.out x) (h'.out x)⟩
instance (v:Value) (a:AV) (l:List (Value×AV)) [h:PV a] [h':PM l]:PM ((v,a)::l):=⟨fun x hx=>by
 rcases List.mem_cons.1 hx with e | e
 ·subst e; exact h.out
 ·exact h'.out x e⟩
def lnR (l:Ln):List AV:=epR l.e++[.tmap (accE l.acc),.list 1 (natsR l.fe),.list 1 (natsR l.st),.list 1 (natsR l.po),.tmap (mapE l.co),.tmap (mapE l.wt)]
instance (l:Ln):PR (lnR l):=by unfold lnR; infer_instance
def linesR (l:List Ln):List (List AV):=l.map lnR
theorem linesR_len (l:List Ln):(linesR l).length=l.length:=by simp[linesR]
instance (l:List Ln):PRs (linesR l):=inferInstanceAs (PRs (l.map lnR))
theorem linesR_ix (l:List Ln) (k:Nat) (h:k < l.length):rowIx (linesR l) (k:Int)=some (lnR l[k]):=rowIx_map lnR l k h
def alV (k:Nat):AV:=match k with
 | 6=>fT 81
 | 7=>fT 81
 | 8=>.clo (.func 84) [] [.cptr [fT 82]]
 | 9=>fT 86
 | 10=>fT 82
 | 11=>fT 89
 | 12=>fT 91
 | 13=>fT 82
 | 14=>fT 82
 | 15=>fT 83
 | 16=>fT 83
 | _=>.sc .nilFunc
def afV (k:Nat):AV:=match k with
 | 8=>fT 85
 | 9=>fT 87
 | 10=>fT 88
 | 11=>fT 90
 | 12=>fT 92
 | 13=>fT 93
 | 14=>fT 94
 | 16=>fT 95
 | _=>.sc .nilFunc
instance (k:Nat):PV (alV k):=by unfold alV; split<;>infer_instance
instance (k:Nat):PV (afV k):=by unfold afV; split<;>infer_instance
def formR (k:Nat):List AV:=[.sc (.bool (hasRank k)),.sc (.bool (hasAt k)),.sc (.bool (hasOp k)),.sc (.bool (hasGrp k)),.sc (.bool (isRem k)),.sc (.bool (isUpd k)),.sc (.bool (isRet k)),alV k,afV k]
instance (k:Nat):PR (formR k):=by unfold formR; infer_instance
def formsE:List (Value×AV):=(List.range' 1 16).map fun i=>(.int .i64 (i:Nat),.agg (formR i))
instance:PM formsE:=⟨fun x hx=>by
 obtain⟨a,_,rfl⟩:=List.mem_map.1 hx
 exact pv (.agg (formR a))⟩
theorem formsE_in {k:Int} (h1:1≤k) (h2:k≤16):mfind .i64 k formsE=some (some (.agg (formR k.toNat))):=by
 obtain⟨n,rfl⟩:∃ n:Nat,k=n:=⟨k.toNat,by omega⟩
 match n,h1,h2 with
 | 1,_,_=>rfl
 | 2,_,_=>rfl
 | 3,_,_=>rfl
 | 4,_,_=>rfl
 | 5,_,_=>rfl
 | 6,_,_=>rfl
 | 7,_,_=>rfl
 | 8,_,_=>rfl
 | 9,_,_=>rfl
 | 10,_,_=>rfl
 | 11,_,_=>rfl
 | 12,_,_=>rfl
 | 13,_,_=>rfl
 | 14,_,_=>rfl
 | 15,_,_=>rfl
 | 16,_,_=>rfl
theorem mfind_not {k:Int}:∀(l:List Nat) (f:Nat→AV),(∀ i∈l,¬ k=(i:Int))→mfind .i64 k (l.map fun i=>(.int .i64 (i:Nat),f i))=some none
 | [],_,_=>rfl
 | x::l,f,h=>by
  simp only[List.map_cons,mfind,decide_true]
  rw[dFa (h x (by simp))]
  exact mfind_not l f fun i hi=>h i (by simp[hi])
theorem formsE_out {k:Int} (h:¬ (1≤k∧k≤16)):mfind .i64 k formsE=some none:=
 mfind_not _ _ fun i hi e=>by
  have:=List.mem_range'_1.1 hi
  omega
theorem PureRun.le {P:Program} {f:FuncId} {args:List AV} {v v':AV} (h:PureRun P f args v) (hl:Le v v'):PureRun P f args v':=
 ⟨h.1,fun M J w cargs a b c=>(h.2 M J w cargs a b c).mono fun _ _ ⟨cv,M',h1,h2,h3,h4,h5,h6,h7,h8,h9,h10⟩=>⟨cv,M',h1,h2,h3,h4,h5,h6,h7,h8,h9,fun J'=>hl _ _ _ (h10 J')⟩⟩
theorem Le.tmapL {es es':List (Value×AV)} (hl:es.length=es'.length) (h:∀(j:Nat) x y,es[j]?=some x→es'[j]?=some y→x.1=y.1∧Le x.2 y.2):Le (.tmap es) (.tmap es'):=by
 intro M J v hv
 cases hv with
 | tmap _ β clock ces hM hw hl' hk hr=>
  refine .tmap es' β clock ces hM hw (by omega) (fun j x y a b=>?_) fun j x y a b=>?_
  ·obtain⟨z,hz⟩:=get_of_len hl a
   rw[← (h j z x hz a).1]
   exact hk j z y hz b
  ·obtain⟨z,hz⟩:=get_of_len hl a
   exact(h j z x hz a).2 _ _ _ (hr j z y hz b)
theorem Le.aggL {l l':List AV} (hl:l.length=l'.length) (h:∀(j:Nat) x y,l[j]?=some x→l'[j]?=some y→Le x y):Le (.agg l) (.agg l'):=by
 intro M J v hv
 cases hv with
 | agg _ cvs hl' hr=>
  refine .agg l' cvs (by omega) fun j x y a b=>?_
  obtain⟨z,hz⟩:=get_of_len hl a
  exact h j z x hz a _ _ _ (hr j z y hz b)
def unF (a:AV):AV:=match a with
 | .clo (.func n) [] []=>fnC n
 | .clo f [] [.cptr [.clo (.func n) [] []]]=>.clo f [] [.cptr [fnC n]]
 | a=>a
theorem Le.unF (k:Nat):Le (unF (alV k)) (alV k):=by
 unfold alV
 split<;>first | exact Le.func _ | exact Le.refl _ | skip
 intro M J v hv
 cases hv with
 | clo _ _ _ cfs ccs r1 r2 r3 r4=>
  refine .clo _ _ _ cfs ccs r1 r2 r3 fun j c v a b=>?_
  cases j with
  | succ j=>simp at a
  | zero=>
   simp at a
   subst a
   have:=r4 0 _ v rfl b
   cases this with
   | cptr _ β off cs e fr hM hle h=>
    refine .cptr _ β off cs e fr hM (by simpa using hle) fun j c v a b=>?_
    cases j with
    | succ j=>simp at a
    | zero=>
     simp at a
     subst a
     exact Le.func _ _ _ _ (h 0 _ v rfl b)
theorem Le.unF' (k:Nat):Le (Go.Proofs.YtkjoolaahocgdaaGreat.unF (afV k)) (afV k):=by
 unfold afV
 split<;>first | exact Le.func _ | exact Le.refl _
def formQ (k:Nat):List AV:=[.sc (.bool (hasRank k)),.sc (.bool (hasAt k)),.sc (.bool (hasOp k)),.sc (.bool (hasGrp k)),.sc (.bool (isRem k)),.sc (.bool (isUpd k)),.sc (.bool (isRet k)),unF (alV k),unF (afV k)]
def formsQ:List (Value×AV):=(List.range' 1 16).map fun i=>(.int .i64 (i:Nat),.agg (formQ i))
theorem le_form (k:Nat):Le (.agg (formQ k)) (.agg (formR k)):=by
 refine Le.aggL rfl fun j x y a b=>?_
 unfold formQ formR at *
 match j with
 | 0 | 1 | 2 | 3 | 4 | 5 | 6=>simp at a b; subst a; subst b; exact Le.refl _
 | 7=>simp at a b; subst a; subst b; exact Le.unF k
 | 8=>simp at a b; subst a; subst b; exact Le.unF' k
 | j+9=>simp at a
theorem le_forms:Le (.tmap formsQ) (.tmap formsE):=by
 refine Le.tmapL rfl fun j x y a b=>?_
 unfold formsQ formsE at *
 rw[List.getElem?_map] at a b
 cases h:(List.range' 1 16)[j]? with
 | none=>rw[h] at a; cases a
 | some i=>
  rw[h] at a b
  injection a with a
  injection b with b
  subst a; subst b
  exact⟨rfl,le_form i⟩
theorem unF_pure (k:Nat):Pure (unF (alV k)):=by
 unfold alV
 split<;>first | exact .sc _ | exact .clo _ _ _ allPure_nil (allPure_cons (.cptr _ (allPure_cons (.sc _) allPure_nil)) allPure_nil)
theorem unF_pure' (k:Nat):Pure (unF (afV k)):=by
 unfold afV
 split<;>exact .sc _
theorem formQ_pure (k:Nat):Pure (.agg (formQ k)):=by
 refine .agg _ fun c hc=>?_
 unfold formQ at hc
 simp only[List.mem_cons,List.not_mem_nil,or_false] at hc
 rcases hc with rfl | rfl | rfl | rfl | rfl | rfl | rfl | rfl | rfl<;>first | exact .sc _ | exact unF_pure _ | exact unF_pure' _
instance:PM formsQ:=⟨fun x hx=>by
 obtain⟨a,_,rfl⟩:=List.mem_map.1 hx
 exact formQ_pure a⟩
def ToM (T:AV→AV→Prop) (ρ:Nat→Nat→Option (Nat×Nat)):List (Value×AV)→List (Value×AV)→Prop
 | [],[]=>True
 | a::l,b::m=>(a.1=b.1∧To T ρ a.2 b.2)∧ToM T ρ l m
 | _,_=>False
theorem ToM.spec {T:AV→AV→Prop} {ρ:Nat→Nat→Option (Nat×Nat)}:∀ {l m:List (Value×AV)},ToM T ρ l m→l.length=m.length∧∀(j:Nat) a b,l[j]?=some a→m[j]?=some b→a.1=b.1∧To T ρ a.2 b.2
 | [],[],_=>⟨rfl,fun j a b h=>by simp at h⟩
 | [],_::_,h=>h.elim
 | _::_,[],h=>h.elim
 | _::_,_::_,⟨h1,h2⟩=>by
  obtain⟨h3,h4⟩:=ToM.spec h2
  refine⟨by simp[h3],fun j a b ha hb=>?_⟩
  cases j with
  | zero=>simp at ha hb; subst ha; subst hb; exact h1
  | succ j=>exact h4 j a b (by simpa using ha) (by simpa using hb)
theorem To.tmapL {T:AV→AV→Prop} {ρ:Nat→Nat→Option (Nat×Nat)} {l m:List (Value×AV)} (h:ToM T ρ l m):To T ρ (.tmap l) (.tmap m):=.tmap l m h.spec.1 (fun j x y a b=>(h.spec.2 j x y a b).1) fun j x y a b=>(h.spec.2 j x y a b).2
set_option maxHeartbeats 4000000 in
theorem table_ok:PureRun Tryz.prog 54 [] (.tmap formsE):=by
 refine PureRun.le (v:=.tmap formsQ) (PureRun.mkI cF54 (nlB rfl) ?_) le_forms
 refine walkX ?_
 have f8:PV (unF (alV 8)):=⟨unF_pure 8⟩
 refine EndP.mk (.inr rfl) rfl rfl (To.fzm rfl rfl (To.tmapL ?_))
 refine⟨⟨rfl,.eq rfl (formQ_pure _)⟩,⟨rfl,.eq rfl (formQ_pure _)⟩,⟨rfl,.eq rfl (formQ_pure _)⟩,⟨rfl,.eq rfl (formQ_pure _)⟩,⟨rfl,.eq rfl (formQ_pure _)⟩,⟨rfl,.eq rfl (formQ_pure _)⟩,⟨rfl,.eq rfl (formQ_pure _)⟩,⟨rfl,To.aggL ?_⟩,⟨rfl,.eq rfl (formQ_pure _)⟩,⟨rfl,.eq rfl (formQ_pure _)⟩,⟨rfl,.eq rfl (formQ_pure _)⟩,⟨rfl,.eq rfl (formQ_pure _)⟩,⟨rfl,.eq rfl (formQ_pure _)⟩,⟨rfl,.eq rfl (formQ_pure _)⟩,⟨rfl,.eq rfl (formQ_pure _)⟩,⟨rfl,.eq rfl (formQ_pure _)⟩,trivial⟩
 exact ToL.consE rfl wt1 (ToL.consE rfl wt1 (ToL.consE rfl wt1 (ToL.consE rfl wt1 (ToL.consE rfl wt1 (ToL.consE rfl wt1 (ToL.consE rfl wt1 (ToL.consE rfl (To.cloL ToL.nil (ToL.cons (To.fzp rfl rfl rfl (To.cptrL (ToL.consE rfl (.eq rfl (.sc _)) ToL.nil))) ToL.nil)) (ToL.consE rfl (.eq rfl (unF_pure' _)) ToL.nil))))))))
theorem beq_self (n:Int):(n == n)=true:=by simp
def idxE (x:Int):List Int→Int
 | []=>-1
 | y::l=>if y=x then 0 else if idxE x l < 0 then -1 else idxE x l+1
theorem idxE_mem (x:Int):∀ l:List Int,(0≤idxE x l↔x∈l)∧-1≤idxE x l∧idxE x l < l.length
 | []=>by simp[idxE]
 | y::l=>by
  obtain⟨h1,h2,h3⟩:=idxE_mem x l
  unfold idxE
  by_cases h:y=x
  ·rw[if_pos h]
   subst h
   refine⟨by simp,by omega,?_⟩
   rw[List.length_cons]; omega
  ·rw[if_neg h]
   have hm:x∈y::l↔x∈l:=by
    rw[List.mem_cons]
    exact⟨fun q=>q.resolve_left fun e=>h e.symm,.inr⟩
   rw[hm,← h1,List.length_cons]
   split
   ·exact⟨by omega,by omega,by omega⟩
   ·exact⟨by omega,by omega,by omega⟩
theorem idxE_at (x:Int):∀(l:List Int) (k:Nat) (h:k < l.length),l[k]=x→(∀(j:Nat) (hj:j < l.length),j < k→l[j]≠x)→idxE x l=k
 | [],k,h,_,_=>by simp at h
 | y::l,0,_,hk,_=>by
  unfold idxE
  rw[if_pos (by simpa using hk)]
  rfl
 | y::l,k+1,h,hk,hb=>by
  have h0:=hb 0 (by simp) (by omega)
  unfold idxE
  rw[if_neg (by simpa using h0),idxE_at x l k (by simpa using h) (by simpa using hk) fun j hj hjk=>by
   have:=hb (j+1) (by simpa using hj) (by omega)
   simpa using this]
  rw[if_neg (by omega)]
  omega
theorem idxE_not (x:Int) (l:List Int) (hb:∀(j:Nat) (hj:j < l.length),l[j]≠x):idxE x l=-1:=by
 have:=idxE_mem x l
 have hn:x∉l:=fun h=>by
  obtain⟨j,hj,e⟩:=List.mem_iff_getElem.1 h
  exact hb j hj e
 have:¬ 0≤idxE x l:=fun h=>hn (this.1.1 h)
 omega
set_option maxHeartbeats 4000000 in
theorem index_ok (l:List Int) (x:Int) (hl:l.length≤9223372036854775807):PureRun Tryz.prog 99 [.list 1 (intsR l),.sc (.int .i64 x)] (.sc (.int .i64 (idxE x l))):=by
 refine PureRun.mkI cF99 (nlB rfl) ?_
 have e0:=intsR_len l
 refine walkX ?_
 refine AWP.loop (fun k:Nat=>[(0,.list 1 (intsR l)),(1,.sc (.int .i64 x)),(6,.list 1 (intsR l)),(7,.sc (.int .i64 (l.length:Int))),(8,.sc (.int .i64 (k:Int)))])
  (fun k=>[]) (fun k=>k≤l.length∧∀(j:Nat) (hj:j < l.length),j < k→l[j]≠x) (fun k=>l.length - k) 0 ⟨Nat.zero_le _,fun j hj h=>by omega⟩ ?_ ?_
 ·exact Sub.w [] []
 rintro k ⟨hk,hb⟩
 refine walkX ?_
 refine AWP.condD rfl (fun h=>?_) (fun h=>?_)
 ·have hr:=intsR_ix l k h
  by_cases he:l[k]=x
  ·have hres:=idxE_at x l k h he hb
   rw[he] at hr
   rw[hres]
   refine walkX ?_
   rw[beq_self]
   refine walkX ?_
   exact EndP.w
  ·have hb2:∀(j:Nat) (hj:j < l.length),j < k+1→l[j]≠x:=fun j hj hjk=>by
    by_cases e:j=k
    ·subst e; exact he
    ·exact hb j hj (by omega)
   generalize l[k]=y at *
   refine walkX ?_
   rw[beq_false_of_ne (Ne.symm he)]
   refine walkX ?_
   refine⟨k+1,⟨by omega,hb2⟩,by omega,?_⟩
   exact Sub.w [] []
 rw[idxE_not x l fun j hj=>hb j hj (by omega)]
 refine walkX ?_
 exact EndP.w
theorem idxE_nonneg (x:Int) (l:List Int):(decide (idxE x l≥0))=decide (x∈l):=by
 have:=(idxE_mem x l).1
 rw[Bool.eq_iff_iff]
 simp only[decide_eq_true_eq]
 exact this
theorem contains_ok (l:List Int) (x:Int) (hl:l.length≤9223372036854775807):PureRun Tryz.prog 125 [.list 1 (intsR l),.sc (.int .i64 x)] (.sc (.bool (decide (x∈l)))):=by
 refine PureRun.mkI cF125 (nlB rfl) ?_
 have h:=index_ok l x hl
 rw[← idxE_nonneg]
 generalize idxE x l=i at *
 refine walkX ?_
 exact EndP.w
end Go.Proofs.YtkjoolaahocgdaaGreat
