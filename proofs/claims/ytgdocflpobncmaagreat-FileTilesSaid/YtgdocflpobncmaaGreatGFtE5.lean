import Derived.Test.YtgdocflpobncmaaGreatGFtE1
import Derived.Test.YtgdocflpobncmaaGreatGAvM3
import Derived.Test.YtgdocflpobncmaaGreatProg
import Derived.KernelRfl
namespace Go.Proofs.YtgdocflpobncmaaGreat
open Go.Av Go.Proofs
set_option maxRecDepth 20000
instance (s:Sn):PR (snR s):=⟨by unfold snR; exact pr _⟩
def okV (l:List Int):Bool:=l.all fun p=>decide (p < 65536)
def gC (s:Sn) (off n:Nat):List Int×Bool:=if 0 < n∧65536 < off then([],false) else if okV (cV s off n)=true then(cV s off n,true) else([],false)
theorem zV {l:List Int}:okV l=true↔∀ p∈l,p < 65536:=by simp[okV]
def mkV (s:Sn) (off n:Nat):AV:=.clo (.func 154) [] [.cptr [iv n],.cptr [iv off],.cptr [iv s.at',iv s.elem,iv s.ext,.list 1 (inR s.pl)]]
theorem y7 (s:Sn) (off n:Nat):aC Tryz.prog 126 [.agg [iv s.at',iv s.elem,iv s.ext,.list 1 (inR s.pl)],iv off,iv n] (mkV s off n):=by
 refine aC.mkI (hX:=by unfold mkV; infer_instance) JJ (nlB rfl) ?_
 unfold mkV
 refine aA ?_
 exact aJ.w
set_option maxHeartbeats 1000000 in
theorem tI {s:Sn} {off n:Nat} (hs:snB s) (hn:n≤5000) (hop:off < 9223372036854775808) (ho:0 < n→off≤65536) (r:List Int×Bool) (hr:r=if okV (cV s off n)=true then(cV s off n,true) else([],false)):
  AWP Tryz.prog F64.n 0 (iH [1,1] F64.code) (aJ F64.res (.tup [.list 1 (inR r.1),bv r.2])) [(1,iv off),(2,iv n),(3,.cptr [iv s.at',iv s.elem,iv s.ext,.list 1 (inR s.pl)]),(6,.ptr 0 0 0 0),(7,.ptr 1 0 0 0)] [[.cells 1 [[.sc (.slice none 0 0)]]],[.cells 1 [[bv false]]]]:=by
 have hv:=y7 s off n
 unfold mkV at hv
 show AWP _ _ _ (.seq _ _) _ _ _
 refine aA ?_
 refine AWP.sub (fr':=vsF s (mkV s off n)) (H':=[[.cells 1 [[.sc (.slice none 0 0)]]],[.cells 1 [[bv false]]],[.cells 1 [[.sc (.slice none 0 0)]]]]) ?_ ?_
 ·unfold vsF mkV
  (apply Sub.to [] [[(0,0)],[(1,0)],[(2,0)]]; all_goals (repeat' (first | exact aE.nil | exact aB.nil | exact aF.nil | exact ToL.nil | exact ToR.nil | refine aE.cons ?_ ?_ | refine aB.cons ?_ ?_ | refine aP ?_ ?_ | exact To.undef _ | exact To.sc _ | exact To.hslL rfl rfl | exact To.asl _ _ _ _ _ _ _ rfl | refine To.ifc _ _ _ ?_ | exact To.ptrO rfl rfl rfl | exact To.mrefO rfl | exact To.nil rfl rfl rfl | exact wt1 | exact To.nilL | refine To.int ?_ | refine To.bool ?_ | refine To.hslL rfl ?_ | refine wt2 rfl ?_ ?_ ?_ | refine To.tupL ?_ | refine To.aggL ?_ | refine To.cptrL ?_ | refine To.fzp rfl rfl rfl ?_ | refine To.fzm rfl rfl ?_ | refine To.cloL ?_ ?_ | refine wt3 ?_ | refine wt4 ?_ | exact wt5 | refine wt6 ?_ | refine ToB.one ?_ | exact wt7 | ((with_reducible apply ToL.consE); case e9=>rfl) | refine wt8 ?_ | refine ToL.cons ?_ ?_ | exact wt11 | refine wt9 ?_ ?_ | refine wt12 ?_ | (with_reducible rfl) | assumption)); all_goals (first | rfl | assumption | (simp; done) | (simp; omega) | (rw[wrap_small (by omega) (by omega)]; done) | (rw[wrap_small (by omega) (by omega)]; omega) | (refine congrArg Nat.cast ?_; assumption) | skip))
 refine AWP.rangeF (g:=154) (fs:=[]) (cs:=[.cptr [iv n],.cptr [iv off],.cptr [iv s.at',iv s.elem,iv s.ext,.list 1 (inR s.pl)]]) rfl (Nat.zero_le _) rfl fun L hL=>?_
 refine(yM (by unfold mkV; infer_instance) hL hs hn ho hop).mono ?_
 rintro res H' (⟨hall,rfl⟩ | ⟨hno,rfl⟩)
 ·rw[if_pos (zV.2 hall)] at hr
  subst hr
  refine⟨_,_,none,rfl,by decide,?_⟩
  have hol:=bD (cV s off n)
  unfold vsF
  refine aA ?_
  exact aJ.w
 ·rw[if_neg (fun q=>hno (zV.1 q))] at hr
  subst hr
  refine⟨_,_,some .ret,rfl,by decide,?_⟩
  rw[show inR (([],false):List Int×Bool).1=[] from rfl]
  unfold vsF
  exact aJ.w
set_option maxHeartbeats 1000000 in
theorem HA {s:Sn} {off n:Nat} (hs:snB s) (hn:n≤5000) (hop:off < 9223372036854775808):aC Tryz.prog 64 [.agg [iv s.at',iv s.elem,iv s.ext,.list 1 (inR s.pl)],iv off,iv n] (.tup [.list 1 (inR (gC s off n).1),bv (gC s off n).2]):=by
 refine aC.mkI cF64 (nlB rfl) ?_
 refine aA ?_
 by_cases h0:0 < n
 ·rw[dTr h0]
  refine aA ?_
  refine AWP.condN (65536 < off) rfl rfl (fun h=>?_) (fun h=>?_)
  ·rw[show gC s off n=([],false) from if_pos ⟨h0,h⟩,show inR (([],false):List Int×Bool).1=[] from rfl]
   refine aA ?_
   exact aJ.w
  ·refine AWP.skip ?_
   refine AWP.sub ?_ (tI hs hn hop (fun _=>by omega) (gC s off n) (by unfold gC; rw[if_neg (by omega)]))
   (apply Sub.to [] [[(1,0)],[(2,0)]]; all_goals (repeat' (first | exact aE.nil | exact aB.nil | exact aF.nil | exact ToL.nil | exact ToR.nil | refine aE.cons ?_ ?_ | refine aB.cons ?_ ?_ | refine aP ?_ ?_ | exact To.undef _ | exact To.sc _ | exact To.hslL rfl rfl | exact To.asl _ _ _ _ _ _ _ rfl | refine To.ifc _ _ _ ?_ | exact To.ptrO rfl rfl rfl | exact To.mrefO rfl | exact To.nil rfl rfl rfl | exact wt1 | exact To.nilL | refine To.int ?_ | refine To.bool ?_ | refine To.hslL rfl ?_ | refine wt2 rfl ?_ ?_ ?_ | refine To.tupL ?_ | refine To.aggL ?_ | refine To.cptrL ?_ | refine To.fzp rfl rfl rfl ?_ | refine To.fzm rfl rfl ?_ | refine To.cloL ?_ ?_ | refine wt3 ?_ | refine wt4 ?_ | exact wt5 | refine wt6 ?_ | refine ToB.one ?_ | exact wt7 | ((with_reducible apply ToL.consE); case e9=>rfl) | refine wt8 ?_ | refine ToL.cons ?_ ?_ | exact wt11 | refine wt9 ?_ ?_ | refine wt12 ?_ | (with_reducible rfl) | assumption)); all_goals (first | rfl | assumption | (simp; done) | (simp; omega) | (rw[wrap_small (by omega) (by omega)]; done) | (rw[wrap_small (by omega) (by omega)]; omega) | (refine congrArg Nat.cast ?_; assumption) | skip))
 ·rw[dFa h0]
  refine sF ?_
  refine AWP.condF rfl ?_
  refine AWP.skip ?_
  refine AWP.sub ?_ (tI hs hn hop (fun q=>absurd q h0) (gC s off n) (by unfold gC; rw[if_neg (by omega)]))
  (apply Sub.to [] [[(1,0)],[(2,0)]]; all_goals (repeat' (first | exact aE.nil | exact aB.nil | exact aF.nil | exact ToL.nil | exact ToR.nil | refine aE.cons ?_ ?_ | refine aB.cons ?_ ?_ | refine aP ?_ ?_ | exact To.undef _ | exact To.sc _ | exact To.hslL rfl rfl | exact To.asl _ _ _ _ _ _ _ rfl | refine To.ifc _ _ _ ?_ | exact To.ptrO rfl rfl rfl | exact To.mrefO rfl | exact To.nil rfl rfl rfl | exact wt1 | exact To.nilL | refine To.int ?_ | refine To.bool ?_ | refine To.hslL rfl ?_ | refine wt2 rfl ?_ ?_ ?_ | refine To.tupL ?_ | refine To.aggL ?_ | refine To.cptrL ?_ | refine To.fzp rfl rfl rfl ?_ | refine To.fzm rfl rfl ?_ | refine To.cloL ?_ ?_ | refine wt3 ?_ | refine wt4 ?_ | exact wt5 | refine wt6 ?_ | refine ToB.one ?_ | exact wt7 | ((with_reducible apply ToL.consE); case e9=>rfl) | refine wt8 ?_ | refine ToL.cons ?_ ?_ | exact wt11 | refine wt9 ?_ ?_ | refine wt12 ?_ | (with_reducible rfl) | assumption)); all_goals (first | rfl | assumption | (simp; done) | (simp; omega) | (rw[wrap_small (by omega) (by omega)]; done) | (rw[wrap_small (by omega) (by omega)]; omega) | (refine congrArg Nat.cast ?_; assumption) | skip))
theorem xF {a:Int} {e o:Ty} (he:bF 3 e=true) (ho:bF 3 o=true) (h:(bV a e o).1=0):snB (bV a e o).2:=by
 have h1:=fE (aG 3 e).2.es
 have h2:=m7 he
 have h3:=fE (aG 3 o).2.es
 have h4:=m7 ho
 have h5:=kS (aG 3 o).2.es
 unfold bV at h ⊢
 by_cases c1:a < 0∨65536 < a
 ·rw[if_pos c1] at h; cases h
 rw[if_neg c1] at h ⊢
 by_cases c2:(aG 3 e).1≠0
 ·rw[if_pos c2] at h; exact absurd h c2
 rw[if_neg c2] at h ⊢
 by_cases c3:(aG 3 o).1≠0
 ·rw[if_pos c3] at h; exact absurd h c3
 rw[if_neg c3] at h ⊢
 have hB:=dH 3 o ho (Decidable.byContradiction c3)
 by_cases c4:u9 (cI (aG 3 o).2.es) (aG 3 o).2.ext=true
 ·rw[if_pos c4] at h ⊢
  by_cases c5:EH (bL (aG 3 e).2.es) (bL (aG 3 o).2.es)=true
  ·rw[if_pos c5]
   unfold EH at c5
   simp only[Bool.and_eq_true,decide_eq_true_eq] at c5
   exact⟨⟨by show 0≤a; omega,by show a≤_; omega⟩,⟨by show(1:Int)≤(bL (aG 3 e).2.es:Nat); omega,by show((bL (aG 3 e).2.es:Nat):Int)≤_; omega⟩,⟨hB.2.2.2.2.1,hB.2.2.2.2.2.1⟩,by show 0 < (cI (aG 3 o).2.es).length; omega,by show(cI (aG 3 o).2.es).length≤_; omega,IP _ hB.2.2.2.2.2.2.2.2⟩
  ·rw[if_neg c5] at h; cases h
 ·rw[if_neg c4] at h; cases h
set_option maxRecDepth 100000
abbrev cZ (d s:Nat):IOper:=⟨some d,none,.op (.move (.tmp s))⟩
def F16:IFun:=⟨11,(.seq (.region [⟨some 1,none,.op (.box (.tmp 0))⟩,⟨some 2,none,.op (.move (.const (.int .i64 0)))⟩]) (.seq (.region [⟨some 6,none,.op (.load 17 true (.tmp 1))⟩,⟨some 7,none,(.call 63 [(.tmp 6)])⟩,cZ 5 7,⟨some 8,none,.op (.extract (.tmp 5) 0)⟩,⟨some 9,none,.op (.extract (.tmp 5) 1)⟩,⟨some 3,none,.op (.alloc [(3,(.int .i64 0)),(1,(.slice none 0 0))])⟩,⟨none,none,.op (.store 4 (.tmp 3) (.tmp 8))⟩,cZ 4 9]) (.seq (.region [cZ 10 4,cZ 2 10]) .ret))),[(.tmp 2)]⟩
theorem cF16:aM Tryz.prog 16=some F16:=by kernel_rfl
def F19:IFun:=⟨72,(.seq (.region [⟨some 2,none,.op (.box (.tmp 0))⟩,⟨some 4,none,.op (.move (.const (.bool false)))⟩]) (.seq (.seq (.region [cZ 7 1,⟨some 8,none,.op (.bin .eql 3 (.tmp 7) (.const (.int .i64 0)))⟩,cZ 9 8,⟨some 10,some (9,false),.op (.fieldAddr 7 (.tmp 2))⟩,⟨some 11,some (9,false),.op (.load 1 false (.tmp 10))⟩,⟨some 12,some (9,false),.op (.len (.tmp 11))⟩,⟨some 13,some (9,false),.op (.bin .gtr 3 (.tmp 12) (.const (.int .i64 3)))⟩,⟨some 14,none,.op (.pick (.tmp 9) (.const (.bool true)) (.tmp 13))⟩,cZ 15 14,⟨some 16,some (15,false),.op (.fieldAddr 4 (.tmp 2))⟩,⟨some 17,some (15,false),.op (.load 1 false (.tmp 16))⟩,⟨some 18,some (15,false),.op (.len (.tmp 17))⟩,⟨some 19,some (15,false),.op (.bin .gtr 3 (.tmp 18) (.const (.int .i64 8)))⟩,⟨some 20,none,.op (.pick (.tmp 15) (.const (.bool true)) (.tmp 19))⟩,cZ 21 20,⟨some 22,some (21,false),.op (.fieldAddr 5 (.tmp 2))⟩,⟨some 23,some (21,false),.op (.load 1 false (.tmp 22))⟩,⟨some 24,some (21,false),.op (.len (.tmp 23))⟩,⟨some 25,some (21,false),.op (.bin .gtr 3 (.tmp 24) (.const (.int .i64 8)))⟩,⟨some 26,none,.op (.pick (.tmp 21) (.const (.bool true)) (.tmp 25))⟩,cZ 27 26,⟨some 28,some (27,false),.op (.fieldAddr 6 (.tmp 2))⟩,⟨some 29,some (27,false),.op (.load 1 false (.tmp 28))⟩,⟨some 30,some (27,false),.op (.len (.tmp 29))⟩,⟨some 31,some (27,false),.op (.bin .gtr 3 (.tmp 30) (.const (.int .i64 8)))⟩,⟨some 32,none,.op (.pick (.tmp 27) (.const (.bool true)) (.tmp 31))⟩,cZ 33 32,⟨some 34,some (33,false),.op (.fieldAddr 1 (.tmp 2))⟩,⟨some 35,some (33,false),.op (.load 1 false (.tmp 34))⟩,⟨some 36,some (33,false),.op (.bin .gtr 3 (.tmp 35) (.const (.int .i64 16)))⟩,⟨some 37,none,.op (.pick (.tmp 33) (.const (.bool true)) (.tmp 36))⟩,cZ 38 37,⟨some 39,some (38,false),.op (.fieldAddr 2 (.tmp 2))⟩,⟨some 40,some (38,false),.op (.load 1 false (.tmp 39))⟩,⟨some 41,some (38,false),.op (.bin .gtr 3 (.tmp 40) (.const (.int .i64 8)))⟩,⟨some 42,none,.op (.pick (.tmp 38) (.const (.bool true)) (.tmp 41))⟩]) (.cond (.tmp 42) (.seq (.region [⟨some 4,none,.op (.move (.const (.bool false)))⟩]) .ret) .skip)) (.seq (.seq (.region [⟨some 5,none,.op (.move (.const (.int .i64 0)))⟩]) (.block 0 (.loop (.seq (.seq (.region [cZ 43 5,⟨some 44,none,.op (.fieldAddr 5 (.tmp 2))⟩,⟨some 45,none,.op (.load 1 false (.tmp 44))⟩,⟨some 46,none,.op (.len (.tmp 45))⟩,⟨some 47,none,.op (.bin .lss 3 (.tmp 43) (.tmp 46))⟩]) (.cond (.tmp 47) .skip (.exit 0))) (.seq (.block 1 (.seq (.region [⟨some 50,none,.op (.fieldAddr 5 (.tmp 2))⟩,⟨some 51,none,.op (.load 1 false (.tmp 50))⟩,cZ 52 5,⟨some 53,none,.op (.idxSl 1 (.tmp 51) (.tmp 52))⟩,⟨some 54,none,.op (.load 1 false (.tmp 53))⟩,⟨some 55,none,.op (.bin .gtr 3 (.tmp 54) (.const (.int .i64 16)))⟩]) (.cond (.tmp 55) (.seq (.region [⟨some 4,none,.op (.move (.const (.bool false)))⟩]) .ret) .skip))) (.region [cZ 48 5,⟨some 49,none,.op (.bin .add 3 (.tmp 48) (.const (.int .i64 1)))⟩,cZ 5 49])))))) (.seq (.seq (.region [⟨some 6,none,.op (.move (.const (.int .i64 0)))⟩]) (.block 2 (.loop (.seq (.seq (.region [cZ 56 6,⟨some 57,none,.op (.fieldAddr 7 (.tmp 2))⟩,⟨some 58,none,.op (.load 1 false (.tmp 57))⟩,⟨some 59,none,.op (.len (.tmp 58))⟩,⟨some 60,none,.op (.bin .lss 3 (.tmp 56) (.tmp 59))⟩]) (.cond (.tmp 60) .skip (.exit 2))) (.seq (.block 3 (.seq (.region [⟨some 63,none,.op (.fieldAddr 7 (.tmp 2))⟩,⟨some 64,none,.op (.load 1 false (.tmp 63))⟩,cZ 65 6,⟨some 66,none,.op (.idxSl 8 (.tmp 64) (.tmp 65))⟩,⟨some 67,none,.op (.load 8 true (.tmp 66))⟩,cZ 68 1,⟨some 69,none,.op (.bin .sub 3 (.tmp 68) (.const (.int .i64 1)))⟩,⟨some 70,none,(.call 19 [(.tmp 67),(.tmp 69)])⟩,⟨some 71,none,.op (.un .not (.tmp 70))⟩]) (.cond (.tmp 71) (.seq (.region [⟨some 4,none,.op (.move (.const (.bool false)))⟩]) .ret) .skip))) (.region [cZ 61 6,⟨some 62,none,.op (.bin .add 3 (.tmp 61) (.const (.int .i64 1)))⟩,cZ 6 62])))))) (.seq (.region [⟨some 4,none,.op (.move (.const (.bool true)))⟩]) .ret))))),[(.tmp 4)]⟩
theorem cF19:aM Tryz.prog 19=some F19:=by kernel_rfl
def F20:IFun:=⟨37,(.seq (.region [⟨some 2,none,.op (.move (.const (.slice none 0 0)))⟩]) (.seq (.region [⟨some 3,none,.op (.move (.const (.slice none 0 0)))⟩]) (.seq (.seq (.region [⟨some 4,none,.op (.move (.const (.int .i64 0)))⟩]) (.block 0 (.loop (.seq (.seq (.region [cZ 6 4,cZ 7 0,⟨some 8,none,.op (.len (.tmp 7))⟩,⟨some 9,none,.op (.bin .lss 3 (.tmp 6) (.tmp 8))⟩]) (.cond (.tmp 9) .skip (.exit 0))) (.seq (.block 1 (.seq (.region [cZ 12 0,cZ 13 4,⟨some 14,none,.op (.idxSl 2 (.tmp 12) (.tmp 13))⟩,⟨some 15,none,.op (.fieldAddr 0 (.tmp 14))⟩,⟨some 16,none,.op (.load 1 false (.tmp 15))⟩,cZ 5 16]) (.block 2 (.loop (.seq (.seq (.draw [cZ 17 5,cZ 18 0,cZ 19 4,⟨some 20,none,.op (.idxSl 2 (.tmp 18) (.tmp 19))⟩,⟨some 21,none,.op (.fieldAddr 0 (.tmp 20))⟩,⟨some 22,none,.op (.load 1 false (.tmp 21))⟩,cZ 23 0,cZ 24 4,⟨some 25,none,.op (.idxSl 2 (.tmp 23) (.tmp 24))⟩,⟨some 26,none,.op (.fieldAddr 1 (.tmp 25))⟩,⟨some 27,none,.op (.load 1 false (.tmp 26))⟩,⟨some 28,none,.op (.bin .add 3 (.tmp 22) (.tmp 27))⟩,⟨some 29,none,.op (.bin .lss 3 (.tmp 17) (.tmp 28))⟩] [[],[],[],[1,2],[3],[4],[],[],[6,7],[8],[9],[5,10],[0,11]]) (.cond (.tmp 29) .skip (.exit 2))) (.seq (.block 3 (.region [cZ 32 3,cZ 33 5,⟨some 34,none,.op (.buildSlice 1 [(1,(.int .i64 0))] 1 [(0,(.tmp 33))])⟩,⟨some 35,none,.op (.append 1 8 (.tmp 32) (.tmp 34))⟩,cZ 3 35])) (.region [cZ 30 5,⟨some 31,none,.op (.bin .add 3 (.tmp 30) (.const (.int .i64 1)))⟩,cZ 5 31]))))))) (.region [cZ 10 4,⟨some 11,none,.op (.bin .add 3 (.tmp 10) (.const (.int .i64 1)))⟩,cZ 4 11])))))) (.seq (.region [cZ 36 3,cZ 2 36]) .ret)))),[(.tmp 2)]⟩
theorem cF20:aM Tryz.prog 20=some F20:=by kernel_rfl
set_option maxRecDepth 20000
def fG (a:Int) (e o:Ty) (off cnt:Int):List (Int×Int)×Int:=
 if (bV a e o).1≠0 then([],(bV a e o).1)
 else if off < 0∨cnt < 0 then([],3)
 else if 4096 < cnt∨4096 < cnt * (bV a e o).2.elem then([],9)
 else if (gC (bV a e o).2 off.toNat (cnt.toNat * (bV a e o).2.elem.toNat)).2=true then(bS (gC (bV a e o).2 off.toNat (cnt.toNat * (bV a e o).2.elem.toNat)).1,0) else([],3)
theorem uU {a:Int} {e o:Ty}:PV (.agg (vwR a e o)):=by unfold vwR; infer_instance
theorem tQ {a:Int} {e o:Ty} (he:bF 3 e=true) (ho:bF 3 o=true):aC Tryz.prog 16 [.agg (vwR a e o)] (iv (bV a e o).1):=by
 have hc:=wV (a:=a) he ho
 refine aC.mkI (ha:=⟨fun c hc=>by rw[List.mem_singleton.1 hc]; exact uU.out⟩) cF16 (nlB rfl) ?_
 generalize bV a e o=r at *
 obtain⟨er,s⟩:=r
 obtain⟨_,k1,c1,b1,s1,z1,l1,p1,f1,_,rfl,_⟩:=bI he
 obtain⟨_,k2,c2,b2,s2,z2,l2,p2,f2,_,rfl,_⟩:=bI ho
 unfold vwR snR at *
 rw[tyR,tyR] at *
 refine aA ?_
 exact aJ.w
theorem AS {s:Sn} {off n:Nat} (hs:snB s) (ho:off≤65536) (hn:n≤163840000):∀ p∈cV s off n,-10000000000000000≤p∧p≤10000000000000000:=fun p hp=>by
 obtain⟨i,hi,rfl⟩:=List.mem_map.1 hp
 have hi:=List.mem_range.1 hi
 obtain⟨⟨s1,s2⟩,⟨s3,s4⟩,⟨s5,s6⟩,s7,s8,s9⟩:=hs
 unfold mP at s5 s6
 have hE:s.elem.toNat≤40000:=by omega
 have hoe:off * s.elem.toNat≤65536 * 40000:=Nat.mul_le_mul ho hE
 unfold dE
 obtain⟨k,hk⟩:∃ k,k=off * s.elem.toNat+i:=⟨_,rfl⟩
 rw[← hk]
 have hq:k / s.pl.length≤k:=Nat.div_le_self _ _
 obtain⟨Q,hQ⟩:∃ Q,Q=k / s.pl.length:=⟨_,rfl⟩
 rw[← hQ] at hq ⊢
 have hmu:=qK (a:=(Q:Int)) (b:=s.ext) (A:=3000000000) (B:=1048576) (by omega) (by omega) s5 s6
 have hkm:k % s.pl.length < s.pl.length:=Nat.mod_lt _ s7
 have hg:s.pl.getD (k % s.pl.length) 0=s.pl[k % s.pl.length]:=by simp[hkm]
 have:=s9 s.pl[k % s.pl.length] (List.getElem_mem _)
 rw[hg]
 omega
theorem D2 {s:Sn} {off n:Nat} (hs:snB s) (hn:n≤163840000):(gC s off n).1.length≤n∧∀ p∈(gC s off n).1,-10000000000000000≤p∧p≤10000000000000000:=by
 unfold gC
 split
 ·exact⟨Nat.zero_le _,fun p hp=>by cases hp⟩
 ·rename_i h
  split
  ·refine⟨by simp[cV],fun p hp=>?_⟩
   have h0:0 < n:=by
    have:=List.length_pos_of_mem hp
    simpa[cV] using this
   exact AS hs (by omega) hn p hp
  ·exact⟨Nat.zero_le _,fun p hp=>by cases hp⟩
set_option maxHeartbeats 2000000 in
theorem KA {a:Int} {e o:Ty} {off cnt:Int} (he:bF 3 e=true) (ho:bF 3 o=true) (hoff:off < 9223372036854775808):aC Tryz.prog 14 [.agg (vwR a e o),iv off,iv cnt] (.tup [.list 2 (enR (fG a e o off cnt).1),iv (fG a e o off cnt).2]):=by
 have hc:=wV (a:=a) he ho
 have hsn:=xF (a:=a) he ho
 refine aC.mkI (ha:=⟨fun c hc=>by
  simp only[List.mem_cons,List.not_mem_nil,or_false] at hc
  rcases hc with rfl | rfl | rfl
  ·exact uU.out
  ·exact .sc _
  ·exact .sc _⟩) cF14 (nlB rfl) ?_
 unfold fG
 generalize bV a e o=r at *
 obtain⟨er,s⟩:=r
 simp only at hsn ⊢
 obtain⟨_,k1,c1,b1,s1,z1,l1,p1,f1,_,rfl,_⟩:=bI he
 obtain⟨_,k2,c2,b2,s2,z2,l2,p2,f2,_,rfl,_⟩:=bI ho
 unfold vwR snR at *
 rw[tyR,tyR] at *
 replace hc:aC Tryz.prog 63 _ (.tup [.agg [iv s.at',iv s.elem,iv s.ext,.list 1 (inR s.pl)],iv er]):=hc
 refine aA ?_
 refine AWP.condN (er≠0) rfl (fS _) (fun h1=>?_) (fun h1=>?_)
 ·rw[if_pos h1,show enR (([],er):List (Int×Int)×Int).1=[] from rfl]
  refine aA ?_
  exact aJ.w
 rw[if_neg h1]
 have hs:=hsn (Decidable.byContradiction h1)
 obtain⟨_,⟨q1,q2⟩,_⟩:=id hs
 obtain⟨E,hE⟩:∃ E:Nat,s.elem=E:=⟨s.elem.toNat,by omega⟩
 refine aA ?_
 by_cases g1:off < 0
 ·rw[dTr g1,if_pos (.inl g1),show enR (([],3):List (Int×Int)×Int).1=[] from rfl]
  refine aA ?_
  exact aJ.w
 rw[dFa g1]
 refine aA ?_
 refine AWP.condN (cnt < 0) rfl rfl (fun g2=>?_) (fun g2=>?_)
 ·rw[if_pos (.inr g2),show enR (([],3):List (Int×Int)×Int).1=[] from rfl]
  refine aA ?_
  exact aJ.w
 rw[if_neg (by omega)]
 obtain⟨O,rfl⟩:∃ O:Nat,off=O:=⟨off.toNat,by omega⟩
 obtain⟨C,rfl⟩:∃ C:Nat,cnt=C:=⟨cnt.toNat,by omega⟩
 rw[hE] at hc ⊢
 refine aA ?_
 by_cases g3:4096 < C
 ·rw[dTr g3,if_pos (.inl (by omega)),show enR (([],9):List (Int×Int)×Int).1=[] from rfl]
  refine aA ?_
  exact aJ.w
 rw[dFa g3]
 have hCE:C * E≤4096 * 40000:=Nat.mul_le_mul (by omega) (by omega)
 have hci:((C:Nat):Int) * (E:Nat)=((C * E:Nat):Int):=(Int.natCast_mul C E).symm
 refine aA ?_
 refine AWP.condN (4096 < C * E) rfl rfl (fun g4=>?_) (fun g4=>?_)
 ·rw[if_pos (.inr (by rw[hci]; omega)),show enR (([],9):List (Int×Int)×Int).1=[] from rfl]
  refine aA ?_
  exact aJ.w
 rw[if_neg (by rw[hci]; omega),Int.toNat_natCast,Int.toNat_natCast,Int.toNat_natCast]
 have hli:=HA (off:=O) (n:=C * E) hs (by omega) (by omega)
 rw[hE] at hli
 have hlb:=D2 (off:=O) (n:=C * E) hs (by omega)
 generalize gC s O (C * E)=l at *
 obtain⟨l,ok⟩:=l
 simp only at hli hlb ⊢
 obtain⟨hll,hlb⟩:=hlb
 refine aA ?_
 cases ok with
 | false=>
  rw[if_neg (by simp),show enR (([],3):List (Int×Int)×Int).1=[] from rfl]
  refine aA ?_
  exact aJ.w
 | true=>
 rw[if_pos rfl]
 have hil:=bD l
 refine aA ?_
 refine AWP.loop (fun i:Nat=>[(12,.hsl 0 0 0 (bS (l.take i)).length),(54,.list 1 (inR l)),(55,iv l.length),(56,iv i)]) (fun i=>[[.cells 2 (enR (bS (l.take i)))]]) (fun i=>i≤l.length) (fun i=>l.length - i) 0 (Nat.zero_le _) ?_ ?_
 ·rw[← hil]
  (apply Sub.to [2] [[(2,0)]]; all_goals (repeat' (first | exact aE.nil | exact aB.nil | exact aF.nil | exact ToL.nil | exact ToR.nil | refine aE.cons ?_ ?_ | refine aB.cons ?_ ?_ | refine aP ?_ ?_ | exact To.undef _ | exact To.sc _ | exact To.hslL rfl rfl | exact To.asl _ _ _ _ _ _ _ rfl | refine To.ifc _ _ _ ?_ | exact To.ptrO rfl rfl rfl | exact To.mrefO rfl | exact To.nil rfl rfl rfl | exact wt1 | exact To.nilL | refine To.int ?_ | refine To.bool ?_ | refine To.hslL rfl ?_ | refine wt2 rfl ?_ ?_ ?_ | refine To.tupL ?_ | refine To.aggL ?_ | refine To.cptrL ?_ | refine To.fzp rfl rfl rfl ?_ | refine To.fzm rfl rfl ?_ | refine To.cloL ?_ ?_ | refine wt3 ?_ | refine wt4 ?_ | exact wt5 | refine wt6 ?_ | refine ToB.one ?_ | exact wt7 | ((with_reducible apply ToL.consE); case e9=>rfl) | refine wt8 ?_ | refine ToL.cons ?_ ?_ | exact wt11 | refine wt9 ?_ ?_ | refine wt12 ?_ | (with_reducible rfl) | assumption)); all_goals (first | rfl | assumption | (simp; done) | (simp; omega) | (rw[wrap_small (by omega) (by omega)]; done) | (rw[wrap_small (by omega) (by omega)]; omega) | (refine congrArg Nat.cast ?_; assumption) | skip))
 rintro i hi
 refine cK ?_
 refine AWP.condN (i < l.length) rfl rfl (fun h=>?_) (fun h=>?_)
 ·have hr:=bZ l i h
  have hp:=hlb l[i] (List.getElem_mem _)
  have htk:=cM h
  obtain⟨g5,g6⟩:=nO (fun p=>-10000000000000000≤p∧p≤10000000000000000) i (l.take i) (by rw[List.length_take]; omega) fun p hp=>hlb p (List.mem_of_mem_take hp)
  have hsn:=iX (l.take i) l[i]
  rw[← htk] at hsn
  generalize l[i]=p at *
  generalize bS (l.take i)=out at *
  have hol:=cO out
  rcases List.eq_nil_or_concat out with rfl | ⟨o,x,hox⟩
  ·refine aA ?_
   refine DK.nil ⟨by kernel_rfl,?_⟩
   refine aA ?_
   refine⟨i+1,by omega,by omega,?_⟩
   rw[hsn,show eY [] p=[(p,1)] from rfl]
   (apply Sub.to [] [[(3,0)]]; all_goals (repeat' (first | exact aE.nil | exact aB.nil | exact aF.nil | exact ToL.nil | exact ToR.nil | refine aE.cons ?_ ?_ | refine aB.cons ?_ ?_ | refine aP ?_ ?_ | exact To.undef _ | exact To.sc _ | exact To.hslL rfl rfl | exact To.asl _ _ _ _ _ _ _ rfl | refine To.ifc _ _ _ ?_ | exact To.ptrO rfl rfl rfl | exact To.mrefO rfl | exact To.nil rfl rfl rfl | exact wt1 | exact To.nilL | refine To.int ?_ | refine To.bool ?_ | refine To.hslL rfl ?_ | refine wt2 rfl ?_ ?_ ?_ | refine To.tupL ?_ | refine To.aggL ?_ | refine To.cptrL ?_ | refine To.fzp rfl rfl rfl ?_ | refine To.fzm rfl rfl ?_ | refine To.cloL ?_ ?_ | refine wt3 ?_ | refine wt4 ?_ | exact wt5 | refine wt6 ?_ | refine ToB.one ?_ | exact wt7 | ((with_reducible apply ToL.consE); case e9=>rfl) | refine wt8 ?_ | refine ToL.cons ?_ ?_ | exact wt11 | refine wt9 ?_ ?_ | refine wt12 ?_ | (with_reducible rfl) | assumption)); all_goals (first | rfl | assumption | (simp; done) | (simp; omega) | (rw[wrap_small (by omega) (by omega)]; done) | (rw[wrap_small (by omega) (by omega)]; omega) | (refine congrArg Nat.cast ?_; assumption) | skip))
  ·rw[List.concat_eq_append] at hox
   subst hox
   have hob:=g6 x (by simp)
   obtain⟨a,m⟩:=x
   have hr2:d6 (enR (o++[(a,m)])) ((o.length:Nat):Int)=some [iv a,iv m]:=by
    rw[fM (o++[(a,m)]) o.length (by simp)]
    simp
   have hln:(o++[(a,m)]).length=o.length+1:=by simp
   rw[hln] at hol g5 ⊢
   replace hob:(-10000000000000000≤a∧a≤10000000000000000)∧0 < m∧m≤(i:Int):=hob
   refine aA ?_
   rw[Av.wrap_small (show -9223372036854775808≤a+m by omega) (by omega)]
   refine DK.nil ⟨by kernel_rfl,?_⟩
   refine aA ?_
   refine AWP.condN (a+m=p) rfl rfl (fun h=>?_) (fun h=>?_)
   ·rw[jY (x:=(a,m)) h] at hsn
    have ew:IntKind.i64.wrap (m+1)=m+1:=Av.wrap_small (by omega) (by omega)
    refine aA ?_
    rw[ew]
    refine⟨i+1,by omega,by omega,?_⟩
    rw[hsn,show(o++[(a,m+1)]).length=o.length+1 by simp]
    (apply Sub.to [] [[(0,0)]]; all_goals (repeat' (first | exact aE.nil | exact aB.nil | exact aF.nil | exact ToL.nil | exact ToR.nil | refine aE.cons ?_ ?_ | refine aB.cons ?_ ?_ | refine aP ?_ ?_ | exact To.undef _ | exact To.sc _ | exact To.hslL rfl rfl | exact To.asl _ _ _ _ _ _ _ rfl | refine To.ifc _ _ _ ?_ | exact To.ptrO rfl rfl rfl | exact To.mrefO rfl | exact To.nil rfl rfl rfl | exact wt1 | exact To.nilL | refine To.int ?_ | refine To.bool ?_ | refine To.hslL rfl ?_ | refine wt2 rfl ?_ ?_ ?_ | refine To.tupL ?_ | refine To.aggL ?_ | refine To.cptrL ?_ | refine To.fzp rfl rfl rfl ?_ | refine To.fzm rfl rfl ?_ | refine To.cloL ?_ ?_ | refine wt3 ?_ | refine wt4 ?_ | exact wt5 | refine wt6 ?_ | refine ToB.one ?_ | exact wt7 | ((with_reducible apply ToL.consE); case e9=>rfl) | refine wt8 ?_ | refine ToL.cons ?_ ?_ | exact wt11 | refine wt9 ?_ ?_ | refine wt12 ?_ | (with_reducible rfl) | assumption)); all_goals (first | rfl | assumption | (simp; done) | (simp; omega) | (rw[wrap_small (by omega) (by omega)]; done) | (rw[wrap_small (by omega) (by omega)]; omega) | (refine congrArg Nat.cast ?_; assumption) | skip))
    all_goals first | exact wQ (y:=(a,m+1)) rfl
   ·rw[j6 (x:=(a,m)) h] at hsn
    refine aA ?_
    refine⟨i+1,by omega,by omega,?_⟩
    rw[hsn,show(o++[(a,m)]++[(p,1)]:List (Int×Int)).length=o.length+1+1 by simp]
    (apply Sub.to [] [[(3,0)]]; all_goals (repeat' (first | exact aE.nil | exact aB.nil | exact aF.nil | exact ToL.nil | exact ToR.nil | refine aE.cons ?_ ?_ | refine aB.cons ?_ ?_ | refine aP ?_ ?_ | exact To.undef _ | exact To.sc _ | exact To.hslL rfl rfl | exact To.asl _ _ _ _ _ _ _ rfl | refine To.ifc _ _ _ ?_ | exact To.ptrO rfl rfl rfl | exact To.mrefO rfl | exact To.nil rfl rfl rfl | exact wt1 | exact To.nilL | refine To.int ?_ | refine To.bool ?_ | refine To.hslL rfl ?_ | refine wt2 rfl ?_ ?_ ?_ | refine To.tupL ?_ | refine To.aggL ?_ | refine To.cptrL ?_ | refine To.fzp rfl rfl rfl ?_ | refine To.fzm rfl rfl ?_ | refine To.cloL ?_ ?_ | refine wt3 ?_ | refine wt4 ?_ | exact wt5 | refine wt6 ?_ | refine ToB.one ?_ | exact wt7 | ((with_reducible apply ToL.consE); case e9=>rfl) | refine wt8 ?_ | refine ToL.cons ?_ ?_ | exact wt11 | refine wt9 ?_ ?_ | refine wt12 ?_ | (with_reducible rfl) | assumption)); all_goals (first | rfl | assumption | (simp; done) | (simp; omega) | (rw[wrap_small (by omega) (by omega)]; done) | (rw[wrap_small (by omega) (by omega)]; omega) | (refine congrArg Nat.cast ?_; assumption) | skip))
    all_goals first | exact(by simp[enR]:enR (o++[(a,m)])++[[iv p,iv 1]]=enR (o++[(a,m)]++[(p,1)]))
 ·obtain rfl:l.length=i:=by omega
  rw[List.take_length]
  have hol:=cO (bS l)
  refine aA ?_
  exact aJ.w
set_option maxHeartbeats 2000000 in
theorem qJ:∀(n:Nat) (t:Ty),n≤100→mI n t→aC Tryz.prog 19 [.agg (tyR t),iv n] (bv (bF n t))
 | 0,t,_,_=>by
  rw[show bF 0 t=false by cases t<;>rfl]
  refine aC.mkI cF19 (nlB rfl) ?_
  cases t with
  | mk=>
   rw[tyR]
   refine aA ?_
   exact aJ.w
  | raw=>
   rw[tyR]
   refine aA ?_
   exact aJ.w
 | n+1,.raw ..,_,h=>h.elim
 | n+1,.mk k c b st sz bl pl of,hn,hk=>by
  have ih:∀ u∈of,aC Tryz.prog 19 [.agg (tyR u),iv n] (bv (bF n u)):=fun u hu=>qJ n u (by omega) (hk u hu)
  have l1:=bD sz
  have l2:=bD bl
  have l3:=bD pl
  have l4:=lL of
  refine aC.mkI cF19 (nlB rfl) ?_
  obtain⟨r,hr⟩:∃ r,r=bF (n+1) (.mk k c b st sz bl pl of):=⟨_,rfl⟩
  rw[← hr]
  rw[bF] at hr
  rw[tyR]
  refine aA ?_
  rw[l4]
  by_cases h1:3 < of.length
  ·rw[dTr h1,show r=false by rw[hr]; simp[show¬ of.length≤3 by omega]]
   refine aA ?_
   exact aJ.w
  rw[dFa h1]
  refine aA ?_
  rw[l1]
  by_cases h2:8 < sz.length
  ·rw[dTr h2,show r=false by rw[hr]; simp[show¬ sz.length≤8 by omega]]
   refine aA ?_
   exact aJ.w
  rw[dFa h2]
  refine aA ?_
  rw[l2]
  by_cases h3:8 < bl.length
  ·rw[dTr h3,show r=false by rw[hr]; simp[show¬ bl.length≤8 by omega]]
   refine aA ?_
   exact aJ.w
  rw[dFa h3]
  refine aA ?_
  rw[l3]
  by_cases h4:8 < pl.length
  ·rw[dTr h4,show r=false by rw[hr]; simp[show¬ pl.length≤8 by omega]]
   refine aA ?_
   exact aJ.w
  rw[dFa h4]
  refine aA ?_
  by_cases h5:c > 16
  ·rw[dTr h5,show r=false by rw[hr]; simp[show¬ c≤16 by omega]]
   refine aA ?_
   exact aJ.w
  rw[dFa h5]
  refine aA ?_
  refine AWP.condN (8 < b) rfl rfl (fun h6=>?_) (fun h6=>?_)
  ·rw[show r=false by rw[hr]; simp[show¬ b≤8 by omega]]
   refine aA ?_
   exact aJ.w
  refine aA ?_
  refine AWP.loop (fun i:Nat=>[(1,iv (n+1:Nat)),(2,.cptr [iv k,iv c,iv b,iv st,.list 1 (inR sz),.list 1 (inR bl),.list 1 (inR pl),.list 8 (aS of)]),(5,iv i)]) (fun _=>[]) (fun i=>i≤bl.length∧∀ j (h:j < bl.length),j < i→bl[j]≤16) (fun i=>bl.length - i) 0 ⟨Nat.zero_le _,fun j _ hj=>by omega⟩ ?_ ?_
  ·(apply Sub.to [] []; all_goals (repeat' (first | exact aE.nil | exact aB.nil | exact aF.nil | exact ToL.nil | exact ToR.nil | refine aE.cons ?_ ?_ | refine aB.cons ?_ ?_ | refine aP ?_ ?_ | exact To.undef _ | exact To.sc _ | exact To.hslL rfl rfl | exact To.asl _ _ _ _ _ _ _ rfl | refine To.ifc _ _ _ ?_ | exact To.ptrO rfl rfl rfl | exact To.mrefO rfl | exact To.nil rfl rfl rfl | exact wt1 | exact To.nilL | refine To.int ?_ | refine To.bool ?_ | refine To.hslL rfl ?_ | refine wt2 rfl ?_ ?_ ?_ | refine To.tupL ?_ | refine To.aggL ?_ | refine To.cptrL ?_ | refine To.fzp rfl rfl rfl ?_ | refine To.fzm rfl rfl ?_ | refine To.cloL ?_ ?_ | refine wt3 ?_ | refine wt4 ?_ | exact wt5 | refine wt6 ?_ | refine ToB.one ?_ | exact wt7 | ((with_reducible apply ToL.consE); case e9=>rfl) | refine wt8 ?_ | refine ToL.cons ?_ ?_ | exact wt11 | refine wt9 ?_ ?_ | refine wt12 ?_ | (with_reducible rfl) | assumption)); all_goals (first | rfl | assumption | (simp; done) | (simp; omega) | (rw[wrap_small (by omega) (by omega)]; done) | (rw[wrap_small (by omega) (by omega)]; omega) | (refine congrArg Nat.cast ?_; assumption) | skip))
  rintro i ⟨hi,hin⟩
  refine aA ?_
  rw[l2]
  refine AWP.condN (i < bl.length) rfl rfl (fun h7=>?_) (fun h7=>?_)
  ·have r1:=bZ bl i h7
   refine aA ?_
   refine AWP.condN (16 < bl[i]) rfl rfl (fun h8=>?_) (fun h8=>?_)
   ·rw[show r=false by
     rw[hr,show(bl.all fun x=>decide (x≤16))=false from List.all_eq_false.2 ⟨bl[i],List.getElem_mem _,by simp; omega⟩]
     simp]
    refine aA ?_
    exact aJ.w
   ·refine aA ?_
    refine⟨i+1,⟨by omega,fun j hj hji=>?_⟩,by omega,?_⟩
    ·by_cases e:j=i
     ·subst e; omega
     ·exact hin j hj (by omega)
    (refine Sub.keep ?_; repeat' (first | exact trivial | exact Le.refl _ | refine⟨?_,?_⟩))
  ·obtain rfl:bl.length=i:=by omega
   have hba:(bl.all fun x=>decide (x≤16))=true:=List.all_eq_true.2 fun x hx=>by
    obtain⟨j,hj,rfl⟩:=List.getElem_of_mem hx
    simpa using hin j hj hj
   rw[hba,dTr (show of.length≤3 by omega),dTr (show sz.length≤8 by omega),dTr (show bl.length≤8 by omega),dTr (show pl.length≤8 by omega),dTr (show c≤16 by omega),dTr (show b≤8 by omega)] at hr
   replace hr:r=of.all (bF n):=by simpa using hr
   refine aA ?_
   refine AWP.loop (fun i:Nat=>[(1,iv (n+1:Nat)),(2,.cptr [iv k,iv c,iv b,iv st,.list 1 (inR sz),.list 1 (inR bl),.list 1 (inR pl),.list 8 (aS of)]),(6,iv i)]) (fun _=>[]) (fun i=>i≤of.length∧∀ j (h:j < of.length),j < i→bF n of[j]=true) (fun i=>of.length - i) 0 ⟨Nat.zero_le _,fun j _ hj=>by omega⟩ ?_ ?_
   ·(refine Sub.keep ?_; repeat' (first | exact trivial | exact Le.refl _ | refine⟨?_,?_⟩))
   rintro i ⟨hi,hin⟩
   refine aA ?_
   rw[l4]
   refine AWP.condN (i < of.length) rfl rfl (fun h7=>?_) (fun h7=>?_)
   ·have r1:=uQ of i h7
    have hu:=ih of[i] (List.getElem_mem _)
    have hn1:IntKind.i64.wrap (((n+1:Nat):Int) - 1)=(n:Int):=by rw[Av.wrap_small (by omega) (by omega)]; omega
    refine aA ?_
    refine Reg.o rfl (tJ rfl (z9 _)) ?_
    refine aA ?_
    cases hsm:bF n of[i] with
    | false=>
     rw[show r=false by rw[hr]; exact List.all_eq_false.2 ⟨of[i],List.getElem_mem _,by simp[hsm]⟩]
     refine aA ?_
     exact aJ.w
    | true=>
     refine aA ?_
     refine⟨i+1,⟨by omega,fun j hj hji=>?_⟩,by omega,?_⟩
     ·by_cases e:j=i
      ·subst e; exact hsm
      ·exact hin j hj (by omega)
     (refine Sub.keep ?_; repeat' (first | exact trivial | exact Le.refl _ | refine⟨?_,?_⟩))
   ·obtain rfl:of.length=i:=by omega
    rw[show r=true by rw[hr]; exact List.all_eq_true.2 fun u hu=>by obtain⟨j,hj,rfl⟩:=List.getElem_of_mem hu; exact hin j hj hj]
    refine aA ?_
    exact aJ.w
theorem uE (l:List (Int×Int)) (hn:l.length≤100000) (hb:∀ x∈l,(-10000000000000000≤x.1∧x.1≤10000000000000000)∧0≤x.2∧x.2≤100000) (hx:(exP l).length≤100000):aC Tryz.prog 20 [.list 2 (enR l)] (.list 1 (inR (exP l))):=by
 refine aC.mkI cF20 (nlB rfl) ?_
 have hel:=cO l
 refine aA ?_
 refine AWP.loop (fun i:Nat=>[(0,.list 2 (enR l)),(3,.hsl 0 0 0 (bX (exF l) i 0).length),(4,iv i)]) (fun i=>[[.cells 1 (inR (bX (exF l) i 0))]]) (fun i=>i≤l.length) (fun i=>l.length - i) 0 (Nat.zero_le _) ?_ ?_
 ·rw[gD]
  (apply Sub.to [1] [[(0,0)]]; all_goals (repeat' (first | exact aE.nil | exact aB.nil | exact aF.nil | exact ToL.nil | exact ToR.nil | refine aE.cons ?_ ?_ | refine aB.cons ?_ ?_ | refine aP ?_ ?_ | exact To.undef _ | exact To.sc _ | exact To.hslL rfl rfl | exact To.asl _ _ _ _ _ _ _ rfl | refine To.ifc _ _ _ ?_ | exact To.ptrO rfl rfl rfl | exact To.mrefO rfl | exact To.nil rfl rfl rfl | exact wt1 | exact To.nilL | refine To.int ?_ | refine To.bool ?_ | refine To.hslL rfl ?_ | refine wt2 rfl ?_ ?_ ?_ | refine To.tupL ?_ | refine To.aggL ?_ | refine To.cptrL ?_ | refine To.fzp rfl rfl rfl ?_ | refine To.fzm rfl rfl ?_ | refine To.cloL ?_ ?_ | refine wt3 ?_ | refine wt4 ?_ | exact wt5 | refine wt6 ?_ | refine ToB.one ?_ | exact wt7 | ((with_reducible apply ToL.consE); case e9=>rfl) | refine wt8 ?_ | refine ToL.cons ?_ ?_ | exact wt11 | refine wt9 ?_ ?_ | refine wt12 ?_ | (with_reducible rfl) | assumption)); all_goals (first | rfl | assumption | (simp; done) | (simp; omega) | (rw[wrap_small (by omega) (by omega)]; done) | (rw[wrap_small (by omega) (by omega)]; omega) | (refine congrArg Nat.cast ?_; assumption) | skip))
 rintro i hi
 refine aA ?_
 rw[hel]
 refine AWP.condN (i < l.length) rfl rfl (fun h=>?_) (fun h=>?_)
 ·have hr:=fM l i h
  have hle:∀ j,(bX (exF l) i j).length≤100000:=fun j=>by
   obtain⟨r,hr⟩:=nP (f:=exF l) (j:=j) h
   have:(exP l).length=(bX (exF l) i j).length+r.length:=by
    unfold exP
    rw[hr,List.length_append]
   omega
  have hfi:exF l i=(List.range l[i].2.toNat).map fun j:Nat=>l[i].1+j:=by simp[exF,h]
  have hxb:=hb l[i] (List.getElem_mem _)
  generalize l[i].1=a at *
  generalize l[i].2=m at *
  obtain⟨M,rfl⟩:∃ M:Nat,m=M:=⟨m.toNat,by omega⟩
  rw[Int.toNat_natCast] at hfi
  have hfl:(exF l i).length=M:=by rw[hfi]; simp
  have hfg:∀ j,j < M→(exF l i)[j]?=some (a+j):=fun j hj=>by rw[hfi]; simp[hj]
  refine aA ?_
  refine AWP.loop (fun j:Nat=>[(0,.list 2 (enR l)),(3,.hsl 0 0 0 (bX (exF l) i j).length),(4,iv i),(5,iv (a+j))]) (fun j=>[[.cells 1 (inR (bX (exF l) i j))]]) (fun j=>j≤M) (fun j=>M - j) 0 (Nat.zero_le _) ?_ ?_
  ·(apply Sub.to [] [[(0,0)]]; all_goals (repeat' (first | exact aE.nil | exact aB.nil | exact aF.nil | exact ToL.nil | exact ToR.nil | refine aE.cons ?_ ?_ | refine aB.cons ?_ ?_ | refine aP ?_ ?_ | exact To.undef _ | exact To.sc _ | exact To.hslL rfl rfl | exact To.asl _ _ _ _ _ _ _ rfl | refine To.ifc _ _ _ ?_ | exact To.ptrO rfl rfl rfl | exact To.mrefO rfl | exact To.nil rfl rfl rfl | exact wt1 | exact To.nilL | refine To.int ?_ | refine To.bool ?_ | refine To.hslL rfl ?_ | refine wt2 rfl ?_ ?_ ?_ | refine To.tupL ?_ | refine To.aggL ?_ | refine To.cptrL ?_ | refine To.fzp rfl rfl rfl ?_ | refine To.fzm rfl rfl ?_ | refine To.cloL ?_ ?_ | refine wt3 ?_ | refine wt4 ?_ | exact wt5 | refine wt6 ?_ | refine ToB.one ?_ | exact wt7 | ((with_reducible apply ToL.consE); case e9=>rfl) | refine wt8 ?_ | refine ToL.cons ?_ ?_ | exact wt11 | refine wt9 ?_ ?_ | refine wt12 ?_ | (with_reducible rfl) | assumption)); all_goals (first | rfl | assumption | (simp; done) | (simp; omega) | (rw[wrap_small (by omega) (by omega)]; done) | (rw[wrap_small (by omega) (by omega)]; omega) | (refine congrArg Nat.cast ?_; assumption) | skip))
  rintro j hj
  have hl1:=hle j
  have hil:=bD (bX (exF l) i j)
  refine aA ?_
  rw[Av.wrap_small (show -9223372036854775808≤a+(M:Int) by omega) (by omega)]
  refine DK.nil ⟨by kernel_rfl,?_⟩
  refine aA ?_
  refine AWP.condN (j < M) rfl (by simp) (fun h2=>?_) (fun h2=>?_)
  ·have hsn:=dW (hfg j h2)
   refine aA ?_
   rw[Av.wrap_small (show -9223372036854775808≤a+(j:Int)+1 by omega) (by omega)]
   refine aA ?_
   refine⟨j+1,by omega,by omega,?_⟩
   rw[hsn,List.length_append]
   (apply Sub.to [] [[(3,0)]]; all_goals (repeat' (first | exact aE.nil | exact aB.nil | exact aF.nil | exact ToL.nil | exact ToR.nil | refine aE.cons ?_ ?_ | refine aB.cons ?_ ?_ | refine aP ?_ ?_ | exact To.undef _ | exact To.sc _ | exact To.hslL rfl rfl | exact To.asl _ _ _ _ _ _ _ rfl | refine To.ifc _ _ _ ?_ | exact To.ptrO rfl rfl rfl | exact To.mrefO rfl | exact To.nil rfl rfl rfl | exact wt1 | exact To.nilL | refine To.int ?_ | refine To.bool ?_ | refine To.hslL rfl ?_ | refine wt2 rfl ?_ ?_ ?_ | refine To.tupL ?_ | refine To.aggL ?_ | refine To.cptrL ?_ | refine To.fzp rfl rfl rfl ?_ | refine To.fzm rfl rfl ?_ | refine To.cloL ?_ ?_ | refine wt3 ?_ | refine wt4 ?_ | exact wt5 | refine wt6 ?_ | refine ToB.one ?_ | exact wt7 | ((with_reducible apply ToL.consE); case e9=>rfl) | refine wt8 ?_ | refine ToL.cons ?_ ?_ | exact wt11 | refine wt9 ?_ ?_ | refine wt12 ?_ | (with_reducible rfl) | assumption)); all_goals (first | rfl | assumption | (simp; done) | (simp; omega) | (rw[wrap_small (by omega) (by omega)]; done) | (rw[wrap_small (by omega) (by omega)]; omega) | (refine congrArg Nat.cast ?_; assumption) | skip))
   all_goals first | exact(by simp[inR]:inR (bX (exF l) i j)++[[iv (a+j)]]=inR (bX (exF l) i j++[a+(j:Int)])) | omega
  ·obtain rfl:M=j:=by omega
   rw[fF hfl]
   refine aA ?_
   refine⟨i+1,by omega,by omega,?_⟩
   (apply Sub.to [] [[(0,0)]]; all_goals (repeat' (first | exact aE.nil | exact aB.nil | exact aF.nil | exact ToL.nil | exact ToR.nil | refine aE.cons ?_ ?_ | refine aB.cons ?_ ?_ | refine aP ?_ ?_ | exact To.undef _ | exact To.sc _ | exact To.hslL rfl rfl | exact To.asl _ _ _ _ _ _ _ rfl | refine To.ifc _ _ _ ?_ | exact To.ptrO rfl rfl rfl | exact To.mrefO rfl | exact To.nil rfl rfl rfl | exact wt1 | exact To.nilL | refine To.int ?_ | refine To.bool ?_ | refine To.hslL rfl ?_ | refine wt2 rfl ?_ ?_ ?_ | refine To.tupL ?_ | refine To.aggL ?_ | refine To.cptrL ?_ | refine To.fzp rfl rfl rfl ?_ | refine To.fzm rfl rfl ?_ | refine To.cloL ?_ ?_ | refine wt3 ?_ | refine wt4 ?_ | exact wt5 | refine wt6 ?_ | refine ToB.one ?_ | exact wt7 | ((with_reducible apply ToL.consE); case e9=>rfl) | refine wt8 ?_ | refine ToL.cons ?_ ?_ | exact wt11 | refine wt9 ?_ ?_ | refine wt12 ?_ | (with_reducible rfl) | assumption)); all_goals (first | rfl | assumption | (simp; done) | (simp; omega) | (rw[wrap_small (by omega) (by omega)]; done) | (rw[wrap_small (by omega) (by omega)]; omega) | (refine congrArg Nat.cast ?_; assumption) | skip))
 ·obtain rfl:l.length=i:=by omega
  rw[← gT]
  have hil:=bD (exP l)
  refine aA ?_
  exact aJ.w
theorem zG {s:Sn} {O n m:Nat}:cV s O ((n+m) * s.elem.toNat)=cV s O (n * s.elem.toNat)++cV s (O+n) (m * s.elem.toNat):=by
 unfold cV
 rw[Nat.add_mul,List.range_add,List.map_append,List.map_map]
 congr 1
 refine List.map_congr_left fun i _=>?_
 show dE s (O * s.elem.toNat+(n * s.elem.toNat+i))=dE s ((O+n) * s.elem.toNat+i)
 rw[Nat.add_mul,Nat.add_assoc]
theorem uW {pl:List Int} {ext:Int} (h:u9 pl ext=true) {i:Nat} (hi:i < pl.length):jA pl i < pl.getD i 0∧pl.getD i 0 < ext:=by
 have:=List.all_eq_true.1 h i (List.mem_range.2 hi)
 simpa using this
theorem xI {s:Sn} (h:u9 s.pl s.ext=true) (hl:0 < s.pl.length) (k:Nat):dE s k < dE s (k+1):=by
 unfold dE
 have hm:=Nat.mod_lt k hl
 have hd:=Nat.div_add_mod k s.pl.length
 generalize hr:k % s.pl.length=r at *
 generalize hq:k / s.pl.length=q at *
 by_cases h1:r+1 < s.pl.length
 ·have e1:(k+1) / s.pl.length=q:=by
   rw[← hd,Nat.add_assoc,Nat.mul_add_div hl,Nat.div_eq_of_lt h1,Nat.add_zero]
  have e2:(k+1) % s.pl.length=r+1:=by
   rw[← hd,Nat.add_assoc,Nat.mul_add_mod,Nat.mod_eq_of_lt h1]
  rw[e1,e2]
  have:=(uW h h1).1
  unfold jA at this
  rw[if_neg (by omega),Nat.add_sub_cancel] at this
  omega
 ·have hr1:r+1=s.pl.length:=by omega
  have hk1:k+1=s.pl.length * (q+1):=by rw[Nat.mul_succ]; omega
  have e1:(k+1) / s.pl.length=q+1:=by rw[hk1,Nat.mul_div_cancel_left _ hl]
  have e2:(k+1) % s.pl.length=0:=by rw[hk1,Nat.mul_mod_right]
  rw[e1,e2]
  have g1:=(uW h hl).1
  have g2:=(uW h hm).2
  unfold jA at g1
  rw[if_pos rfl] at g1
  have e3:((q+1:Nat):Int) * s.ext=(q:Int) * s.ext+s.ext:=by
   rw[Int.natCast_add,Int.add_mul]
   simp
  rw[e3]
  omega
theorem B5 {s:Sn} (hl:0 < s.pl.length) (k:Nat):dE s (k+s.pl.length)=dE s k+s.ext:=by
 unfold dE
 rw[Nat.add_div_right _ hl,Nat.add_mod_right]
 have e3:((k / s.pl.length+1:Nat):Int) * s.ext=((k / s.pl.length:Nat):Int) * s.ext+s.ext:=by
  rw[Int.natCast_add,Int.add_mul]
  simp
 show s.at'+((k / s.pl.length+1:Nat):Int) * s.ext+_=_
 rw[e3]
 omega
theorem HE {s:Sn} {O n i:Nat} (h:i < n):(cV s O n)[i]?=some (dE s (O * s.elem.toNat+i)):=by
 unfold cV
 simp[h]
theorem HU {s:Sn} {O n:Nat}:(cV s O n).length=n:=by simp[cV]
theorem FV {a:Int} {e o:Ty} (h:(bV a e o).1=0):u9 (bV a e o).2.pl (bV a e o).2.ext=true∧(bV a e o).2.pl.length=bL (aG 3 o).2.es∧(bV a e o).2.ext=(aG 3 o).2.ext∧(aG 3 o).1=0:=by
 unfold bV at h ⊢
 by_cases c1:a < 0∨65536 < a
 ·rw[if_pos c1] at h; cases h
 rw[if_neg c1] at h ⊢
 by_cases c2:(aG 3 e).1≠0
 ·rw[if_pos c2] at h; exact absurd h c2
 rw[if_neg c2] at h ⊢
 by_cases c3:(aG 3 o).1≠0
 ·rw[if_pos c3] at h; exact absurd h c3
 rw[if_neg c3] at h ⊢
 by_cases c4:u9 (cI (aG 3 o).2.es) (aG 3 o).2.ext=true
 ·rw[if_pos c4] at h ⊢
  by_cases c5:EH (bL (aG 3 e).2.es) (bL (aG 3 o).2.es)=true
  ·rw[if_pos c5]
   exact⟨c4,kS _,rfl,Decidable.byContradiction c3⟩
  ·rw[if_neg c5] at h; cases h
 ·rw[if_neg c4] at h; cases h
theorem mT {a:Int} {e o:Ty} (h:(bV a e o).1=0) {s:Sn} (hs:(bV a e o).2=s) (O C:Nat) (hO:O≤65536) (hE:0≤s.elem):
  fG a e o O C=if 4096 < C∨4096 < C * s.elem.toNat then([],9) else if okV (cV s O (C * s.elem.toNat))=true then(bS (cV s O (C * s.elem.toNat)),0) else([],3):=by
 subst hs
 unfold fG
 rw[if_neg (fun q=>q h),if_neg (by omega),Int.toNat_natCast,Int.toNat_natCast]
 obtain⟨E,hE'⟩:∃ E:Nat,(bV a e o).2.elem=E:=⟨(bV a e o).2.elem.toNat,by omega⟩
 rw[hE',Int.toNat_natCast]
 have hci:((C:Nat):Int) * (E:Nat)=((C * E:Nat):Int):=(Int.natCast_mul C E).symm
 by_cases g:4096 < C∨4096 < C * E
 ·rw[if_pos g,if_pos (by rw[hci]; omega)]
 ·rw[if_neg g,if_neg (by rw[hci]; omega)]
  have hli:gC (bV a e o).2 O (C * E)=if okV (cV (bV a e o).2 O (C * E))=true then(cV (bV a e o).2 O (C * E),true) else([],false):=by
   unfold gC
   rw[if_neg (show¬ (0 < C * E∧65536 < O) by omega)]
  rw[hli]
  by_cases q:okV (cV (bV a e o).2 O (C * E))=true
  ·simp only[if_pos q,if_true]
  ·simp only[if_neg q]
   rfl
theorem tiles {a:Int} {e o:Ty} {s:Sn} (h:(bV a e o).1=0) (hs:(bV a e o).2=s) (hb:snB s) (O n m:Nat) (hO:O+n≤65536) (hz:(fG a e o O (n+m:Nat)).2=0):
  (fG a e o O n).2=0∧(fG a e o (O+n:Nat) m).2=0∧(fG a e o O (n+m:Nat)).1=bS (cV s O ((n+m) * s.elem.toNat))∧(fG a e o O n).1=bS (cV s O (n * s.elem.toNat))∧(fG a e o (O+n:Nat) m).1=bS (cV s (O+n) (m * s.elem.toNat))∧(n+m) * s.elem.toNat≤4096:=by
 have hE:0≤s.elem:=by have:=hb.2.1; omega
 rw[mT h hs O (n+m) (by omega) hE] at hz ⊢
 rw[mT h hs O n (by omega) hE,mT h hs (O+n) m (by omega) hE]
 by_cases g:4096 < n+m∨4096 < (n+m) * s.elem.toNat
 ·rw[if_pos g] at hz; cases hz
 rw[if_neg g] at hz ⊢
 have hnm:(n+m) * s.elem.toNat=n * s.elem.toNat+m * s.elem.toNat:=Nat.add_mul _ _ _
 rw[if_neg (show¬ (4096 < n∨4096 < n * s.elem.toNat) by omega),if_neg (show¬ (4096 < m∨4096 < m * s.elem.toNat) by omega)]
 by_cases q:okV (cV s O ((n+m) * s.elem.toNat))=true
 ·rw[if_pos q]
  have q':=q
  rw[zG] at q'
  unfold okV at q'
  rw[List.all_append,Bool.and_eq_true] at q'
  rw[if_pos (show okV (cV s O (n * s.elem.toNat))=true from q'.1),if_pos (show okV (cV s (O+n) (m * s.elem.toNat))=true from q'.2)]
  exact⟨rfl,rfl,rfl,rfl,rfl,by omega⟩
 ·rw[if_neg q] at hz; cases hz
theorem CZ {a:Int} {e o:Ty} {s:Sn} (h:(bV a e o).1=0) (hs:(bV a e o).2=s) (hb:snB s) (O C:Nat) (hO:O≤65536) (hz:(fG a e o O C).2≠0):(fG a e o O C).2=9∨(fG a e o O C).2=3:=by
 have hE:0≤s.elem:=by have:=hb.2.1; omega
 rw[mT h hs O C hO hE] at hz ⊢
 by_cases g:4096 < C∨4096 < C * s.elem.toNat
 ·rw[if_pos g]; exact .inl rfl
 rw[if_neg g] at hz ⊢
 by_cases q:okV (cV s O (C * s.elem.toNat))=true
 ·rw[if_pos q] at hz; exact absurd rfl hz
 ·rw[if_neg q]; exact .inr rfl
end Go.Proofs.YtgdocflpobncmaaGreat
