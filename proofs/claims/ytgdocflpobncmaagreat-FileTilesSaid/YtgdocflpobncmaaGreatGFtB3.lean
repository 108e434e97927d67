import Derived.Test.YtgdocflpobncmaaGreatGFtA3
import Derived.Test.YtgdocflpobncmaaGreatGAvM3
namespace Go.Proofs.YtgdocflpobncmaaGreat
open Go.Av Go.Proofs
set_option maxRecDepth 20000
theorem Reg.join0 {P:Program} {N k:Nat} {xs:List IOper} {c:bK} {fr:Fr} {H:Heap} {K:Fr→Heap→Prop} {Q:Exit→Fr→Heap→Prop} (F':Fr) (H':Heap) (h1:Reg P N k xs fr H fun fr2 H2=>Sub k N fr2 H2 F' H')
  (h2:AWP P N k c Q F' H') (hq:∀ fr H,AWP P N k c Q fr H→K fr H:=by intro _ _ h; exact h):Reg P N k xs fr H K:=
 h1.mono fun _ _ h=>hq _ _ (AWP.sub h h2)
set_option maxHeartbeats 2000000 in
theorem sD (k c b st:Int) (sz bl pl:List Int) (of:List Ty) (c1 c2 c3 c4 c5 basic:Bool) (u v:Value) (hu:u.oneCell'=true) (hv:v.oneCell'=true) (_h1:of.length≤3) (h2:sz.length≤8) (h3:bl.length≤8) (_h4:pl.length≤8):
  aC Tryz.prog 162 [.agg (tyR (.mk k c b st sz bl pl of)),.agg [bv c1,bv c2,bv c3,bv c4,bv c5,.sc u,.sc v],bv basic]
   (iv (if yU c1 c2 c3 c4 c5 c b st sz bl pl of.length (ofG basic k of.length)=true then 2 else shG k sz bl pl (ofG basic k of.length))):=by
 rw[tyR]
 refine aC.mkI JA (nlB rfl) ?_
 have l1:=bD sz
 have l2:=bD bl
 have l3:=bD pl
 have l4:=lL of
 refine aA ?_
 refine Reg.o rfl (y4 rfl (show([bv c1,bv c2,bv c3,bv c4,bv c5,.sc u,.sc v]:List AV).all AV.cell1=true by simp only[List.all_cons,List.all_nil,AV.cell1,hu,hv,Bool.and_true]; rfl) rfl) ?_
 refine aA ?_
 refine AWP.joinB0 [(3,.cptr [iv k,iv c,iv b,iv st,.list 1 (inR sz),.list 1 (inR bl),.list 1 (inR pl),.list 8 (aS of)]),(4,.cptr [bv c1,bv c2,bv c3,bv c4,bv c5,.sc u,.sc v]),(7,iv (ofG basic k of.length:Nat))] [] ?_ ?_
 ·unfold ofG
  cases basic with
  | true=>
   refine aA ?_
   exact Sub.w [] []
  | false=>
   refine aA ?_
   refine AWP.condN (k=9) rfl rfl (fun h=>?_) (fun h=>?_)
   ·rw[if_neg (by simp),if_pos h]
    refine aA ?_
    rw[l4]
    exact Sub.w [] []
   ·rw[if_neg (by simp),if_neg h]
    refine aA ?_
    exact Sub.w [] []
 generalize ofG basic k of.length=m
 refine aA ?_
 unfold yU
 obtain⟨g1,e1⟩:∃ g,g=(!c1 && (c != 0)):=⟨_,rfl⟩
 obtain⟨g2,e2⟩:∃ g,g=(!c2 && ((b != 0) || (st != 0))):=⟨_,rfl⟩
 obtain⟨g3,e3⟩:∃ g,g=(!c3 && decide (0 < bl.length)):=⟨_,rfl⟩
 obtain⟨g4,e4⟩:∃ g,g=(!c4 && decide (0 < pl.length)):=⟨_,rfl⟩
 obtain⟨g5,e5⟩:∃ g,g=(!c5 && decide (0 < sz.length)):=⟨_,rfl⟩
 obtain⟨g6,e6⟩:∃ g,g=(!decide (of.length=m)):=⟨_,rfl⟩
 rw[← e1,← e2,← e3,← e4,← e5,← e6]
 refine Reg.join0 [(3,.cptr [iv k,iv c,iv b,iv st,.list 1 (inR sz),.list 1 (inR bl),.list 1 (inR pl),.list 8 (aS of)]),(4,.cptr [bv c1,bv c2,bv c3,bv c4,bv c5,.sc u,.sc v]),(7,iv m),(20,bv g1)] [] ?_ ?_
 ·rw[e1]
  cases c1 with
  | true=>
   refine aA ?_
   exact Sub.w [] []
  | false=>
   refine aA ?_
   (apply Sub.to [] []; all_goals (repeat' (first | exact aE.nil | exact aB.nil | exact aF.nil | exact ToL.nil | exact ToR.nil | refine aE.cons ?_ ?_ | refine aB.cons ?_ ?_ | refine aP ?_ ?_ | exact To.undef _ | exact To.sc _ | exact To.hslL rfl rfl | exact To.asl _ _ _ _ _ _ _ rfl | refine To.ifc _ _ _ ?_ | exact To.ptrO rfl rfl rfl | exact To.mrefO rfl | exact To.nil rfl rfl rfl | exact wt1 | exact To.nilL | refine To.int ?_ | refine To.bool ?_ | refine To.hslL rfl ?_ | refine wt2 rfl ?_ ?_ ?_ | refine To.tupL ?_ | refine To.aggL ?_ | refine To.cptrL ?_ | refine To.fzp rfl rfl rfl ?_ | refine To.fzm rfl rfl ?_ | refine To.cloL ?_ ?_ | refine wt3 ?_ | refine wt4 ?_ | exact wt5 | refine wt6 ?_ | refine ToB.one ?_ | exact wt7 | ((with_reducible apply ToL.consE); case e9=>rfl) | refine wt8 ?_ | refine ToL.cons ?_ ?_ | exact wt11 | refine wt9 ?_ ?_ | refine wt12 ?_ | (with_reducible rfl) | assumption)); all_goals (first | rfl | assumption | (simp; done) | (simp; omega) | (rw[wrap_small (by omega) (by omega)]; done) | (rw[wrap_small (by omega) (by omega)]; omega) | (refine congrArg Nat.cast ?_; assumption) | skip))
 cases g1 with
 | true=>
  refine aA ?_
  exact aJ.w
 | false=>
 refine aA ?_
 refine Reg.join0 [(3,.cptr [iv k,iv c,iv b,iv st,.list 1 (inR sz),.list 1 (inR bl),.list 1 (inR pl),.list 8 (aS of)]),(4,.cptr [bv c1,bv c2,bv c3,bv c4,bv c5,.sc u,.sc v]),(7,iv m),(20,bv g2)] [] ?_ ?_
 ·rw[e2]
  cases c2 with
  | true=>
   refine aA ?_
   exact Sub.w [] []
  | false=>
   refine aA ?_
   cases (b != 0) with
   | true=>
    refine aA ?_
    exact Sub.w [] []
   | false=>
    refine aA ?_
    exact Sub.w [] []
 cases g2 with
 | true=>
  refine aA ?_
  exact aJ.w
 | false=>
 refine aA ?_
 refine Reg.join0 [(3,.cptr [iv k,iv c,iv b,iv st,.list 1 (inR sz),.list 1 (inR bl),.list 1 (inR pl),.list 8 (aS of)]),(4,.cptr [bv c1,bv c2,bv c3,bv c4,bv c5,.sc u,.sc v]),(7,iv m),(20,bv g3)] [] ?_ ?_
 ·rw[e3]
  cases c3 with
  | true=>
   refine aA ?_
   exact Sub.w [] []
  | false=>
   refine aA ?_
   try rw[l2]
   (apply Sub.to [] []; all_goals (repeat' (first | exact aE.nil | exact aB.nil | exact aF.nil | exact ToL.nil | exact ToR.nil | refine aE.cons ?_ ?_ | refine aB.cons ?_ ?_ | refine aP ?_ ?_ | exact To.undef _ | exact To.sc _ | exact To.hslL rfl rfl | exact To.asl _ _ _ _ _ _ _ rfl | refine To.ifc _ _ _ ?_ | exact To.ptrO rfl rfl rfl | exact To.mrefO rfl | exact To.nil rfl rfl rfl | exact wt1 | exact To.nilL | refine To.int ?_ | refine To.bool ?_ | refine To.hslL rfl ?_ | refine wt2 rfl ?_ ?_ ?_ | refine To.tupL ?_ | refine To.aggL ?_ | refine To.cptrL ?_ | refine To.fzp rfl rfl rfl ?_ | refine To.fzm rfl rfl ?_ | refine To.cloL ?_ ?_ | refine wt3 ?_ | refine wt4 ?_ | exact wt5 | refine wt6 ?_ | refine ToB.one ?_ | exact wt7 | ((with_reducible apply ToL.consE); case e9=>rfl) | refine wt8 ?_ | refine ToL.cons ?_ ?_ | exact wt11 | refine wt9 ?_ ?_ | refine wt12 ?_ | (with_reducible rfl) | assumption)); all_goals (first | rfl | assumption | (simp; done) | (simp; omega) | (rw[wrap_small (by omega) (by omega)]; done) | (rw[wrap_small (by omega) (by omega)]; omega) | (refine congrArg Nat.cast ?_; assumption) | skip))
 cases g3 with
 | true=>
  refine aA ?_
  exact aJ.w
 | false=>
 refine aA ?_
 refine Reg.join0 [(3,.cptr [iv k,iv c,iv b,iv st,.list 1 (inR sz),.list 1 (inR bl),.list 1 (inR pl),.list 8 (aS of)]),(4,.cptr [bv c1,bv c2,bv c3,bv c4,bv c5,.sc u,.sc v]),(7,iv m),(20,bv g4)] [] ?_ ?_
 ·rw[e4]
  cases c4 with
  | true=>
   refine aA ?_
   exact Sub.w [] []
  | false=>
   refine aA ?_
   try rw[l3]
   (apply Sub.to [] []; all_goals (repeat' (first | exact aE.nil | exact aB.nil | exact aF.nil | exact ToL.nil | exact ToR.nil | refine aE.cons ?_ ?_ | refine aB.cons ?_ ?_ | refine aP ?_ ?_ | exact To.undef _ | exact To.sc _ | exact To.hslL rfl rfl | exact To.asl _ _ _ _ _ _ _ rfl | refine To.ifc _ _ _ ?_ | exact To.ptrO rfl rfl rfl | exact To.mrefO rfl | exact To.nil rfl rfl rfl | exact wt1 | exact To.nilL | refine To.int ?_ | refine To.bool ?_ | refine To.hslL rfl ?_ | refine wt2 rfl ?_ ?_ ?_ | refine To.tupL ?_ | refine To.aggL ?_ | refine To.cptrL ?_ | refine To.fzp rfl rfl rfl ?_ | refine To.fzm rfl rfl ?_ | refine To.cloL ?_ ?_ | refine wt3 ?_ | refine wt4 ?_ | exact wt5 | refine wt6 ?_ | refine ToB.one ?_ | exact wt7 | ((with_reducible apply ToL.consE); case e9=>rfl) | refine wt8 ?_ | refine ToL.cons ?_ ?_ | exact wt11 | refine wt9 ?_ ?_ | refine wt12 ?_ | (with_reducible rfl) | assumption)); all_goals (first | rfl | assumption | (simp; done) | (simp; omega) | (rw[wrap_small (by omega) (by omega)]; done) | (rw[wrap_small (by omega) (by omega)]; omega) | (refine congrArg Nat.cast ?_; assumption) | skip))
 cases g4 with
 | true=>
  refine aA ?_
  exact aJ.w
 | false=>
 refine aA ?_
 refine Reg.join0 [(3,.cptr [iv k,iv c,iv b,iv st,.list 1 (inR sz),.list 1 (inR bl),.list 1 (inR pl),.list 8 (aS of)]),(4,.cptr [bv c1,bv c2,bv c3,bv c4,bv c5,.sc u,.sc v]),(7,iv m),(20,bv g5)] [] ?_ ?_
 ·rw[e5]
  cases c5 with
  | true=>
   refine aA ?_
   exact Sub.w [] []
  | false=>
   refine aA ?_
   try rw[l1]
   (apply Sub.to [] []; all_goals (repeat' (first | exact aE.nil | exact aB.nil | exact aF.nil | exact ToL.nil | exact ToR.nil | refine aE.cons ?_ ?_ | refine aB.cons ?_ ?_ | refine aP ?_ ?_ | exact To.undef _ | exact To.sc _ | exact To.hslL rfl rfl | exact To.asl _ _ _ _ _ _ _ rfl | refine To.ifc _ _ _ ?_ | exact To.ptrO rfl rfl rfl | exact To.mrefO rfl | exact To.nil rfl rfl rfl | exact wt1 | exact To.nilL | refine To.int ?_ | refine To.bool ?_ | refine To.hslL rfl ?_ | refine wt2 rfl ?_ ?_ ?_ | refine To.tupL ?_ | refine To.aggL ?_ | refine To.cptrL ?_ | refine To.fzp rfl rfl rfl ?_ | refine To.fzm rfl rfl ?_ | refine To.cloL ?_ ?_ | refine wt3 ?_ | refine wt4 ?_ | exact wt5 | refine wt6 ?_ | refine ToB.one ?_ | exact wt7 | ((with_reducible apply ToL.consE); case e9=>rfl) | refine wt8 ?_ | refine ToL.cons ?_ ?_ | exact wt11 | refine wt9 ?_ ?_ | refine wt12 ?_ | (with_reducible rfl) | assumption)); all_goals (first | rfl | assumption | (simp; done) | (simp; omega) | (rw[wrap_small (by omega) (by omega)]; done) | (rw[wrap_small (by omega) (by omega)]; omega) | (refine congrArg Nat.cast ?_; assumption) | skip))
 cases g5 with
 | true=>
  refine aA ?_
  exact aJ.w
 | false=>
 refine aA ?_
 rw[l4]
 refine AWP.condN (¬ of.length=m) rfl (by simp) (fun h=>?_) (fun h=>?_)
 ·obtain rfl:g6=true:=by rw[e6]; simp[h]
  refine aA ?_
  exact aJ.w
 obtain rfl:g6=false:=by rw[e6]; simpa using h
 rw[if_neg (show¬ ((false || (false || (false || (false || (false || false)))))=true) by decide)]
 unfold shG
 have w1:=cL (bl.length:Nat) 1 4096
 have w2:=cL (sz.length:Nat) 1 4
 refine aA ?_
 refine AWP.condN (k=8) rfl rfl (fun k8=>?_) (fun k8=>?_)
 ·rw[if_pos k8]
  refine aA ?_
  rw[l2]
  refine aA ?_
  have hw:aK (bl.length:Nat) 1 4096=decide (1≤bl.length∧bl.length≤4096):=by
   unfold aK
   rw[← Bool.decide_and]
   congr 1
   rw[eq_iff_iff]
   omega
  rw[hw]
  by_cases hb:1≤bl.length∧bl.length≤4096
  ·rw[dTr hb]
   refine aA ?_
   rw[l2,l3]
   refine aA ?_
   refine AWP.condN (¬ pl.length=bl.length) rfl (by simp) (fun h=>?_) (fun h=>?_)
   ·rw[if_neg (fun q=>h q.2.2)]
    refine aA ?_
    exact aJ.w
   ·rw[if_pos ⟨hb.1,hb.2,Decidable.byContradiction h⟩]
    refine aA ?_
    exact aJ.w
  ·rw[dFa hb]
   refine aA ?_
   rw[if_neg (fun h=>hb ⟨h.1,h.2.1⟩)]
   exact aJ.w
 rw[if_neg k8]
 refine aA ?_
 refine AWP.condN (k=9) rfl rfl (fun k9=>?_) (fun k9=>?_)
 ·rw[if_pos k9]
  refine aA ?_
  rw[l2]
  refine aA ?_
  by_cases hb:bl.length=m
  ·rw[dTr hb]
   refine aA ?_
   rw[l3]
   refine aA ?_
   refine AWP.condN (¬ pl.length=m) rfl (by simp) (fun h=>?_) (fun h=>?_)
   ·rw[if_neg (fun q=>h q.2)]
    refine aA ?_
    exact aJ.w
   ·rw[if_pos ⟨hb,Decidable.byContradiction h⟩]
    refine aA ?_
    exact aJ.w
  ·rw[dFa hb]
   refine aA ?_
   rw[if_neg (fun h=>hb h.1)]
   exact aJ.w
 rw[if_neg k9]
 refine aA ?_
 refine AWP.condN (k=10) rfl rfl (fun k10=>?_) (fun k10=>?_)
 ·rw[if_pos k10]
  refine aA ?_
  rw[l3]
  by_cases hb:pl.length=2
  ·rw[dTr hb,if_pos hb]
   refine aA ?_
   exact aJ.w
  ·rw[dFa hb,if_neg hb]
   refine aA ?_
   exact aJ.w
 rw[if_neg k10]
 refine aA ?_
 refine AWP.condN (k=11) rfl rfl (fun k11=>?_) (fun k11=>?_)
 ·rw[if_pos k11]
  refine aA ?_
  rw[l1]
  refine aA ?_
  have hw:aK (sz.length:Nat) 1 4=decide (1≤sz.length∧sz.length≤4):=by
   unfold aK
   rw[← Bool.decide_and]
   congr 1
   rw[eq_iff_iff]
   omega
  rw[hw]
  by_cases hb:1≤sz.length∧sz.length≤4
  ·rw[dTr hb]
   refine aA ?_
   rw[l1,l2]
   by_cases hb2:bl.length=sz.length
   ·rw[dTr hb2]
    refine aA ?_
    rw[l1,l3]
    refine aA ?_
    refine AWP.condN (¬ pl.length=sz.length) rfl (by simp) (fun h=>?_) (fun h=>?_)
    ·rw[if_neg (fun q=>h q.2.2.2)]
     refine aA ?_
     exact aJ.w
    ·rw[if_pos ⟨hb.1,hb.2,hb2,Decidable.byContradiction h⟩]
     refine aA ?_
     exact aJ.w
   ·rw[dFa hb2]
    refine aA ?_
    rw[if_neg (fun h=>hb2 h.2.2.1)]
    exact aJ.w
  ·rw[dFa hb]
   refine aA ?_
   rw[if_neg (fun h=>hb ⟨h.1,h.2.1⟩)]
   exact aJ.w
 rw[if_neg k11]
 refine aA ?_
 exact aJ.w
section
variable (k c b st:Int) (sz bl pl:List Int) (of:List Ty)
theorem HV:aC Tryz.prog 183 [.agg (tyR (.mk k c b st sz bl pl of))] (bv (aK c 1 4096)):=by
 rw[tyR]
 refine aC.mkI JE (nlB rfl) ?_
 have w:=cL c 1 4096
 refine aA ?_
 exact aJ.w
theorem GN:aC Tryz.prog 185 [.agg (tyR (.mk k c b st sz bl pl of))] (bv (aK c 1 4096 && aK b 1 4096)):=by
 rw[tyR]
 refine aC.mkI JC (nlB rfl) ?_
 have w:=cL c 1 4096
 have w2:=cL b 1 4096
 generalize aK c 1 4096=g at w ⊢
 cases g with
 | true=>
  refine aA ?_
  exact aJ.w
 | false=>
  refine aA ?_
  exact aJ.w
theorem GD (hb:bl≠[]) (hn:bl.length≤1000000):aC Tryz.prog 187 [.agg (tyR (.mk k c b st sz bl pl of))] (bv (sZ bl)):=by
 rw[tyR]
 refine aC.mkI JH (nlB rfl) ?_
 have w:=zJ bl 0 4096 (by omega)
 have w2:=KX bl hb (by omega)
 have e:=F2 bl hb
 unfold sZ
 rw[← e]
 generalize iU bl 0 4096=g at w ⊢
 cases g with
 | true=>
  refine aA ?_
  exact aJ.w
 | false=>
  refine aA ?_
  exact aJ.w
theorem ED (h:pl.length=2):aC Tryz.prog 190 [.agg (tyR (.mk k c b st sz bl pl of))] (bv (decide (0≤pl.getD 1 0))):=by
 rw[tyR]
 refine aC.mkI I3 (nlB rfl) ?_
 have hr:=bZ pl 1 (by omega)
 have e:pl.getD 1 0=pl[1]:=by simp[h]
 rw[e]
 refine aA ?_
 exact aJ.w
theorem G8 (sz:List Int) (f:Nat→Bool) (i:Nat) (h:i < sz.length) (hf:f i=false):((List.range sz.length).all f)=false:=List.all_eq_false.2 ⟨i,List.mem_range.2 h,by simp[hf]⟩
theorem F6 (h1:sz.length≤4) (h2:bl.length=sz.length) (h3:pl.length=sz.length):aC Tryz.prog 191 [.agg (tyR (.mk k c b st sz bl pl of))] (bv (A5 sz bl pl)):=by
 rw[tyR]
 refine aC.mkI I4 (nlB rfl) ?_
 have l1:=bD sz
 refine aA ?_
 refine AWP.loop (fun i:Nat=>[(1,.cptr [iv k,iv c,iv b,iv st,.list 1 (inR sz),.list 1 (inR bl),.list 1 (inR pl),.list 8 (aS of)]),(6,.list 1 (inR sz)),(7,iv sz.length),(8,iv i)]) (fun _=>[]) (fun i=>i≤sz.length∧∀ j,j < i→(aK (sz.getD j 0) 1 4096 && aK (bl.getD j 0) 1 (sz.getD j 0) && aK (pl.getD j 0) 0 (sz.getD j 0 - bl.getD j 0))=true) (fun i=>sz.length - i) 0 ⟨Nat.zero_le _,fun j hj=>by omega⟩ ?_ ?_
 ·rw[← l1]
  exact Sub.w [] []
 rintro i ⟨hi,hin⟩
 refine aA ?_
 refine AWP.condN (i < sz.length) rfl rfl (fun h=>?_) (fun h=>?_)
 ·have r1:=bZ sz i h
  have r2:=bZ bl i (by omega)
  have r3:=bZ pl i (by omega)
  have e1:sz.getD i 0=sz[i]:=by simp[h]
  have e2:bl.getD i 0=bl[i]:=by simp[h2,h]
  have e3:pl.getD i 0=pl[i]:=by simp[h3,h]
  rw[← e1] at r1
  rw[← e2] at r2
  rw[← e3] at r3
  have hno:(aK (sz.getD i 0) 1 4096 && aK (bl.getD i 0) 1 (sz.getD i 0) && aK (pl.getD i 0) 0 (sz.getD i 0 - bl.getD i 0))=false→A5 sz bl pl=false:=fun hf=>G8 sz _ i h hf
  have hin':(aK (sz.getD i 0) 1 4096 && aK (bl.getD i 0) 1 (sz.getD i 0) && aK (pl.getD i 0) 0 (sz.getD i 0 - bl.getD i 0))=true→∀ j,j < i+1→(aK (sz.getD j 0) 1 4096 && aK (bl.getD j 0) 1 (sz.getD j 0) && aK (pl.getD j 0) 0 (sz.getD j 0 - bl.getD j 0))=true:=fun hf j hj=>by
   by_cases e:j=i
   ·subst e; exact hf
   ·exact hin j (by omega)
  generalize sz.getD i 0=a at *
  generalize bl.getD i 0=a2 at *
  generalize pl.getD i 0=a3 at *
  have w1:=cL a 1 4096
  have w2:=cL a2 1 a
  have w3:=cL a3 0 (a - a2)
  cases g1:aK a 1 4096 with
  | false=>
   rw[g1] at w1 hno
   rw[hno rfl]
   refine aA ?_
   refine DK.nil ⟨by kernel_rfl,?_⟩
   refine aA ?_
   exact aJ.w
  | true=>
   rw[g1] at w1 hno hin'
   cases g2:aK a2 1 a with
   | false=>
    rw[g2] at w2 hno
    rw[hno rfl]
    refine aA ?_
    refine DK.nil ⟨by kernel_rfl,?_⟩
    refine aA ?_
    exact aJ.w
   | true=>
    rw[g2] at w2 hno hin'
    simp only[aK,Bool.and_eq_true,decide_eq_true_eq] at g1 g2
    have ew:IntKind.i64.wrap (a - a2)=a - a2:=Av.wrap_small (by omega) (by omega)
    cases g3:aK a3 0 (a - a2) with
    | false=>
     rw[g3] at w3 hno
     rw[hno rfl]
     refine aA ?_
     rw[ew]
     refine aA ?_
     refine DK.nil ⟨by kernel_rfl,?_⟩
     refine aA ?_
     exact aJ.w
    | true=>
     rw[g3] at w3 hin'
     refine aA ?_
     rw[ew]
     refine aA ?_
     refine DK.nil ⟨by kernel_rfl,?_⟩
     refine aA ?_
     refine⟨i+1,⟨by omega,hin' rfl⟩,by omega,?_⟩
     exact Sub.w [] []
 ·obtain rfl:sz.length=i:=by omega
  rw[show A5 sz bl pl=true from List.all_eq_true.2 fun j hj=>hin j (List.mem_range.1 hj)]
  refine aA ?_
  exact aJ.w
end
def big:Int:=2000000000000000000
def tiF (p:Int×Int) (x:Int×Int):Int×Int:=(min p.1 x.2,max p.2 (x.2+bB x.1))
theorem fT (k:Int):bB k≤8:=by
 unfold bB
 repeat' split
 all_goals omega
theorem DV (l:List (Int×Int)) (hl:l≠[]) (hn:l.length≤1000000) (hb:∀ x∈l,-big≤x.2∧x.2≤big):aC Tryz.prog 195 [.list 2 (enR l)] (.tup [iv (bT l).1,iv (bT l).2]):=by
 refine aC.mkI IY (nlB rfl) ?_
 have hil:=cO l
 have h0:0 < l.length:=List.length_pos_iff.2 hl
 have hr0:=fM l 0 h0
 obtain⟨a,ha⟩:∃ a,a=l[0].2:=⟨_,rfl⟩
 rw[← ha] at hr0
 have ht:bT l=l.foldl tiF (a,a):=by
  unfold bT
  rw[show(l.headD (0,0)).2=a by rw[ha]; cases l with | nil=>exact absurd rfl hl | cons x r=>rfl]
  rfl
 rw[ht]
 refine aA ?_
 refine DK.nil ⟨by kernel_rfl,?_⟩
 refine aA ?_
 refine AWP.loop (fun i:Nat=>[(4,iv ((l.take i).foldl tiF (a,a)).1),(5,iv ((l.take i).foldl tiF (a,a)).2),(16,.list 2 (enR l)),(17,iv l.length),(18,iv i)]) (fun _=>[]) (fun i=>i≤l.length) (fun i=>l.length - i) 0 (Nat.zero_le _) ?_ ?_
 ·rw[← hil]
  exact Sub.w [] []
 rintro i hi
 refine aA ?_
 refine AWP.condN (i < l.length) rfl rfl (fun h=>?_) (fun h=>?_)
 ·have hr:=fM l i h
  have hx:=hb l[i] (List.getElem_mem _)
  have w:=mQ l[i].1
  have hs:=fT l[i].1
  have e:(l.take (i+1)).foldl tiF (a,a)=tiF ((l.take i).foldl tiF (a,a)) l[i]:=by
   rw[cM h,List.foldl_append]
   rfl
  generalize l[i]=x at *
  obtain⟨kd,at'⟩:=x
  generalize (l.take i).foldl tiF (a,a)=p at *
  obtain⟨lo,hi2⟩:=p
  unfold big at hx
  obtain⟨hx1,hx2⟩:=hx
  replace hx1:-2000000000000000000≤at':=hx1
  replace hx2:at'≤2000000000000000000:=hx2
  replace hs:bB kd≤8:=hs
  have ew:IntKind.i64.wrap (at'+(bB kd:Nat))=at'+(bB kd:Nat):=Av.wrap_small (by omega) (by omega)
  refine aA ?_
  rw[ew]
  refine aA ?_
  refine DK.nil ⟨by kernel_rfl,?_⟩
  refine aA ?_
  refine⟨i+1,by omega,by omega,?_⟩
  rw[e]
  unfold tiF
  (apply Sub.to [] []; all_goals (repeat' (first | exact aE.nil | exact aB.nil | exact aF.nil | exact ToL.nil | exact ToR.nil | refine aE.cons ?_ ?_ | refine aB.cons ?_ ?_ | refine aP ?_ ?_ | exact To.undef _ | exact To.sc _ | exact To.hslL rfl rfl | exact To.asl _ _ _ _ _ _ _ rfl | refine To.ifc _ _ _ ?_ | exact To.ptrO rfl rfl rfl | exact To.mrefO rfl | exact To.nil rfl rfl rfl | exact wt1 | exact To.nilL | refine To.int ?_ | refine To.bool ?_ | refine To.hslL rfl ?_ | refine wt2 rfl ?_ ?_ ?_ | refine To.tupL ?_ | refine To.aggL ?_ | refine To.cptrL ?_ | refine To.fzp rfl rfl rfl ?_ | refine To.fzm rfl rfl ?_ | refine To.cloL ?_ ?_ | refine wt3 ?_ | refine wt4 ?_ | exact wt5 | refine wt6 ?_ | refine ToB.one ?_ | exact wt7 | ((with_reducible apply ToL.consE); case e9=>rfl) | refine wt8 ?_ | refine ToL.cons ?_ ?_ | exact wt11 | refine wt9 ?_ ?_ | refine wt12 ?_ | (with_reducible rfl) | assumption)); all_goals (first | rfl | assumption | (simp; done) | (simp; omega) | (rw[wrap_small (by omega) (by omega)]; done) | (rw[wrap_small (by omega) (by omega)]; omega) | (refine congrArg Nat.cast ?_; assumption) | skip))
 ·obtain rfl:l.length=i:=by omega
  rw[List.take_length]
  refine aA ?_
  exact aJ.w
def rkS (bl:List Int) (a:List Nat):Nat→Nat
 | 0=>0
 | k+1=>rkS bl a k * (bl.getD k 0).toNat+a.getD k 0
def prS (bl:List Int):Nat→Nat
 | 0=>1
 | k+1=>prS bl k * (bl.getD k 0).toNat
def okD (bl:List Int) (n:Nat) (a:List Nat):Prop:=∀ i,i < n→a.getD i 0 < (bl.getD i 0).toNat
theorem qE {bl:List Int} {a b:List Nat}:∀ {k:Nat},(∀ i,i < k→a.getD i 0=b.getD i 0)→rkS bl a k=rkS bl b k
 | 0,_=>rfl
 | k+1,h=>by
  rw[rkS,rkS,qE fun i hi=>h i (by omega),h k (by omega)]
theorem eI {a:List Nat} {k v i:Nat} (h:k < a.length):(a.set k v).getD i 0=if k=i then v else a.getD i 0:=by
 simp only[List.getD_eq_getElem?_getD,List.getElem?_set]
 by_cases e:k=i
 ·subst e; simp[h]
 ·simp[e]
theorem vN {bl:List Int} {n:Nat}:∀(k:Nat) (a:List Nat),k≤n→a.length=n→okD bl k a→match rF bl k a with
  | some b=>b.length=n∧(∀ i,k≤i→b.getD i 0=a.getD i 0)∧okD bl k b∧rkS bl b k=rkS bl a k+1
  | none=>rkS bl a k+1=prS bl k
 | 0,a,_,_,_=>rfl
 | k+1,a,hk,hl,ha=>by
  have hak:=ha k (by omega)
  have hkl:k < a.length:=by omega
  rw[rF]
  by_cases h:((a.getD k 0:Nat):Int)+1 < bl.getD k 0
  ·rw[if_pos h]
   refine⟨by rw[List.length_set]; exact hl,fun i hi=>?_,fun i hi=>?_,?_⟩
   ·rw[eI hkl,if_neg (by omega)]
   ·rw[eI hkl]
    split
    ·rename_i e; subst e; omega
    ·exact ha i hi
   ·rw[rkS,rkS,eI hkl,if_pos rfl,qE (b:=a) fun i hi=>by rw[eI hkl,if_neg (by omega)]]
    omega
  ·rw[if_neg h]
   have e1:(bl.getD k 0).toNat=a.getD k 0+1:=by omega
   have hz:rkS bl (a.set k 0) k=rkS bl a k:=qE fun i hi=>by rw[eI hkl,if_neg (by omega)]
   have ih:=vN (n:=n) k (a.set k 0) (by omega) (by rw[List.length_set]; exact hl) fun i hi=>by
    rw[eI hkl,if_neg (by omega)]
    exact ha i (by omega)
   cases hi:rF bl k (a.set k 0) with
   | none=>
    rw[hi] at ih
    simp only at ih ⊢
    have e2:(rkS bl a k+1) * (a.getD k 0+1)=rkS bl a k * (a.getD k 0+1)+(a.getD k 0+1):=Nat.succ_mul _ _
    rw[rkS,prS,← ih,hz,e1]
    omega
   | some b=>
    rw[hi] at ih
    simp only at ih ⊢
    obtain⟨i1,i2,i3,i4⟩:=ih
    have hbk:b.getD k 0=0:=by rw[i2 k (Nat.le_refl _),eI hkl,if_pos rfl]
    refine⟨i1,fun i hi'=>?_,fun i hi'=>?_,?_⟩
    ·rw[i2 i (by omega),eI hkl,if_neg (by omega)]
    ·by_cases e:i=k
     ·subst e; rw[hbk]; omega
     ·exact i3 i (by omega)
    ·have e2:(rkS bl a k+1) * (a.getD k 0+1)=rkS bl a k * (a.getD k 0+1)+(a.getD k 0+1):=Nat.succ_mul _ _
     rw[rkS,rkS,i4,hz,hbk,e1]
     omega
theorem DD {bl:List Int} {a:List Nat}:∀ {k:Nat},okD bl k a→rkS bl a k < prS bl k
 | 0,_=>Nat.one_pos
 | k+1,h=>by
  have h1:rkS bl a k < prS bl k:=DD fun i hi=>h i (by omega)
  have h2:=h k (by omega)
  rw[rkS,prS]
  calc rkS bl a k * (bl.getD k 0).toNat+a.getD k 0 < rkS bl a k * (bl.getD k 0).toNat+(bl.getD k 0).toNat:=by omega
   _=(rkS bl a k+1) * (bl.getD k 0).toNat:=by rw[Nat.succ_mul]
   _≤_:=Nat.mul_le_mul_right _ h1
theorem rH {bl:List Int}:∀ {k:Nat},k≤bl.length→((bl.take k).map Int.toNat).foldl (· * ·) 1=prS bl k
 | 0,_=>by simp[prS]
 | k+1,h=>by
  have hk:k < bl.length:=by omega
  rw[List.take_add_one,gEg hk,List.map_append,List.foldl_append,rH (by omega),prS]
  simp[hk]
theorem z7 {bl:List Int} {n:Nat}:∀ {k:Nat},rkS bl (List.replicate n 0) k=0
 | 0=>rfl
 | k+1=>by
  rw[rkS,z7]
  simp[List.getD_eq_getElem?_getD,List.getElem?_replicate]
  split<;>rfl
def rfA:bK→bK
 | .rangeF _ _ a _ _ _ _=>a
 | _=>.skip
def rfB:bK→bK
 | .rangeF _ _ _ b _ _ _=>b
 | _=>.skip
def ofR (of:List Shp):List (List AV):=of.map fun s=>[.list 2 (enR s.es),iv s.lo,iv s.hi]
theorem z6 (l:List Shp):(ofR l).length=l.length:=by simp[ofR]
theorem kP (l:List Shp) (k:Nat) (h:k < l.length):d6 (ofR l) (k:Int)=some [.list 2 (enR l[k].es),iv l[k].lo,iv l[k].hi]:=j5 (fun s:Shp=>[.list 2 (enR s.es),iv s.lo,iv s.hi]) l k h
instance (l:List Shp):PRs (ofR l):=⟨fun r hr=>by
 obtain⟨n,_,rfl⟩:=List.mem_map.1 hr
 exact pr _⟩
def shB (s:Shp):Prop:=-mP≤s.lo∧s.lo≤mP∧-mP≤s.hi∧s.hi≤mP∧-mP≤s.ext∧s.ext≤mP∧s.es≠[]∧s.es.length≤4096∧∀ y∈s.es,-mP≤y.2∧y.2≤mP
def stB (s:Shp):Prop:=s.es.length≤4096∧(-big≤s.lo∧s.lo≤big)∧(-big≤s.hi∧s.hi≤big)∧∀ y∈s.es,-big≤y.2∧y.2≤big
def r0S:List AV:=[.sc (.slice none 0 0),iv 0,iv 0]
def bQ (tc:List AV) (of:List Shp) (c:AV):Fr:=[(3,.cptr tc),(5,.cptr [.list 3 (ofR of)]),(6,.ptr 0 0 0 0),(7,.ptr 1 0 0 0),(8,.ptr 2 0 0 0),(27,c)]
def jE (es:List (Int×Int)) (lo hi:Int) (x:Blk) (at':List Int):Heap:=[[.cells 3 [r0S]],[.cells 1 [[iv 0]]],[.cells 3 [[.hsl 4 0 0 es.length,iv lo,iv hi]]],[x],[.cells 2 (enR es)],[.cells 1 (inR at')]]
def J8 (es:List (Int×Int)) (lo hi:Int) (x:Blk) (at':List Int):Heap:=[[.cells 3 [r0S]],[.cells 1 [[iv 0]]],[.cells 3 [[.hsl 6 0 0 es.length,iv lo,iv hi]]],[x],[.dead],[.cells 1 (inR at')],[.cells 2 (enR es)]]
def putD (x b2 b3:Blk) (at':List Int):Heap:=[[.cells 3 [r0S]],[.cells 1 [[iv 9]]],[b2],[x],[b3],[.cells 1 (inR at')]]
noncomputable def fQ:bK:=iH [1,1,0,1,0] F165.code
theorem nN {T:AV→AV→Prop} {ρ:Nat→Nat→Option (Nat×Nat)} {tc:List AV} {of:List Shp} {c:AV} {L:LC} {st:LoopState} {pe:Option Code} (ht:PR tc) (hc:PV c) (r0:ρ 0 0=some (0,0)) (r1:ρ 1 0=some (1,0)) (r2:ρ 2 0=some (2,0)):ToB T ρ (.lp L (bQ tc of c) st pe) (.lp L (bQ tc of c) st pe):=by
 refine ToB.lp _ _ _ _ _ fun x hx=>?_
 simp only[bQ,List.mem_cons,List.not_mem_nil,or_false] at hx
 rcases hx with rfl | rfl | rfl | rfl | rfl | rfl
 ·exact To.pure (.cptr _ ht.out)
 ·exact To.pure (pv (AV.cptr [.list 3 (ofR of)]))
 ·exact To.ptrO r0 rfl rfl
 ·exact To.ptrO r1 rfl rfl
 ·exact To.ptrO r2 rfl rfl
 ·exact To.pure hc.out
set_option maxHeartbeats 2000000 in
theorem vR {L:LC} {tc:List AV} {of:List Shp} {c:AV} (ht:PR tc) (hc:PV c) (hL:LOK Tryz.prog F165.n L [28,29] (rfA fQ) (rfB fQ)) (s:Shp) (at':List Int) (k:Nat) (by':Int) (x:Shp) (hk:of[k]?=some x) (hof:shB x) (hs:stB s) (h1:-1200000000000000000≤by') (h2:by'≤1200000000000000000):
  cW Tryz.prog 3 0 [iv k,iv by'] (jE s.es s.lo s.hi (.lp L (bQ tc of c) .ready none) at') fun b H'=>
   (b=true∧s.es.length+x.es.length≤4096∧H'=J8 (nL s x by').es (nL s x by').lo (nL s x by').hi (.lp L (bQ tc of c) .ready none) at')∨(b=false∧4096 < s.es.length+x.es.length∧∃ b2 b3,H'=putD (.lp L (bQ tc of c) .done (some .ret)) b2 b3 at'):=by
 refine eL.g ?_
 have hr:d6 (ofR of) (k:Int)=some [.list 2 (enR x.es),iv x.lo,iv x.hi]:=by
  obtain⟨h,rfl⟩:=gEs.1 hk
  exact kP of k h
 clear hk
 unfold shB mP at hof
 obtain⟨b1,b2,b3,b4,b5,b6,b7,b8,b9⟩:=hof
 refine⟨L,_,_,_,_,_,hL,rfl,rfl,?_⟩
 show AWP _ _ _ (.seq (.region _) (.region _)) _ _ _
 have hlp:∀(T:AV→AV→Prop) (ρ:Nat→Nat→Option (Nat×Nat)) (st:LoopState),ρ 0 0=some (0,0)→ρ 1 0=some (1,0)→ρ 2 0=some (2,0)→ToB T ρ (.lp L (bQ tc of c) st none) (.lp L (bQ tc of c) st none):=fun T ρ st=>nN ht hc
 obtain⟨caps,hcaps⟩:∃ caps,caps=bQ tc of c:=⟨_,rfl⟩
 rw[← hcaps] at hlp ⊢
 rw[show putL caps ([28,29].zip [iv k,iv by'])=(29,iv by')::(28,iv k)::bQ tc of c by rw[hcaps]; rfl]
 unfold bQ
 refine aA ?_
 refine⟨rfl,caps,rfl,?_⟩
 show AWP _ _ _ (.block 1 _) _ _ _
 refine aA ?_
 rw[Av.wrap_small (show -9223372036854775808≤x.lo+by' by omega) (by omega),Av.wrap_small (show -9223372036854775808≤x.hi+by' by omega) (by omega)]
 refine DK.nil ⟨by kernel_rfl,?_⟩
 refine AWP.sub (fr':=[(6,.ptr 0 0 0 0),(7,.ptr 1 0 0 0),(8,.ptr 2 0 0 0),(10,iv by'),(11,.cptr [.list 2 (enR x.es),iv x.lo,iv x.hi]),(12,iv (x.lo+by')),(13,iv (x.hi+by'))]) (H':=jE s.es s.lo s.hi (.lp L caps .busy none) at') ?_ ?_
 ·(apply Sub.to [] [[(0,0)],[(1,0)],[(2,0)],[(3,0)],[(4,0)],[(5,0)]]; all_goals (repeat' (first | exact aE.nil | exact aB.nil | exact aF.nil | exact ToL.nil | exact ToR.nil | refine aE.cons ?_ ?_ | refine aB.cons ?_ ?_ | refine aP ?_ ?_ | exact To.undef _ | exact To.sc _ | exact To.hslL rfl rfl | exact To.asl _ _ _ _ _ _ _ rfl | refine To.ifc _ _ _ ?_ | exact To.ptrO rfl rfl rfl | exact To.mrefO rfl | exact To.nil rfl rfl rfl | exact wt1 | exact To.nilL | refine To.int ?_ | refine To.bool ?_ | refine To.hslL rfl ?_ | refine wt2 rfl ?_ ?_ ?_ | refine To.tupL ?_ | refine To.aggL ?_ | refine To.cptrL ?_ | refine To.fzp rfl rfl rfl ?_ | refine To.fzm rfl rfl ?_ | refine To.cloL ?_ ?_ | refine wt3 ?_ | refine wt4 ?_ | exact wt5 | refine wt6 ?_ | refine ToB.one ?_ | exact wt7 | ((with_reducible apply ToL.consE); case e9=>rfl) | refine wt8 ?_ | refine ToL.cons ?_ ?_ | exact wt11 | refine wt9 ?_ ?_ | refine wt12 ?_ | (with_reducible rfl) | assumption)); all_goals (first | rfl | assumption | (simp; done) | (simp; omega) | (rw[wrap_small (by omega) (by omega)]; done) | (rw[wrap_small (by omega) (by omega)]; omega) | (refine congrArg Nat.cast ?_; assumption) | skip))
  exact hlp _ _ _ rfl rfl rfl
 have hle:=cO s.es
 have hle2:=cO x.es
 refine aA ?_
 refine AWP.joinB0 [(6,.ptr 0 0 0 0),(7,.ptr 1 0 0 0),(8,.ptr 2 0 0 0),(10,iv by'),(11,.cptr [.list 2 (enR x.es),iv x.lo,iv x.hi]),(12,iv (x.lo+by')),(13,iv (x.hi+by'))] (jE s.es (if s.es.length=0 then x.lo+by' else s.lo) (if s.es.length=0 then x.hi+by' else s.hi) (.lp L caps .busy none) at') ?_ ?_
 ·refine AWP.condN (s.es.length=0) rfl rfl (fun h=>?_) (fun h=>?_)
  ·rw[if_pos h,if_pos h]
   refine aA ?_
   (apply Sub.to [] [[(0,0)],[(1,0)],[(2,0)],[(3,0)],[(4,0)],[(5,0)]]; all_goals (repeat' (first | exact aE.nil | exact aB.nil | exact aF.nil | exact ToL.nil | exact ToR.nil | refine aE.cons ?_ ?_ | refine aB.cons ?_ ?_ | refine aP ?_ ?_ | exact To.undef _ | exact To.sc _ | exact To.hslL rfl rfl | exact To.asl _ _ _ _ _ _ _ rfl | refine To.ifc _ _ _ ?_ | exact To.ptrO rfl rfl rfl | exact To.mrefO rfl | exact To.nil rfl rfl rfl | exact wt1 | exact To.nilL | refine To.int ?_ | refine To.bool ?_ | refine To.hslL rfl ?_ | refine wt2 rfl ?_ ?_ ?_ | refine To.tupL ?_ | refine To.aggL ?_ | refine To.cptrL ?_ | refine To.fzp rfl rfl rfl ?_ | refine To.fzm rfl rfl ?_ | refine To.cloL ?_ ?_ | refine wt3 ?_ | refine wt4 ?_ | exact wt5 | refine wt6 ?_ | refine ToB.one ?_ | exact wt7 | ((with_reducible apply ToL.consE); case e9=>rfl) | refine wt8 ?_ | refine ToL.cons ?_ ?_ | exact wt11 | refine wt9 ?_ ?_ | refine wt12 ?_ | (with_reducible rfl) | assumption)); all_goals (first | rfl | assumption | (simp; done) | (simp; omega) | (rw[wrap_small (by omega) (by omega)]; done) | (rw[wrap_small (by omega) (by omega)]; omega) | (refine congrArg Nat.cast ?_; assumption) | skip))
   exact hlp _ _ _ rfl rfl rfl
  ·rw[if_neg h,if_neg h]
   refine aA ?_
   (apply Sub.to [] [[(0,0)],[(1,0)],[(2,0)],[(3,0)],[(4,0)],[(5,0)]]; all_goals (repeat' (first | exact aE.nil | exact aB.nil | exact aF.nil | exact ToL.nil | exact ToR.nil | refine aE.cons ?_ ?_ | refine aB.cons ?_ ?_ | refine aP ?_ ?_ | exact To.undef _ | exact To.sc _ | exact To.hslL rfl rfl | exact To.asl _ _ _ _ _ _ _ rfl | refine To.ifc _ _ _ ?_ | exact To.ptrO rfl rfl rfl | exact To.mrefO rfl | exact To.nil rfl rfl rfl | exact wt1 | exact To.nilL | refine To.int ?_ | refine To.bool ?_ | refine To.hslL rfl ?_ | refine wt2 rfl ?_ ?_ ?_ | refine To.tupL ?_ | refine To.aggL ?_ | refine To.cptrL ?_ | refine To.fzp rfl rfl rfl ?_ | refine To.fzm rfl rfl ?_ | refine To.cloL ?_ ?_ | refine wt3 ?_ | refine wt4 ?_ | exact wt5 | refine wt6 ?_ | refine ToB.one ?_ | exact wt7 | ((with_reducible apply ToL.consE); case e9=>rfl) | refine wt8 ?_ | refine ToL.cons ?_ ?_ | exact wt11 | refine wt9 ?_ ?_ | refine wt12 ?_ | (with_reducible rfl) | assumption)); all_goals (first | rfl | assumption | (simp; done) | (simp; omega) | (rw[wrap_small (by omega) (by omega)]; done) | (rw[wrap_small (by omega) (by omega)]; omega) | (refine congrArg Nat.cast ?_; assumption) | skip))
   exact hlp _ _ _ rfl rfl rfl
 obtain⟨lo1,hl1⟩:∃ lo1,lo1=if s.es.length=0 then x.lo+by' else s.lo:=⟨_,rfl⟩
 obtain⟨hi1,hh1⟩:∃ hi1,hi1=if s.es.length=0 then x.hi+by' else s.hi:=⟨_,rfl⟩
 unfold nL
 rw[← hl1,← hh1]
 have hs0:=hs.1
 refine aA ?_
 rw[hle2]
 refine AWP.condN (4096 < s.es.length+x.es.length) rfl rfl (fun h=>?_) (fun h=>?_)
 ·refine aA ?_
  refine⟨caps,rfl,.inr ⟨rfl,h,_,_,rfl⟩⟩
 refine aA ?_
 refine AWP.loop (fun j:Nat=>[(6,.ptr 0 0 0 0),(7,.ptr 1 0 0 0),(8,.ptr 2 0 0 0),(10,iv by'),(11,.cptr [.list 2 (enR x.es),iv x.lo,iv x.hi]),(70,.list 2 (enR x.es)),(71,iv x.es.length),(72,iv j)]) (fun j=>J8 (s.es++(x.es.take j).map (fun y=>(y.1,y.2+by'))) (min lo1 (x.lo+by')) (max hi1 (x.hi+by')) (.lp L caps .busy none) at') (fun j=>j≤x.es.length) (fun j=>x.es.length - j) 0 (Nat.zero_le _) ?_ ?_
 ·rw[← hle2]
  rw[show s.es++(x.es.take 0).map (fun y=>(y.1,y.2+by'))=s.es by simp]
  refine Sub.toM [] [.c [(0,0)],.c [(1,0)],.c [(2,0)],.c [(3,0)],.c [(4,0)],.c [(5,0)],.c [(4,0)]] [4] ?_ ?_ ⟨rfl,trivial⟩ ?_
  ·(all_goals exact xO)
  ·((all_goals (repeat' (first | exact aE.nil | exact aB.nil | exact aF.nil | exact ToL.nil | exact ToR.nil | refine aE.cons ?_ ?_ | refine aB.cons ?_ ?_ | refine aP ?_ ?_ | exact To.undef _ | exact To.sc _ | exact To.hslL rfl rfl | exact To.asl _ _ _ _ _ _ _ rfl | refine To.ifc _ _ _ ?_ | exact To.ptrO rfl rfl rfl | exact To.mrefO rfl | exact To.nil rfl rfl rfl | exact wt1 | exact To.nilL | refine To.int ?_ | refine To.bool ?_ | refine To.hslL rfl ?_ | refine wt2 rfl ?_ ?_ ?_ | refine To.tupL ?_ | refine To.aggL ?_ | refine To.cptrL ?_ | refine To.fzp rfl rfl rfl ?_ | refine To.fzm rfl rfl ?_ | refine To.cloL ?_ ?_ | refine wt3 ?_ | refine wt4 ?_ | exact wt5 | refine wt6 ?_ | refine ToB.one ?_ | exact wt7 | ((with_reducible apply ToL.consE); case e9=>rfl) | refine wt8 ?_ | refine ToL.cons ?_ ?_ | exact wt11 | refine wt9 ?_ ?_ | refine wt12 ?_ | (with_reducible rfl) | assumption)); all_goals (first | rfl | assumption | (simp; done) | (simp; omega) | (rw[wrap_small (by omega) (by omega)]; done) | (rw[wrap_small (by omega) (by omega)]; omega) | (refine congrArg Nat.cast ?_; assumption) | skip)))
   all_goals first | exact hlp _ _ _ rfl rfl rfl | omega | exact .dead _
  ·(repeat' (first | exact trivial | exact HL.c _ rfl rfl | refine⟨?_,?_⟩))
 rintro j hj
 have hsn:∀ h5:j < x.es.length,s.es++(x.es.take (j+1)).map (fun y=>(y.1,y.2+by'))=(s.es++(x.es.take j).map (fun y=>(y.1,y.2+by')))++[(x.es[j].1,x.es[j].2+by')]:=fun h5=>by
  rw[cM h5,List.map_append,List.append_assoc]
  rfl
 have hend:j=x.es.length→s.es++(x.es.take j).map (fun y=>(y.1,y.2+by'))=s.es++x.es.map (fun y=>(y.1,y.2+by')):=by
  rintro rfl
  rw[List.take_length]
 have hln:(s.es++(x.es.take j).map (fun y=>(y.1,y.2+by'))).length≤10000:=by
  rw[List.length_append,List.length_map,List.length_take]
  omega
 generalize s.es++(x.es.take j).map (fun y=>(y.1,y.2+by'))=es at hsn hln hend ⊢
 refine aA ?_
 refine AWP.condN (j < x.es.length) rfl rfl (fun h5=>?_) (fun h5=>?_)
 ·have hr2:=fM x.es j h5
  have hy:=b9 x.es[j] (List.getElem_mem _)
  replace hsn:=hsn h5
  generalize x.es[j]=y at *
  have hen:=cO es
  refine aA ?_
  rw[Av.wrap_small (show -9223372036854775808≤y.2+by' by omega) (by omega)]
  refine aA ?_
  refine⟨j+1,by omega,by omega,?_⟩
  rw[hsn]
  (apply Sub.to [] [[(0,0)],[(1,0)],[(2,0)],[(3,0)],[(4,0)],[(5,0)],[(9,0)]]; all_goals (repeat' (first | exact aE.nil | exact aB.nil | exact aF.nil | exact ToL.nil | exact ToR.nil | refine aE.cons ?_ ?_ | refine aB.cons ?_ ?_ | refine aP ?_ ?_ | exact To.undef _ | exact To.sc _ | exact To.hslL rfl rfl | exact To.asl _ _ _ _ _ _ _ rfl | refine To.ifc _ _ _ ?_ | exact To.ptrO rfl rfl rfl | exact To.mrefO rfl | exact To.nil rfl rfl rfl | exact wt1 | exact To.nilL | refine To.int ?_ | refine To.bool ?_ | refine To.hslL rfl ?_ | refine wt2 rfl ?_ ?_ ?_ | refine To.tupL ?_ | refine To.aggL ?_ | refine To.cptrL ?_ | refine To.fzp rfl rfl rfl ?_ | refine To.fzm rfl rfl ?_ | refine To.cloL ?_ ?_ | refine wt3 ?_ | refine wt4 ?_ | exact wt5 | refine wt6 ?_ | refine ToB.one ?_ | exact wt7 | ((with_reducible apply ToL.consE); case e9=>rfl) | refine wt8 ?_ | refine ToL.cons ?_ ?_ | exact wt11 | refine wt9 ?_ ?_ | refine wt12 ?_ | (with_reducible rfl) | assumption)); all_goals (first | rfl | assumption | (simp; done) | (simp; omega) | (rw[wrap_small (by omega) (by omega)]; done) | (rw[wrap_small (by omega) (by omega)]; omega) | (refine congrArg Nat.cast ?_; assumption) | skip))
  all_goals first | exact hlp _ _ _ rfl rfl rfl | exact(by simp[enR]:enR es++[[iv y.1,iv (y.2+by')]]=enR (es++[(y.1,y.2+by')])) | exact .dead _
 ·obtain rfl:x.es.length=j:=by omega
  refine aA ?_
  refine⟨caps,rfl,.inl ⟨rfl,by omega,?_⟩⟩
  rw[← hend rfl]
  rfl
def B6 (x:Blk):Heap:=[[.cells 3 [r0S]],[.cells 1 [[iv 0]]],[.cells 3 [r0S]],[x]]
def putK (es:List (Int×Int)) (lo hi:Int) (x:Blk):Heap:=[[.cells 3 [r0S]],[.cells 1 [[iv 0]]],[.cells 3 [[.hsl 4 0 0 es.length,iv lo,iv hi]]],[x],[.cells 2 (enR es)]]
def BG (x:Blk):Heap:=[[.cells 3 [r0S]],[.cells 1 [[iv 9]]],[.dead],[x]]
theorem nK {of:List Shp} (m:Int×Int):∀ {l:List (Int×Int)} {s t:Shp},dX of l s=some t→dX of (l++[m]) s=if 4096 < t.es.length+(of.getD m.1.toNat shp0).es.length then none else some (nL t (of.getD m.1.toNat shp0) m.2)
 | [],s,t,h=>by
  injection h with h
  subst h
  rfl
 | n::l,s,t,h=>by
  simp only[dX,List.cons_append] at h ⊢
  split at h
  ·cases h
  ·rename_i h1
   rw[if_neg h1]
   exact nK m h
theorem nB {of:List Shp} {r:List (Int×Int)}:∀ {l:List (Int×Int)} {s:Shp},dX of l s=none→dX of (l++r) s=none
 | [],s,h=>by cases h
 | n::l,s,h=>by
  simp only[dX,List.cons_append] at h ⊢
  split
  ·rfl
  ·rename_i h1
   rw[if_neg h1] at h
   exact nB h
theorem zQ {s x:Shp} {by':Int} (hs:stB s) (hx:shB x) (h1:-1200000000000000000≤by') (h2:by'≤1200000000000000000) (hl:s.es.length+x.es.length≤4096):stB (nL s x by'):=by
 obtain⟨a1,⟨a2,a3⟩,⟨a4,a5⟩,a6⟩:=hs
 obtain⟨b1,b2,b3,b4,b5,b6,b7,b8,b9⟩:=hx
 unfold big at *
 unfold mP at *
 refine⟨by simp[nL]; omega,⟨?_,?_⟩,⟨?_,?_⟩,fun y hy=>?_⟩
 ·show -big≤min _ _
  unfold big
  split<;>omega
 ·show min _ _≤big
  unfold big
  split<;>omega
 ·show -big≤max _ _
  unfold big
  split<;>omega
 ·show max _ _≤big
  unfold big
  split<;>omega
 ·rcases List.mem_append.1 hy with hy | hy
  ·exact a6 y hy
  ·obtain⟨z,hz,rfl⟩:=List.mem_map.1 hy
   have:=b9 z hz
   exact⟨by show _≤z.2+by'; unfold big; omega,by show z.2+by'≤_; unfold big; omega⟩
theorem qK {a b A B:Int} (h1:-A≤a) (h2:a≤A) (h3:-B≤b) (h4:b≤B):-(A * B)≤a * b∧a * b≤A * B:=by
 have e1:(a * b).natAbs≤A.natAbs * B.natAbs:=by
  rw[Int.natAbs_mul]
  exact Nat.mul_le_mul (by omega) (by omega)
 have e2:((A.natAbs * B.natAbs:Nat):Int)=A * B:=by
  rw[Int.natCast_mul,Int.natAbs_of_nonneg (by omega),Int.natAbs_of_nonneg (by omega)]
 omega
theorem v4:stB shp0:=⟨by simp[shp0],⟨by decide,by decide⟩,⟨by decide,by decide⟩,fun y hy=>by cases hy⟩
def mZ (L:LC) (tc:List AV) (of:List Shp) (c:AV) (xs:List (Int×Int)) (H':Heap):Prop:=
 (∃ s,dX of xs shp0=some s∧stB s∧H'=putK s.es s.lo s.hi (.lp L (bQ tc of c) .ready none))∨(dX of xs shp0=none∧H'=BG (.lp L (bQ tc of c) .done (some .ret)))
variable {L:LC} {of:List Shp} {cl:AV} {k c b st:Int} {sz bl pl:List Int} {ty:List Ty}
set_option maxHeartbeats 1000000 in
theorem r6 (hc:PV cl) (hL:LOK Tryz.prog F165.n L [28,29] (rfA fQ) (rfB fQ)) {x:Shp} (h0:of[0]?=some x) (hof:shB x) (hcc:c≤4096):
  aH Tryz.prog 204 [.yld 3 0,.cptr [iv k,iv c,iv b,iv st,.list 1 (inR sz),.list 1 (inR bl),.list 1 (inR pl),.list 8 (aS ty)],.cptr [.list 3 (ofR of)]] (B6 (.lp L (bQ [iv k,iv c,iv b,iv st,.list 1 (inR sz),.list 1 (inR bl),.list 1 (inR pl),.list 8 (aS ty)] of cl) .ready none)) fun _ H'=>mZ L [iv k,iv c,iv b,iv st,.list 1 (inR sz),.list 1 (inR bl),.list 1 (inR pl),.list 8 (aS ty)] of cl (bJ c x.ext) H':=by
 have ht:PR [iv k,iv c,iv b,iv st,.list 1 (inR sz),.list 1 (inR bl),.list 1 (inR pl),.list 8 (aS ty)]:=⟨pr _⟩
 have hlp:∀(T:AV→AV→Prop) (ρ:Nat→Nat→Option (Nat×Nat)) (st':LoopState) (pe:Option Code),ρ 0 0=some (0,0)→ρ 1 0=some (1,0)→ρ 2 0=some (2,0)→ToB T ρ (.lp L (bQ [iv k,iv c,iv b,iv st,.list 1 (inR sz),.list 1 (inR bl),.list 1 (inR pl),.list 8 (aS ty)] of cl) st' pe) (.lp L (bQ [iv k,iv c,iv b,iv st,.list 1 (inR sz),.list 1 (inR bl),.list 1 (inR pl),.list 8 (aS ty)] of cl) st' pe):=fun T ρ st' pe=>nN ht hc
 have hr0:d6 (ofR of) ((0:Nat):Int)=some [.list 2 (enR x.es),iv x.lo,iv x.hi]:=by
  obtain⟨h,rfl⟩:=gEs.1 h0
  exact kP of 0 h
 have hx:=hof
 obtain⟨b1,b2,b3,b4,b5,b6,_⟩:=hx
 unfold mP at b1 b2 b3 b4 b5 b6
 have he:aC Tryz.prog 73 [.agg [.list 2 (enR x.es),iv x.lo,iv x.hi]] (iv x.ext):=dO x (by omega) (by omega) (by omega) (by omega)
 obtain⟨N,hN⟩:∃ N,N=(max 1 c).toNat:=⟨_,rfl⟩
 have hN2:N≤4096:=by omega
 have hlen:(bJ c x.ext).length=N:=by simp[bJ,hN]
 have hget:∀ i,i < N→(bJ c x.ext)[i]?=some (0,(i:Int) * x.ext):=fun i hi=>by
  unfold bJ
  rw[List.getElem?_map,List.getElem?_range (by omega)]
  rfl
 refine aH.of H8 ?_ (nlB rfl)
 refine aA ?_
 refine AWP.loop2 (fun(i:Nat) (_:Shp)=>[(0,.yld 3 0),(1,.cptr [iv k,iv c,iv b,iv st,.list 1 (inR sz),.list 1 (inR bl),.list 1 (inR pl),.list 8 (aS ty)]),(2,.cptr [.list 3 (ofR of)]),(7,iv N),(8,iv i)]) (fun _ s=>jE s.es s.lo s.hi (.lp L (bQ [iv k,iv c,iv b,iv st,.list 1 (inR sz),.list 1 (inR bl),.list 1 (inR pl),.list 8 (aS ty)] of cl) .ready none) []) (fun i s=>i≤N∧stB s∧dX of ((bJ c x.ext).take i) shp0=some s) (fun i _=>N - i) 0 shp0 ⟨Nat.zero_le _,v4,rfl⟩ ?_ ?_
 ·(apply Sub.to [2,1] [[(0,0)],[(1,0)],[(2,0)],[(3,0)],[(4,0)],[(5,0)]]; all_goals (repeat' (first | exact aE.nil | exact aB.nil | exact aF.nil | exact ToL.nil | exact ToR.nil | refine aE.cons ?_ ?_ | refine aB.cons ?_ ?_ | refine aP ?_ ?_ | exact To.undef _ | exact To.sc _ | exact To.hslL rfl rfl | exact To.asl _ _ _ _ _ _ _ rfl | refine To.ifc _ _ _ ?_ | exact To.ptrO rfl rfl rfl | exact To.mrefO rfl | exact To.nil rfl rfl rfl | exact wt1 | exact To.nilL | refine To.int ?_ | refine To.bool ?_ | refine To.hslL rfl ?_ | refine wt2 rfl ?_ ?_ ?_ | refine To.tupL ?_ | refine To.aggL ?_ | refine To.cptrL ?_ | refine To.fzp rfl rfl rfl ?_ | refine To.fzm rfl rfl ?_ | refine To.cloL ?_ ?_ | refine wt3 ?_ | refine wt4 ?_ | exact wt5 | refine wt6 ?_ | refine ToB.one ?_ | exact wt7 | ((with_reducible apply ToL.consE); case e9=>rfl) | refine wt8 ?_ | refine ToL.cons ?_ ?_ | exact wt11 | refine wt9 ?_ ?_ | refine wt12 ?_ | (with_reducible rfl) | assumption)); all_goals (first | rfl | assumption | (simp; done) | (simp; omega) | (rw[wrap_small (by omega) (by omega)]; done) | (rw[wrap_small (by omega) (by omega)]; omega) | (refine congrArg Nat.cast ?_; assumption) | skip))
  all_goals first | exact hlp _ _ _ _ rfl rfl rfl | exact .yld _ _ _ _ rfl
 rintro i s ⟨hi,hs,hm⟩
 refine aA ?_
 refine AWP.condN (i < N) rfl rfl (fun h=>?_) (fun h=>?_)
 ·have hie:-1200000000000000000≤(i:Int) * x.ext∧(i:Int) * x.ext≤1200000000000000000:=by
   have:=qK (a:=(i:Int)) (b:=x.ext) (A:=4096) (B:=1048576) (by omega) (by omega) b5 b6
   omega
  refine AWP.skip ?_
  refine AWP.seq ?_
  refine AWP.block ?_
  refine AWP.seq ?_
  refine AWP.region ?_
  refine sF ?_
  refine AWP.seq ?_
  refine AWP.rG rfl ?_
  refine aA ?_
  rw[Av.wrap_small (show -9223372036854775808≤(i:Int) * x.ext by omega) (by omega)]
  refine⟨rfl,nlB rfl,3,0,rfl,?_⟩
  refine(vR ht hc hL s [] 0 ((i:Int) * x.ext) x h0 hof hs hie.1 hie.2).mono ?_
  have hsn:=nK (0,(i:Int) * x.ext) hm
  rw[show((0:Int),(i:Int) * x.ext).1.toNat=0 from rfl,show of.getD 0 shp0=x by rw[List.getD_eq_getElem?_getD,h0]; rfl] at hsn
  have htk:(bJ c x.ext).take (i+1)=(bJ c x.ext).take i++[(0,(i:Int) * x.ext)]:=by
   rw[List.take_add_one,hget i h]
   rfl
  rintro b' H' (⟨rfl,hle,rfl⟩ | ⟨rfl,hlt,b2',b3',rfl⟩)
  ·rw[if_neg (by omega)] at hsn
   refine aA ?_
   refine⟨i+1,nL s x ((i:Int) * x.ext),⟨by omega,zQ hs hof hie.1 hie.2 hle,by rw[htk]; exact hsn⟩,by omega,?_⟩
   (apply Sub.to [] [[(0,0)],[(1,0)],[(2,0)],[(3,0)],[(6,0)],[(5,0)]]; all_goals (repeat' (first | exact aE.nil | exact aB.nil | exact aF.nil | exact ToL.nil | exact ToR.nil | refine aE.cons ?_ ?_ | refine aB.cons ?_ ?_ | refine aP ?_ ?_ | exact To.undef _ | exact To.sc _ | exact To.hslL rfl rfl | exact To.asl _ _ _ _ _ _ _ rfl | refine To.ifc _ _ _ ?_ | exact To.ptrO rfl rfl rfl | exact To.mrefO rfl | exact To.nil rfl rfl rfl | exact wt1 | exact To.nilL | refine To.int ?_ | refine To.bool ?_ | refine To.hslL rfl ?_ | refine wt2 rfl ?_ ?_ ?_ | refine To.tupL ?_ | refine To.aggL ?_ | refine To.cptrL ?_ | refine To.fzp rfl rfl rfl ?_ | refine To.fzm rfl rfl ?_ | refine To.cloL ?_ ?_ | refine wt3 ?_ | refine wt4 ?_ | exact wt5 | refine wt6 ?_ | refine ToB.one ?_ | exact wt7 | ((with_reducible apply ToL.consE); case e9=>rfl) | refine wt8 ?_ | refine ToL.cons ?_ ?_ | exact wt11 | refine wt9 ?_ ?_ | refine wt12 ?_ | (with_reducible rfl) | assumption)); all_goals (first | rfl | assumption | (simp; done) | (simp; omega) | (rw[wrap_small (by omega) (by omega)]; done) | (rw[wrap_small (by omega) (by omega)]; omega) | (refine congrArg Nat.cast ?_; assumption) | skip))
   all_goals first | exact hlp _ _ _ _ rfl rfl rfl | exact .yld _ _ _ _ rfl
  ·rw[if_pos hlt] at hsn
   refine aA ?_
   have hno:dX of (bJ c x.ext) shp0=none:=by
    rw[← List.take_append_drop (i+1) (bJ c x.ext)]
    refine nB ?_
    rw[htk]
    exact hsn
   refine gI (res':=.tup []) (H2:=BG (.lp L (bQ [iv k,iv c,iv b,iv st,.list 1 (inR sz),.list 1 (inR bl),.list 1 (inR pl),.list 8 (aS ty)] of cl) .done (some .ret))) [[(0,0)],[(1,0)],[(2,0)],[(3,0)]] (.inr rfl) rfl (.inr ⟨hno,rfl⟩) ?_ ?_ rfl rfl rfl
   ((all_goals (repeat' (first | exact aE.nil | exact aB.nil | exact aF.nil | exact ToL.nil | exact ToR.nil | refine aE.cons ?_ ?_ | refine aB.cons ?_ ?_ | refine aP ?_ ?_ | exact To.undef _ | exact To.sc _ | exact To.hslL rfl rfl | exact To.asl _ _ _ _ _ _ _ rfl | refine To.ifc _ _ _ ?_ | exact To.ptrO rfl rfl rfl | exact To.mrefO rfl | exact To.nil rfl rfl rfl | exact wt1 | exact To.nilL | refine To.int ?_ | refine To.bool ?_ | refine To.hslL rfl ?_ | refine wt2 rfl ?_ ?_ ?_ | refine To.tupL ?_ | refine To.aggL ?_ | refine To.cptrL ?_ | refine To.fzp rfl rfl rfl ?_ | refine To.fzm rfl rfl ?_ | refine To.cloL ?_ ?_ | refine wt3 ?_ | refine wt4 ?_ | exact wt5 | refine wt6 ?_ | refine ToB.one ?_ | exact wt7 | ((with_reducible apply ToL.consE); case e9=>rfl) | refine wt8 ?_ | refine ToL.cons ?_ ?_ | exact wt11 | refine wt9 ?_ ?_ | refine wt12 ?_ | (with_reducible rfl) | assumption)); all_goals (first | rfl | assumption | (simp; done) | (simp; omega) | (rw[wrap_small (by omega) (by omega)]; done) | (rw[wrap_small (by omega) (by omega)]; omega) | (refine congrArg Nat.cast ?_; assumption) | skip)))
   all_goals first | exact hlp _ _ _ _ rfl rfl rfl | exact .dead _
 ·obtain rfl:N=i:=by omega
  rw[← hlen,List.take_length] at hm
  refine aA ?_
  refine gI (res':=.tup []) (H2:=putK s.es s.lo s.hi (.lp L (bQ [iv k,iv c,iv b,iv st,.list 1 (inR sz),.list 1 (inR bl),.list 1 (inR pl),.list 8 (aS ty)] of cl) .ready none)) [[(0,0)],[(1,0)],[(2,0)],[(3,0)],[(4,0)]] (.inl rfl) rfl (.inl ⟨s,hm,hs,rfl⟩) ?_ ?_ rfl rfl rfl
  ((all_goals (repeat' (first | exact aE.nil | exact aB.nil | exact aF.nil | exact ToL.nil | exact ToR.nil | refine aE.cons ?_ ?_ | refine aB.cons ?_ ?_ | refine aP ?_ ?_ | exact To.undef _ | exact To.sc _ | exact To.hslL rfl rfl | exact To.asl _ _ _ _ _ _ _ rfl | refine To.ifc _ _ _ ?_ | exact To.ptrO rfl rfl rfl | exact To.mrefO rfl | exact To.nil rfl rfl rfl | exact wt1 | exact To.nilL | refine To.int ?_ | refine To.bool ?_ | refine To.hslL rfl ?_ | refine wt2 rfl ?_ ?_ ?_ | refine To.tupL ?_ | refine To.aggL ?_ | refine To.cptrL ?_ | refine To.fzp rfl rfl rfl ?_ | refine To.fzm rfl rfl ?_ | refine To.cloL ?_ ?_ | refine wt3 ?_ | refine wt4 ?_ | exact wt5 | refine wt6 ?_ | refine ToB.one ?_ | exact wt7 | ((with_reducible apply ToL.consE); case e9=>rfl) | refine wt8 ?_ | refine ToL.cons ?_ ?_ | exact wt11 | refine wt9 ?_ ?_ | refine wt12 ?_ | (with_reducible rfl) | assumption)); all_goals (first | rfl | assumption | (simp; done) | (simp; omega) | (rw[wrap_small (by omega) (by omega)]; done) | (rw[wrap_small (by omega) (by omega)]; omega) | (refine congrArg Nat.cast ?_; assumption) | skip)))
  all_goals first | exact hlp _ _ _ _ rfl rfl rfl | exact .dead _
def bX {α:Type} (f:Nat→List α) (i j:Nat):List α:=(List.range i).flatMap f++(f i).take j
theorem dW {α:Type} {f:Nat→List α} {i j:Nat} {m:α} (h:(f i)[j]?=some m):bX f i (j+1)=bX f i j++[m]:=by
 unfold bX
 rw[List.take_add_one,h,List.append_assoc]
 rfl
theorem fF {α:Type} {f:Nat→List α} {i j:Nat} (h:(f i).length=j):bX f i j=bX f (i+1) 0:=by
 unfold bX
 rw[← h,List.take_length,List.range_succ,List.flatMap_append]
 simp
theorem gT {α:Type} {f:Nat→List α} {n:Nat}:(List.range n).flatMap f=bX f n 0:=by simp[bX]
theorem gD {α:Type} {f:Nat→List α}:bX f 0 0=[]:=by simp[bX]
theorem nP {α:Type} {f:Nat→List α} {n i j:Nat} (h:i < n):∃ r,(List.range n).flatMap f=bX f i j++r:=by
 obtain⟨q,rfl⟩:∃ q,n=i+1+q:=⟨n - (i+1),by omega⟩
 refine⟨(f i).drop j++((List.range q).map (i+1+·)).flatMap f,?_⟩
 unfold bX
 rw[List.range_add,List.flatMap_append,List.range_succ,List.flatMap_append]
 simp only[List.append_assoc,List.flatMap_cons,List.flatMap_nil,List.append_nil]
 rw[← List.append_assoc ((f i).take j),List.take_append_drop]
theorem mS {L:LC} {tc:List AV} {of:List Shp} {c:AV} {xs p:List (Int×Int)} (ht:PR tc) (hc:PV c) (hL:LOK Tryz.prog F165.n L [28,29] (rfA fQ) (rfB fQ)) {s:Shp} (at':List Int) {k:Nat} {by':Int} {x:Shp} (hk:of[k]?=some x) (hof:shB x) (hs:stB s)
  (h1:-1200000000000000000≤by') (h2:by'≤1200000000000000000) (hm:dX of p shp0=some s) (hall:∃ r,xs=(p++[((k:Int),by')])++r):
  cW Tryz.prog 3 0 [iv k,iv by'] (jE s.es s.lo s.hi (.lp L (bQ tc of c) .ready none) at') fun b H'=>
   (b=true∧∃ s',dX of (p++[((k:Int),by')]) shp0=some s'∧stB s'∧H'=J8 s'.es s'.lo s'.hi (.lp L (bQ tc of c) .ready none) at')∨(b=false∧dX of xs shp0=none∧∃ b2 b3,H'=putD (.lp L (bQ tc of c) .done (some .ret)) b2 b3 at'):=by
 refine(vR ht hc hL s at' k by' x hk hof hs h1 h2).mono ?_
 have hsn:=nK ((k:Int),by') hm
 rw[show((k:Int),by').1.toNat=k from rfl,show of.getD k shp0=x by rw[List.getD_eq_getElem?_getD,hk]; rfl] at hsn
 rintro b' H' (⟨rfl,hle,rfl⟩ | ⟨rfl,hlt,b2',b3',rfl⟩)
 ·rw[if_neg (by omega)] at hsn
  exact .inl ⟨rfl,_,hsn,zQ hs hof h1 h2 hle,rfl⟩
 ·rw[if_pos hlt] at hsn
  obtain⟨r,hr⟩:=hall
  exact .inr ⟨rfl,by rw[hr]; exact nB hsn,_,_,rfl⟩
variable {L:LC} {of:List Shp} {cl:AV} {k c b st:Int} {sz bl pl:List Int} {ty:List Ty}
set_option maxHeartbeats 1000000 in
theorem BC (hc:PV cl) (hL:LOK Tryz.prog F165.n L [28,29] (rfA fQ) (rfB fQ)) {x:Shp} (h0:of[0]?=some x) (hof:shB x) (hc1:1≤c) (hcc:c≤4096) (hb1:1≤b) (hbb:b≤4096) (hs1:-mP≤st) (hs2:st≤mP):
  aH Tryz.prog 205 [.yld 3 0,.cptr [iv k,iv c,iv b,iv st,.list 1 (inR sz),.list 1 (inR bl),.list 1 (inR pl),.list 8 (aS ty)],.cptr [.list 3 (ofR of)]] (B6 (.lp L (bQ [iv k,iv c,iv b,iv st,.list 1 (inR sz),.list 1 (inR bl),.list 1 (inR pl),.list 8 (aS ty)] of cl) .ready none)) fun _ H'=>mZ L [iv k,iv c,iv b,iv st,.list 1 (inR sz),.list 1 (inR bl),.list 1 (inR pl),.list 8 (aS ty)] of cl (iB c b st x.ext) H':=by
 have ht:PR [iv k,iv c,iv b,iv st,.list 1 (inR sz),.list 1 (inR bl),.list 1 (inR pl),.list 8 (aS ty)]:=⟨pr _⟩
 have hlp:∀(T:AV→AV→Prop) (ρ:Nat→Nat→Option (Nat×Nat)) (st':LoopState) (pe:Option Code),ρ 0 0=some (0,0)→ρ 1 0=some (1,0)→ρ 2 0=some (2,0)→ToB T ρ (.lp L (bQ [iv k,iv c,iv b,iv st,.list 1 (inR sz),.list 1 (inR bl),.list 1 (inR pl),.list 8 (aS ty)] of cl) st' pe) (.lp L (bQ [iv k,iv c,iv b,iv st,.list 1 (inR sz),.list 1 (inR bl),.list 1 (inR pl),.list 8 (aS ty)] of cl) st' pe):=fun T ρ st' pe=>nN ht hc
 have hr0:d6 (ofR of) ((0:Nat):Int)=some [.list 2 (enR x.es),iv x.lo,iv x.hi]:=by
  obtain⟨h,rfl⟩:=gEs.1 h0
  exact kP of 0 h
 have hx:=hof
 obtain⟨b1,b2,b3,b4,b5,b6,_⟩:=hx
 unfold mP at b1 b2 b3 b4 b5 b6 hs1 hs2
 have he:aC Tryz.prog 73 [.agg [.list 2 (enR x.es),iv x.lo,iv x.hi]] (iv x.ext):=dO x (by omega) (by omega) (by omega) (by omega)
 obtain⟨N,rfl⟩:∃ N:Nat,c=N:=⟨c.toNat,by omega⟩
 obtain⟨M,rfl⟩:∃ M:Nat,b=M:=⟨b.toNat,by omega⟩
 obtain⟨f,hf⟩:∃ f:Nat→List (Int×Int),f=fun i:Nat=>(List.range M).map fun j:Nat=>(0,((i:Int) * st+j) * x.ext):=⟨_,rfl⟩
 have hxs:iB N M st x.ext=(List.range N).flatMap f:=by unfold iB; rw[hf]; rfl
 have hfl:∀ i,(f i).length=M:=fun i=>by rw[hf]; simp
 have hfg:∀ i j,j < M→(f i)[j]?=some (0,((i:Int) * st+j) * x.ext):=fun i j hj=>by
  rw[hf]
  simp[hj]
 rw[hxs]
 refine aH.of I6 ?_ (nlB rfl)
 refine aA ?_
 refine AWP.loop2 (fun(i:Nat) (_:Shp)=>[(0,.yld 3 0),(1,.cptr [iv k,iv N,iv M,iv st,.list 1 (inR sz),.list 1 (inR bl),.list 1 (inR pl),.list 8 (aS ty)]),(2,.cptr [.list 3 (ofR of)]),(7,iv N),(8,iv i)]) (fun _ s=>jE s.es s.lo s.hi (.lp L (bQ [iv k,iv N,iv M,iv st,.list 1 (inR sz),.list 1 (inR bl),.list 1 (inR pl),.list 8 (aS ty)] of cl) .ready none) []) (fun i s=>i≤N∧stB s∧dX of (bX f i 0) shp0=some s) (fun i _=>N - i) 0 shp0 ⟨Nat.zero_le _,v4,by rw[gD]; rfl⟩ ?_ ?_
 ·(apply Sub.to [2,1] [[(0,0)],[(1,0)],[(2,0)],[(3,0)],[(4,0)],[(5,0)]]; all_goals (repeat' (first | exact aE.nil | exact aB.nil | exact aF.nil | exact ToL.nil | exact ToR.nil | refine aE.cons ?_ ?_ | refine aB.cons ?_ ?_ | refine aP ?_ ?_ | exact To.undef _ | exact To.sc _ | exact To.hslL rfl rfl | exact To.asl _ _ _ _ _ _ _ rfl | refine To.ifc _ _ _ ?_ | exact To.ptrO rfl rfl rfl | exact To.mrefO rfl | exact To.nil rfl rfl rfl | exact wt1 | exact To.nilL | refine To.int ?_ | refine To.bool ?_ | refine To.hslL rfl ?_ | refine wt2 rfl ?_ ?_ ?_ | refine To.tupL ?_ | refine To.aggL ?_ | refine To.cptrL ?_ | refine To.fzp rfl rfl rfl ?_ | refine To.fzm rfl rfl ?_ | refine To.cloL ?_ ?_ | refine wt3 ?_ | refine wt4 ?_ | exact wt5 | refine wt6 ?_ | refine ToB.one ?_ | exact wt7 | ((with_reducible apply ToL.consE); case e9=>rfl) | refine wt8 ?_ | refine ToL.cons ?_ ?_ | exact wt11 | refine wt9 ?_ ?_ | refine wt12 ?_ | (with_reducible rfl) | assumption)); all_goals (first | rfl | assumption | (simp; done) | (simp; omega) | (rw[wrap_small (by omega) (by omega)]; done) | (rw[wrap_small (by omega) (by omega)]; omega) | (refine congrArg Nat.cast ?_; assumption) | skip))
  all_goals first | exact hlp _ _ _ _ rfl rfl rfl | exact .yld _ _ _ _ rfl | exact .dead _
 rintro i s0 ⟨hi,hs0,hm0⟩
 refine cK ?_
 refine AWP.condN (i < N) rfl rfl (fun h=>?_) (fun h=>?_)
 ·refine cK ?_
  refine AWP.loop2 (fun(j:Nat) (_:Shp)=>[(0,.yld 3 0),(1,.cptr [iv k,iv N,iv M,iv st,.list 1 (inR sz),.list 1 (inR bl),.list 1 (inR pl),.list 8 (aS ty)]),(2,.cptr [.list 3 (ofR of)]),(4,iv i),(7,iv N),(8,iv i),(12,iv M),(13,iv j)]) (fun _ s=>jE s.es s.lo s.hi (.lp L (bQ [iv k,iv N,iv M,iv st,.list 1 (inR sz),.list 1 (inR bl),.list 1 (inR pl),.list 8 (aS ty)] of cl) .ready none) []) (fun j s=>j≤M∧stB s∧dX of (bX f i j) shp0=some s) (fun j _=>M - j) 0 s0 ⟨Nat.zero_le _,hs0,hm0⟩ ?_ ?_
  ·(apply Sub.to [] [[(0,0)],[(1,0)],[(2,0)],[(3,0)],[(4,0)],[(5,0)]]; all_goals (repeat' (first | exact aE.nil | exact aB.nil | exact aF.nil | exact ToL.nil | exact ToR.nil | refine aE.cons ?_ ?_ | refine aB.cons ?_ ?_ | refine aP ?_ ?_ | exact To.undef _ | exact To.sc _ | exact To.hslL rfl rfl | exact To.asl _ _ _ _ _ _ _ rfl | refine To.ifc _ _ _ ?_ | exact To.ptrO rfl rfl rfl | exact To.mrefO rfl | exact To.nil rfl rfl rfl | exact wt1 | exact To.nilL | refine To.int ?_ | refine To.bool ?_ | refine To.hslL rfl ?_ | refine wt2 rfl ?_ ?_ ?_ | refine To.tupL ?_ | refine To.aggL ?_ | refine To.cptrL ?_ | refine To.fzp rfl rfl rfl ?_ | refine To.fzm rfl rfl ?_ | refine To.cloL ?_ ?_ | refine wt3 ?_ | refine wt4 ?_ | exact wt5 | refine wt6 ?_ | refine ToB.one ?_ | exact wt7 | ((with_reducible apply ToL.consE); case e9=>rfl) | refine wt8 ?_ | refine ToL.cons ?_ ?_ | exact wt11 | refine wt9 ?_ ?_ | refine wt12 ?_ | (with_reducible rfl) | assumption)); all_goals (first | rfl | assumption | (simp; done) | (simp; omega) | (rw[wrap_small (by omega) (by omega)]; done) | (rw[wrap_small (by omega) (by omega)]; omega) | (refine congrArg Nat.cast ?_; assumption) | skip))
   all_goals first | exact hlp _ _ _ _ rfl rfl rfl | exact .yld _ _ _ _ rfl | exact .dead _
  rintro j s ⟨hj,hs,hm⟩
  refine cK ?_
  refine AWP.condN (j < M) rfl rfl (fun h2=>?_) (fun h2=>?_)
  ·refine cK ?_
   have hw1:=qK (a:=(i:Int)) (b:=st) (A:=4096) (B:=1048576) (by omega) (by omega) hs1 hs2
   have hw2:=qK (a:=(i:Int) * st+j) (b:=x.ext) (A:=4294971392) (B:=1048576) (by omega) (by omega) b5 b6
   refine AWP.dky 12 [(0,.yld 3 0),(1,.cptr [iv k,iv N,iv M,iv st,.list 1 (inR sz),.list 1 (inR bl),.list 1 (inR pl),.list 8 (aS ty)]),(2,.cptr [.list 3 (ofR of)]),(4,iv i),(7,iv N),(8,iv i),(12,iv M),(13,iv j),(16,.yld 3 0),(27,iv (((i:Int) * st+j) * x.ext))] (jE s.es s.lo s.hi (.lp L (bQ [iv k,iv N,iv M,iv st,.list 1 (inR sz),.list 1 (inR bl),.list 1 (inR pl),.list 8 (aS ty)] of cl) .ready none) []) sL rfl rfl (by kernel_rfl) (by kernel_rfl) (by kernel_rfl) ?_ ?_
   ·refine aA ?_
    rw[Av.wrap_small (show -9223372036854775808≤(i:Int) * st by omega) (by omega)]
    refine aA ?_
    refine DK.nil ⟨by kernel_rfl,?_⟩
    (apply Sub.to [] [[(0,0)],[(1,0)],[(2,0)],[(3,0)],[(4,0)],[(5,0)]]; all_goals (repeat' (first | exact aE.nil | exact aB.nil | exact aF.nil | exact ToL.nil | exact ToR.nil | refine aE.cons ?_ ?_ | refine aB.cons ?_ ?_ | refine aP ?_ ?_ | exact To.undef _ | exact To.sc _ | exact To.hslL rfl rfl | exact To.asl _ _ _ _ _ _ _ rfl | refine To.ifc _ _ _ ?_ | exact To.ptrO rfl rfl rfl | exact To.mrefO rfl | exact To.nil rfl rfl rfl | exact wt1 | exact To.nilL | refine To.int ?_ | refine To.bool ?_ | refine To.hslL rfl ?_ | refine wt2 rfl ?_ ?_ ?_ | refine To.tupL ?_ | refine To.aggL ?_ | refine To.cptrL ?_ | refine To.fzp rfl rfl rfl ?_ | refine To.fzm rfl rfl ?_ | refine To.cloL ?_ ?_ | refine wt3 ?_ | refine wt4 ?_ | exact wt5 | refine wt6 ?_ | refine ToB.one ?_ | exact wt7 | ((with_reducible apply ToL.consE); case e9=>rfl) | refine wt8 ?_ | refine ToL.cons ?_ ?_ | exact wt11 | refine wt9 ?_ ?_ | refine wt12 ?_ | (with_reducible rfl) | assumption)); all_goals (first | rfl | assumption | (simp; done) | (simp; omega) | (rw[wrap_small (by omega) (by omega)]; done) | (rw[wrap_small (by omega) (by omega)]; omega) | (refine congrArg Nat.cast ?_; assumption) | skip))
    all_goals first | exact hlp _ _ _ _ rfl rfl rfl | exact .yld _ _ _ _ rfl | (rw[Av.wrap_small (show -9223372036854775808≤(i:Int) * st+j by omega) (by omega),Av.wrap_small (by omega) (by omega)])
   ·refine⟨rfl,nlB rfl,3,0,rfl,?_⟩
    refine(mS (xs:=(List.range N).flatMap f) (k:=0) ht hc hL [] h0 hof hs (by omega) (by omega) hm ?_).mono ?_
    ·obtain⟨r,hr⟩:=nP (f:=f) (j:=j+1) h
     exact⟨r,by rw[hr,dW (hfg i j h2)]; rfl⟩
    rintro b' H' (⟨rfl,s',hm',hs',rfl⟩ | ⟨rfl,hno,b2',b3',rfl⟩)
    ·refine aA ?_
     refine DK.nil ⟨by kernel_rfl,?_⟩
     refine aA ?_
     refine⟨j+1,s',⟨by omega,hs',by rw[dW (hfg i j h2)]; exact hm'⟩,by omega,?_⟩
     (apply Sub.to [] [[(0,0)],[(1,0)],[(2,0)],[(3,0)],[(6,0)],[(5,0)]]; all_goals (repeat' (first | exact aE.nil | exact aB.nil | exact aF.nil | exact ToL.nil | exact ToR.nil | refine aE.cons ?_ ?_ | refine aB.cons ?_ ?_ | refine aP ?_ ?_ | exact To.undef _ | exact To.sc _ | exact To.hslL rfl rfl | exact To.asl _ _ _ _ _ _ _ rfl | refine To.ifc _ _ _ ?_ | exact To.ptrO rfl rfl rfl | exact To.mrefO rfl | exact To.nil rfl rfl rfl | exact wt1 | exact To.nilL | refine To.int ?_ | refine To.bool ?_ | refine To.hslL rfl ?_ | refine wt2 rfl ?_ ?_ ?_ | refine To.tupL ?_ | refine To.aggL ?_ | refine To.cptrL ?_ | refine To.fzp rfl rfl rfl ?_ | refine To.fzm rfl rfl ?_ | refine To.cloL ?_ ?_ | refine wt3 ?_ | refine wt4 ?_ | exact wt5 | refine wt6 ?_ | refine ToB.one ?_ | exact wt7 | ((with_reducible apply ToL.consE); case e9=>rfl) | refine wt8 ?_ | refine ToL.cons ?_ ?_ | exact wt11 | refine wt9 ?_ ?_ | refine wt12 ?_ | (with_reducible rfl) | assumption)); all_goals (first | rfl | assumption | (simp; done) | (simp; omega) | (rw[wrap_small (by omega) (by omega)]; done) | (rw[wrap_small (by omega) (by omega)]; omega) | (refine congrArg Nat.cast ?_; assumption) | skip))
     all_goals first | exact hlp _ _ _ _ rfl rfl rfl | exact .yld _ _ _ _ rfl | exact .dead _
    ·refine aA ?_
     refine DK.nil ⟨by kernel_rfl,?_⟩
     refine aA ?_
     refine gI (res':=.tup []) (H2:=BG (.lp L (bQ [iv k,iv N,iv M,iv st,.list 1 (inR sz),.list 1 (inR bl),.list 1 (inR pl),.list 8 (aS ty)] of cl) .done (some .ret))) [[(0,0)],[(1,0)],[(2,0)],[(3,0)]] (.inr rfl) rfl (.inr ⟨hno,rfl⟩) ?_ ?_ rfl rfl rfl
     ((all_goals (repeat' (first | exact aE.nil | exact aB.nil | exact aF.nil | exact ToL.nil | exact ToR.nil | refine aE.cons ?_ ?_ | refine aB.cons ?_ ?_ | refine aP ?_ ?_ | exact To.undef _ | exact To.sc _ | exact To.hslL rfl rfl | exact To.asl _ _ _ _ _ _ _ rfl | refine To.ifc _ _ _ ?_ | exact To.ptrO rfl rfl rfl | exact To.mrefO rfl | exact To.nil rfl rfl rfl | exact wt1 | exact To.nilL | refine To.int ?_ | refine To.bool ?_ | refine To.hslL rfl ?_ | refine wt2 rfl ?_ ?_ ?_ | refine To.tupL ?_ | refine To.aggL ?_ | refine To.cptrL ?_ | refine To.fzp rfl rfl rfl ?_ | refine To.fzm rfl rfl ?_ | refine To.cloL ?_ ?_ | refine wt3 ?_ | refine wt4 ?_ | exact wt5 | refine wt6 ?_ | refine ToB.one ?_ | exact wt7 | ((with_reducible apply ToL.consE); case e9=>rfl) | refine wt8 ?_ | refine ToL.cons ?_ ?_ | exact wt11 | refine wt9 ?_ ?_ | refine wt12 ?_ | (with_reducible rfl) | assumption)); all_goals (first | rfl | assumption | (simp; done) | (simp; omega) | (rw[wrap_small (by omega) (by omega)]; done) | (rw[wrap_small (by omega) (by omega)]; omega) | (refine congrArg Nat.cast ?_; assumption) | skip)))
     all_goals first | exact hlp _ _ _ _ rfl rfl rfl | exact .yld _ _ _ _ rfl | exact .dead _
  ·obtain rfl:M=j:=by omega
   refine aA ?_
   refine⟨i+1,s,⟨by omega,hs,by rw[← fF (hfl i)]; exact hm⟩,by omega,?_⟩
   (apply Sub.to [] [[(0,0)],[(1,0)],[(2,0)],[(3,0)],[(4,0)],[(5,0)]]; all_goals (repeat' (first | exact aE.nil | exact aB.nil | exact aF.nil | exact ToL.nil | exact ToR.nil | refine aE.cons ?_ ?_ | refine aB.cons ?_ ?_ | refine aP ?_ ?_ | exact To.undef _ | exact To.sc _ | exact To.hslL rfl rfl | exact To.asl _ _ _ _ _ _ _ rfl | refine To.ifc _ _ _ ?_ | exact To.ptrO rfl rfl rfl | exact To.mrefO rfl | exact To.nil rfl rfl rfl | exact wt1 | exact To.nilL | refine To.int ?_ | refine To.bool ?_ | refine To.hslL rfl ?_ | refine wt2 rfl ?_ ?_ ?_ | refine To.tupL ?_ | refine To.aggL ?_ | refine To.cptrL ?_ | refine To.fzp rfl rfl rfl ?_ | refine To.fzm rfl rfl ?_ | refine To.cloL ?_ ?_ | refine wt3 ?_ | refine wt4 ?_ | exact wt5 | refine wt6 ?_ | refine ToB.one ?_ | exact wt7 | ((with_reducible apply ToL.consE); case e9=>rfl) | refine wt8 ?_ | refine ToL.cons ?_ ?_ | exact wt11 | refine wt9 ?_ ?_ | refine wt12 ?_ | (with_reducible rfl) | assumption)); all_goals (first | rfl | assumption | (simp; done) | (simp; omega) | (rw[wrap_small (by omega) (by omega)]; done) | (rw[wrap_small (by omega) (by omega)]; omega) | (refine congrArg Nat.cast ?_; assumption) | skip))
   all_goals first | exact hlp _ _ _ _ rfl rfl rfl | exact .yld _ _ _ _ rfl | exact .dead _
 ·obtain rfl:N=i:=by omega
  rw[← gT] at hm0
  refine aA ?_
  refine gI (res':=.tup []) (H2:=putK s0.es s0.lo s0.hi (.lp L (bQ [iv k,iv N,iv M,iv st,.list 1 (inR sz),.list 1 (inR bl),.list 1 (inR pl),.list 8 (aS ty)] of cl) .ready none)) [[(0,0)],[(1,0)],[(2,0)],[(3,0)],[(4,0)]] (.inl rfl) rfl (.inl ⟨s0,hm0,hs0,rfl⟩) ?_ ?_ rfl rfl rfl
  ((all_goals (repeat' (first | exact aE.nil | exact aB.nil | exact aF.nil | exact ToL.nil | exact ToR.nil | refine aE.cons ?_ ?_ | refine aB.cons ?_ ?_ | refine aP ?_ ?_ | exact To.undef _ | exact To.sc _ | exact To.hslL rfl rfl | exact To.asl _ _ _ _ _ _ _ rfl | refine To.ifc _ _ _ ?_ | exact To.ptrO rfl rfl rfl | exact To.mrefO rfl | exact To.nil rfl rfl rfl | exact wt1 | exact To.nilL | refine To.int ?_ | refine To.bool ?_ | refine To.hslL rfl ?_ | refine wt2 rfl ?_ ?_ ?_ | refine To.tupL ?_ | refine To.aggL ?_ | refine To.cptrL ?_ | refine To.fzp rfl rfl rfl ?_ | refine To.fzm rfl rfl ?_ | refine To.cloL ?_ ?_ | refine wt3 ?_ | refine wt4 ?_ | exact wt5 | refine wt6 ?_ | refine ToB.one ?_ | exact wt7 | ((with_reducible apply ToL.consE); case e9=>rfl) | refine wt8 ?_ | refine ToL.cons ?_ ?_ | exact wt11 | refine wt9 ?_ ?_ | refine wt12 ?_ | (with_reducible rfl) | assumption)); all_goals (first | rfl | assumption | (simp; done) | (simp; omega) | (rw[wrap_small (by omega) (by omega)]; done) | (rw[wrap_small (by omega) (by omega)]; omega) | (refine congrArg Nat.cast ?_; assumption) | skip)))
  all_goals first | exact hlp _ _ _ _ rfl rfl rfl | exact .yld _ _ _ _ rfl | exact .dead _
end Go.Proofs.YtgdocflpobncmaaGreat
