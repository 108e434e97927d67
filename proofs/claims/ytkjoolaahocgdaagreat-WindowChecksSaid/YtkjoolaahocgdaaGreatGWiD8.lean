import Derived.Test.YtkjoolaahocgdaaGreatGWiD1
import Derived.Test.YtkjoolaahocgdaaGreatGWiL
namespace Go.Proofs.YtkjoolaahocgdaaGreat
open Go.Av Go.Proofs
set_option maxRecDepth 20000
theorem loc_ok (k:Int):PureRun Tryz.prog 74 [.sc (.int .i64 k)] (.sc (.bool (decide (k=6∨k=7)))):=by
 refine PureRun.mkI cF74 (nlB rfl) ?_
 refine walkX ?_
 by_cases h:k=6
 ·rw[show(k == 6)=true by simpa using h,dTr (.inl h)]
  refine walkX ?_
  exact EndP.w
 ·rw[show(k == 6)=false by simpa using h]
  refine walkX ?_
  rw[show(k == 7)=decide (k=6∨k=7) from(by simp only[h,false_or]; rfl)]
  exact EndP.w
theorem rem_ok (k:Int):PureRun Tryz.prog 75 [.sc (.int .i64 k)] (.sc (.bool (isRem k))):=by
 refine PureRun.mkI cF75 (nlB rfl) ?_
 unfold isRem
 refine walkX ?_
 by_cases h:k≥1
 ·rw[dTr h]
  refine walkX ?_
  rw[show decide (k≤5)=decide (1≤k∧k≤5) by simp only[decide_eq_decide]; omega]
  exact EndP.w
 ·rw[dFa h,dFa (by omega)]
  refine walkX ?_
  exact EndP.w
def grpD (n r:Nat) (g:List Int):Int:=if g.length=0 then 2 else grpE n r [] g
set_option maxHeartbeats 4000000 in
theorem group_ok (p:Pg) (r:Nat) (g:List Int) (hg:g.length≤9223372036854775807):PureRun Tryz.prog 78 [progV p,.sc (.int .i64 (r:Int)),.list 1 (intsR g)] (.sc (.int .i64 (grpD p.acts.length r g))):=by
 refine PureRun.mkI cF78 (nlB rfl) ?_
 have e0:=progR_len p.acts
 have e1:=intsR_len g
 unfold progV grpD
 refine walkX ?_
 rw[e1]
 by_cases h0:g.length=0
 ·rw[if_pos h0,dTr h0]
  refine walkX ?_
  exact EndP.w
 rw[if_neg h0,dFa h0]
 refine walkX ?_
 refine AWP.loop (fun k:Nat=>[(1,.sc (.int .i64 (r:Int))),(2,.list 1 (intsR g)),(3,.cptr [.sc (.int .i64 p.cells),.list 1 (progR p.acts)]),(7,.sc (.int .i64 (k:Int)))]) (fun _=>[]) (fun k=>k≤g.length∧grpE p.acts.length r (g.take k) (g.drop k)=grpE p.acts.length r [] g) (fun k=>g.length - k) 0 ⟨Nat.zero_le _,rfl⟩ ?_ ?_
 ·exact Sub.w [] []
 rintro k ⟨hk,hb⟩
 refine walkX ?_
 rw[e1]
 refine walkX ?_
 refine AWP.condD rfl (fun h=>?_) (fun h=>?_)
 ·have hr:=intsR_ix g k h
  have hd:=grpE_drop (n:=p.acts.length) (r:=r) h
  have hcn:=has_ok (g.take k) g[k] (by rw[List.length_take]; omega)
  rw[hb] at hd
  rw[hd]
  generalize g[k]=b at *
  refine walkX ?_
  by_cases q1:b < 0
  ·rw[dTr q1,if_pos (.inl q1)]
   refine walkX ?_
   refine DK.nil ⟨by kernel_rfl,?_⟩
   refine walkX ?_
   exact EndP.w
  rw[dFa q1]
  refine walkX ?_
  rw[e0]
  by_cases q2:(p.acts.length:Int)≤b
  ·rw[show decide (b≥(p.acts.length:Int))=true from dTr q2,if_pos (.inr (.inl q2))]
   refine walkX ?_
   refine DK.nil ⟨by kernel_rfl,?_⟩
   refine walkX ?_
   exact EndP.w
  rw[show decide (b≥(p.acts.length:Int))=false from dFa q2]
  refine walkX ?_
  by_cases q3:b=(r:Int)
  ·rw[show(b == (r:Int))=true by simpa using q3,if_pos (.inr (.inr q3))]
   refine walkX ?_
   refine DK.nil ⟨by kernel_rfl,?_⟩
   refine walkX ?_
   exact EndP.w
  rw[show(b == (r:Int))=false by simpa using q3,if_neg (by omega)]
  refine walkX ?_
  refine DK.nil ⟨by kernel_rfl,?_⟩
  refine walkX ?_
  refine DK.o rfl (dstep_cutL (rows':=intsR (g.take k)) rfl rfl (by omega) (intsR_take _ _)) ?_
  refine walkX ?_
  refine DK.nil ⟨by kernel_rfl,?_⟩
  refine walkX ?_
  by_cases q4:b∈g.take k
  ·rw[dTr q4,if_pos q4]
   refine walkX ?_
   exact EndP.w
  ·rw[dFa q4,if_neg q4]
   refine walkX ?_
   refine⟨k+1,⟨by omega,rfl⟩,by omega,?_⟩
   exact Sub.w [] []
 ·have hk2:k=g.length:=by omega
  subst hk2
  rw[List.drop_length] at hb
  rw[← hb]
  unfold grpE
  refine walkX ?_
  exact EndP.w
set_option linter.unusedSimpArgs false
def fieldsD (p:Pg) (r:Nat) (x:Act):Int:=if ¬ (1≤x.k∧x.k≤16) then 2 else fieldsE p r x
theorem fieldsD_eq {p:Pg} {r:Nat} {x:Act} {b1 b2 b3 b4:Bool} (hk:1≤x.k∧x.k≤16) (h1:((1≤x.k∧x.k≤5)∨13≤x.k)↔b1=true) (h2:(1≤x.k∧x.k≤7)↔b2=true) (h3:(x.k=3∨x.k=4)↔b3=true) (h4:(x.k=9∨x.k=10)↔b4=true):fieldsD p r x=fieldsB p.acts.length p.cells r b1 b2 b3 b4 x:=by
 unfold fieldsD fieldsE
 rw[if_neg (Decidable.not_not.2 hk)]
 rw[show hasRank x.k=b1 from Bool.eq_iff_iff.2 (by unfold hasRank; rw[decide_eq_true_iff]; exact h1),show hasAt x.k=b2 from Bool.eq_iff_iff.2 (by unfold hasAt; rw[decide_eq_true_iff]; exact h2),
  show hasOp x.k=b3 from Bool.eq_iff_iff.2 (by unfold hasOp; rw[decide_eq_true_iff]; exact h3),show hasGrp x.k=b4 from Bool.eq_iff_iff.2 (by unfold hasGrp; rw[decide_eq_true_iff]; exact h4)]
set_option maxHeartbeats 8000000 in
theorem fields2_ok (p:Pg) (r:Nat) (x:Act) (hg:x.g.length≤9223372036854775807):PureRun Tryz.prog 50 [progV p,.sc (.int .i64 (r:Int)),.agg (actR x)] (.sc (.int .i64 (fieldsD p r x))):=by
 refine PureRun.mkI cF50 (nlB rfl) ?_
 have e0:=progR_len p.acts
 have hR:=rem_ok x.k
 have hL:=loc_ok x.k
 have hC:=rcheck_ok x.o 1
 have hG:=group_ok p r x.g hg
 unfold progV at hG
 unfold progV actR
 refine walkX ?_
 by_cases k1:x.k < 1
 ·rw[dTr k1]
  rw[show fieldsD p r x=2 from if_pos (by omega)]
  refine walkX ?_
  exact EndP.w
 rw[dFa k1]
 refine walkX ?_
 by_cases k2:x.k > 16
 ·rw[dTr k2]
  rw[show fieldsD p r x=2 from if_pos (by omega)]
  refine walkX ?_
  exact EndP.w
 rw[dFa k2]
 by_cases c:x.k=3
 ·rw[show isRem x.k=true from dTr (by omega)] at hR
  rw[show decide (x.k=6∨x.k=7)=false from dFa (by omega)] at hL
  have hF:=fieldsD_eq (p:=p) (r:=r) (x:=x) (b1:=true) (b2:=true) (b3:=true) (b4:=false) (by omega) (by simp only[iff_true,iff_false,Bool.false_eq_true]; omega) (by simp only[iff_true,iff_false,Bool.false_eq_true]; omega) (by simp only[iff_true,iff_false,Bool.false_eq_true]; omega) (by simp only[iff_true,iff_false,Bool.false_eq_true]; omega)
  unfold fieldsB at hF
  simp only[if_true,if_false,true_and,false_and,Bool.false_eq_true] at hF
  rw[hF]
  refine walkX ?_
  by_cases h1:x.r < 0
  ·rw[dTr h1,if_pos (.inl h1)]
   refine walkX ?_
   exact EndP.w
  rw[dFa h1]
  refine walkX ?_
  rw[e0]
  by_cases h2:x.r≥(p.acts.length:Int)
  ·rw[dTr h2,if_pos (.inr h2)]
   refine walkX ?_
   exact EndP.w
  rw[dFa h2,if_neg (by omega)]
  refine walkX ?_
  by_cases h3:x.a < 0
  ·rw[dTr h3,if_pos (.inl h3)]
   refine walkX ?_
   exact EndP.w
  rw[dFa h3]
  refine walkX ?_
  by_cases h4:x.a≥p.cells
  ·rw[dTr h4,if_pos (.inr h4)]
   refine walkX ?_
   exact EndP.w
  rw[dFa h4,if_neg (by omega)]
  refine walkX ?_
  rw[show(x.k == 3)=true from dTr (by omega)]
  refine walkX ?_
  exact EndP.w
 by_cases c:x.k=4
 ·rw[show isRem x.k=true from dTr (by omega)] at hR
  rw[show decide (x.k=6∨x.k=7)=false from dFa (by omega)] at hL
  have hF:=fieldsD_eq (p:=p) (r:=r) (x:=x) (b1:=true) (b2:=true) (b3:=true) (b4:=false) (by omega) (by simp only[iff_true,iff_false,Bool.false_eq_true]; omega) (by simp only[iff_true,iff_false,Bool.false_eq_true]; omega) (by simp only[iff_true,iff_false,Bool.false_eq_true]; omega) (by simp only[iff_true,iff_false,Bool.false_eq_true]; omega)
  unfold fieldsB at hF
  simp only[if_true,if_false,true_and,false_and,Bool.false_eq_true] at hF
  rw[hF]
  refine walkX ?_
  by_cases h1:x.r < 0
  ·rw[dTr h1,if_pos (.inl h1)]
   refine walkX ?_
   exact EndP.w
  rw[dFa h1]
  refine walkX ?_
  rw[e0]
  by_cases h2:x.r≥(p.acts.length:Int)
  ·rw[dTr h2,if_pos (.inr h2)]
   refine walkX ?_
   exact EndP.w
  rw[dFa h2,if_neg (by omega)]
  refine walkX ?_
  by_cases h3:x.a < 0
  ·rw[dTr h3,if_pos (.inl h3)]
   refine walkX ?_
   exact EndP.w
  rw[dFa h3]
  refine walkX ?_
  by_cases h4:x.a≥p.cells
  ·rw[dTr h4,if_pos (.inr h4)]
   refine walkX ?_
   exact EndP.w
  rw[dFa h4,if_neg (by omega)]
  refine walkX ?_
  rw[show(x.k == 3)=false from dFa (by omega)]
  refine walkX ?_
  rw[show(x.k == 4)=true from dTr (by omega)]
  refine walkX ?_
  exact EndP.w
 by_cases c:x.k≤5
 ·rw[show isRem x.k=true from dTr (by omega)] at hR
  rw[show decide (x.k=6∨x.k=7)=false from dFa (by omega)] at hL
  have hF:=fieldsD_eq (p:=p) (r:=r) (x:=x) (b1:=true) (b2:=true) (b3:=false) (b4:=false) (by omega) (by simp only[iff_true,iff_false,Bool.false_eq_true]; omega) (by simp only[iff_true,iff_false,Bool.false_eq_true]; omega) (by simp only[iff_true,iff_false,Bool.false_eq_true]; omega) (by simp only[iff_true,iff_false,Bool.false_eq_true]; omega)
  unfold fieldsB at hF
  simp only[if_true,if_false,true_and,false_and,Bool.false_eq_true] at hF
  rw[hF]
  refine walkX ?_
  by_cases h1:x.r < 0
  ·rw[dTr h1,if_pos (.inl h1)]
   refine walkX ?_
   exact EndP.w
  rw[dFa h1]
  refine walkX ?_
  rw[e0]
  by_cases h2:x.r≥(p.acts.length:Int)
  ·rw[dTr h2,if_pos (.inr h2)]
   refine walkX ?_
   exact EndP.w
  rw[dFa h2,if_neg (by omega)]
  refine walkX ?_
  by_cases h3:x.a < 0
  ·rw[dTr h3,if_pos (.inl h3)]
   refine walkX ?_
   exact EndP.w
  rw[dFa h3]
  refine walkX ?_
  by_cases h4:x.a≥p.cells
  ·rw[dTr h4,if_pos (.inr h4)]
   refine walkX ?_
   exact EndP.w
  rw[dFa h4,if_neg (by omega)]
  refine walkX ?_
  rw[show(x.k == 3)=false from dFa (by omega)]
  refine walkX ?_
  rw[show(x.k == 4)=false from dFa (by omega)]
  refine walkX ?_
  rw[show(x.k == 9)=false from dFa (by omega)]
  refine walkX ?_
  rw[show(x.k == 10)=false from dFa (by omega)]
  refine walkX ?_
  exact EndP.w
 by_cases c:x.k≤7
 ·rw[show isRem x.k=false from dFa (by omega)] at hR
  rw[show decide (x.k=6∨x.k=7)=true from dTr (by omega)] at hL
  have hF:=fieldsD_eq (p:=p) (r:=r) (x:=x) (b1:=false) (b2:=true) (b3:=false) (b4:=false) (by omega) (by simp only[iff_true,iff_false,Bool.false_eq_true]; omega) (by simp only[iff_true,iff_false,Bool.false_eq_true]; omega) (by simp only[iff_true,iff_false,Bool.false_eq_true]; omega) (by simp only[iff_true,iff_false,Bool.false_eq_true]; omega)
  unfold fieldsB at hF
  simp only[if_true,if_false,true_and,false_and,Bool.false_eq_true] at hF
  rw[hF]
  refine walkX ?_
  rw[show decide (x.k≥13)=false from dFa (by omega)]
  refine walkX ?_
  by_cases h3:x.a < 0
  ·rw[dTr h3,if_pos (.inl h3)]
   refine walkX ?_
   exact EndP.w
  rw[dFa h3]
  refine walkX ?_
  by_cases h4:x.a≥p.cells
  ·rw[dTr h4,if_pos (.inr h4)]
   refine walkX ?_
   exact EndP.w
  rw[dFa h4,if_neg (by omega)]
  refine walkX ?_
  rw[show(x.k == 3)=false from dFa (by omega)]
  refine walkX ?_
  rw[show(x.k == 4)=false from dFa (by omega)]
  refine walkX ?_
  rw[show(x.k == 9)=false from dFa (by omega)]
  refine walkX ?_
  rw[show(x.k == 10)=false from dFa (by omega)]
  refine walkX ?_
  exact EndP.w
 by_cases c:x.k=9
 ·rw[show isRem x.k=false from dFa (by omega)] at hR
  rw[show decide (x.k=6∨x.k=7)=false from dFa (by omega)] at hL
  have hF:=fieldsD_eq (p:=p) (r:=r) (x:=x) (b1:=false) (b2:=false) (b3:=false) (b4:=true) (by omega) (by simp only[iff_true,iff_false,Bool.false_eq_true]; omega) (by simp only[iff_true,iff_false,Bool.false_eq_true]; omega) (by simp only[iff_true,iff_false,Bool.false_eq_true]; omega) (by simp only[iff_true,iff_false,Bool.false_eq_true]; omega)
  unfold fieldsB at hF
  simp only[if_true,if_false,true_and,false_and,Bool.false_eq_true] at hF
  rw[hF]
  refine walkX ?_
  rw[show decide (x.k≥13)=false from dFa (by omega)]
  refine walkX ?_
  rw[show(x.k == 3)=false from dFa (by omega)]
  refine walkX ?_
  rw[show(x.k == 4)=false from dFa (by omega)]
  refine walkX ?_
  rw[show(x.k == 9)=true from dTr (by omega)]
  refine walkX ?_
  exact EndP.w
 by_cases c:x.k=10
 ·rw[show isRem x.k=false from dFa (by omega)] at hR
  rw[show decide (x.k=6∨x.k=7)=false from dFa (by omega)] at hL
  have hF:=fieldsD_eq (p:=p) (r:=r) (x:=x) (b1:=false) (b2:=false) (b3:=false) (b4:=true) (by omega) (by simp only[iff_true,iff_false,Bool.false_eq_true]; omega) (by simp only[iff_true,iff_false,Bool.false_eq_true]; omega) (by simp only[iff_true,iff_false,Bool.false_eq_true]; omega) (by simp only[iff_true,iff_false,Bool.false_eq_true]; omega)
  unfold fieldsB at hF
  simp only[if_true,if_false,true_and,false_and,Bool.false_eq_true] at hF
  rw[hF]
  refine walkX ?_
  rw[show decide (x.k≥13)=false from dFa (by omega)]
  refine walkX ?_
  rw[show(x.k == 3)=false from dFa (by omega)]
  refine walkX ?_
  rw[show(x.k == 4)=false from dFa (by omega)]
  refine walkX ?_
  rw[show(x.k == 9)=false from dFa (by omega)]
  refine walkX ?_
  rw[show(x.k == 10)=true from dTr (by omega)]
  refine walkX ?_
  exact EndP.w
 by_cases c:x.k≤12
 ·rw[show isRem x.k=false from dFa (by omega)] at hR
  rw[show decide (x.k=6∨x.k=7)=false from dFa (by omega)] at hL
  have hF:=fieldsD_eq (p:=p) (r:=r) (x:=x) (b1:=false) (b2:=false) (b3:=false) (b4:=false) (by omega) (by simp only[iff_true,iff_false,Bool.false_eq_true]; omega) (by simp only[iff_true,iff_false,Bool.false_eq_true]; omega) (by simp only[iff_true,iff_false,Bool.false_eq_true]; omega) (by simp only[iff_true,iff_false,Bool.false_eq_true]; omega)
  unfold fieldsB at hF
  simp only[if_true,if_false,true_and,false_and,Bool.false_eq_true] at hF
  rw[hF]
  refine walkX ?_
  rw[show decide (x.k≥13)=false from dFa (by omega)]
  refine walkX ?_
  rw[show(x.k == 3)=false from dFa (by omega)]
  refine walkX ?_
  rw[show(x.k == 4)=false from dFa (by omega)]
  refine walkX ?_
  rw[show(x.k == 9)=false from dFa (by omega)]
  refine walkX ?_
  rw[show(x.k == 10)=false from dFa (by omega)]
  refine walkX ?_
  exact EndP.w
 by_cases c:13≤x.k
 ·rw[show isRem x.k=false from dFa (by omega)] at hR
  rw[show decide (x.k=6∨x.k=7)=false from dFa (by omega)] at hL
  have hF:=fieldsD_eq (p:=p) (r:=r) (x:=x) (b1:=true) (b2:=false) (b3:=false) (b4:=false) (by omega) (by simp only[iff_true,iff_false,Bool.false_eq_true]; omega) (by simp only[iff_true,iff_false,Bool.false_eq_true]; omega) (by simp only[iff_true,iff_false,Bool.false_eq_true]; omega) (by simp only[iff_true,iff_false,Bool.false_eq_true]; omega)
  unfold fieldsB at hF
  simp only[if_true,if_false,true_and,false_and,Bool.false_eq_true] at hF
  rw[hF]
  refine walkX ?_
  rw[show decide (x.k≥13)=true from dTr (by omega)]
  refine walkX ?_
  by_cases h1:x.r < 0
  ·rw[dTr h1,if_pos (.inl h1)]
   refine walkX ?_
   exact EndP.w
  rw[dFa h1]
  refine walkX ?_
  rw[e0]
  by_cases h2:x.r≥(p.acts.length:Int)
  ·rw[dTr h2,if_pos (.inr h2)]
   refine walkX ?_
   exact EndP.w
  rw[dFa h2,if_neg (by omega)]
  refine walkX ?_
  rw[show(x.k == 3)=false from dFa (by omega)]
  refine walkX ?_
  rw[show(x.k == 4)=false from dFa (by omega)]
  refine walkX ?_
  rw[show(x.k == 9)=false from dFa (by omega)]
  refine walkX ?_
  rw[show(x.k == 10)=false from dFa (by omega)]
  refine walkX ?_
  exact EndP.w
 omega
set_option linter.unusedVariables false
structure De where
 f:Bool
 o:List Int
 p:List Int
 k:Bool
 l:Int
def deR (e:De):List AV:=[.sc (.bool e.f),.list 1 (intsR e.o),.list 1 (intsR e.p),.sc (.bool e.k),.sc (.int .i64 e.l)]
instance (e:De):PR (deR e):=by unfold deR; infer_instance
def alD (l:List Act) (i:Nat) (e:De) (x:Act):Nat→Bool
 | 6=>true
 | 7=>true
 | 8=>decide (e.o.length=0) && decide (e.p.length=0) && !e.k
 | 9=>decide (e.p.length=0) && !e.k
 | 10=>decide (e.o.length=0) && !e.k
 | 11=>decide (0 < e.o.length)
 | 12=>decide (0 < e.p.length) && !e.k
 | 13=>decide (e.o.length=0) && !e.k
 | 14=>decide (e.o.length=0) && !e.k
 | 15=>e.k && decide (e.l=x.r)
 | 16=>e.k && decide (e.l=x.r)
 | _=>if 0 < e.o.length then decide (x.r∈e.o) else if e.k=true then decide (e.l=x.r) else e.f && flwP l i
def afD (e:De) (x:Act):Nat→De
 | 8=>{ e with f:=true }
 | 9=>{ e with p:=x.g }
 | 10=>{ e with o:=x.g }
 | 11=>{ e with o:=[] }
 | 12=>{ e with p:=[] }
 | 13=>{ e with k:=true,l:=x.r }
 | 14=>{ e with k:=true,l:=x.r }
 | 16=>{ e with k:=false }
 | _=>e
set_option maxHeartbeats 4000000 in
theorem allow1 (l:List Act) (i:Nat) (e:De) (hi:i < l.length) (hl:l.length≤1000000) (ho:e.o.length≤9223372036854775807) (x:Act) (hxl:l[i]=x) (hk:x.k=1):PureRun Tryz.prog 51 [.agg (deR e),.list 7 (actsR l),.sc (.int .i64 (i:Int))] (.sc (.bool (alD l i e x 1))):=by
 refine PureRun.mkI cF51 (nlB rfl) ?_
 have e1:=intsR_len e.o
 have e2:=intsR_len e.p
 have hx:=actsR_ix l i hi
 rw[hxl] at hx
 unfold actR at hx
 rw[hk] at hx
 unfold deR
 dsimp only[alD]
 have hH:=has_ok e.o x.r ho
 have hF:=follows_ok l i hi hl
 refine walkX ?_
 rw[e1]
 by_cases h1:0 < e.o.length
 ·rw[if_pos h1,show decide (e.o.length > 0)=true from dTr h1]
  refine walkX ?_
  exact EndP.w
 rw[if_neg h1,show decide (e.o.length > 0)=false from dFa h1]
 refine walkX ?_
 cases hk2:e.k with
 | true=>
  rw[if_pos rfl,show decide (e.l=x.r)=(e.l == x.r) from rfl]
  refine walkX ?_
  exact EndP.w
 | false=>
  rw[if_neg (by decide)]
  refine walkX ?_
  cases hf2:e.f with
  | true=>
   refine walkX ?_
   exact EndP.w
  | false=>
   refine walkX ?_
   exact EndP.w
set_option maxHeartbeats 4000000 in
theorem allow2 (l:List Act) (i:Nat) (e:De) (hi:i < l.length) (hl:l.length≤1000000) (ho:e.o.length≤9223372036854775807) (x:Act) (hxl:l[i]=x) (hk:x.k=2):PureRun Tryz.prog 51 [.agg (deR e),.list 7 (actsR l),.sc (.int .i64 (i:Int))] (.sc (.bool (alD l i e x 2))):=by
 refine PureRun.mkI cF51 (nlB rfl) ?_
 have e1:=intsR_len e.o
 have e2:=intsR_len e.p
 have hx:=actsR_ix l i hi
 rw[hxl] at hx
 unfold actR at hx
 rw[hk] at hx
 unfold deR
 dsimp only[alD]
 have hH:=has_ok e.o x.r ho
 have hF:=follows_ok l i hi hl
 refine walkX ?_
 rw[e1]
 by_cases h1:0 < e.o.length
 ·rw[if_pos h1,show decide (e.o.length > 0)=true from dTr h1]
  refine walkX ?_
  exact EndP.w
 rw[if_neg h1,show decide (e.o.length > 0)=false from dFa h1]
 refine walkX ?_
 cases hk2:e.k with
 | true=>
  rw[if_pos rfl,show decide (e.l=x.r)=(e.l == x.r) from rfl]
  refine walkX ?_
  exact EndP.w
 | false=>
  rw[if_neg (by decide)]
  refine walkX ?_
  cases hf2:e.f with
  | true=>
   refine walkX ?_
   exact EndP.w
  | false=>
   refine walkX ?_
   exact EndP.w
set_option maxHeartbeats 4000000 in
theorem allow3 (l:List Act) (i:Nat) (e:De) (hi:i < l.length) (hl:l.length≤1000000) (ho:e.o.length≤9223372036854775807) (x:Act) (hxl:l[i]=x) (hk:x.k=3):PureRun Tryz.prog 51 [.agg (deR e),.list 7 (actsR l),.sc (.int .i64 (i:Int))] (.sc (.bool (alD l i e x 3))):=by
 refine PureRun.mkI cF51 (nlB rfl) ?_
 have e1:=intsR_len e.o
 have e2:=intsR_len e.p
 have hx:=actsR_ix l i hi
 rw[hxl] at hx
 unfold actR at hx
 rw[hk] at hx
 unfold deR
 dsimp only[alD]
 have hH:=has_ok e.o x.r ho
 have hF:=follows_ok l i hi hl
 refine walkX ?_
 rw[e1]
 by_cases h1:0 < e.o.length
 ·rw[if_pos h1,show decide (e.o.length > 0)=true from dTr h1]
  refine walkX ?_
  exact EndP.w
 rw[if_neg h1,show decide (e.o.length > 0)=false from dFa h1]
 refine walkX ?_
 cases hk2:e.k with
 | true=>
  rw[if_pos rfl,show decide (e.l=x.r)=(e.l == x.r) from rfl]
  refine walkX ?_
  exact EndP.w
 | false=>
  rw[if_neg (by decide)]
  refine walkX ?_
  cases hf2:e.f with
  | true=>
   refine walkX ?_
   exact EndP.w
  | false=>
   refine walkX ?_
   exact EndP.w
set_option maxHeartbeats 4000000 in
theorem allow4 (l:List Act) (i:Nat) (e:De) (hi:i < l.length) (hl:l.length≤1000000) (ho:e.o.length≤9223372036854775807) (x:Act) (hxl:l[i]=x) (hk:x.k=4):PureRun Tryz.prog 51 [.agg (deR e),.list 7 (actsR l),.sc (.int .i64 (i:Int))] (.sc (.bool (alD l i e x 4))):=by
 refine PureRun.mkI cF51 (nlB rfl) ?_
 have e1:=intsR_len e.o
 have e2:=intsR_len e.p
 have hx:=actsR_ix l i hi
 rw[hxl] at hx
 unfold actR at hx
 rw[hk] at hx
 unfold deR
 dsimp only[alD]
 have hH:=has_ok e.o x.r ho
 have hF:=follows_ok l i hi hl
 refine walkX ?_
 rw[e1]
 by_cases h1:0 < e.o.length
 ·rw[if_pos h1,show decide (e.o.length > 0)=true from dTr h1]
  refine walkX ?_
  exact EndP.w
 rw[if_neg h1,show decide (e.o.length > 0)=false from dFa h1]
 refine walkX ?_
 cases hk2:e.k with
 | true=>
  rw[if_pos rfl,show decide (e.l=x.r)=(e.l == x.r) from rfl]
  refine walkX ?_
  exact EndP.w
 | false=>
  rw[if_neg (by decide)]
  refine walkX ?_
  cases hf2:e.f with
  | true=>
   refine walkX ?_
   exact EndP.w
  | false=>
   refine walkX ?_
   exact EndP.w
set_option maxHeartbeats 4000000 in
theorem allow5 (l:List Act) (i:Nat) (e:De) (hi:i < l.length) (hl:l.length≤1000000) (ho:e.o.length≤9223372036854775807) (x:Act) (hxl:l[i]=x) (hk:x.k=5):PureRun Tryz.prog 51 [.agg (deR e),.list 7 (actsR l),.sc (.int .i64 (i:Int))] (.sc (.bool (alD l i e x 5))):=by
 refine PureRun.mkI cF51 (nlB rfl) ?_
 have e1:=intsR_len e.o
 have e2:=intsR_len e.p
 have hx:=actsR_ix l i hi
 rw[hxl] at hx
 unfold actR at hx
 rw[hk] at hx
 unfold deR
 dsimp only[alD]
 have hH:=has_ok e.o x.r ho
 have hF:=follows_ok l i hi hl
 refine walkX ?_
 rw[e1]
 by_cases h1:0 < e.o.length
 ·rw[if_pos h1,show decide (e.o.length > 0)=true from dTr h1]
  refine walkX ?_
  exact EndP.w
 rw[if_neg h1,show decide (e.o.length > 0)=false from dFa h1]
 refine walkX ?_
 cases hk2:e.k with
 | true=>
  rw[if_pos rfl,show decide (e.l=x.r)=(e.l == x.r) from rfl]
  refine walkX ?_
  exact EndP.w
 | false=>
  rw[if_neg (by decide)]
  refine walkX ?_
  cases hf2:e.f with
  | true=>
   refine walkX ?_
   exact EndP.w
  | false=>
   refine walkX ?_
   exact EndP.w
set_option maxHeartbeats 4000000 in
theorem allow6 (l:List Act) (i:Nat) (e:De) (hi:i < l.length) (hl:l.length≤1000000) (ho:e.o.length≤9223372036854775807) (x:Act) (hxl:l[i]=x) (hk:x.k=6):PureRun Tryz.prog 51 [.agg (deR e),.list 7 (actsR l),.sc (.int .i64 (i:Int))] (.sc (.bool (alD l i e x 6))):=by
 refine PureRun.mkI cF51 (nlB rfl) ?_
 have e1:=intsR_len e.o
 have e2:=intsR_len e.p
 have hx:=actsR_ix l i hi
 rw[hxl] at hx
 unfold actR at hx
 rw[hk] at hx
 unfold deR
 dsimp only[alD]
 refine walkX ?_
 exact EndP.w
set_option maxHeartbeats 4000000 in
theorem allow7 (l:List Act) (i:Nat) (e:De) (hi:i < l.length) (hl:l.length≤1000000) (ho:e.o.length≤9223372036854775807) (x:Act) (hxl:l[i]=x) (hk:x.k=7):PureRun Tryz.prog 51 [.agg (deR e),.list 7 (actsR l),.sc (.int .i64 (i:Int))] (.sc (.bool (alD l i e x 7))):=by
 refine PureRun.mkI cF51 (nlB rfl) ?_
 have e1:=intsR_len e.o
 have e2:=intsR_len e.p
 have hx:=actsR_ix l i hi
 rw[hxl] at hx
 unfold actR at hx
 rw[hk] at hx
 unfold deR
 dsimp only[alD]
 refine walkX ?_
 exact EndP.w
set_option maxHeartbeats 4000000 in
theorem allow8 (l:List Act) (i:Nat) (e:De) (hi:i < l.length) (hl:l.length≤1000000) (ho:e.o.length≤9223372036854775807) (x:Act) (hxl:l[i]=x) (hk:x.k=8):PureRun Tryz.prog 51 [.agg (deR e),.list 7 (actsR l),.sc (.int .i64 (i:Int))] (.sc (.bool (alD l i e x 8))):=by
 refine PureRun.mkI cF51 (nlB rfl) ?_
 have e1:=intsR_len e.o
 have e2:=intsR_len e.p
 have hx:=actsR_ix l i hi
 rw[hxl] at hx
 unfold actR at hx
 rw[hk] at hx
 unfold deR
 dsimp only[alD]
 refine walkX ?_
 rw[e1]
 by_cases h1:e.o.length=0
 ·rw[dTr h1]
  refine walkX ?_
  rw[e2]
  by_cases h2:e.p.length=0
  ·rw[dTr h2]
   refine walkX ?_
   exact EndP.w
  ·rw[dFa h2]
   refine walkX ?_
   exact EndP.w
 ·rw[dFa h1]
  refine walkX ?_
  exact EndP.w
set_option maxHeartbeats 4000000 in
theorem allow9 (l:List Act) (i:Nat) (e:De) (hi:i < l.length) (hl:l.length≤1000000) (ho:e.o.length≤9223372036854775807) (x:Act) (hxl:l[i]=x) (hk:x.k=9):PureRun Tryz.prog 51 [.agg (deR e),.list 7 (actsR l),.sc (.int .i64 (i:Int))] (.sc (.bool (alD l i e x 9))):=by
 refine PureRun.mkI cF51 (nlB rfl) ?_
 have e1:=intsR_len e.o
 have e2:=intsR_len e.p
 have hx:=actsR_ix l i hi
 rw[hxl] at hx
 unfold actR at hx
 rw[hk] at hx
 unfold deR
 dsimp only[alD]
 refine walkX ?_
 rw[e2]
 by_cases h1:e.p.length=0
 ·rw[dTr h1]
  refine walkX ?_
  exact EndP.w
 ·rw[dFa h1]
  refine walkX ?_
  exact EndP.w
set_option maxHeartbeats 4000000 in
theorem allow10 (l:List Act) (i:Nat) (e:De) (hi:i < l.length) (hl:l.length≤1000000) (ho:e.o.length≤9223372036854775807) (x:Act) (hxl:l[i]=x) (hk:x.k=10):PureRun Tryz.prog 51 [.agg (deR e),.list 7 (actsR l),.sc (.int .i64 (i:Int))] (.sc (.bool (alD l i e x 10))):=by
 refine PureRun.mkI cF51 (nlB rfl) ?_
 have e1:=intsR_len e.o
 have e2:=intsR_len e.p
 have hx:=actsR_ix l i hi
 rw[hxl] at hx
 unfold actR at hx
 rw[hk] at hx
 unfold deR
 dsimp only[alD]
 refine walkX ?_
 rw[e1]
 by_cases h1:e.o.length=0
 ·rw[dTr h1]
  refine walkX ?_
  exact EndP.w
 ·rw[dFa h1]
  refine walkX ?_
  exact EndP.w
set_option maxHeartbeats 4000000 in
theorem allow13 (l:List Act) (i:Nat) (e:De) (hi:i < l.length) (hl:l.length≤1000000) (ho:e.o.length≤9223372036854775807) (x:Act) (hxl:l[i]=x) (hk:x.k=13):PureRun Tryz.prog 51 [.agg (deR e),.list 7 (actsR l),.sc (.int .i64 (i:Int))] (.sc (.bool (alD l i e x 13))):=by
 refine PureRun.mkI cF51 (nlB rfl) ?_
 have e1:=intsR_len e.o
 have e2:=intsR_len e.p
 have hx:=actsR_ix l i hi
 rw[hxl] at hx
 unfold actR at hx
 rw[hk] at hx
 unfold deR
 dsimp only[alD]
 refine walkX ?_
 rw[e1]
 by_cases h1:e.o.length=0
 ·rw[dTr h1]
  refine walkX ?_
  exact EndP.w
 ·rw[dFa h1]
  refine walkX ?_
  exact EndP.w
set_option maxHeartbeats 4000000 in
theorem allow14 (l:List Act) (i:Nat) (e:De) (hi:i < l.length) (hl:l.length≤1000000) (ho:e.o.length≤9223372036854775807) (x:Act) (hxl:l[i]=x) (hk:x.k=14):PureRun Tryz.prog 51 [.agg (deR e),.list 7 (actsR l),.sc (.int .i64 (i:Int))] (.sc (.bool (alD l i e x 14))):=by
 refine PureRun.mkI cF51 (nlB rfl) ?_
 have e1:=intsR_len e.o
 have e2:=intsR_len e.p
 have hx:=actsR_ix l i hi
 rw[hxl] at hx
 unfold actR at hx
 rw[hk] at hx
 unfold deR
 dsimp only[alD]
 refine walkX ?_
 rw[e1]
 by_cases h1:e.o.length=0
 ·rw[dTr h1]
  refine walkX ?_
  exact EndP.w
 ·rw[dFa h1]
  refine walkX ?_
  exact EndP.w
set_option maxHeartbeats 4000000 in
theorem allow11 (l:List Act) (i:Nat) (e:De) (hi:i < l.length) (hl:l.length≤1000000) (ho:e.o.length≤9223372036854775807) (x:Act) (hxl:l[i]=x) (hk:x.k=11):PureRun Tryz.prog 51 [.agg (deR e),.list 7 (actsR l),.sc (.int .i64 (i:Int))] (.sc (.bool (alD l i e x 11))):=by
 refine PureRun.mkI cF51 (nlB rfl) ?_
 have e1:=intsR_len e.o
 have e2:=intsR_len e.p
 have hx:=actsR_ix l i hi
 rw[hxl] at hx
 unfold actR at hx
 rw[hk] at hx
 unfold deR
 dsimp only[alD]
 refine walkX ?_
 rw[e1]
 rw[show decide (0 < e.o.length)=decide (e.o.length > 0) from rfl]
 exact EndP.w
set_option maxHeartbeats 4000000 in
theorem allow12 (l:List Act) (i:Nat) (e:De) (hi:i < l.length) (hl:l.length≤1000000) (ho:e.o.length≤9223372036854775807) (x:Act) (hxl:l[i]=x) (hk:x.k=12):PureRun Tryz.prog 51 [.agg (deR e),.list 7 (actsR l),.sc (.int .i64 (i:Int))] (.sc (.bool (alD l i e x 12))):=by
 refine PureRun.mkI cF51 (nlB rfl) ?_
 have e1:=intsR_len e.o
 have e2:=intsR_len e.p
 have hx:=actsR_ix l i hi
 rw[hxl] at hx
 unfold actR at hx
 rw[hk] at hx
 unfold deR
 dsimp only[alD]
 refine walkX ?_
 rw[e2]
 by_cases h1:0 < e.p.length
 ·rw[show decide (e.p.length > 0)=true from dTr h1]
  refine walkX ?_
  exact EndP.w
 ·rw[show decide (e.p.length > 0)=false from dFa h1]
  refine walkX ?_
  exact EndP.w
set_option maxHeartbeats 4000000 in
theorem allow15 (l:List Act) (i:Nat) (e:De) (hi:i < l.length) (hl:l.length≤1000000) (ho:e.o.length≤9223372036854775807) (x:Act) (hxl:l[i]=x) (hk:x.k=15):PureRun Tryz.prog 51 [.agg (deR e),.list 7 (actsR l),.sc (.int .i64 (i:Int))] (.sc (.bool (alD l i e x 15))):=by
 refine PureRun.mkI cF51 (nlB rfl) ?_
 have e1:=intsR_len e.o
 have e2:=intsR_len e.p
 have hx:=actsR_ix l i hi
 rw[hxl] at hx
 unfold actR at hx
 rw[hk] at hx
 unfold deR
 dsimp only[alD]
 refine walkX ?_
 cases hk2:e.k with
 | true=>
  refine walkX ?_
  rw[show decide (e.l=x.r)=(e.l == x.r) from rfl]
  exact EndP.w
 | false=>
  refine walkX ?_
  exact EndP.w
set_option maxHeartbeats 4000000 in
theorem allow16 (l:List Act) (i:Nat) (e:De) (hi:i < l.length) (hl:l.length≤1000000) (ho:e.o.length≤9223372036854775807) (x:Act) (hxl:l[i]=x) (hk:x.k=16):PureRun Tryz.prog 51 [.agg (deR e),.list 7 (actsR l),.sc (.int .i64 (i:Int))] (.sc (.bool (alD l i e x 16))):=by
 refine PureRun.mkI cF51 (nlB rfl) ?_
 have e1:=intsR_len e.o
 have e2:=intsR_len e.p
 have hx:=actsR_ix l i hi
 rw[hxl] at hx
 unfold actR at hx
 rw[hk] at hx
 unfold deR
 dsimp only[alD]
 refine walkX ?_
 cases hk2:e.k with
 | true=>
  refine walkX ?_
  rw[show decide (e.l=x.r)=(e.l == x.r) from rfl]
  exact EndP.w
 | false=>
  refine walkX ?_
  exact EndP.w
set_option maxHeartbeats 4000000 in
theorem after1 (e:De) (x:Act) (hk:x.k=1):PureRun Tryz.prog 52 [.agg (deR e),.agg (actR x)] (.agg (deR (afD e x 1))):=by
 refine PureRun.mkI cF52 (nlB rfl) ?_
 unfold actR
 rw[hk]
 unfold deR
 dsimp only[afD]
 refine walkX ?_
 exact EndP.w
set_option maxHeartbeats 4000000 in
theorem after2 (e:De) (x:Act) (hk:x.k=2):PureRun Tryz.prog 52 [.agg (deR e),.agg (actR x)] (.agg (deR (afD e x 2))):=by
 refine PureRun.mkI cF52 (nlB rfl) ?_
 unfold actR
 rw[hk]
 unfold deR
 dsimp only[afD]
 refine walkX ?_
 exact EndP.w
set_option maxHeartbeats 4000000 in
theorem after3 (e:De) (x:Act) (hk:x.k=3):PureRun Tryz.prog 52 [.agg (deR e),.agg (actR x)] (.agg (deR (afD e x 3))):=by
 refine PureRun.mkI cF52 (nlB rfl) ?_
 unfold actR
 rw[hk]
 unfold deR
 dsimp only[afD]
 refine walkX ?_
 exact EndP.w
set_option maxHeartbeats 4000000 in
theorem after4 (e:De) (x:Act) (hk:x.k=4):PureRun Tryz.prog 52 [.agg (deR e),.agg (actR x)] (.agg (deR (afD e x 4))):=by
 refine PureRun.mkI cF52 (nlB rfl) ?_
 unfold actR
 rw[hk]
 unfold deR
 dsimp only[afD]
 refine walkX ?_
 exact EndP.w
set_option maxHeartbeats 4000000 in
theorem after5 (e:De) (x:Act) (hk:x.k=5):PureRun Tryz.prog 52 [.agg (deR e),.agg (actR x)] (.agg (deR (afD e x 5))):=by
 refine PureRun.mkI cF52 (nlB rfl) ?_
 unfold actR
 rw[hk]
 unfold deR
 dsimp only[afD]
 refine walkX ?_
 exact EndP.w
set_option maxHeartbeats 4000000 in
theorem after6 (e:De) (x:Act) (hk:x.k=6):PureRun Tryz.prog 52 [.agg (deR e),.agg (actR x)] (.agg (deR (afD e x 6))):=by
 refine PureRun.mkI cF52 (nlB rfl) ?_
 unfold actR
 rw[hk]
 unfold deR
 dsimp only[afD]
 refine walkX ?_
 exact EndP.w
set_option maxHeartbeats 4000000 in
theorem after7 (e:De) (x:Act) (hk:x.k=7):PureRun Tryz.prog 52 [.agg (deR e),.agg (actR x)] (.agg (deR (afD e x 7))):=by
 refine PureRun.mkI cF52 (nlB rfl) ?_
 unfold actR
 rw[hk]
 unfold deR
 dsimp only[afD]
 refine walkX ?_
 exact EndP.w
set_option maxHeartbeats 4000000 in
theorem after8 (e:De) (x:Act) (hk:x.k=8):PureRun Tryz.prog 52 [.agg (deR e),.agg (actR x)] (.agg (deR (afD e x 8))):=by
 refine PureRun.mkI cF52 (nlB rfl) ?_
 unfold actR
 rw[hk]
 unfold deR
 dsimp only[afD]
 refine walkX ?_
 exact EndP.w
set_option maxHeartbeats 4000000 in
theorem after9 (e:De) (x:Act) (hk:x.k=9):PureRun Tryz.prog 52 [.agg (deR e),.agg (actR x)] (.agg (deR (afD e x 9))):=by
 refine PureRun.mkI cF52 (nlB rfl) ?_
 unfold actR
 rw[hk]
 unfold deR
 dsimp only[afD]
 refine walkX ?_
 exact EndP.w
set_option maxHeartbeats 4000000 in
theorem after10 (e:De) (x:Act) (hk:x.k=10):PureRun Tryz.prog 52 [.agg (deR e),.agg (actR x)] (.agg (deR (afD e x 10))):=by
 refine PureRun.mkI cF52 (nlB rfl) ?_
 unfold actR
 rw[hk]
 unfold deR
 dsimp only[afD]
 refine walkX ?_
 exact EndP.w
set_option maxHeartbeats 4000000 in
theorem after11 (e:De) (x:Act) (hk:x.k=11):PureRun Tryz.prog 52 [.agg (deR e),.agg (actR x)] (.agg (deR (afD e x 11))):=by
 refine PureRun.mkI cF52 (nlB rfl) ?_
 unfold actR
 rw[hk]
 unfold deR
 dsimp only[afD]
 refine walkX ?_
 exact EndP.w
set_option maxHeartbeats 4000000 in
theorem after12 (e:De) (x:Act) (hk:x.k=12):PureRun Tryz.prog 52 [.agg (deR e),.agg (actR x)] (.agg (deR (afD e x 12))):=by
 refine PureRun.mkI cF52 (nlB rfl) ?_
 unfold actR
 rw[hk]
 unfold deR
 dsimp only[afD]
 refine walkX ?_
 exact EndP.w
set_option maxHeartbeats 4000000 in
theorem after13 (e:De) (x:Act) (hk:x.k=13):PureRun Tryz.prog 52 [.agg (deR e),.agg (actR x)] (.agg (deR (afD e x 13))):=by
 refine PureRun.mkI cF52 (nlB rfl) ?_
 unfold actR
 rw[hk]
 unfold deR
 dsimp only[afD]
 refine walkX ?_
 exact EndP.w
set_option maxHeartbeats 4000000 in
theorem after14 (e:De) (x:Act) (hk:x.k=14):PureRun Tryz.prog 52 [.agg (deR e),.agg (actR x)] (.agg (deR (afD e x 14))):=by
 refine PureRun.mkI cF52 (nlB rfl) ?_
 unfold actR
 rw[hk]
 unfold deR
 dsimp only[afD]
 refine walkX ?_
 exact EndP.w
set_option maxHeartbeats 4000000 in
theorem after15 (e:De) (x:Act) (hk:x.k=15):PureRun Tryz.prog 52 [.agg (deR e),.agg (actR x)] (.agg (deR (afD e x 15))):=by
 refine PureRun.mkI cF52 (nlB rfl) ?_
 unfold actR
 rw[hk]
 unfold deR
 dsimp only[afD]
 refine walkX ?_
 exact EndP.w
set_option maxHeartbeats 4000000 in
theorem after16 (e:De) (x:Act) (hk:x.k=16):PureRun Tryz.prog 52 [.agg (deR e),.agg (actR x)] (.agg (deR (afD e x 16))):=by
 refine PureRun.mkI cF52 (nlB rfl) ?_
 unfold actR
 rw[hk]
 unfold deR
 dsimp only[afD]
 refine walkX ?_
 exact EndP.w
theorem allow_ok (l:List Act) (i:Nat) (e:De) (hi:i < l.length) (hl:l.length≤1000000) (ho:e.o.length≤9223372036854775807) (n:Nat) (hn:l[i].k=n) (h1:1≤n) (h2:n≤16):PureRun Tryz.prog 51 [.agg (deR e),.list 7 (actsR l),.sc (.int .i64 (i:Int))] (.sc (.bool (alD l i e l[i] n))):=
 match n,hn,h1,h2 with
 | 1,hn,_,_=>allow1 l i e hi hl ho _ rfl hn
 | 2,hn,_,_=>allow2 l i e hi hl ho _ rfl hn
 | 3,hn,_,_=>allow3 l i e hi hl ho _ rfl hn
 | 4,hn,_,_=>allow4 l i e hi hl ho _ rfl hn
 | 5,hn,_,_=>allow5 l i e hi hl ho _ rfl hn
 | 6,hn,_,_=>allow6 l i e hi hl ho _ rfl hn
 | 7,hn,_,_=>allow7 l i e hi hl ho _ rfl hn
 | 8,hn,_,_=>allow8 l i e hi hl ho _ rfl hn
 | 9,hn,_,_=>allow9 l i e hi hl ho _ rfl hn
 | 10,hn,_,_=>allow10 l i e hi hl ho _ rfl hn
 | 11,hn,_,_=>allow11 l i e hi hl ho _ rfl hn
 | 12,hn,_,_=>allow12 l i e hi hl ho _ rfl hn
 | 13,hn,_,_=>allow13 l i e hi hl ho _ rfl hn
 | 14,hn,_,_=>allow14 l i e hi hl ho _ rfl hn
 | 15,hn,_,_=>allow15 l i e hi hl ho _ rfl hn
 | 16,hn,_,_=>allow16 l i e hi hl ho _ rfl hn
 | n+17,_,_,h=>absurd h (by omega)
theorem after_ok (e:De) (x:Act) (n:Nat) (hn:x.k=n) (h1:1≤n) (h2:n≤16):PureRun Tryz.prog 52 [.agg (deR e),.agg (actR x)] (.agg (deR (afD e x n))):=
 match n,hn,h1,h2 with
 | 1,hn,_,_=>after1 e x hn
 | 2,hn,_,_=>after2 e x hn
 | 3,hn,_,_=>after3 e x hn
 | 4,hn,_,_=>after4 e x hn
 | 5,hn,_,_=>after5 e x hn
 | 6,hn,_,_=>after6 e x hn
 | 7,hn,_,_=>after7 e x hn
 | 8,hn,_,_=>after8 e x hn
 | 9,hn,_,_=>after9 e x hn
 | 10,hn,_,_=>after10 e x hn
 | 11,hn,_,_=>after11 e x hn
 | 12,hn,_,_=>after12 e x hn
 | 13,hn,_,_=>after13 e x hn
 | 14,hn,_,_=>after14 e x hn
 | 15,hn,_,_=>after15 e x hn
 | 16,hn,_,_=>after16 e x hn
 | n+17,_,_,h=>absurd h (by omega)
set_option linter.unusedVariables false
def de0:De:=⟨false,[],[],false,0⟩
def stepD (p:Pg) (r:Nat) (l:List Act) (i:Nat) (x:Act) (e:De):Int×De:=
 if fieldsD p r x≠0 then(fieldsD p r x,e) else if alD l i e x x.k.toNat=false then(6,e) else(0,afD e x x.k.toNat)
def walkD (p:Pg) (r:Nat) (l:List Act):Nat→List Act→De→Nat×Int
 | i,[],e=>if 0 < e.o.length∨0 < e.p.length∨e.k=true then(i,6) else(0,0)
 | i,x::xs,e=>if (stepD p r l i x e).1≠0 then(i,(stepD p r l i x e).1) else walkD p r l (i+1) xs (stepD p r l i x e).2
def lineD (p:Pg) (r:Nat) (l:List Act):Nat×Int:=if 100 < l.length then(100,9) else walkD p r l 0 l de0
def chkDG (p:Pg):Nat→List (List Act)→(Int×Int)×Int
 | _,[]=>((0,0),0)
 | r,l::m=>if (lineD p r l).2≠0 then(((r:Int),((lineD p r l).1:Int)),(lineD p r l).2) else chkDG p (r+1) m
def chkD (p:Pg):(Int×Int)×Int:=
 if p.cells < 1∨64 < p.cells then((0,0),3) else if p.acts.length=0∨64 < p.acts.length then((0,0),9) else chkDG p 0 p.acts
theorem walkD_drop {p:Pg} {r:Nat} {l:List Act} {k:Nat} {e:De} (h:k < l.length):walkD p r l k (l.drop k) e=if (stepD p r l k l[k] e).1≠0 then(k,(stepD p r l k l[k] e).1) else walkD p r l (k+1) (l.drop (k+1)) (stepD p r l k l[k] e).2:=by
 rw[List.drop_eq_getElem_cons h,walkD]
theorem chkDG_drop {p:Pg} {k:Nat} (h:k < p.acts.length):chkDG p k (p.acts.drop k)=if (lineD p k p.acts[k]).2≠0 then(((k:Int),((lineD p k p.acts[k]).1:Int)),(lineD p k p.acts[k]).2) else chkDG p (k+1) (p.acts.drop (k+1)):=by
 rw[List.drop_eq_getElem_cons h,chkDG]
theorem afD_o {e:De} {x:Act} (n:Nat) (h:e.o.length≤9223372036854775807) (hg:x.g.length≤9223372036854775807):(afD e x n).o.length≤9223372036854775807:=by
 unfold afD
 split<;>first | exact h | exact hg | exact Nat.zero_le _
theorem stepD_fine {p:Pg} {r:Nat} {l:List Act} {i:Nat} {x:Act} {e:De} (h:fieldsD p r x=0):1≤x.k∧x.k≤16:=by
 unfold fieldsD at h
 by_cases h1:1≤x.k∧x.k≤16
 ·exact h1
 ·rw[if_pos h1] at h
  cases h
set_option maxHeartbeats 16000000 in
theorem doc_check (p:Pg) (hp:POK p):PureRun Tryz.prog 25 [progV p] (.tup [plA (chkD p).1,.sc (.int .i64 (chkD p).2)]):=by
 refine PureRun.mkI cF25 (nlB rfl) ?_
 have e0:=progR_len p.acts
 generalize hC:chkD p=C at *
 unfold chkD at hC
 unfold progV
 by_cases h1:p.cells < 1∨64 < p.cells
 ·rw[if_pos h1] at hC
  subst hC
  dsimp only
  unfold plA
  dsimp only
  refine walkX ?_
  by_cases h2:p.cells < 1
  ·rw[dTr h2]
   refine walkX ?_
   exact EndP.w
  ·rw[dFa h2]
   refine walkX ?_
   rw[show decide (p.cells > 64)=true from dTr (by omega)]
   refine walkX ?_
   exact EndP.w
 rw[if_neg h1] at hC
 refine walkX ?_
 rw[show decide (p.cells < 1)=false from dFa (by omega)]
 refine walkX ?_
 rw[show decide (p.cells > 64)=false from dFa (by omega)]
 refine walkX ?_
 rw[e0]
 by_cases h2:p.acts.length=0∨64 < p.acts.length
 ·rw[if_pos h2] at hC
  subst hC
  dsimp only
  unfold plA
  dsimp only
  by_cases h3:p.acts.length=0
  ·rw[dTr h3]
   refine walkX ?_
   exact EndP.w
  ·rw[dFa h3]
   refine walkX ?_
   rw[e0,dTr (by omega)]
   refine walkX ?_
   exact EndP.w
 rw[if_neg h2] at hC
 rw[dFa (by omega)]
 refine walkX ?_
 rw[e0,dFa (by omega)]
 refine walkX ?_
 refine AWP.loop (σ:=Nat) (fun s=>[(1,.cptr [.sc (.int .i64 p.cells),.list 1 (progR p.acts)]),(2,.ptr 0 0 0 0),(4,.sc (.int .i64 (s:Int)))]) (fun s=>[[.cells 2 [[.sc (.int .i64 0),.sc (.int .i64 0)]]]]) (fun s=>s≤p.acts.length∧chkDG p s (p.acts.drop s)=C) (fun s=>p.acts.length - s) 0 ⟨Nat.zero_le _,hC⟩ ?_ ?_
 ·exact Sub.w [] [[(1,0)]]
 rintro k ⟨hk,hG⟩
 refine walkX ?_
 rw[e0]
 refine walkX ?_
 refine AWP.condD rfl (fun h=>?_) (fun h=>?_)
 ·rw[chkDG_drop h] at hG
  have hpx:=progR_ix p.acts k h
  have hgl:=hp _ (List.getElem_mem h)
  generalize p.acts[k]=l at *
  have e1:=actsR_len l
  refine walkX ?_
  rw[e1]
  by_cases h100:100 < l.length
  ·rw[show lineD p k l=(100,9) from if_pos h100,if_pos (by decide)] at hG
   subst hG
   dsimp only
   unfold plA
   dsimp only
   rw[show decide (l.length > 100)=true from dTr h100]
   refine walkX ?_
   exact EndP.w
  rw[show decide (l.length > 100)=false from dFa h100]
  refine walkX ?_
  refine AWP.loop (σ:=Nat×De) (fun s=>[(1,.cptr [.sc (.int .i64 p.cells),.list 1 (progR p.acts)]),(2,.ptr 0 0 0 0),(4,.sc (.int .i64 (k:Int))),(5,.list 7 (actsR l)),(6,.ptr 1 0 0 0),(7,.sc (.int .i64 (s.1:Int)))]) (fun s=>[[.cells 2 [[.sc (.int .i64 0),.sc (.int .i64 0)]]],[.cells 5 [deR s.2]]]) (fun s=>s.1≤l.length∧s.2.o.length≤9223372036854775807∧walkD p k l s.1 (l.drop s.1) s.2=walkD p k l 0 l de0) (fun s=>l.length - s.1) (0,de0) ⟨Nat.zero_le _,Nat.zero_le _,rfl⟩ ?_ ?_
  ·unfold deR de0
   dsimp only
   refine Sub.to [] [[(0,0)],[(1,0)]] ?_ (famsTo.cons (famTo.cons rfl ?_ famTo.nil) (famsTo.cons (famTo.cons rfl (ToB.rowsR (ToR.cons (ToL.cons (To.sc _) (ToL.cons To.nilL (ToL.cons To.nilL (ToL.cons (To.sc _) (ToL.cons (To.sc _) ToL.nil))))) ToR.nil)) famTo.nil) famsTo.nil)) rfl rfl rfl
   ·(all_goals exact tocW)
   ·(all_goals exact tocW)
  rintro⟨i,e⟩ ⟨hi,ho,hW⟩
  dsimp only at hi ho hW ⊢
  unfold deR
  refine walkX ?_
  rw[e1]
  refine walkX ?_
  refine AWP.condD rfl (fun h3=>?_) (fun h3=>?_)
  ·rw[walkD_drop h3] at hW
   have hx:=actsR_ix l i h3
   have hgx:=hgl _ (List.getElem_mem h3)
   have hal:=allow_ok l i e h3 (by omega) ho
   have hop:=fun n=>afD_o (x:=l[i]) n ho hgx
   obtain⟨x,hxe⟩:∃ x,x=l[i]:=⟨_,rfl⟩
   rw[← hxe] at hW hx hgx hal hop
   have hF:=fields2_ok p k x hgx
   unfold actR at hx hF
   unfold progV at hF
   unfold stepD at hW
   generalize hfe:fieldsD p k x=fe at *
   refine walkX ?_
   refine DK.nil ⟨by kernel_rfl,?_⟩
   refine walkX ?_
   by_cases hf:fe≠0
   ·rw[if_pos hf] at hW
    dsimp only at hW
    rw[if_pos hf] at hW
    rw[show lineD p k l=walkD p k l 0 l de0 from if_neg h100,← hW] at hG
    dsimp only at hG
    rw[if_pos hf] at hG
    subst hG
    rw[show(fe != 0)=true by simpa using hf]
    dsimp only
    unfold plA
    dsimp only
    refine walkX ?_
    exact EndP.w
   rw[if_neg hf] at hW
   have hf0:fe=0:=Decidable.not_not.1 hf
   have hkk:=stepD_fine (p:=p) (r:=k) (l:=l) (i:=i) (x:=x) (e:=e) (by rw[hfe,hf0])
   obtain⟨n,hn⟩:∃ n:Nat,x.k=n:=⟨x.k.toNat,by omega⟩
   have hal:=hal n hn (by omega) (by omega)
   have haf:=after_ok e x n hn (by omega) (by omega)
   have hop:=hop n
   rw[hn] at hW
   rw[show((n:Int)).toNat=n from rfl] at hW
   unfold deR at hal haf
   unfold actR at haf
   rw[show(fe != 0)=false by simpa using hf]
   generalize alD l i e x n=b at *
   generalize afD e x n=e' at *
   refine walkX ?_
   cases b with
   | false=>
    rw[if_pos rfl] at hW
    dsimp only at hW
    rw[if_pos (by decide)] at hW
    rw[show lineD p k l=walkD p k l 0 l de0 from if_neg h100,← hW] at hG
    dsimp only at hG
    rw[if_pos (by decide)] at hG
    subst hG
    dsimp only
    unfold plA
    dsimp only
    refine walkX ?_
    exact EndP.w
   | true=>
    rw[if_neg (by simp)] at hW
    (try dsimp only at hW)
    rw[if_neg (by decide)] at hW
    refine walkX ?_
    refine DK.nil ⟨by kernel_rfl,?_⟩
    refine walkX ?_
    refine⟨(i+1,e'),⟨by omega,hop,hW⟩,by omega,?_⟩
    (try unfold deR)
    exact Sub.w [] [[(0,0)],[(1,0)]]
  ·have hi2:i=l.length:=by omega
   subst hi2
   rw[List.drop_length,walkD] at hW
   rw[show lineD p k l=walkD p k l 0 l de0 from if_neg h100,← hW] at hG
   have e2:=intsR_len e.o
   have e3:=intsR_len e.p
   clear hW
   by_cases hbad:0 < e.o.length∨0 < e.p.length∨e.k=true
   ·rw[if_pos hbad] at hG
    dsimp only at hG
    rw[if_pos (by decide)] at hG
    subst hG
    dsimp only
    unfold plA
    dsimp only
    refine walkX ?_
    rw[e2]
    by_cases q1:0 < e.o.length
    ·rw[show decide (e.o.length > 0)=true from dTr q1]
     refine walkX ?_
     rw[e1]
     refine walkX ?_
     exact EndP.w
    rw[show decide (e.o.length > 0)=false from dFa q1]
    refine walkX ?_
    rw[e3]
    by_cases q2:0 < e.p.length
    ·rw[show decide (e.p.length > 0)=true from dTr q2]
     refine walkX ?_
     rw[e1]
     refine walkX ?_
     exact EndP.w
    rw[show decide (e.p.length > 0)=false from dFa q2]
    refine walkX ?_
    rw[show e.k=true from by rcases hbad with h | h | h; exact absurd h q1; exact absurd h q2; exact h]
    refine walkX ?_
    rw[e1]
    refine walkX ?_
    exact EndP.w
   ·rw[if_neg hbad] at hG
    dsimp only at hG
    rw[if_neg (by decide)] at hG
    refine walkX ?_
    rw[e2,show decide (e.o.length > 0)=false from dFa (by omega)]
    refine walkX ?_
    rw[e3,show decide (e.p.length > 0)=false from dFa (by omega)]
    refine walkX ?_
    rw[show e.k=false from Bool.eq_false_iff.2 fun h=>hbad (.inr (.inr h))]
    refine walkX ?_
    refine⟨k+1,⟨by omega,hG⟩,by omega,?_⟩
    exact Sub.w [] [[(0,0)]]
 ·have hk2:k=p.acts.length:=by omega
  subst hk2
  rw[List.drop_length,chkDG] at hG
  subst hG
  dsimp only
  unfold plA
  dsimp only
  refine walkX ?_
  exact EndP.w
structure RelE (e:De) (E:Ep):Prop where
 f:e.f=E.f
 o:e.o=E.o
 p:e.p=E.p
 on:e.k=true→E.l=e.l∧0≤e.l
 off:e.k=false→E.l < 0
theorem RelE.neg {e:De} {E:Ep} (h:RelE e E):(!e.k)=decide (E.l < 0):=by
 cases hk:e.k with
 | true=>have:=h.on hk; rw[dFa (by omega)]; rfl
 | false=>have:=h.off hk; rw[dTr this]; rfl
theorem RelE.at {e:De} {E:Ep} (h:RelE e E) {r:Int} (hr:0≤r):(e.k && decide (e.l=r))=decide (E.l=r):=by
 cases hk:e.k with
 | true=>have:=h.on hk; rw[this.1]; rfl
 | false=>have:=h.off hk; rw[dFa (by omega:¬ E.l=r)]; rfl
theorem fields_rank {p:Pg} {r:Nat} {x:Act} (h:fieldsE p r x=0) (hk:13≤x.k):0≤x.r:=by
 unfold fieldsE fieldsB at h
 rw[show hasRank x.k=true from dTr (.inr hk)] at h
 split at h
 ·cases h
 ·rename_i h1
  by_cases h2:x.r < 0
  ·exact absurd ⟨rfl,.inl h2⟩ h1
  ·omega
theorem al_rem {l:List Act} {i:Nat} {x:Act} {e:De} {E:Ep} (h:RelE e E) {n:Nat} (h1:1≤n) (h2:n≤5):alD l i e x n=(compl l E i x).2:=by
 have h0:alD l i e x n=if 0 < e.o.length then decide (x.r∈e.o) else if e.k=true then decide (e.l=x.r) else e.f && flwP l i:=by
  match n,h1,h2 with
  | 1,_,_=>rfl
  | 2,_,_=>rfl
  | 3,_,_=>rfl
  | 4,_,_=>rfl
  | 5,_,_=>rfl
 rw[h0,h.o,h.f]
 unfold compl
 by_cases h3:0 < E.o.length
 ·rw[if_pos h3,if_pos h3]
 rw[if_neg h3,if_neg h3]
 cases hk:e.k with
 | true=>
  have:=h.on hk
  rw[if_pos rfl,if_pos (by omega),this.1]
 | false=>
  have:=h.off hk
  rw[if_neg (by decide),if_neg (by omega)]
  rfl
theorem al_loc {l:List Act} {i:Nat} {x:Act} {e:De} {E:Ep} (h:RelE e E) {n:Nat} (h1:6≤n) (h2:n≤16) (hr:13≤n→0≤x.r):alD l i e x n=alP n E x:=by
 match n,h1,h2,hr with
 | 6,_,_,_=>rfl
 | 7,_,_,_=>rfl
 | 8,_,_,_=>show(decide (e.o.length=0) && decide (e.p.length=0) && !e.k)=(decide (E.o.length=0) && decide (E.l < 0) && decide (E.p.length=0)); rw[h.o,h.p,h.neg,Bool.and_assoc,Bool.and_assoc,Bool.and_comm (decide (E.p.length=0))]
 | 9,_,_,_=>show(decide (e.p.length=0) && !e.k)=(decide (E.p.length=0) && decide (E.l < 0)); rw[h.p,h.neg]
 | 10,_,_,_=>show(decide (e.o.length=0) && !e.k)=(decide (E.o.length=0) && decide (E.l < 0)); rw[h.o,h.neg]
 | 11,_,_,_=>show decide (0 < e.o.length)=decide (0 < E.o.length); rw[h.o]
 | 12,_,_,_=>show(decide (0 < e.p.length) && !e.k)=(decide (0 < E.p.length) && decide (E.l < 0)); rw[h.p,h.neg]
 | 13,_,_,_=>show(decide (e.o.length=0) && !e.k)=(decide (E.o.length=0) && decide (E.l < 0)); rw[h.o,h.neg]
 | 14,_,_,_=>show(decide (e.o.length=0) && !e.k)=(decide (E.o.length=0) && decide (E.l < 0)); rw[h.o,h.neg]
 | 15,_,_,hr=>show(e.k && decide (e.l=x.r))=decide (E.l=x.r); exact h.at (hr (by omega))
 | 16,_,_,hr=>show(e.k && decide (e.l=x.r))=decide (E.l=x.r); exact h.at (hr (by omega))
 | n+17,_,h,_=>exact absurd h (by omega)
theorem RelE.af {x:Act} {e:De} {E:Ep} (h:RelE e E) {n:Nat} (h2:n≤16) (hr:13≤n→0≤x.r):RelE (afD e x n) (afP n E x):=by
 match n,h2,hr with
 | 0,_,_=>exact h
 | 1,_,_=>exact h
 | 2,_,_=>exact h
 | 3,_,_=>exact h
 | 4,_,_=>exact h
 | 5,_,_=>exact h
 | 6,_,_=>exact h
 | 7,_,_=>exact h
 | 8,_,_=>exact { h with f:=rfl }
 | 9,_,_=>exact { h with p:=rfl }
 | 10,_,_=>exact { h with o:=rfl }
 | 11,_,_=>exact { h with o:=rfl }
 | 12,_,_=>exact { h with p:=rfl }
 | 13,_,hr=>exact { h with on:=fun _=>⟨rfl,hr (by omega)⟩,off:=fun hc=>(by cases hc) }
 | 14,_,hr=>exact { h with on:=fun _=>⟨rfl,hr (by omega)⟩,off:=fun hc=>(by cases hc) }
 | 15,_,_=>exact h
 | 16,_,_=>exact { h with on:=fun hc=>(by cases hc),off:=fun _=>(show(-1:Int) < 0 by decide) }
 | n+17,h,_=>exact absurd h (by omega)
theorem step_alike {p:Pg} {r:Nat} {l:List Act} {i:Nat} {x:Act} {L:Ln} {e:De} (h:RelE e L.e):(stepW p r l i x L).1=(stepD p r l i x e).1∧((stepW p r l i x L).1=0→RelE (stepD p r l i x e).2 (stepW p r l i x L).2.e):=by
 unfold stepW stepD fieldsD
 by_cases h1:1≤x.k∧x.k≤16
 ·rw[if_neg (Decidable.not_not.2 h1),if_neg (Decidable.not_not.2 h1)]
  by_cases h2:fieldsE p r x=0
  ·rw[if_neg (Decidable.not_not.2 h2),if_neg (Decidable.not_not.2 h2)]
   obtain⟨n,hn⟩:∃ n:Nat,x.k=n:=⟨x.k.toNat,by omega⟩
   have hr:13≤n→0≤x.r:=fun h=>fields_rank h2 (by omega)
   have haf:=h.af (x:=x) (n:=n) (by omega) hr
   have hnt:x.k.toNat=n:=by omega
   rw[hnt]
   by_cases h3:isRem x.k=true
   ·have h5:1≤x.k∧x.k≤5:=of_decide_eq_true h3
    rw[if_pos h3,al_rem h (by omega) (by omega)]
    cases hc:(compl l L.e i x).2 with
    | true=>
     rw[if_pos rfl,if_neg (by simp)]
     refine⟨rfl,fun _=>?_⟩
     have h6:afD e x n=e:=by
      match n,(show 1≤n by omega),(show n≤5 by omega) with
      | 1,_,_=>rfl
      | 2,_,_=>rfl
      | 3,_,_=>rfl
      | 4,_,_=>rfl
      | 5,_,_=>rfl
     show RelE (afD e x n) L.e
     rw[h6]
     exact h
    | false=>
     rw[if_neg (by simp),if_pos rfl]
     exact⟨rfl,fun hc=>(by cases hc)⟩
   ·have h5:¬ (1≤x.k∧x.k≤5):=fun hc=>h3 (dTr hc)
    rw[if_neg h3,al_loc h (by omega) (by omega) hr]
    cases hc:alP n L.e x with
    | true=>
     rw[if_neg (by simp),if_neg (by simp)]
     exact⟨rfl,fun _=>haf⟩
    | false=>
     rw[if_pos rfl,if_pos rfl]
     exact⟨rfl,fun hc=>(by cases hc)⟩
  ·rw[if_pos h2,if_pos h2]
   exact⟨rfl,fun hc=>absurd hc h2⟩
 ·rw[if_pos h1,if_pos h1,if_pos (by decide)]
  exact⟨rfl,fun hc=>(by cases hc)⟩
theorem walk_alike (p:Pg) (r:Nat) (l:List Act):∀(m:List Act) (i:Nat) (L:Ln) (e:De),RelE e L.e→walkD p r l i m e=(walkG p r l i m L).1
 | [],i,L,e,h=>by
  unfold walkD walkG
  have hk:e.k=true↔0≤L.e.l:=by
   cases hk:e.k with
   | true=>have:=h.on hk; simp; omega
   | false=>have:=h.off hk; simp; omega
  rw[h.o,h.p]
  by_cases h1:0 < L.e.o.length∨0 < L.e.p.length∨0≤L.e.l
  ·rw[if_pos h1,if_pos (by rw[hk]; exact h1)]
  ·rw[if_neg h1,if_neg (by rw[hk]; exact h1)]
 | x::m,i,L,e,h=>by
  obtain⟨h1,h2⟩:=step_alike (p:=p) (r:=r) (l:=l) (i:=i) (x:=x) h
  unfold walkD walkG
  rw[← h1]
  by_cases h3:(stepW p r l i x L).1=0
  ·rw[if_neg (Decidable.not_not.2 h3),if_neg (Decidable.not_not.2 h3)]
   exact walk_alike p r l m (i+1) _ _ (h2 h3)
  ·rw[if_pos h3,if_pos h3]
theorem line_alike (p:Pg) (r:Nat) (l:List Act):lineD p r l=(walkP p r l).1:=by
 unfold lineD walkP
 by_cases h:100 < l.length
 ·rw[if_pos h,if_pos h]
 ·rw[if_neg h,if_neg h]
  exact walk_alike p r l l 0 ln0 de0 ⟨rfl,rfl,rfl,fun hc=>(by cases hc),fun _=>(by decide)⟩
theorem chk_alikeG (p:Pg):∀(m:List (List Act)) (r:Nat) (ls:List Ln),chkDG p r m=(chkG p r m ls).1
 | [],_,_=>rfl
 | l::m,r,ls=>by
  unfold chkDG chkG
  rw[line_alike]
  by_cases h:(walkP p r l).1.2=0
  ·rw[if_neg (Decidable.not_not.2 h),if_neg (Decidable.not_not.2 h)]
   exact chk_alikeG p m _ _
  ·rw[if_pos h,if_pos h]
theorem chk_alike (p:Pg):chkD p=(chkP p).1:=by
 unfold chkD chkP
 by_cases h1:p.cells < 1∨64 < p.cells
 ·rw[if_pos h1,if_pos h1]
 rw[if_neg h1,if_neg h1]
 by_cases h2:p.acts.length=0∨64 < p.acts.length
 ·rw[if_pos h2,if_pos h2]
 rw[if_neg h2,if_neg h2]
 exact chk_alikeG p _ _ _
set_option linter.unusedVariables false
def nil2:Blk:=.cells 2 [[.sc (.int .i64 0),.sc (.slice none 0 0)]]
theorem progR_snoc (m:List (List Act)) (l:List Act):progR (m++[l])=progR m++[[.list 7 (actsR l)]]:=by simp[progR]
theorem actsR_snoc (m:List Act) (x:Act):actsR (m++[x])=actsR m++[actR x]:=by simp[actsR]
set_option maxHeartbeats 8000000 in
theorem ref_ok (p:Pg) (hn:p.acts.length≤1000) (hl:∀ l∈p.acts,l.length≤1000):PureRun Tryz.prog 17 [progV p] (progV p):=by
 refine PureRun.mkI cF17 (nlB rfl) ?_
 have e0:=progR_len p.acts
 unfold progV
 refine walkX ?_
 refine AWP.loop (fun k:Nat=>[(1,.cptr [.sc (.int .i64 p.cells),.list 1 (progR p.acts)]),(2,.ptr 0 0 0 0),(3,.ptr 1 0 0 0),(4,.sc (.int .i64 (k:Int)))]) (fun k=>[[nil2],[.cells 2 [[.sc (.int .i64 p.cells),.hsl 2 0 0 k]]],[.cells 1 (progR (p.acts.take k))]]) (fun k=>k≤p.acts.length) (fun k=>p.acts.length - k) 0 (Nat.zero_le _) ?_ ?_
 ·unfold nil2
  show Sub _ _ _ _ _ [_,[.cells 2 [[.sc (.int .i64 p.cells),.hsl 2 0 0 0]]],[.cells 1 []]]
  exact Sub.w [1] [[(1,0)],[(2,0)],[(3,0)]]
 rintro k hk
 unfold nil2
 have hkl:(progR (p.acts.take k)).length=k:=by rw[progR_len,List.length_take]; omega
 refine walkX ?_
 rw[e0]
 refine walkX ?_
 refine AWP.condD rfl (fun h=>?_) (fun h=>?_)
 ·have hpx:=progR_ix p.acts k h
  have hgl:=hl _ (List.getElem_mem h)
  have hsn:p.acts.take (k+1)=p.acts.take k++[p.acts[k]]:=List.take_succ_eq_append_getElem h
  generalize p.acts[k]=l at *
  have e1:=actsR_len l
  refine walkX ?_
  refine AWP.loop (fun i:Nat=>[(1,.cptr [.sc (.int .i64 p.cells),.list 1 (progR p.acts)]),(2,.ptr 0 0 0 0),(3,.ptr 1 0 0 0),(4,.sc (.int .i64 (k:Int))),(5,.hsl 3 0 0 i),(6,.sc (.int .i64 (i:Int)))]) (fun i=>[[nil2],[.cells 2 [[.sc (.int .i64 p.cells),.hsl 2 0 0 k]]],[.cells 1 (progR (p.acts.take k))],[.cells 7 (actsR (l.take i))]]) (fun i=>i≤l.length) (fun i=>l.length - i) 0 (Nat.zero_le _) ?_ ?_
  ·unfold nil2
   show Sub _ _ _ _ _ [_,_,_,[.cells 7 []]]
   exact Sub.w [7] [[(0,0)],[(1,0)],[(2,0)],[(3,0)]]
  rintro i hi
  unfold nil2
  have hil:(actsR (l.take i)).length=i:=by rw[actsR_len,List.length_take]; omega
  refine walkX ?_
  rw[e1]
  refine walkX ?_
  refine AWP.condD rfl (fun h2=>?_) (fun h2=>?_)
  ·have hx:=actsR_ix l i h2
   have hs2:l.take (i+1)=l.take i++[l[i]]:=List.take_succ_eq_append_getElem h2
   generalize l[i]=x at *
   unfold actR at hx
   refine walkX ?_
   refine⟨i+1,by omega,by omega,?_⟩
   rw[hs2,actsR_snoc]
   unfold actR
   exact Sub.w [] [[(0,0)],[(1,0)],[(2,0)],[(5,0)]]
  ·have hi2:i=l.length:=by omega
   subst hi2
   rw[List.take_length] at hil ⊢
   refine AWP.exit ?_
   refine AWP.sub (fr':=[(1,.cptr [.sc (.int .i64 p.cells),.list 1 (progR p.acts)]),(2,.ptr 0 0 0 0),(3,.ptr 1 0 0 0),(4,.sc (.int .i64 (k:Int))),(5,.list 7 (actsR l))]) (H':=[[nil2],[.cells 2 [[.sc (.int .i64 p.cells),.hsl 2 0 0 k]]],[.cells 1 (progR (p.acts.take k))]]) ?_ ?_
   ·unfold nil2
    exact Sub.w [] [[(0,0)],[(1,0)],[(2,0)]]
   unfold nil2
   refine walkX ?_
   refine⟨k+1,by omega,by omega,?_⟩
   rw[hsn,progR_snoc]
   exact Sub.w [] [[(0,0)],[(1,0)],[(4,0)]]
 ·have hk2:k=p.acts.length:=by omega
  subst hk2
  rw[List.take_length] at hkl ⊢
  refine walkX ?_
  exact EndP.w
set_option linter.unusedVariables false
def fewL (b:Nat) (l:List Act):Bool:=!decide (b < l.length∧l.length≠101) && l.all fun x=>decide (x.g.length≤70)
def fewB (a b:Nat) (p:Pg):Bool:=!decide (a < p.acts.length∧(p.acts.length≤64∨70 < p.acts.length)) && p.acts.all (fewL b)
theorem all_snoc {α:Type} {f:α→Bool} {l:List α} {k:Nat} (h:k < l.length) (h1:(l.take k).all f=true) (h2:f l[k]=true):(l.take (k+1)).all f=true:=by
 rw[List.take_succ_eq_append_getElem h,List.all_append,h1]
 simp[h2]
theorem all_not {α:Type} {f:α→Bool} {l:List α} {k:Nat} (h:k < l.length) (h2:f l[k]=false):l.all f=false:=by
 rw[List.all_eq_false]
 exact⟨l[k],List.getElem_mem h,by simp[h2]⟩
set_option maxHeartbeats 8000000 in
theorem few_ok (a b:Nat) (p:Pg) (hn:p.acts.length≤9223372036854775807) (hl:∀ l∈p.acts,l.length≤9223372036854775807):PureRun Tryz.prog 13 [progV p,.sc (.int .i64 (a:Int)),.sc (.int .i64 (b:Int))] (.sc (.bool (fewB a b p))):=by
 refine PureRun.mkI cF13 (nlB rfl) ?_
 have e0:=progR_len p.acts
 unfold progV fewB
 refine AWP.seq ?_
 refine AWP.region ?_
 refine walkR ?_
 refine AWP.seq ?_
 refine AWP.joinT (σ:=Unit) (fun _=>[(1,.sc (.int .i64 (a:Int))),(2,.sc (.int .i64 (b:Int))),(3,.cptr [.sc (.int .i64 p.cells),.list 1 (progR p.acts)])]) (fun _=>[]) (fun _=>¬ (a < p.acts.length∧(p.acts.length≤64∨70 < p.acts.length))) ?_ ?_
 ·refine walkX ?_
  rw[e0]
  refine walkX ?_
  by_cases c1:a < p.acts.length
  ·rw[show decide (p.acts.length > a)=true from dTr c1]
   refine walkX ?_
   rw[e0]
   by_cases c2:p.acts.length≤64
   ·rw[dTr c2,dTr ⟨c1,.inl c2⟩]
    refine walkX ?_
    exact EndP.w
   rw[dFa c2]
   refine walkX ?_
   rw[e0]
   by_cases c3:70 < p.acts.length
   ·rw[show decide (p.acts.length > 70)=true from dTr c3,dTr ⟨c1,.inr c3⟩]
    refine walkX ?_
    exact EndP.w
   rw[show decide (p.acts.length > 70)=false from dFa c3]
   refine walkX ?_
   refine⟨(),by omega,?_⟩
   exact Sub.w [] []
  ·rw[show decide (p.acts.length > a)=false from dFa c1]
   refine walkX ?_
   refine⟨(),by omega,?_⟩
   exact Sub.w [] []
 rintro _ hI
 rw[dFa hI]
 clear hI
 refine walkX ?_
 refine AWP.loop (fun k:Nat=>[(1,.sc (.int .i64 (a:Int))),(2,.sc (.int .i64 (b:Int))),(3,.cptr [.sc (.int .i64 p.cells),.list 1 (progR p.acts)]),(7,.sc (.int .i64 (k:Int)))]) (fun _=>[]) (fun k=>k≤p.acts.length∧(p.acts.take k).all (fewL b)=true) (fun k=>p.acts.length - k) 0 ⟨Nat.zero_le _,rfl⟩ ?_ ?_
 ·exact Sub.w [] []
 rintro k ⟨hk,hA⟩
 refine walkX ?_
 rw[e0]
 refine walkX ?_
 refine AWP.condD rfl (fun h=>?_) (fun h=>?_)
 ·have hpx:=progR_ix p.acts k h
  have hll:=hl _ (List.getElem_mem h)
  have hno:=all_not (f:=fewL b) h
  have hys:=all_snoc (f:=fewL b) h hA
  generalize p.acts[k]=l at *
  have e1:=actsR_len l
  rw[show fewL b l=(!decide (b < l.length∧l.length≠101) && l.all fun x=>decide (x.g.length≤70)) from rfl] at hno hys
  refine AWP.skip ?_
  refine AWP.seq ?_
  refine AWP.block ?_
  refine AWP.seq ?_
  refine AWP.joinT (σ:=Unit) (fun _=>[(1,.sc (.int .i64 (a:Int))),(2,.sc (.int .i64 (b:Int))),(3,.cptr [.sc (.int .i64 p.cells),.list 1 (progR p.acts)]),(7,.sc (.int .i64 (k:Int)))]) (fun _=>[]) (fun _=>¬ (b < l.length∧l.length≠101)) ?_ ?_
  ·refine walkX ?_
   rw[e1]
   by_cases c1:b < l.length
   ·rw[show decide (l.length > b)=true from dTr c1]
    refine walkX ?_
    rw[e1]
    by_cases c2:l.length=101
    ·rw[show(!decide (l.length=101))=false by simp[c2]]
     refine walkX ?_
     refine⟨(),fun h=>h.2 c2,?_⟩
     exact Sub.w [] []
    ·rw[show(!decide (l.length=101))=true by simp[c2]]
     rw[dTr (⟨c1,c2⟩:b < l.length∧l.length≠101)] at hno
     rw[hno rfl]
     refine walkX ?_
     exact EndP.w
   ·rw[show decide (l.length > b)=false from dFa c1]
    refine walkX ?_
    refine⟨(),fun h=>c1 h.1,?_⟩
    exact Sub.w [] []
  rintro _ hI
  rw[dFa hI] at hno hys
  clear hI
  refine walkX ?_
  refine AWP.loop (fun i:Nat=>[(1,.sc (.int .i64 (a:Int))),(2,.sc (.int .i64 (b:Int))),(3,.cptr [.sc (.int .i64 p.cells),.list 1 (progR p.acts)]),(7,.sc (.int .i64 (k:Int))),(8,.sc (.int .i64 (i:Int)))]) (fun _=>[]) (fun i=>i≤l.length∧((l.take i).all fun x=>decide (x.g.length≤70))=true) (fun i=>l.length - i) 0 ⟨Nat.zero_le _,rfl⟩ ?_ ?_
  ·exact Sub.w [] []
  rintro i ⟨hi,hB⟩
  refine walkX ?_
  rw[e1]
  refine walkX ?_
  refine AWP.condD rfl (fun h2=>?_) (fun h2=>?_)
  ·have hx:=actsR_ix l i h2
   have hno2:=all_not (f:=fun x:Act=>decide (x.g.length≤70)) h2
   have hys2:=all_snoc (f:=fun x:Act=>decide (x.g.length≤70)) h2 hB
   generalize l[i]=x at *
   unfold actR at hx
   have e2:=intsR_len x.g
   refine walkX ?_
   rw[e2]
   by_cases c1:x.g.length≤70
   ·rw[show decide (x.g.length > 70)=false from dFa (by omega)]
    refine walkX ?_
    refine⟨i+1,⟨by omega,hys2 (dTr c1)⟩,by omega,?_⟩
    exact Sub.w [] []
   ·rw[show decide (x.g.length > 70)=true from dTr (by omega)]
    rw[hno2 (dFa c1)] at hno
    rw[hno rfl]
    refine walkX ?_
    exact EndP.w
  ·rw[List.take_of_length_le (by omega)] at hB
   rw[hB] at hys
   refine walkX ?_
   refine⟨k+1,⟨by omega,hys rfl⟩,by omega,?_⟩
   exact Sub.w [] []
 ·rw[List.take_of_length_le (by omega)] at hA
  rw[hA]
  refine walkX ?_
  exact EndP.w
end Go.Proofs.YtkjoolaahocgdaaGreat
