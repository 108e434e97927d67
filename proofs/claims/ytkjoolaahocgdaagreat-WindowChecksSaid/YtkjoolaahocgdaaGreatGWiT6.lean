import Derived.Test.YtkjoolaahocgdaaGreatGWiT1
import Derived.Test.YtkjoolaahocgdaaGreatGAvSo
namespace Go.Proofs.YtkjoolaahocgdaaGreat
open Go.Av Go.Proofs
set_option maxRecDepth 20000
def idxP {α:Type} (t:α→Bool):List α→Int
 | []=>-1
 | y::l=>if t y=true then 0 else if idxP t l < 0 then -1 else idxP t l+1
theorem idxP_ge {α:Type} (t:α→Bool):∀ l:List α,-1≤idxP t l∧idxP t l < l.length
 | []=>by simp[idxP]
 | y::l=>by
  obtain⟨h1,h2⟩:=idxP_ge t l
  unfold idxP
  rw[List.length_cons]
  split
  ·omega
  ·split<;>omega
theorem idxP_at {α:Type} (t:α→Bool):∀(l:List α) (k:Nat) (h:k < l.length),t l[k]=true→(∀(j:Nat) (hj:j < l.length),j < k→t l[j]=false)→idxP t l=k
 | [],k,h,_,_=>by simp at h
 | y::l,0,_,hk,_=>by
  unfold idxP
  rw[if_pos (by simpa using hk)]
  rfl
 | y::l,k+1,h,hk,hb=>by
  have h0:=hb 0 (by simp) (by omega)
  unfold idxP
  rw[if_neg (by simpa using h0),idxP_at t l k (by simpa using h) (by simpa using hk) fun j hj hjk=>by
   have:=hb (j+1) (by simpa using hj) (by omega)
   simpa using this]
  rw[if_neg (by omega)]
  omega
theorem idxP_not {α:Type} (t:α→Bool):∀(l:List α),(∀(j:Nat) (hj:j < l.length),t l[j]=false)→idxP t l=-1
 | [],_=>rfl
 | y::l,hb=>by
  have h0:=hb 0 (by simp)
  unfold idxP
  rw[if_neg (by simpa using h0),idxP_not t l fun j hj=>by
   have:=hb (j+1) (by simpa using hj)
   simpa using this]
  rfl
def Tests (f:AV) (t:Act→Bool):Prop:=∀ x:Act,Does f [.agg (actR x)] (.sc (.bool (t x)))
set_option maxHeartbeats 4000000 in
theorem idxf_ok (l:List Act) {f:AV} [PV f] (t:Act→Bool) (hf:Tests f t) (hl:l.length≤1000000):PureRun Tryz.prog 127 [.list 7 (actsR l),f] (.sc (.int .i64 (idxP t l))):=by
 refine PureRun.mkI cF127 (nlB rfl) ?_
 have e0:=actsR_len l
 refine walkX ?_
 refine AWP.loop (fun k:Nat=>[(0,.list 7 (actsR l)),(1,f),(6,.list 7 (actsR l)),(7,.sc (.int .i64 (l.length:Int))),(8,.sc (.int .i64 (k:Int)))])
  (fun k=>[]) (fun k=>k≤l.length∧∀(j:Nat) (hj:j < l.length),j < k→t l[j]=false) (fun k=>l.length - k) 0 ⟨Nat.zero_le _,fun j hj h=>by omega⟩ ?_ ?_
 ·exact Sub.w [] []
 rintro k ⟨hk,hb⟩
 refine walkX ?_
 refine AWP.condD rfl (fun h=>?_) (fun h=>?_)
 ·have hr:=actsR_ix l k h
  obtain⟨g,cs,hfe,hp⟩:Does f [.agg (actR l[k])] (.sc (.bool (t l[k]))):=hf l[k]
  have h1:=idxP_at t l k h
  have h2:t l[k]=false→∀(j:Nat) (hj:j < l.length),j < k+1→t l[j]=false:=fun e j hj hjk=>by
   by_cases e:j=k
   ·subst e; assumption
   ·exact hb j hj (by omega)
  generalize l[k]=x at *
  generalize ht:t x=b at *
  have hrow:actR x=[.sc (.int .i64 x.k),.sc (.int .i64 x.r),.sc (.int .i64 x.a),.sc (.int .i64 x.o),.sc (.int .i64 x.v),.sc (.int .i64 x.w),.list 1 (intsR x.g)]:=rfl
  rw[hrow] at hr hp
  subst hfe
  refine walkX ?_
  cases b with
  | true=>
   rw[h1 rfl hb]
   refine walkX ?_
   exact EndP.w
  | false=>
   refine walkX ?_
   refine⟨k+1,⟨by omega,h2 rfl⟩,by omega,?_⟩
   exact Sub.w [] []
 rw[idxP_not t l fun j hj=>hb j hj (by omega)]
 refine walkX ?_
 exact EndP.w
def stC (k:Int):Bool:=decide (k=11)
def stF (k:Int):Bool:=decide (k=15∨k=16)
def stN (k:Int):Bool:=decide (k=8∨k=10∨k=13∨k=14)
theorem stop1 (k:Int):PureRun Tryz.prog 129 [.sc (.int .i64 k)] (.sc (.bool (stC k))):=by
 refine PureRun.mkI cF129 (nlB rfl) ?_
 have e:stC k=(k == 11):=by unfold stC; rw[Bool.eq_iff_iff]; simp
 rw[e]
 refine walkX ?_
 exact EndP.w
theorem stop2 (k:Int):PureRun Tryz.prog 130 [.sc (.int .i64 k)] (.sc (.bool (stF k))):=by
 refine PureRun.mkI cF130 (nlB rfl) ?_
 unfold stF
 by_cases h1:k=15
 ·subst h1
  refine walkX ?_
  exact EndP.w
 ·have e1:(k == 15)=false:=by simpa using h1
  refine walkX ?_
  rw[e1]
  refine walkX ?_
  rw[show decide (k=15∨k=16)=(k == 16) by rw[Bool.eq_iff_iff]; simp[h1]]
  exact EndP.w
theorem stop3 (k:Int):PureRun Tryz.prog 131 [.sc (.int .i64 k)] (.sc (.bool (stN k))):=by
 refine PureRun.mkI cF131 (nlB rfl) ?_
 unfold stN
 by_cases h1:k=8
 ·subst h1
  refine walkX ?_
  exact EndP.w
 have e1:(k == 8)=false:=by simpa using h1
 by_cases h2:k=10
 ·subst h2
  refine walkX ?_
  exact EndP.w
 have e2:(k == 10)=false:=by simpa using h2
 by_cases h3:k=13
 ·subst h3
  refine walkX ?_
  exact EndP.w
 have e3:(k == 13)=false:=by simpa using h3
 refine walkX ?_
 rw[e1]
 refine walkX ?_
 rw[e2]
 refine walkX ?_
 rw[e3]
 refine walkX ?_
 rw[show decide (k=8∨k=10∨k=13∨k=14)=(k == 14) by rw[Bool.eq_iff_iff]; simp[h1,h2,h3]]
 exact EndP.w
theorem f128_ok {s:AV} [PV s] {t:Int→Bool} (hs:∀ k,Does s [.sc (.int .i64 k)] (.sc (.bool (t k)))):Tests (.clo (.func 128) [] [.cptr [s]]) fun x=>t x.k:=by
 intro x
 refine⟨128,_,rfl,PureRun.mkI cF128 (nlB rfl) ?_⟩
 obtain⟨g,cs,rfl,hp⟩:=hs x.k
 unfold actR
 refine walkX ?_
 exact EndP.w
def ofP (t:Int→Bool) (l:List Act) (i:Nat):Nat:=if idxP (fun x:Act=>t x.k) (l.drop (i+1)) < 0 then l.length else i+1+(idxP (fun x:Act=>t x.k) (l.drop (i+1))).toNat
theorem ofP_le (t:Int→Bool) (l:List Act) (i:Nat):ofP t l i≤l.length:=by
 unfold ofP
 split
 ·exact Nat.le_refl _
 ·have:=(idxP_ge (fun x:Act=>t x.k) (l.drop (i+1))).2
  rw[List.length_drop] at this
  omega
set_option maxHeartbeats 4000000 in
theorem f126_ok (l:List Act) (i:Nat) (n:Nat) {t:Int→Bool} (hs:∀ k,PureRun Tryz.prog n [.sc (.int .i64 k)] (.sc (.bool (t k)))) (hi:i < l.length) (hl:l.length≤1000000):
  PureRun Tryz.prog 126 [fT n,.cptr [.list 7 (actsR l)],.cptr [.sc (.int .i64 (i:Int))]] (.sc (.int .i64 ((ofP t l i:Nat):Int))):=by
 refine PureRun.mkI cF126 (nlB rfl) ?_
 have e0:=actsR_len l
 have hx:=idxf_ok (l.drop (i+1)) (fun x=>t x.k) (f128_ok fun k=>does_fT (hs k)) (by rw[List.length_drop]; omega)
 have hg:=idxP_ge (fun x=>t x.k) (l.drop (i+1))
 rw[List.length_drop] at hg
 unfold ofP
 generalize idxP (fun x:Act=>t x.k) (l.drop (i+1))=q at *
 refine walkX ?_
 refine Reg.o rfl (dstep_fromL (rows':=actsR (l.drop (i+1))) rfl rfl (by rw[e0]; omega) (by simp[actsR,List.map_drop])) ?_
 refine walkX ?_
 (refine Reg.pv (by first | exact Nat.zero_le _ | exact Nat.le_refl _ | (simp; done) | (simp; omega)) rfl hx (by first | exact .sc _ | (exact .agg _ (fun c hc=>by simp at hc; rcases hc with h | h<;>subst h<;>exact .sc _)) | assumption) ?vw9 ?_; case vw9=>(all_goals (repeat' (first | exact ToAll.nil | exact famsTo.nil | exact famTo.nil | exact ToL.nil | exact ToR.nil | refine ToAll.cons ?_ ?_ | refine famsTo.cons ?_ ?_ | refine wt10 ?_ ?_ | exact To.undef _ | exact To.sc _ | exact To.hslL rfl rfl | exact To.asl _ _ _ _ _ _ rfl | exact To.ptrO rfl rfl rfl | exact To.mrefO rfl | exact To.nil rfl rfl rfl | exact wt1 | exact To.nilL | refine To.int ?_ | refine To.bool ?_ | refine To.hslL rfl ?_ | refine wt2 rfl ?_ ?_ ?_ | refine To.tupL ?_ | refine To.aggL ?_ | refine To.cptrL ?_ | refine To.fzp rfl rfl rfl ?_ | refine To.fzm rfl rfl ?_ | refine To.cloL ?_ ?_ | refine wt3 ?_ | refine wt4 ?_ | exact wt5 | refine wt6 ?_ | refine ToB.one ?_ | exact wt7 | ((with_reducible apply ToL.consE); case e9=>rfl) | refine wt8 ?_ | refine ToL.cons ?_ ?_ | exact wt11 | refine wt9 ?_ ?_ | refine wt12 ?_ | (with_reducible rfl) | assumption)); all_goals (first | rfl | assumption | (simp; done) | (simp; omega))))
 refine walkX ?_
 by_cases hq:q < 0
 ·rw[dTr hq,if_pos hq]
  refine walkX ?_
  rw[e0]
  exact EndP.w
 ·rw[dFa hq,if_neg hq]
  obtain⟨m,rfl⟩:∃ m:Nat,q=m:=⟨q.toNat,by omega⟩
  refine walkX ?_
  exact EndP.w
def compl (l:List Act) (e:Ep) (i:Nat) (x:Act):Nat×Bool:=
 if 0 < e.o.length then(ofP stC l i,decide (x.r∈e.o))
 else if 0≤e.l then(ofP stF l i,decide (e.l=x.r))
 else(ofP stN l i,e.f && match l[ofP stN l i]? with | some y=>decide (y.k=8) | none=>false)
theorem le_hd {n:Nat} (r:List AV):∀(j:Nat) a b,(fnC n::r)[j]?=some a→(fT n::r)[j]?=some b→Le a b:=fun j a b ha hb=>by
 cases j with
 | zero=>simp at ha hb; subst ha; subst hb; exact Le.func n
 | succ j=>simp at ha hb; rw[ha] at hb; injection hb with hb; subst hb; exact Le.refl _
set_option maxHeartbeats 8000000 in
theorem compl_ok (l:List Act) (e:Ep) (i:Nat) (hi:i < l.length) (hl:l.length≤1000000) (ho:e.o.length≤9223372036854775807):
  PureRun Tryz.prog 98 [.list 7 (actsR l),.agg (epR e),.sc (.int .i64 (i:Int))] (.tup [.sc (.int .i64 (((compl l e i l[i]).1:Nat):Int)),.sc (.bool (compl l e i l[i]).2)]):=by
 refine PureRun.mkI cF98 (nlB rfl) ?_
 have e0:=actsR_len l
 have e1:=intsR_len e.o
 have hr:=actsR_ix l i hi
 have c1:=f126_ok l i 129 stop1 hi hl
 have c2:=f126_ok l i 130 stop2 hi hl
 have c3:=f126_ok l i 131 stop3 hi hl
 have hc:=contains_ok e.o l[i].r ho
 have hlt:=ofP_le stN l i
 unfold compl
 generalize hx:l[i]=x at *
 have d1:=c1.args (args:=[fnC 129,.cptr [.list 7 (actsR l)],.cptr [.sc (.int .i64 (i:Int))]]) rfl (le_hd _)
 have d2:=c2.args (args:=[fnC 130,.cptr [.list 7 (actsR l)],.cptr [.sc (.int .i64 (i:Int))]]) rfl (le_hd _)
 have d3:=c3.args (args:=[fnC 131,.cptr [.list 7 (actsR l)],.cptr [.sc (.int .i64 (i:Int))]]) rfl (le_hd _)
 unfold epR
 unfold actR at hr
 refine walkX ?_
 refine AWP.sub (fr':=[(16,.sc (.bool (decide (0 < e.o.length)))),(3,.cptr [.list 7 (actsR l)]),(4,.cptr [.sc (.bool e.f),.list 1 (intsR e.o),.list 1 (intsR e.p),.sc (.int .i64 e.l)]),(8,.cptr [.sc (.int .i64 x.k),.sc (.int .i64 x.r),.sc (.int .i64 x.a),.sc (.int .i64 x.o),.sc (.int .i64 x.v),.sc (.int .i64 x.w),.list 1 (intsR x.g)]),(9,.clo (.func 126) [] [.cptr [.list 7 (actsR l)],.cptr [.sc (.int .i64 (i:Int))]])]) (H':=[]) ?_ ?_
 ·exact Sub.w [] []
 by_cases h1:0 < e.o.length
 ·rw[if_pos h1,dTr h1]
  refine walkX0 ?_
  refine AWP.lin [(true,0),(true,2),(true,3),(true,4),(true,5),(false,1),(true,7),(false,6),(true,8)] mixed (by kernel_rfl) (by kernel_rfl) ?_
  refine walkL ?_
  refine walkX ?_
  exact EndP.w
 rw[if_neg h1,dFa h1]
 refine walkX0 ?_
 by_cases h2:0≤e.l
 ·rw[if_pos h2,show decide (e.l≥0)=true from dTr h2]
  refine walkX0 ?_
  refine AWP.lin [(true,0),(true,2),(true,3),(true,4),(true,5),(true,6),(true,8),(false,1),(true,7)] mixed (by kernel_rfl) (by kernel_rfl) ?_
  refine walkL ?_
  rw[show(e.l == x.r)=decide (e.l=x.r) by rw[Bool.eq_iff_iff]; simp]
  refine walkX ?_
  exact EndP.w
 rw[if_neg h2,show decide (e.l≥0)=false from dFa h2]
 generalize ofP stN l i=k at *
 cases hf:e.f with
 | false=>
  refine walkX ?_
  refine DK.nil ⟨by kernel_rfl,?_⟩
  refine walkX ?_
  exact EndP.w
 | true=>
  by_cases hk:k < l.length
  ·have hr2:=actsR_ix l k hk
   rw[gEg hk]
   generalize l[k]=y at *
   unfold actR at hr2
   refine walkX ?_
   rw[e0,dTr hk]
   refine walkX ?_
   rw[show(y.k == 8)=decide (y.k=8) by rw[Bool.eq_iff_iff]; simp]
   refine DK.nil ⟨by kernel_rfl,?_⟩
   refine walkX ?_
   exact EndP.w
  ·rw[List.getElem?_eq_none (by omega)]
   refine walkX ?_
   rw[e0,dFa hk]
   refine walkX ?_
   refine DK.nil ⟨by kernel_rfl,?_⟩
   refine walkX ?_
   exact EndP.w
def grpE (n r:Nat):List Int→List Int→Int
 | _,[]=>0
 | seen,b::g=>if b < 0∨(n:Int)≤b∨b=(r:Int) then 11 else if b∈seen then 5 else grpE n r (seen++[b]) g
def fieldsB (n:Nat) (cells:Int) (r:Nat) (b1 b2 b3 b4:Bool) (x:Act):Int:=
 if b1=true∧(x.r < 0∨(n:Int)≤x.r) then 11
 else if b2=true∧(x.a < 0∨cells≤x.a) then 3
 else if b3=true then checkE x.o 1
 else if b4=true then if x.g.length=0 then 2 else grpE n r [] x.g
 else 0
theorem grpE_drop {n r:Nat} {g:List Int} {k:Nat} (h:k < g.length):grpE n r (g.take k) (g.drop k)=if g[k] < 0∨(n:Int)≤g[k]∨g[k]=(r:Int) then 11 else if g[k]∈g.take k then 5 else grpE n r (g.take (k+1)) (g.drop (k+1)):=by
 rw[List.drop_eq_getElem_cons h,grpE,List.take_succ_eq_append_getElem h]
theorem intsR_take (l:List Int) (k:Nat):(intsR l).take k=intsR (l.take k):=by simp[intsR,List.map_take]
set_option maxHeartbeats 8000000 in
theorem fields_ok (p:Pg) (r:Nat) (b1 b2 b3 b4:Bool) (u1 u2 u3 u4 u5:AV) [PV u1] [PV u2] [PV u3] [PV u4] [PV u5] (hu:[u1,u2,u3,u4,u5].all AV.cell1=true) (x:Act) (hg:x.g.length≤9223372036854775807):
  PureRun Tryz.prog 97 [progV p,.sc (.int .i64 (r:Int)),.agg [.sc (.bool b1),.sc (.bool b2),.sc (.bool b3),.sc (.bool b4),u1,u2,u3,u4,u5],.agg (actR x)] (.sc (.int .i64 (fieldsB p.acts.length p.cells r b1 b2 b3 b4 x))):=by
 refine PureRun.mkI cF97 (nlB rfl) ?_
 have e0:=progR_len p.acts
 have e1:=intsR_len x.g
 have hc:=check_ok x.o 1
 unfold progV actR
 refine walkX ?_
 refine Reg.o rfl (dstep_boxN (n:=9) rfl (by rw[List.all_cons,List.all_cons,List.all_cons,List.all_cons]; simp only[Bool.and_eq_true]; exact⟨rfl,rfl,rfl,rfl,hu⟩) rfl) ?_
 refine walkR ?_
 refine AWP.seq ?_
 refine AWP.joinT (σ:=Unit) (fun _=>[(1,.sc (.int .i64 (r:Int))),(4,.cptr [.sc (.int .i64 p.cells),.list 1 (progR p.acts)]),(7,.cptr [.sc (.int .i64 x.k),.sc (.int .i64 x.r),.sc (.int .i64 x.a),.sc (.int .i64 x.o),.sc (.int .i64 x.v),.sc (.int .i64 x.w),.list 1 (intsR x.g)])]) (fun _=>[]) (fun _=>fieldsB p.acts.length p.cells r b1 b2 b3 b4 x=grpE p.acts.length r [] x.g) ?_ ?_
 unfold fieldsB
 by_cases h1:b1=true∧(x.r < 0∨(p.acts.length:Int)≤x.r)
 ·rw[if_pos h1]
  obtain⟨rfl,h1⟩:=h1
  refine walkX ?_
  by_cases h2:x.r < 0
  ·rw[dTr h2]
   refine walkX ?_
   exact EndP.w
  ·rw[dFa h2]
   refine walkX ?_
   rw[e0,show decide (x.r≥(p.acts.length:Int))=true from dTr (by omega)]
   refine walkX ?_
   exact EndP.w
 rw[if_neg h1]
 have h1:b1=false∨(b1=true∧¬ x.r < 0∧¬ x.r≥(p.acts.length:Int)):=by
  cases b1 with
  | false=>exact .inl rfl
  | true=>exact .inr ⟨rfl,fun h=>h1 ⟨rfl,.inl h⟩,fun h=>h1 ⟨rfl,.inr h⟩⟩
 by_cases h2:b2=true∧(x.a < 0∨p.cells≤x.a)
 ·rw[if_pos h2]
  obtain⟨rfl,h2⟩:=h2
  rcases h1 with rfl | ⟨rfl,h3,h4⟩
  ·(refine walkX ?_; by_cases h7:x.a < 0; (rw[dTr h7]; refine walkX ?_; exact EndP.w); (rw[dFa h7]; refine walkX ?_; rw[show decide (x.a≥p.cells)=true from dTr (by omega)]; refine walkX ?_; exact EndP.w))
  ·(refine walkX ?_; rw[dFa h3]; refine walkX ?_; rw[e0,dFa h4]; refine walkX ?_)
   (refine walkX ?_; by_cases h7:x.a < 0; (rw[dTr h7]; refine walkX ?_; exact EndP.w); (rw[dFa h7]; refine walkX ?_; rw[show decide (x.a≥p.cells)=true from dTr (by omega)]; refine walkX ?_; exact EndP.w))
 rw[if_neg h2]
 have h2:b2=false∨(b2=true∧¬ x.a < 0∧¬ x.a≥p.cells):=by
  cases b2 with
  | false=>exact .inl rfl
  | true=>exact .inr ⟨rfl,fun h=>h2 ⟨rfl,.inl h⟩,fun h=>h2 ⟨rfl,.inr h⟩⟩
 cases b3 with
 | true=>
  rw[if_pos rfl]
  rcases h1 with rfl | ⟨rfl,h3,h4⟩<;>rcases h2 with rfl | ⟨rfl,h5,h6⟩
  ·refine walkX ?_
   exact EndP.w
  ·(refine walkX ?_; rw[dFa h5]; refine walkX ?_; rw[dFa h6]; refine walkX ?_)
   exact EndP.w
  ·(refine walkX ?_; rw[dFa h3]; refine walkX ?_; rw[e0,dFa h4]; refine walkX ?_)
   exact EndP.w
  ·(refine walkX ?_; rw[dFa h3]; refine walkX ?_; rw[e0,dFa h4]; refine walkX ?_)
   (refine walkX ?_; rw[dFa h5]; refine walkX ?_; rw[dFa h6]; refine walkX ?_)
   exact EndP.w
 | false=>
  rw[if_neg (by simp)]
  cases b4 with
  | false=>
   rw[if_neg (by simp)]
   rcases h1 with rfl | ⟨rfl,h3,h4⟩<;>rcases h2 with rfl | ⟨rfl,h5,h6⟩
   ·refine walkX ?_
    exact EndP.w
   ·(refine walkX ?_; rw[dFa h5]; refine walkX ?_; rw[dFa h6]; refine walkX ?_)
    exact EndP.w
   ·(refine walkX ?_; rw[dFa h3]; refine walkX ?_; rw[e0,dFa h4]; refine walkX ?_)
    exact EndP.w
   ·(refine walkX ?_; rw[dFa h3]; refine walkX ?_; rw[e0,dFa h4]; refine walkX ?_)
    (refine walkX ?_; rw[dFa h5]; refine walkX ?_; rw[dFa h6]; refine walkX ?_)
    exact EndP.w
  | true=>
   rw[if_pos rfl]
   by_cases h0:x.g.length=0
   ·rw[if_pos h0]
    have hl:=dTr h0
    rcases h1 with rfl | ⟨rfl,h3,h4⟩<;>rcases h2 with rfl | ⟨rfl,h5,h6⟩
    ·(refine walkX ?_; rw[e1,hl]; refine walkX ?_)
     exact EndP.w
    ·(refine walkX ?_; rw[dFa h5]; refine walkX ?_; rw[dFa h6]; refine walkX ?_)
     (refine walkX ?_; rw[e1,hl]; refine walkX ?_)
     exact EndP.w
    ·(refine walkX ?_; rw[dFa h3]; refine walkX ?_; rw[e0,dFa h4]; refine walkX ?_)
     (refine walkX ?_; rw[e1,hl]; refine walkX ?_)
     exact EndP.w
    ·(refine walkX ?_; rw[dFa h3]; refine walkX ?_; rw[e0,dFa h4]; refine walkX ?_)
     (refine walkX ?_; rw[dFa h5]; refine walkX ?_; rw[dFa h6]; refine walkX ?_)
     (refine walkX ?_; rw[e1,hl]; refine walkX ?_)
     exact EndP.w
   have hl:=dFa h0
   rcases h1 with rfl | ⟨rfl,h3,h4⟩<;>rcases h2 with rfl | ⟨rfl,h5,h6⟩
   ·(refine walkX ?_; rw[e1,hl]; refine walkX ?_)
    (refine⟨(),if_neg h0,?_⟩; exact Sub.w [] [])
   ·(refine walkX ?_; rw[dFa h5]; refine walkX ?_; rw[dFa h6]; refine walkX ?_)
    (refine walkX ?_; rw[e1,hl]; refine walkX ?_)
    (refine⟨(),if_neg h0,?_⟩; exact Sub.w [] [])
   ·(refine walkX ?_; rw[dFa h3]; refine walkX ?_; rw[e0,dFa h4]; refine walkX ?_)
    (refine walkX ?_; rw[e1,hl]; refine walkX ?_)
    (refine⟨(),if_neg h0,?_⟩; exact Sub.w [] [])
   ·(refine walkX ?_; rw[dFa h3]; refine walkX ?_; rw[e0,dFa h4]; refine walkX ?_)
    (refine walkX ?_; rw[dFa h5]; refine walkX ?_; rw[dFa h6]; refine walkX ?_)
    (refine walkX ?_; rw[e1,hl]; refine walkX ?_)
    (refine⟨(),if_neg h0,?_⟩; exact Sub.w [] [])
 rintro _ hI
 rw[hI]
 refine walkX ?_
 rw[e1]
 refine AWP.loop (fun k:Nat=>[(1,.sc (.int .i64 (r:Int))),(4,.cptr [.sc (.int .i64 p.cells),.list 1 (progR p.acts)]),(7,.cptr [.sc (.int .i64 x.k),.sc (.int .i64 x.r),.sc (.int .i64 x.a),.sc (.int .i64 x.o),.sc (.int .i64 x.v),.sc (.int .i64 x.w),.list 1 (intsR x.g)]),
  (62,.list 1 (intsR x.g)),(63,.sc (.int .i64 (x.g.length:Int))),(64,.sc (.int .i64 (k:Int)))]) (fun _=>[]) (fun k=>k≤x.g.length∧grpE p.acts.length r (x.g.take k) (x.g.drop k)=grpE p.acts.length r [] x.g) (fun k=>x.g.length - k) 0 ⟨Nat.zero_le _,rfl⟩ ?_ ?_
 ·exact Sub.w [] []
 rintro k ⟨hk,hb⟩
 refine walkX ?_
 refine AWP.condD rfl (fun h=>?_) (fun h=>?_)
 ·have hr:=intsR_ix x.g k h
  have hd:=grpE_drop (n:=p.acts.length) (r:=r) h
  have hcn:=contains_ok (x.g.take k) x.g[k] (by rw[List.length_take]; omega)
  rw[hb] at hd
  rw[hd]
  generalize x.g[k]=b at *
  refine walkX ?_
  by_cases q1:b < 0
  ·rw[dTr q1,if_pos (.inl q1)]
   refine walkX ?_
   exact EndP.w
  rw[dFa q1]
  refine walkX ?_
  rw[e0]
  by_cases q2:(p.acts.length:Int)≤b
  ·rw[show decide (b≥(p.acts.length:Int))=true from dTr q2,if_pos (.inr (.inl q2))]
   refine walkX ?_
   exact EndP.w
  rw[show decide (b≥(p.acts.length:Int))=false from dFa q2]
  refine walkX ?_
  by_cases q3:b=(r:Int)
  ·rw[show(b == (r:Int))=true by simpa using q3,if_pos (.inr (.inr q3))]
   refine walkX ?_
   exact EndP.w
  rw[show(b == (r:Int))=false by simpa using q3,if_neg (by omega)]
  refine walkX ?_
  refine Reg.o rfl (dstep_cutL (rows':=intsR (x.g.take k)) rfl rfl (by omega) (intsR_take _ _)) ?_
  refine walkX ?_
  by_cases q4:b∈x.g.take k
  ·rw[dTr q4,if_pos q4]
   refine walkX ?_
   exact EndP.w
  ·rw[dFa q4,if_neg q4]
   refine walkX ?_
   refine⟨k+1,⟨by omega,rfl⟩,by omega,?_⟩
   exact Sub.w [] []
 ·have hk2:k=x.g.length:=by omega
  subst hk2
  rw[List.drop_length] at hb
  rw[← hb]
  unfold grpE
  refine walkX ?_
  exact EndP.w
def alP (k:Nat) (e:Ep) (x:Act):Bool:=match k with
 | 6=>true
 | 7=>true
 | 8=>decide (e.o.length=0) && decide (e.l < 0) && decide (e.p.length=0)
 | 9=>decide (e.p.length=0) && decide (e.l < 0)
 | 10=>decide (e.o.length=0) && decide (e.l < 0)
 | 11=>decide (0 < e.o.length)
 | 12=>decide (0 < e.p.length) && decide (e.l < 0)
 | 13=>decide (e.o.length=0) && decide (e.l < 0)
 | 14=>decide (e.o.length=0) && decide (e.l < 0)
 | 15=>decide (e.l=x.r)
 | _=>decide (e.l=x.r)
theorem al82 (e:Ep) (x:Act):PureRun Tryz.prog 82 [.agg (epR e),.agg (actR x)] (.sc (.bool (decide (e.o.length=0) && decide (e.l < 0)))):=by
 refine PureRun.mkI cF82 (nlB rfl) ?_
 have e1:=intsR_len e.o
 unfold epR actR
 refine walkX ?_
 rw[e1]
 by_cases h:e.o.length=0
 ·rw[dTr h]
  refine walkX ?_
  exact EndP.w
 ·rw[dFa h]
  refine walkX ?_
  exact EndP.w
theorem al81 (e:Ep) (x:Act):PureRun Tryz.prog 81 [.agg (epR e),.agg (actR x)] (.sc (.bool true)):=by
 refine PureRun.mkI cF81 (nlB rfl) ?_
 unfold epR actR
 refine walkX ?_
 exact EndP.w
theorem al83 (e:Ep) (x:Act):PureRun Tryz.prog 83 [.agg (epR e),.agg (actR x)] (.sc (.bool (decide (e.l=x.r)))):=by
 refine PureRun.mkI cF83 (nlB rfl) ?_
 unfold epR actR
 refine walkX ?_
 rw[show(e.l == x.r)=decide (e.l=x.r) by rw[Bool.eq_iff_iff]; simp]
 exact EndP.w
theorem al84 (e:Ep) (x:Act):PureRun Tryz.prog 84 [.agg (epR e),.agg (actR x),.cptr [fT 82]] (.sc (.bool (decide (e.o.length=0) && decide (e.l < 0) && decide (e.p.length=0)))):=by
 refine PureRun.mkI cF84 (nlB rfl) ?_
 have e1:=intsR_len e.p
 have h:=al82 e x
 generalize (decide (e.o.length=0) && decide (e.l < 0))=b at *
 unfold epR actR at *
 refine walkX ?_
 cases b with
 | false=>
  refine walkX ?_
  exact EndP.w
 | true=>
  refine walkX ?_
  rw[e1]
  refine walkX ?_
  exact EndP.w
theorem al86 (e:Ep) (x:Act):PureRun Tryz.prog 86 [.agg (epR e),.agg (actR x)] (.sc (.bool (decide (e.p.length=0) && decide (e.l < 0)))):=by
 refine PureRun.mkI cF86 (nlB rfl) ?_
 have e1:=intsR_len e.p
 unfold epR actR
 refine walkX ?_
 rw[e1]
 by_cases h:e.p.length=0
 ·rw[dTr h]
  refine walkX ?_
  exact EndP.w
 ·rw[dFa h]
  refine walkX ?_
  exact EndP.w
theorem al89 (e:Ep) (x:Act):PureRun Tryz.prog 89 [.agg (epR e),.agg (actR x)] (.sc (.bool (decide (0 < e.o.length)))):=by
 refine PureRun.mkI cF89 (nlB rfl) ?_
 have e1:=intsR_len e.o
 unfold epR actR
 refine walkX ?_
 rw[e1]
 exact EndP.w
theorem al91 (e:Ep) (x:Act):PureRun Tryz.prog 91 [.agg (epR e),.agg (actR x)] (.sc (.bool (decide (0 < e.p.length) && decide (e.l < 0)))):=by
 refine PureRun.mkI cF91 (nlB rfl) ?_
 have e1:=intsR_len e.p
 unfold epR actR
 refine walkX ?_
 rw[e1]
 by_cases h:0 < e.p.length
 ·rw[dTr h]
  refine walkX ?_
  exact EndP.w
 ·rw[dFa h]
  refine walkX ?_
  exact EndP.w
theorem al_ok (k:Nat) (h1:6≤k) (h2:k≤16) (e:Ep) (x:Act):Does (alV k) [.agg (epR e),.agg (actR x)] (.sc (.bool (alP k e x))):=by
 match k,h1,h2 with
 | 6,_,_=>exact does_fT (al81 e x)
 | 7,_,_=>exact does_fT (al81 e x)
 | 8,_,_=>exact⟨84,_,rfl,al84 e x⟩
 | 9,_,_=>exact does_fT (al86 e x)
 | 10,_,_=>exact does_fT (al82 e x)
 | 11,_,_=>exact does_fT (al89 e x)
 | 12,_,_=>exact does_fT (al91 e x)
 | 13,_,_=>exact does_fT (al82 e x)
 | 14,_,_=>exact does_fT (al82 e x)
 | 15,_,_=>exact does_fT (al83 e x)
 | 16,_,_=>exact does_fT (al83 e x)
 | k+17,_,h=>exact absurd h (by omega)
def cBox (p:Pg) (n:Nat):List AV:=[.sc (.int .i64 p.cells),.list 1 (progR p.acts),.tmap formsE,.hsl 1 0 0 n]
def lineM (L:Ln):List AV:=[.sc (.bool L.e.f),.list 1 (intsR L.e.o),.list 1 (intsR L.e.p),.sc (.int .i64 L.e.l),.mref 4 0,.hsl 7 0 0 L.fe.length,.hsl 8 0 0 L.st.length,.hsl 9 0 0 L.po.length,.mref 5 0,.mref 6 0]
def wkH (p:Pg) (ls:List Ln) (L:Ln):Heap:=[[.cells 4 [cBox p ls.length]],[.cells 10 (linesR ls)],[.cells 2 [[.sc (.int .i64 0),.sc (.int .i64 0)]]],[.cells 10 [lineM L]],[.map (accE L.acc)],[.map (mapE L.co)],[.map (mapE L.wt)],[.cells 1 (natsR L.fe)],[.cells 1 (natsR L.st)],[.cells 1 (natsR L.po)]]
def afP (k:Nat) (e:Ep) (x:Act):Ep:=match k with
 | 8=>{ e with f:=true }
 | 9=>{ e with p:=x.g }
 | 10=>{ e with o:=x.g }
 | 11=>{ e with o:=[] }
 | 12=>{ e with p:=[] }
 | 13=>{ e with l:=x.r }
 | 14=>{ e with l:=x.r }
 | 16=>{ e with l:=-1 }
 | _=>e
def AfOK (g:Nat) (k:Nat):Prop:=∀(p:Pg) (ls:List Ln) (L:Ln) (x:Act),CallOK Tryz.prog g [.ptr 3 0 0 0,.agg (actR x)] (wkH p ls L) fun res H'=>res=.tup []∧H'=wkH p ls { L with e:=afP k L.e x }
theorem af85:AfOK 85 8:=by
 intro p ls L x
 refine CallOK.of cF85 ?_ (nlB rfl)
 unfold actR wkH lineM cBox afP
 refine walkX ?_
 (refine endH (res':=.tup []) [[(0,0)],[(1,0)],[(2,0)],[(3,0)],[(4,0)],[(5,0)],[(6,0)],[(7,0)],[(8,0)],[(9,0)]] (.inl rfl) rfl ⟨rfl,rfl⟩ ?_ ?_ rfl rfl rfl; (all_goals exact tocW))
theorem af87:AfOK 87 9:=by
 intro p ls L x
 refine CallOK.of cF87 ?_ (nlB rfl)
 unfold actR wkH lineM cBox afP
 refine walkX ?_
 (refine endH (res':=.tup []) [[(0,0)],[(1,0)],[(2,0)],[(3,0)],[(4,0)],[(5,0)],[(6,0)],[(7,0)],[(8,0)],[(9,0)]] (.inl rfl) rfl ⟨rfl,rfl⟩ ?_ ?_ rfl rfl rfl; (all_goals exact tocW))
theorem af88:AfOK 88 10:=by
 intro p ls L x
 refine CallOK.of cF88 ?_ (nlB rfl)
 unfold actR wkH lineM cBox afP
 refine walkX ?_
 (refine endH (res':=.tup []) [[(0,0)],[(1,0)],[(2,0)],[(3,0)],[(4,0)],[(5,0)],[(6,0)],[(7,0)],[(8,0)],[(9,0)]] (.inl rfl) rfl ⟨rfl,rfl⟩ ?_ ?_ rfl rfl rfl; (all_goals exact tocW))
theorem af90:AfOK 90 11:=by
 intro p ls L x
 refine CallOK.of cF90 ?_ (nlB rfl)
 unfold actR wkH lineM cBox afP
 refine walkX ?_
 (refine endH (res':=.tup []) [[(0,0)],[(1,0)],[(2,0)],[(3,0)],[(4,0)],[(5,0)],[(6,0)],[(7,0)],[(8,0)],[(9,0)]] (.inl rfl) rfl ⟨rfl,rfl⟩ ?_ ?_ rfl rfl rfl; (all_goals exact tocW))
theorem af92:AfOK 92 12:=by
 intro p ls L x
 refine CallOK.of cF92 ?_ (nlB rfl)
 unfold actR wkH lineM cBox afP
 refine walkX ?_
 (refine endH (res':=.tup []) [[(0,0)],[(1,0)],[(2,0)],[(3,0)],[(4,0)],[(5,0)],[(6,0)],[(7,0)],[(8,0)],[(9,0)]] (.inl rfl) rfl ⟨rfl,rfl⟩ ?_ ?_ rfl rfl rfl; (all_goals exact tocW))
theorem af93:AfOK 93 13:=by
 intro p ls L x
 refine CallOK.of cF93 ?_ (nlB rfl)
 unfold actR wkH lineM cBox afP
 refine walkX ?_
 (refine endH (res':=.tup []) [[(0,0)],[(1,0)],[(2,0)],[(3,0)],[(4,0)],[(5,0)],[(6,0)],[(7,0)],[(8,0)],[(9,0)]] (.inl rfl) rfl ⟨rfl,rfl⟩ ?_ ?_ rfl rfl rfl; (all_goals exact tocW))
theorem af94:AfOK 94 14:=by
 intro p ls L x
 refine CallOK.of cF94 ?_ (nlB rfl)
 unfold actR wkH lineM cBox afP
 refine walkX ?_
 (refine endH (res':=.tup []) [[(0,0)],[(1,0)],[(2,0)],[(3,0)],[(4,0)],[(5,0)],[(6,0)],[(7,0)],[(8,0)],[(9,0)]] (.inl rfl) rfl ⟨rfl,rfl⟩ ?_ ?_ rfl rfl rfl; (all_goals exact tocW))
theorem af95:AfOK 95 16:=by
 intro p ls L x
 refine CallOK.of cF95 ?_ (nlB rfl)
 unfold actR wkH lineM cBox afP
 refine walkX ?_
 (refine endH (res':=.tup []) [[(0,0)],[(1,0)],[(2,0)],[(3,0)],[(4,0)],[(5,0)],[(6,0)],[(7,0)],[(8,0)],[(9,0)]] (.inl rfl) rfl ⟨rfl,rfl⟩ ?_ ?_ rfl rfl rfl; (all_goals exact tocW))
theorem af_ok (k:Nat) (h1:6≤k) (h2:k≤16):(afV k=.sc .nilFunc∧∀ e x,afP k e x=e)∨∃ g,afV k=fT g∧AfOK g k:=by
 match k,h1,h2 with
 | 6,_,_=>exact .inl ⟨rfl,fun _ _=>rfl⟩
 | 7,_,_=>exact .inl ⟨rfl,fun _ _=>rfl⟩
 | 8,_,_=>exact .inr ⟨_,rfl,af85⟩
 | 9,_,_=>exact .inr ⟨_,rfl,af87⟩
 | 10,_,_=>exact .inr ⟨_,rfl,af88⟩
 | 11,_,_=>exact .inr ⟨_,rfl,af90⟩
 | 12,_,_=>exact .inr ⟨_,rfl,af92⟩
 | 13,_,_=>exact .inr ⟨_,rfl,af93⟩
 | 14,_,_=>exact .inr ⟨_,rfl,af94⟩
 | 15,_,_=>exact .inl ⟨rfl,fun _ _=>rfl⟩
 | 16,_,_=>exact .inr ⟨_,rfl,af95⟩
 | k+17,_,h=>exact absurd h (by omega)
def lookN {β:Type} (i:Nat):List (Nat×β)→Option β
 | []=>none
 | (j,b)::l=>if i=j then some b else lookN i l
theorem mfind_lookN {β:Type} (f:β→AV) (i:Nat):∀ l:List (Nat×β),mfind .i64 (i:Int) (l.map fun x=>(.int .i64 (x.1:Int),f x.2))=some ((lookN i l).map f)
 | []=>rfl
 | (j,b)::l=>by
  simp only[List.map_cons,mfind,decide_true,lookN]
  by_cases h:i=j
  ·rw[dTr (by omega:(i:Int)=(j:Int)),if_pos h]
   rfl
  ·rw[dFa (by omega:¬ (i:Int)=(j:Int)),if_neg h]
   exact mfind_lookN f i l
theorem lookN_none {β:Type} {i:Nat}:∀ {l:List (Nat×β)},(∀ x∈l,x.1≠i)→lookN i l=none
 | [],_=>rfl
 | (j,b)::l,h=>by
  rw[lookN,if_neg (fun e=>h (j,b) (by simp) e.symm)]
  exact lookN_none fun x hx=>h x (by simp[hx])
theorem mfind_acc (i:Nat) (l:List (Nat×Ac)):mfind .i64 (i:Int) (accE l)=some ((lookN i l).map fun a=>.agg (acR a)):=mfind_lookN (fun a=>.agg (acR a)) i l
theorem mfind_map (i:Nat) (l:List (Nat×Nat)):mfind .i64 (i:Int) (mapE l)=some ((lookN i l).map fun a=>.sc (.int .i64 (a:Int))):=mfind_lookN (fun a:Nat=>.sc (.int .i64 (a:Int))) i l
theorem accE_snoc (l:List (Nat×Ac)) (i:Nat) (a:Ac):accE (l++[(i,a)])=accE l++[(.int .i64 (i:Int),.agg (acR a))]:=by simp[accE]
theorem mapE_snoc (l:List (Nat×Nat)) (i a:Nat):mapE (l++[(i,a)])=mapE l++[(.int .i64 (i:Int),.sc (.int .i64 (a:Int)))]:=by simp[mapE]
theorem natsR_snoc (l:List Nat) (i:Nat):natsR (l++[i])=natsR l++[[.sc (.int .i64 (i:Int))]]:=by simp[natsR]
theorem linesR_snoc (l:List Ln) (i:Ln):linesR (l++[i])=linesR l++[lnR i]:=by simp[linesR]
def fieldsE (p:Pg) (r:Nat) (x:Act):Int:=fieldsB p.acts.length p.cells r (hasRank x.k) (hasAt x.k) (hasOp x.k) (hasGrp x.k) x
def swP (r i:Nat) (x:Act) (L:Ln):Ln:=
 if x.k=6∨x.k=7 then { L with acc:=L.acc++[(i,⟨r,x.a,i⟩)] }
 else if x.k=8 then { L with fe:=L.fe++[i] }
 else if x.k=10 then { L with st:=L.st++[i] }
 else if x.k=9 then { L with po:=L.po++[i] }
 else if x.k=11 then { L with co:=L.co++[(L.st.getLastD 0,i)] }
 else if x.k=12 then { L with wt:=L.wt++[(i,L.po.getLastD 0)] }
 else L
def stepW (p:Pg) (r:Nat) (l:List Act) (i:Nat) (x:Act) (L:Ln):Int×Ln:=
 if ¬ (1≤x.k∧x.k≤16) then(2,L)
 else if fieldsE p r x≠0 then(fieldsE p r x,L)
 else if isRem x.k=true then if (compl l L.e i x).2=true then(0,{ L with acc:=L.acc++[(i,⟨x.r,x.a,(compl l L.e i x).1⟩)] }) else(6,L)
 else if alP x.k.toNat L.e x=false then(6,L)
 else(0,{ swP r i x L with e:=afP x.k.toNat L.e x })
def walkG (p:Pg) (r:Nat) (l:List Act):Nat→List Act→Ln→(Nat×Int)×Ln
 | i,[],L=>if 0 < L.e.o.length∨0 < L.e.p.length∨0≤L.e.l then((i,6),L) else((0,0),L)
 | i,x::xs,L=>if (stepW p r l i x L).1≠0 then((i,(stepW p r l i x L).1),L) else walkG p r l (i+1) xs (stepW p r l i x L).2
def walkP (p:Pg) (r:Nat) (l:List Act):(Nat×Int)×Ln:=if 100 < l.length then((100,9),ln0) else walkG p r l 0 l ln0
theorem walkG_drop {p:Pg} {r:Nat} {l:List Act} {k:Nat} {L:Ln} (h:k < l.length):walkG p r l k (l.drop k) L=if (stepW p r l k l[k] L).1≠0 then((k,(stepW p r l k l[k] L).1),L) else walkG p r l (k+1) (l.drop (k+1)) (stepW p r l k l[k] L).2:=by
 rw[List.drop_eq_getElem_cons h,walkG]
structure LInv (i:Nat) (L:Ln):Prop where
 acc:∀ a∈L.acc,a.1 < i
 st:∀ a∈L.st,a < i
 po:∀ a∈L.po,a < i
 fe:∀ a∈L.fe,a < i
 co:∀ a∈L.co,a.1 < i
 wt:∀ a∈L.wt,a.1 < i
 op:0 < L.e.o.length→0 < L.st.length∧∀ a∈L.co,a.1 < L.st.getLastD 0
 pt:0 < L.e.p.length→0 < L.po.length
 ls:L.fe.length≤i∧L.st.length≤i∧L.po.length≤i
theorem LInv.zero:LInv 0 ln0:=
 ⟨fun _ h=>(by cases h),fun _ h=>(by cases h),fun _ h=>(by cases h),fun _ h=>(by cases h),fun _ h=>(by cases h),fun _ h=>(by cases h),fun h=>absurd h (by decide),fun h=>absurd h (by decide),by decide⟩
theorem getLastD_mem {l:List Nat} (h:0 < l.length):l.getLastD 0∈l:=by
 cases l with
 | nil=>simp at h
 | cons a l=>rw[List.getLastD_cons,← List.getLast_eq_getLastD]; exact List.getLast_mem (List.cons_ne_nil _ _)
theorem lt_snoc {l:List Nat} {i:Nat} (h:∀ a∈l,a < i):∀ a∈l++[i],a < i+1:=fun a ha=>by
 rcases List.mem_append.1 ha with h1 | h1
 ·exact Nat.lt_succ_of_lt (h a h1)
 ·rw[List.mem_singleton.1 h1]; exact Nat.lt_succ_self i
theorem lt_snocP {β:Type} {l:List (Nat×β)} {i j:Nat} {b:β} (h:∀ a∈l,a.1 < i) (hj:j < i+1):∀ a∈l++[(j,b)],a.1 < i+1:=fun a ha=>by
 rcases List.mem_append.1 ha with h1 | h1
 ·exact Nat.lt_succ_of_lt (h a h1)
 ·rw[List.mem_singleton.1 h1]; exact hj
theorem LInv.up {i:Nat} {L:Ln} (h:LInv i L):LInv (i+1) L:=
 ⟨fun a ha=>Nat.lt_succ_of_lt (h.acc a ha),fun a ha=>Nat.lt_succ_of_lt (h.st a ha),fun a ha=>Nat.lt_succ_of_lt (h.po a ha),fun a ha=>Nat.lt_succ_of_lt (h.fe a ha),fun a ha=>Nat.lt_succ_of_lt (h.co a ha),fun a ha=>Nat.lt_succ_of_lt (h.wt a ha),h.op,h.pt,by have:=h.ls; omega⟩
theorem LInv.acc' {i:Nat} {L:Ln} (h:LInv i L) (a:Ac):LInv (i+1) { L with acc:=L.acc++[(i,a)] }:={ h.up with acc:=lt_snocP h.acc (Nat.lt_succ_self i) }
theorem getLastD_snoc (l:List Nat) (i:Nat):(l++[i]).getLastD 0=i:=by
 cases l with
 | nil=>rfl
 | cons a l=>rw[List.getLastD_eq_getLast?,List.getLast?_append]; rfl
theorem stepW_inv {p:Pg} {r:Nat} {l:List Act} {i:Nat} {x:Act} {L:Ln} (h:LInv i L) (h0:(stepW p r l i x L).1=0):LInv (i+1) (stepW p r l i x L).2:=by
 unfold stepW at *
 split at h0
 ·cases h0
 rename_i hk
 rw[if_neg hk]
 split at h0
 ·rename_i h1
  exact absurd h0 h1
 rename_i h1
 rw[if_neg h1]
 split at h0
 ·rename_i h2
  rw[if_pos h2]
  split at h0
  ·rename_i h3
   rw[if_pos h3]
   exact h.acc' _
  ·cases h0
 rename_i h2
 rw[if_neg h2]
 split at h0
 ·cases h0
 rename_i h3
 rw[if_neg h3]
 clear h0
 have hk:=Decidable.not_not.1 hk
 have h6:¬ (1≤x.k∧x.k≤5):=by simpa[isRem] using h2
 obtain⟨n,hn⟩:∃ n:Nat,x.k=n:=⟨x.k.toNat,by omega⟩
 rw[hn] at h3 ⊢
 rw[show((n:Int)).toNat=n from rfl] at h3 ⊢
 have q1:6≤n:=by omega
 have q2:n≤16:=by omega
 clear h2 h1 hk h6
 unfold swP
 rw[hn]
 match n,q1,q2,h3 with
 | 6,_,_,_=>exact h.acc' _
 | 7,_,_,_=>exact h.acc' _
 | 8,_,_,_=>exact { h.up with fe:=lt_snoc h.fe,ls:=by have:=h.ls; simp; omega }
 | 9,_,_,_=>exact { h.up with po:=lt_snoc h.po,pt:=fun _=>by simp,ls:=by have:=h.ls; simp; omega }
 | 10,_,_,_=>exact { h.up with st:=lt_snoc h.st,op:=fun _=>⟨by simp,fun a ha=>by show a.1 < (L.st++[i]).getLastD 0; rw[getLastD_snoc]; exact h.co a ha⟩,ls:=by have:=h.ls; simp; omega }
 | 11,_,_,h3=>
  have h3:0 < L.e.o.length:=of_decide_eq_true (Bool.not_eq_false _ |>.mp h3)
  have:=h.op h3
  exact { h.up with co:=lt_snocP h.co (Nat.lt_succ_of_lt (h.st _ (getLastD_mem this.1))),op:=fun h=>absurd (show 0 < ([]:List Int).length from h) (by decide) }
 | 12,_,_,_=>exact { h.up with wt:=lt_snocP h.wt (Nat.lt_succ_self i),pt:=fun h=>absurd (show 0 < ([]:List Int).length from h) (by decide) }
 | 13,_,_,_=>exact { h.up with }
 | 14,_,_,_=>exact { h.up with }
 | 15,_,_,_=>exact { h.up with }
 | 16,_,_,_=>exact { h.up with }
 | n+17,_,h,_=>exact absurd h (by omega)
theorem natsR_last {l:List Nat} (h:0 < l.length):(natsR l)[l.length - 1]?=some [.sc (.int .i64 (l.getLastD 0:Nat))]:=by
 rw[natsR_get l _ (by omega)]
 congr 4
 rw[List.getLastD_eq_getLast?,List.getLast?_eq_getElem?,gEg (by omega)]
 rfl
theorem stepW_open {p:Pg} {r:Nat} {l:List Act} {i:Nat} {x:Act} {L:Ln} {N:Nat} (h:L.e.o.length≤N) (hx:x.g.length≤N):(stepW p r l i x L).2.e.o.length≤N:=by
 have h1:∀ k,(afP k L.e x).o.length≤N:=fun k=>by
  unfold afP
  split<;>first | exact h | exact hx | exact Nat.zero_le _
 unfold stepW
 repeat' split
 all_goals first | exact h | exact h1 _
theorem formR_cell1 (n:Nat):(formR n).all AV.cell1=true:=by
 have h1:(alV n).cell1=true:=by unfold alV; split<;>rfl
 have h2:(afV n).cell1=true:=by unfold afV; split<;>rfl
 unfold formR
 simp only[List.all_cons,List.all_nil,h1,h2]
 rfl
def chkH (p:Pg) (ls:List Ln):Heap:=[[.cells 4 [cBox p ls.length]],[.cells 10 (linesR ls)]]
def chkN (p:Pg) (ls:List Ln):Heap:=[[.cells 4 [[.sc (.int .i64 p.cells),.list 1 (progR p.acts),.tmap formsE,.hsl 2 0 0 ls.length]]],[.dead],[.cells 10 (linesR ls)]]
def plV (r:Nat) (w:(Nat×Int)×Ln):AV:=.tup [.agg [.sc (.int .i64 (if w.1.2=0 then 0 else(r:Int))),.sc (.int .i64 (if w.1.2=0 then 0 else(w.1.1:Int)))],.sc (.int .i64 w.1.2)]
def wkF (r:Nat) (l:List Act) (k:Nat):Fr:=[(0,.ptr 0 0 0 0),(1,.sc (.int .i64 (r:Int))),(4,.ptr 2 0 0 0),(5,.sc (.int .i64 0)),(6,.ptr 3 0 0 0),(7,.list 7 (actsR l)),(33,.list 7 (actsR l)),(34,.sc (.int .i64 (l.length:Int))),(35,.sc (.int .i64 (k:Int)))]
def bodyF (r:Nat) (l:List Act) (k n:Nat) (x:Act):Fr:=(8,.sc (.int .i64 (k:Int)))::(9,.cptr [.sc (.int .i64 (n:Int)),.sc (.int .i64 x.r),.sc (.int .i64 x.a),.sc (.int .i64 x.o),.sc (.int .i64 x.v),.sc (.int .i64 x.w),.list 1 (intsR x.g)]) ::
 (10,.cptr [.sc (.bool (hasRank n)),.sc (.bool (hasAt n)),.sc (.bool (hasOp n)),.sc (.bool (hasGrp n)),.sc (.bool (isRem n)),.sc (.bool (isUpd n)),.sc (.bool (isRet n)),alV n,afV n])::wkF r l k
def bodyC:ICode:=pickI [1,1,1,1,0,1,0,0,1,1,0,0,1,1,1,1,1,1] F55.code
set_option maxHeartbeats 16000000 in
theorem sw_ok (p:Pg) (r:Nat) (l:List Act) (ls:List Ln) (k n:Nat) (L:Ln) (x:Act) (hn:x.k=(n:Int)) (hn6:6≤n) (hi16:(n:Int)≤16) (h100:¬ 100 < l.length) (h:k < l.length) (hI:LInv k L) (hba:alP n L.e x=true) (Q:Exit→Fr→Heap→Prop):
  AWP Tryz.prog F55.n 2 (pickI [0] bodyC) (thenQ (fun fr2 H2=>Sub 2 F55.n fr2 H2 (bodyF r l k n x) (wkH p ls (swP r k x L))) Q) (bodyF r l k n x) (wkH p ls L):=by
 have hi16:n≤16:=by omega
 show AWP _ _ _ (.seq _ _) _ _ _
 unfold bodyF wkF wkH cBox lineM
 unfold swP
 rw[hn]
 have hcs:=hI.ls
 have h1:=natsR_len L.fe
 have h2:=natsR_len L.st
 have h3:=natsR_len L.po
 have hacc:mfind .i64 (k:Int) (accE L.acc)=some none:=by rw[mfind_acc,lookN_none fun a ha=>Nat.ne_of_lt (hI.acc a ha)]; rfl
 have hwt:mfind .i64 (k:Int) (mapE L.wt)=some none:=by rw[mfind_map,lookN_none fun a ha=>Nat.ne_of_lt (hI.wt a ha)]; rfl
 match n,hn6,hi16 with
 | 6,_,_=>
  refine walkX ?_
  refine Reg.on rfl (dstep_insD rfl rfl rfl rfl hacc) ?_
  refine walkX ?_
  rw[if_pos (by decide)]
  dsimp only
  rw[accE_snoc]
  dsimp only[acR]
  exact Sub.w [] [[(0,0)],[(1,0)],[(2,0)],[(3,0)],[(4,0)],[(5,0)],[(6,0)],[(7,0)],[(8,0)],[(9,0)]]
 | 7,_,_=>
  refine walkX ?_
  refine Reg.on rfl (dstep_insD rfl rfl rfl rfl hacc) ?_
  refine walkX ?_
  rw[if_pos (by decide)]
  dsimp only
  rw[accE_snoc]
  dsimp only[acR]
  exact Sub.w [] [[(0,0)],[(1,0)],[(2,0)],[(3,0)],[(4,0)],[(5,0)],[(6,0)],[(7,0)],[(8,0)],[(9,0)]]
 | 8,_,_=>
  refine walkX ?_
  rw[if_neg (by decide),if_pos (by decide)]
  dsimp only
  rw[natsR_snoc,List.length_append]
  exact Sub.w [] [[(0,0)],[(1,0)],[(2,0)],[(3,0)],[(4,0)],[(5,0)],[(6,0)],[(11,0)],[(8,0)],[(9,0)]]
 | 9,_,_=>
  refine walkX ?_
  rw[if_neg (by decide),if_neg (by decide),if_neg (by decide),if_pos (by decide)]
  dsimp only
  rw[natsR_snoc,List.length_append]
  exact Sub.w [] [[(0,0)],[(1,0)],[(2,0)],[(3,0)],[(4,0)],[(5,0)],[(6,0)],[(7,0)],[(8,0)],[(11,0)]]
 | 10,_,_=>
  refine walkX ?_
  rw[if_neg (by decide),if_neg (by decide),if_pos (by decide)]
  dsimp only
  rw[natsR_snoc,List.length_append]
  exact Sub.w [] [[(0,0)],[(1,0)],[(2,0)],[(3,0)],[(4,0)],[(5,0)],[(6,0)],[(7,0)],[(11,0)],[(9,0)]]
 | 11,_,_=>
  have ho:0 < L.e.o.length:=of_decide_eq_true hba
  obtain⟨hs0,hs1⟩:=hI.op ho
  have hco:mfind .i64 ((L.st.getLastD 0:Nat):Int) (mapE L.co)=some none:=by rw[mfind_map,lookN_none fun a ha=>Nat.ne_of_lt (hs1 a ha)]; rfl
  have hlast:=natsR_last hs0
  rw[if_neg (by decide),if_neg (by decide),if_neg (by decide),if_neg (by decide),if_pos (by decide)]
  generalize L.st.getLastD 0=z at *
  dsimp only
  rw[mapE_snoc]
  refine walkX ?_
  refine DK.on rfl (dstep_insD rfl rfl rfl rfl hco) ?_
  refine DK.nil ⟨by kernel_rfl,?_⟩
  exact Sub.w [] [[(0,0)],[(1,0)],[(2,0)],[(3,0)],[(4,0)],[(5,0)],[(6,0)],[(7,0)],[(8,0)],[(9,0)]]
 | 12,_,_=>
  have ho:0 < L.e.p.length:=of_decide_eq_true (Bool.and_eq_true_iff.1 hba).1
  have hp0:=hI.pt ho
  have hlast:=natsR_last hp0
  rw[if_neg (by decide),if_neg (by decide),if_neg (by decide),if_neg (by decide),if_neg (by decide),if_pos (by decide)]
  generalize L.po.getLastD 0=z at *
  dsimp only
  rw[mapE_snoc]
  refine walkX ?_
  refine DK.on rfl (dstep_insD rfl rfl rfl rfl hwt) ?_
  refine DK.nil ⟨by kernel_rfl,?_⟩
  exact Sub.w [] [[(0,0)],[(1,0)],[(2,0)],[(3,0)],[(4,0)],[(5,0)],[(6,0)],[(7,0)],[(8,0)],[(9,0)]]
 | 13,_,_=>
  refine walkX ?_
  rw[if_neg (by decide),if_neg (by decide),if_neg (by decide),if_neg (by decide),if_neg (by decide),if_neg (by decide)]
  exact Sub.w [] [[(0,0)],[(1,0)],[(2,0)],[(3,0)],[(4,0)],[(5,0)],[(6,0)],[(7,0)],[(8,0)],[(9,0)]]
 | 14,_,_=>
  refine walkX ?_
  rw[if_neg (by decide),if_neg (by decide),if_neg (by decide),if_neg (by decide),if_neg (by decide),if_neg (by decide)]
  exact Sub.w [] [[(0,0)],[(1,0)],[(2,0)],[(3,0)],[(4,0)],[(5,0)],[(6,0)],[(7,0)],[(8,0)],[(9,0)]]
 | 15,_,_=>
  refine walkX ?_
  rw[if_neg (by decide),if_neg (by decide),if_neg (by decide),if_neg (by decide),if_neg (by decide),if_neg (by decide)]
  exact Sub.w [] [[(0,0)],[(1,0)],[(2,0)],[(3,0)],[(4,0)],[(5,0)],[(6,0)],[(7,0)],[(8,0)],[(9,0)]]
 | 16,_,_=>
  refine walkX ?_
  rw[if_neg (by decide),if_neg (by decide),if_neg (by decide),if_neg (by decide),if_neg (by decide),if_neg (by decide)]
  exact Sub.w [] [[(0,0)],[(1,0)],[(2,0)],[(3,0)],[(4,0)],[(5,0)],[(6,0)],[(7,0)],[(8,0)],[(9,0)]]
 | n+17,_,h=>exact absurd h (by omega)
theorem swP_e (r i:Nat) (x:Act) (L:Ln):(swP r i x L).e=L.e:=by
 unfold swP
 repeat' split
 all_goals rfl
set_option maxHeartbeats 16000000 in
theorem aft_ok (p:Pg) (r:Nat) (l:List Act) (ls:List Ln) (k n:Nat) (L:Ln) (x:Act) (hn:x.k=(n:Int)) (hn6:6≤n) (hi16:(n:Int)≤16) (Q:Exit→Fr→Heap→Prop):
  AWP Tryz.prog F55.n 2 (pickI [1] bodyC) (thenQ (fun fr2 H2=>Sub 2 F55.n fr2 H2 (wkF r l k) (wkH p ls { L with e:=afP n L.e x })) Q) (bodyF r l k n x) (wkH p ls L):=by
 have hi16:n≤16:=by omega
 show AWP _ _ _ (.seq _ _) _ _ _
 rcases af_ok n hn6 hi16 with⟨h1,h2⟩ | ⟨g,h1,h2⟩
 ·rw[h2]
  unfold bodyF wkF wkH cBox lineM
  rw[h1]
  refine walkX ?_
  exact Sub.w [] [[(0,0)],[(1,0)],[(2,0)],[(3,0)],[(4,0)],[(5,0)],[(6,0)],[(7,0)],[(8,0)],[(9,0)]]
 ·have hc:=h2 p ls L x
  generalize afP n L.e x=e' at *
  unfold bodyF wkF
  unfold actR at hc
  rw[hn] at hc
  rw[h1]
  refine walkX ?_
  refine Reg.cv (by show 2≤(wkH p ls L).length; exact nlB rfl) rfl rfl (hc.mono ?_)
  rintro res H' ⟨rfl,rfl⟩
  unfold wkH cBox lineM
  refine walkX ?_
  exact Sub.w [] [[(0,0)],[(1,0)],[(2,0)],[(3,0)],[(4,0)],[(5,0)],[(6,0)],[(7,0)],[(8,0)],[(9,0)]]
theorem begun_ok:PureRun Tryz.prog 96 [] (.agg (epR ep0)):=by
 refine PureRun.mkI cF96 (nlB rfl) ?_
 unfold epR ep0
 refine walkX ?_
 exact EndP.w
set_option maxHeartbeats 16000000 in
theorem walk_ok (p:Pg) (r:Nat) (l:List Act) (hr:p.acts[r]?=some l) (ls:List Ln) (hls:ls.length≤100) (hg:∀ x∈l,x.g.length≤9223372036854775807):
  CallOK Tryz.prog 55 [.ptr 0 0 0 0,.sc (.int .i64 (r:Int))] (chkH p ls) fun res H'=>res=plV r (walkP p r l)∧H'=if (walkP p r l).1.2=0 then chkN p (ls++[(walkP p r l).2]) else chkH p ls:=by
 refine CallOK.of cF55 ?_ (nlB rfl)
 have hbe:=begun_ok
 have e0:=actsR_len l
 obtain⟨hrl,hrx⟩:=gEs.1 hr
 have hrow:=progR_ix p.acts r hrl
 rw[hrx] at hrow
 unfold epR ep0 at hbe
 unfold chkH chkN cBox
 refine walkX ?_
 rw[e0]
 by_cases h100:100 < l.length
 ·have hw:walkP p r l=((100,9),ln0):=if_pos h100
  rw[hw,dTr h100]
  unfold plV
  rw[if_neg (by decide),if_neg (by decide),if_neg (by decide)]
  refine walkX ?_
  exact endW [[(0,0)],[(1,0)]] (⟨rfl,rfl⟩)
 have hw:walkP p r l=walkG p r l 0 l ln0:=if_neg h100
 rw[hw,dFa h100]
 refine walkX ?_
 rw[e0]
 refine AWP.loop (σ:=Nat×Ln) (fun s=>wkF r l s.1) (fun s=>wkH p ls s.2) (fun s=>s.1≤l.length∧LInv s.1 s.2∧s.2.e.o.length≤9223372036854775807∧walkG p r l s.1 (l.drop s.1) s.2=walkG p r l 0 l ln0) (fun s=>l.length - s.1) (0,ln0) ⟨Nat.zero_le _,.zero,Nat.zero_le _,rfl⟩ ?_ ?_
 ·unfold wkF wkH cBox lineM ln0 ep0
  exact Sub.w [1,1,1] [[(0,0)],[(1,0)],[(2,0)],[(6,0)],[(3,0)],[(4,0)],[(5,0)],[(7,0)],[(8,0)],[(9,0)]]
 rintro⟨k,L⟩ ⟨hk,hI,hO,hG⟩
 generalize walkG p r l 0 l ln0=W at *
 dsimp only at hk hI hO hG ⊢
 unfold wkF wkH cBox lineM
 refine walkX ?_
 refine AWP.condD rfl (fun h=>?_) (fun h=>?_)
 ·have hd:=walkG_drop (p:=p) (r:=r) (L:=L) h
  rw[hG] at hd
  have hx:=actsR_ix l k h
  have hgx:=hg l[k] (List.getElem_mem h)
  have hcm:=compl_ok l L.e k h (by omega) hO
  generalize l[k]=x at *
  have hop:=stepW_open (p:=p) (r:=r) (l:=l) (i:=k) hO hgx
  have hin:=stepW_inv (p:=p) (r:=r) (l:=l) (x:=x) hI
  have hstep:∀ v,stepW p r l k x L=v→stepW p r l k x L=v:=fun _ h=>h
  by_cases hk:1≤x.k∧x.k≤16
  ·have hm:=formsE_in hk.1 hk.2
   obtain⟨n,hn⟩:∃ n:Nat,x.k=n:=⟨x.k.toNat,by omega⟩
   have hF:=fields_ok p r (hasRank n) (hasAt n) (hasOp n) (hasGrp n) (.sc (.bool (isRem n))) (.sc (.bool (isUpd n))) (.sc (.bool (isRet n))) (alV n) (afV n) (by have:=formR_cell1 n; unfold formR at this; simp only[List.all_cons,Bool.and_eq_true] at this ⊢; exact this.2.2.2.2) x hgx
   have hc1:=formR_cell1 n
   unfold stepW fieldsE at hd hop hin
   rw[hn] at hk hm hd hop hin
   rw[if_neg (Decidable.not_not.2 hk)] at hd hop hin
   rw[show((n:Int)).toNat=n from rfl] at hm hd hop hin
   unfold actR at hx hF
   unfold progV at hF
   unfold formR at hm hc1
   unfold epR at hcm
   rw[hn] at hx hF
   generalize fieldsB p.acts.length p.cells r (hasRank n) (hasAt n) (hasOp n) (hasGrp n) x=fe at *
   refine walkX ?_
   refine DK.o rfl (dstep_lookC rfl rfl hm) ?_
   refine walkX ?_
   refine DK.on rfl (dstep_stA rfl rfl rfl rfl rfl rfl hc1) ?_
   refine walkX ?_
   refine DK.nil ⟨by kernel_rfl,?_⟩
   refine AWP.sub (fr':=(8,.sc (.int .i64 (k:Int)))::(9,.cptr [.sc (.int .i64 (n:Int)),.sc (.int .i64 x.r),.sc (.int .i64 x.a),.sc (.int .i64 x.o),.sc (.int .i64 x.v),.sc (.int .i64 x.w),.list 1 (intsR x.g)]) ::
    (10,.cptr [.sc (.bool (hasRank n)),.sc (.bool (hasAt n)),.sc (.bool (hasOp n)),.sc (.bool (hasGrp n)),.sc (.bool (isRem n)),.sc (.bool (isUpd n)),.sc (.bool (isRet n)),alV n,afV n])::(11,.sc (.bool true))::wkF r l k) (H':=wkH p ls L) ?_ ?_
   ·unfold wkF wkH cBox lineM
    exact Sub.w [] [[(0,0)],[(1,0)],[(2,0)],[(3,0)],[(4,0)],[(5,0)],[(6,0)],[(7,0)],[(8,0)],[(9,0)]]
   unfold wkF wkH cBox lineM
   refine walkX ?_
   refine DK.nil ⟨by kernel_rfl,?_⟩
   refine walkX ?_
   by_cases hf:fe≠0
   ·rw[if_pos hf,if_pos (show(fe,L).1≠0 from hf)] at hd
    rw[hd,show(fe != 0)=true by simpa using hf]
    unfold plV
    dsimp only
    rw[if_neg hf,if_neg hf,if_neg hf]
    refine walkX ?_
    exact endW [[(0,0)],[(1,0)]] (⟨rfl,rfl⟩)
   rw[show(fe != 0)=false by simpa using hf]
   rw[if_neg hf] at hd hop hin
   refine walkX ?_
   cases hrem:isRem n with
   | true=>
    rw[if_pos hrem] at hd hop hin
    have hn5:n≤5:=by
     have:=of_decide_eq_true hrem
     omega
    generalize compl l L.e k x=co at *
    refine walkX ?_
    cases hco:co.2 with
    | false=>
     rw[if_neg (show¬ co.2=true by rw[hco]; simp),if_pos (show((6:Int),L).1≠0 from(by decide:(6:Int)≠0))] at hd
     rw[hd]
     unfold plV
     dsimp only
     rw[if_neg (by decide),if_neg (by decide),if_neg (by decide)]
     refine walkX ?_
     exact endW [[(0,0)],[(1,0)]] (⟨rfl,rfl⟩)
    | true=>
     rw[if_pos hco] at hd hop hin
     refine walkX ?_
     refine Reg.on rfl (dstep_insD rfl rfl rfl rfl (mfind_acc k L.acc▸by rw[lookN_none fun a ha=>Nat.ne_of_lt (hI.acc a ha)]; rfl)) ?_
     refine walkX ?_
     refine⟨(k+1,{ L with acc:=L.acc++[(k,⟨x.r,x.a,co.1⟩)] }),⟨by omega,hin rfl,hop,hd.symm⟩,by omega,?_⟩
     dsimp only
     rw[accE_snoc]
     dsimp only[acR]
     exact Sub.w [] [[(0,0)],[(1,0)],[(2,0)],[(3,0)],[(4,0)],[(5,0)],[(6,0)],[(7,0)],[(8,0)],[(9,0)]]
   | false=>
    rw[if_neg (show¬ isRem (n:Int)=true by rw[hrem]; simp)] at hd hop hin
    have hn6:6≤n:=by
     have:=of_decide_eq_false hrem
     omega
    obtain⟨g,cs,hal,hap⟩:=al_ok n hn6 (by omega) L.e x
    unfold epR actR at hap
    rw[hn] at hap
    rw[hal]
    generalize hba:alP n L.e x=ba at hd hop hin hap
    refine walkX ?_
    cases ba with
    | false=>
     rw[if_pos rfl,if_pos (show((6:Int),L).1≠0 from(by decide:(6:Int)≠0))] at hd
     rw[hd]
     unfold plV
     dsimp only
     rw[if_neg (by decide),if_neg (by decide),if_neg (by decide)]
     refine walkX ?_
     exact endW [[(0,0)],[(1,0)]] (⟨rfl,rfl⟩)
    | true=>
     rw[if_neg (by simp)] at hd hop hin
     refine AWP.condF rfl ?_
     refine AWP.skip ?_
     refine AWP.seq ?_
     refine AWP.sub (fr':=bodyF r l k n x) (H':=wkH p ls L) ?_ ?_
     ·unfold bodyF wkF wkH cBox lineM
      rw[← hal]
      exact Sub.w [] [[(0,0)],[(1,0)],[(2,0)],[(3,0)],[(4,0)],[(5,0)],[(6,0)],[(7,0)],[(8,0)],[(9,0)]]
     refine AWP.joinT0 (bodyF r l k n x) (wkH p ls (swP r k x L)) (sw_ok p r l ls k n L x hn hn6 hk.2 h100 h hI hba _) ?_
     have haf:=fun Q=>aft_ok p r l ls k n (swP r k x L) x hn hn6 hk.2 Q
     rw[swP_e] at haf
     refine AWP.joinB0 (wkF r l k) (wkH p ls { swP r k x L with e:=afP n L.e x }) (haf _) ?_
     unfold wkF wkH cBox lineM
     refine walkX ?_
     refine⟨(k+1,{ swP r k x L with e:=afP n L.e x }),⟨by omega,hin rfl,hop,hd.symm⟩,by omega,?_⟩
     exact Sub.w [] [[(0,0)],[(1,0)],[(2,0)],[(3,0)],[(4,0)],[(5,0)],[(6,0)],[(7,0)],[(8,0)],[(9,0)]]
  ·have hd2:W=((k,2),L):=by
    rw[hd]
    unfold stepW
    rw[if_pos hk]
    rfl
   have hm:=formsE_out hk
   unfold actR at hx
   rw[hd2]
   unfold plV
   dsimp only
   rw[if_neg (by decide),if_neg (by decide),if_neg (by decide)]
   refine walkX ?_
   refine DK.o rfl (dstep_lookC rfl rfl hm) ?_
   refine walkX ?_
   refine DK.nil ⟨by kernel_rfl,?_⟩
   refine walkX ?_
   exact endW [[(0,0)],[(1,0)]] (⟨rfl,rfl⟩)
 ·have hk2:k=l.length:=by omega
  subst hk2
  have e1:=intsR_len L.e.o
  have e2:=intsR_len L.e.p
  rw[List.drop_length,walkG] at hG
  rw[← hG]
  clear hG hw hI
  by_cases hbad:0 < L.e.o.length∨0 < L.e.p.length∨0≤L.e.l
  ·rw[if_pos hbad]
   unfold plV
   dsimp only
   rw[if_neg (by decide),if_neg (by decide),if_neg (by decide)]
   refine walkX ?_
   rw[e1]
   by_cases h1:0 < L.e.o.length
   ·rw[dTr h1]
    refine walkX ?_
    rw[e0]
    exact endW [[(0,0)],[(1,0)]] (⟨rfl,rfl⟩)
   rw[dFa h1]
   refine walkX ?_
   rw[e2]
   by_cases h2:0 < L.e.p.length
   ·rw[dTr h2]
    refine walkX ?_
    rw[e0]
    exact endW [[(0,0)],[(1,0)]] (⟨rfl,rfl⟩)
   rw[dFa h2]
   refine walkX ?_
   rw[show decide (L.e.l≥0)=true from dTr (by omega)]
   refine walkX ?_
   rw[e0]
   exact endW [[(0,0)],[(1,0)]] (⟨rfl,rfl⟩)
  ·rw[if_neg hbad]
   unfold plV
   dsimp only
   rw[if_pos rfl,if_pos rfl,if_pos rfl,linesR_snoc,List.length_append]
   dsimp only[lnR,epR,List.cons_append,List.nil_append]
   have e3:=linesR_len ls
   have e4:=natsR_len L.fe
   have e5:=natsR_len L.st
   have e6:=natsR_len L.po
   refine walkX ?_
   rw[e1,dFa (by omega)]
   refine walkX ?_
   rw[e2,dFa (by omega)]
   refine walkX ?_
   rw[show decide (L.e.l≥0)=false from dFa (by omega)]
   refine walkX ?_
   refine DK.nil ⟨by kernel_rfl,?_⟩
   refine walkX ?_
   refine⟨.inr rfl,_,_,_,rfl,SubV.to [] [[(0,0)],[(1,0)],[(10,7)]] ?_ (famsTo.cons ?_ (famsTo.cons (famTo.cons rfl (ToB.dead _) famTo.nil) (famsTo.cons (famTo.cons rfl (ToB.rowsR (ToR.append (ToR.pure (prs _)) (show ToR _ _ [_] [_] from⟨?_,trivial⟩))) famTo.nil) famsTo.nil))) rfl rfl rfl,⟨rfl,rfl⟩⟩
   (all_goals exact tocW)
def plB:List Blk:=[.cells 2 [[.sc (.int .i64 0),.sc (.int .i64 0)]]]
def ckH (p:Pg) (ls:List Ln):Heap:=chkH p ls++[plB]
def ckN (p:Pg) (ls:List Ln):Heap:=[[.cells 4 [[.sc (.int .i64 p.cells),.list 1 (progR p.acts),.tmap formsE,.hsl 3 0 0 ls.length]]],[.dead],plB,[.cells 10 (linesR ls)]]
theorem hget2 {a b:List Blk} {g i:Nat} {x:Blk} (h:hget [a,b] g i=some x):(g=0∧a[i]?=some x)∨(g=1∧b[i]?=some x):=by
 match g,h with
 | 0,h=>exact .inl ⟨rfl,h⟩
 | 1,h=>exact .inr ⟨rfl,h⟩
 | g+2,h=>simp[hget] at h
theorem one_get {x y:Blk} {i:Nat} (h:[x][i]?=some y):i=0∧y=x:=by
 match i,h with
 | 0,h=>injection h with h; exact⟨rfl,h.symm⟩
 | i+1,h=>simp at h
theorem cbox_ren {ρ:Nat→Nat→Option (Nat×Nat)} {g g':Nat} (p:Pg) (n:Nat) (h:ρ g 0=some (g',0)):RenB ρ (.cells 4 [[.sc (.int .i64 p.cells),.list 1 (progR p.acts),.tmap formsE,.hsl g' 0 0 n]]) (.cells 4 [[.sc (.int .i64 p.cells),.list 1 (progR p.acts),.tmap formsE,.hsl g 0 0 n]]):=
 RenB.one ⟨.pure (pv _),.pure (pv _),.pure (pv _),.hsl _ _ _ _ _ _ h,trivial⟩
theorem chk_closed (p:Pg) (ls:List Ln):Closed (chkH p ls) (chkH p ls):=by
 refine⟨rfl,fun _ _=>rfl,fun g i x hx=>?_⟩
 rcases hget2 hx with⟨rfl,h⟩ | ⟨rfl,h⟩
 ·obtain⟨rfl,rfl⟩:=one_get h
  exact⟨rfl,cbox_ren p ls.length (idH_of rfl)⟩
 ·obtain⟨rfl,rfl⟩:=one_get h
  exact⟨rfl,.pure _ _ (prs _)⟩
theorem plV_pure (r:Nat) (w:(Nat×Int)×Ln):Pure (plV r w):=by
 unfold plV
 exact pv _
theorem walkIn (p:Pg) (r:Nat) (l:List Act) (hr:p.acts[r]?=some l) (ls:List Ln) (hls:ls.length≤100) (hg:∀ x∈l,x.g.length≤9223372036854775807):
  CallOK Tryz.prog 55 [.ptr 0 0 0 0,.sc (.int .i64 (r:Int))] (ckH p ls) fun res H'=>res=plV r (walkP p r l)∧H'=if (walkP p r l).1.2=0 then ckN p (ls++[(walkP p r l).2]) else ckH p ls:=by
 refine CallOK.ins [plB] (walk_ok p r l hr ls hls hg) (chk_closed p ls) (fun a ha=>?_) ?_
 ·rcases List.mem_cons.1 ha with rfl | ha
  ·exact .ptr _ _ _ _ _ _ (idH_of rfl)
  ·rw[List.mem_singleton.1 ha]; exact .sc _
 ·rintro res H' ⟨rfl,rfl⟩
  generalize walkP p r l=W
  by_cases h:W.1.2=0
  ·rw[if_pos h,if_pos h]
   refine⟨_,_,[[.cells 10 (linesR (ls++[W.2]))]],[[.cells 4 [[.sc (.int .i64 p.cells),.list 1 (progR p.acts),.tmap formsE,.hsl 3 0 0 (ls++[W.2]).length]]],[.dead]],[[.cells 10 (linesR (ls++[W.2]))]],(show chkN p (ls++[W.2])=[_,_]++_ from rfl),rfl,rfl,fun g i hs=>?_,.pure (plV_pure r W),fun g i x hx hl=>?_,fun g i hs=>?_,fun g i x hx hl=>?_,fun g i hs=>hs,rfl,rfl⟩
   ·match g,i,hs with
    | 0,0,_=>rfl
    | 1,0,_=>rfl
    | 0,i+1,h=>simp[hget] at h
    | 1,i+1,h=>simp[hget] at h
    | g+2,i,h=>simp[hget] at h
   ·rcases hget2 hx with⟨rfl,h⟩ | ⟨rfl,h⟩
    ·obtain⟨rfl,rfl⟩:=one_get h
     exact⟨_,rfl,rfl,cbox_ren p _ rfl⟩
    ·obtain⟨rfl,rfl⟩:=one_get h
     cases hl
   ·match g,i,hs with
    | 0,0,_=>rfl
    | 1,0,_=>rfl
    | 0,i+1,h=>simp[hget,chkH] at h
    | 1,i+1,h=>simp[hget,chkH] at h
    | g+2,i,h=>simp[hget,chkH] at h
   ·match g,hx with
    | 0,hx=>
     obtain⟨rfl,rfl⟩:=one_get hx
     exact⟨_,rfl,.pure _ _ (prs _)⟩
    | g+1,hx=>simp[hget] at hx
  ·rw[if_neg h,if_neg h]
   refine⟨_,chkH p ls,[],chkH p ls,[],by rw[List.append_nil],rfl,rfl,fun g i hs=>hs,.pure (plV_pure r W),fun g i x hx hl=>?_,fun g i hs=>hs,fun g i x hx hl=>(by simp[hget] at hx),fun g i hs=>hs,rfl,by rw[List.append_nil]; rfl⟩
   rcases hget2 hx with⟨rfl,h⟩ | ⟨rfl,h⟩
   ·obtain⟨rfl,rfl⟩:=one_get h
    exact⟨_,rfl,rfl,cbox_ren p _ rfl⟩
   ·obtain⟨rfl,rfl⟩:=one_get h
    exact⟨_,rfl,rfl,.pure _ _ (prs _)⟩
def chkG (p:Pg):Nat→List (List Act)→List Ln→((Int×Int)×Int)×List Ln
 | _,[],ls=>(((0,0),0),ls)
 | r,l::m,ls=>if (walkP p r l).1.2≠0 then((((r:Int),((walkP p r l).1.1:Int)),(walkP p r l).1.2),ls) else chkG p (r+1) m (ls++[(walkP p r l).2])
def chkP (p:Pg):((Int×Int)×Int)×List Ln:=
 if p.cells < 1∨64 < p.cells then(((0,0),3),[]) else if p.acts.length=0∨64 < p.acts.length then(((0,0),9),[]) else chkG p 0 p.acts []
def ckV (p:Pg) (ls:List Ln):AV:=.cptr [.sc (.int .i64 p.cells),.list 1 (progR p.acts),.tmap formsE,.list 10 (linesR ls)]
instance (p:Pg) (ls:List Ln):PV (ckV p ls):=by unfold ckV; infer_instance
def plA (x:Int×Int):AV:=.agg [.sc (.int .i64 x.1),.sc (.int .i64 x.2)]
instance (x:Int×Int):PV (plA x):=by unfold plA; infer_instance
def chkV (p:Pg):AV:=.tup [if (chkP p).1.2=0 then ckV p (chkP p).2 else .sc (.pointer none),plA (chkP p).1.1,.sc (.int .i64 (chkP p).1.2)]
instance (p:Pg):PV (chkV p):=by unfold chkV plA; split<;>infer_instance
def POK (p:Pg):Prop:=∀ l∈p.acts,∀ x∈l,x.g.length≤9223372036854775807
theorem chkG_drop {p:Pg} {k:Nat} {ls:List Ln} (h:k < p.acts.length):chkG p k (p.acts.drop k) ls=if (walkP p k p.acts[k]).1.2≠0 then((((k:Int),((walkP p k p.acts[k]).1.1:Int)),(walkP p k p.acts[k]).1.2),ls) else chkG p (k+1) (p.acts.drop (k+1)) (ls++[(walkP p k p.acts[k]).2]):=by
 rw[List.drop_eq_getElem_cons h,chkG]
set_option maxHeartbeats 16000000 in
theorem checkc_ok (p:Pg) (hp:POK p):PureRun Tryz.prog 34 [progV p] (chkV p):=by
 refine PureRun.mkI cF34 (nlB rfl) ?_
 have e0:=progR_len p.acts
 have ht:=table_ok
 have hi:PV (if (chkP p).1.2=0 then ckV p (chkP p).2 else .sc (.pointer none)):=by split<;>infer_instance
 unfold chkV
 generalize hC:chkP p=C at *
 unfold chkP at hC
 unfold progV
 by_cases h1:p.cells < 1∨64 < p.cells
 ·rw[if_pos h1] at hC
  subst hC
  dsimp only
  rw[if_neg (by decide)]
  unfold plA
  dsimp only
  refine walkX ?_
  by_cases h2:p.cells < 1
  ·rw[dTr h2]
   refine walkX ?_
   exact EndP.w
  ·rw[dFa h2]
   refine walkX ?_
   rw[show decide (p.cells > 64)=true from dTr (by omega)]
   refine walkX ?_
   exact EndP.w
 rw[if_neg h1] at hC
 refine walkX ?_
 rw[show decide (p.cells < 1)=false from dFa (by omega)]
 refine walkX ?_
 rw[show decide (p.cells > 64)=false from dFa (by omega)]
 refine walkX ?_
 rw[e0]
 by_cases h2:p.acts.length=0∨64 < p.acts.length
 ·rw[if_pos h2] at hC
  subst hC
  dsimp only
  rw[if_neg (by decide)]
  unfold plA
  dsimp only
  by_cases h3:p.acts.length=0
  ·rw[dTr h3]
   refine walkX ?_
   exact EndP.w
  ·rw[dFa h3]
   refine walkX ?_
   rw[e0,dTr (by omega)]
   refine walkX ?_
   exact EndP.w
 rw[if_neg h2] at hC
 rw[dFa (by omega)]
 refine walkX ?_
 rw[e0,dFa (by omega)]
 refine walkX ?_
 refine DK.nil ⟨by kernel_rfl,?_⟩
 refine walkX ?_
 rw[e0]
 refine AWP.loop (σ:=Nat×List Ln) (fun s=>[(2,.sc (.pointer none)),(3,.ptr 2 0 0 0),(4,.sc (.int .i64 0)),(5,.ptr 0 0 0 0),(36,.list 1 (progR p.acts)),(37,.sc (.int .i64 (p.acts.length:Int))),(38,.sc (.int .i64 (s.1:Int)))]) (fun s=>ckH p s.2) (fun s=>s.1≤p.acts.length∧s.2.length=s.1∧chkG p s.1 (p.acts.drop s.1) s.2=C) (fun s=>p.acts.length - s.1) (0,[]) ⟨Nat.zero_le _,rfl,hC⟩ ?_ ?_
 ·unfold ckH chkH cBox plB
  exact Sub.w [10] [[(2,3)],[(3,0)],[(1,0)]]
 rintro⟨k,ls⟩ ⟨hk,hls,hG⟩
 dsimp only at hk hls hG ⊢
 by_cases h:k < p.acts.length
 ·rw[chkG_drop h] at hG
  have hw:=walkIn p k p.acts[k] (gEg h) ls (by omega) (hp _ (List.getElem_mem h))
  generalize walkP p k p.acts[k]=W at *
  unfold plV at hw
  by_cases he:W.1.2=0
  ·rw[if_neg (by simpa using he)] at hG
   rw[if_pos he,if_pos he,if_pos he,he] at hw
   unfold ckH chkH cBox plB at hw ⊢
   refine walkX ?_
   rw[dTr h]
   refine walkX ?_
   refine Reg.c (Nat.zero_le _) rfl (hw.mono ?_)
   rintro res H' ⟨rfl,rfl⟩
   unfold ckN plB
   refine walkX ?_
   refine⟨(k+1,ls++[W.2]),⟨by omega,by simp[hls],hG⟩,by omega,?_⟩
   exact Sub.w [] [[(0,0)],[(3,0)],[(2,0)]]
  ·rw[if_pos he] at hG
   rw[if_neg he,if_neg he,if_neg he] at hw
   subst hG
   dsimp only
   rw[if_neg he]
   unfold ckH chkH cBox plB at hw ⊢
   unfold plA
   dsimp only
   refine walkX ?_
   rw[dTr h]
   refine walkX ?_
   refine Reg.c (Nat.zero_le _) rfl (hw.mono ?_)
   rintro res H' ⟨rfl,rfl⟩
   refine walkX ?_
   rw[show(W.1.2 != 0)=true by simpa using he]
   refine walkX ?_
   refine DK.nil ⟨by kernel_rfl,?_⟩
   refine walkX ?_
   exact EndP.w
 ·have hk2:k=p.acts.length:=by omega
  subst hk2
  rw[List.drop_length,chkG] at hG
  subst hG
  dsimp only
  rw[if_pos rfl]
  have e3:=linesR_len ls
  unfold ckH chkH cBox plB ckV plA
  dsimp only
  refine walkX ?_
  rw[dFa (by omega)]
  refine walkX ?_
  exact EndP.w
theorem check_prog (p:Pg) (hp:POK p):PureRun Tryz.prog 24 [progV p] (.tup [plA (chkP p).1.1,.sc (.int .i64 (chkP p).1.2)]):=by
 refine PureRun.mkI cF24 (nlB rfl) ?_
 have hc:=checkc_ok p hp
 unfold chkV at hc
 unfold plA progV at *
 by_cases h:(chkP p).1.2=0
 ·rw[if_pos h] at hc
  unfold ckV at hc
  refine walkX ?_
  exact EndP.w
 ·rw[if_neg h] at hc
  refine walkX ?_
  exact EndP.w
end Go.Proofs.YtkjoolaahocgdaaGreat
