import Derived.Test.YtgdocflpobncmaaGreatGAv5
import Derived.Laws.StructEq
namespace Go.Av
section
variable {P:Program} {M:Mem} {J:Inj} {H:Heap} {w:World} {g i:Nat}
variable {N:Nat} {fr:Fr} {tmps:Array Value} {ds:List Deferred} {o:Oper} {v:AV} {H':Heap}
theorem aN.cells {H:Heap} {h:Array Obj} (hH:aN M J H h) {g i sz:Nat} {rows:List (List AV)} (hg:hget H g i=some (.cells sz rows)):
  ∃ l,J g i=some l∧l.sz=sz∧(∀(q:Nat) (r:List AV),rows[q]?=some r→r.length=sz) ∧
   ∀ β,l.blk=some β→∃ cs e,mF h β cs e∧cs.size=l.tot∧rows.length * sz≤l.tot∧(∀(j:Nat) v,j < rows.length * sz→cs[j]?=some v→v.oneCell'=true) ∧
    ∀(q:Nat) (r:List AV) (j:Nat) c v,rows[q]?=some r→r[j]?=some c→cs[q * sz+j]?=some v→Rep M J c v:=by
 obtain⟨l,h1,h2,h3,h4⟩:=hH.blk g i _ hg rfl;refine⟨l,h1,h2,h3,fun β hβ=>?_⟩;rw[hβ] at h4;exact h4
theorem cM {n sz q:Nat} (h:q < n):q * sz+sz≤n * sz:=by
 have:(q+1) * sz≤n * sz:=Nat.mul_le_mul_right _ h;rw[Nat.add_mul] at this;omega
theorem lP {α:Type}:∀(L:List (List α)),(∀ r∈L,r.length=1)→L.flatten.length=L.length∧∀(j:Nat) (c:α),L.flatten[j]?=some c→L[j]?=some [c]
 | [],_=>⟨rfl,fun j c h=>by simp at h⟩
 | []::L,h=>by have:=h [] (List.mem_cons_self ..); simp at this
 | [a]::L,h=>by
  obtain⟨h1,h2⟩:=lP L fun r hr=>h r (mCm _ hr)
  refine⟨by simp[h1],fun j c hc=>?_⟩
  cases j with
  | zero=>simp at hc; subst hc; rfl
  | succ j=>exact h2 j c (by simpa using hc)
 | (a::b::r)::L,h=>by have:=h (a::b::r) (List.mem_cons_self ..); simp at this
theorem M7 (hF:aU N M J fr tmps) (hH:aN M J H w.heap) (hM:a8 M w.heap) {t:TypeId} {sz:Nat} {agg:Bool} {a:Operand} (hv:mV P t=some (sz,agg)) (h:o.op=.load t a)
  (hs:aD g i (.load sz agg a) fr H=some (v,H')):bE P M J H w g i (execOp (Act.eval ⟨tmps,ds⟩) o) v H':=by
 have ha:=aH (ds:=ds) hF a;simp only[aD] at hs;split at hs
 ·rename_i cells e
  rw[e] at ha;split at hs
  ·rename_i v' hl
   simp only[oIn,pIn] at hs;obtain⟨rfl,rfl⟩:=hs;generalize hcv:Act.eval ⟨tmps,ds⟩ a=cv at ha
   cases ha with
   | cptr _ β off cs e f hMb hle hr=>
    obtain⟨x,hx,hrx⟩:=jC hv (hM _ _ hMb) hl hle hr;exact .quiet hH hM (by simp[execOp,h,Instr.loadAt,hcv,Instr.sureAddr,hx]) hrx
  ·cases hs
 ·rename_i g' i' row off e
  rw[e] at ha;split at hs
  ·rename_i s rows hg
   split at hs
   ·rename_i r hrow
    split at hs
    ·rename_i v' hl
     simp only[oIn,pIn] at hs;obtain⟨rfl,rfl⟩:=hs;generalize hcv:Act.eval ⟨tmps,ds⟩ a=cv at ha
     cases ha with
     | ptr _ _ _ _ β l hJ hb=>
      obtain⟨l',h1,h2,h3,h4⟩:=hH.cells hg;rw[hJ] at h1
      injection h1 with h1
      subst h1;obtain⟨cs,t',⟨ff,h5,hff⟩,h6,h7,_,h8⟩:=h4 β hb;have hrl:=(gEs.1 hrow).1;have:=cM (sz:=s) hrl;have hlen:=h3 row r hrow
      obtain⟨x,hx,hrx⟩:=jC (off:=row * l.sz+off) (cells:=r.drop off) hv h5 hl (by
       rw[List.length_drop,h2]
       rcases Nat.lt_or_ge off r.length with hlt | hge
       ·right; omega
       ·left; exact List.drop_eq_nil_of_le hge) (fun j c y hc hy=>by
       rw[List.getElem?_drop] at hc
       exact h8 row r (off+j) c y hrow hc (by rw[← h2,← Nat.add_assoc]; exact hy))
      exact .quiet hH hM (by simp[execOp,h,Instr.loadAt,hcv,Instr.sureAddr,hx]) hrx
    ·split at hs
     ·rename_i hbb
      split at hs
      ·rename_i v' hl
       simp only[oIn,pIn] at hs;obtain⟨rfl,rfl⟩:=hs;simp only[bAe] at hbb;have hs1:s=1:=nEb hbb.1;have ho0:off=0:=nEb hbb.2;subst hs1; subst ho0;generalize hcv:Act.eval ⟨tmps,ds⟩ a=cv at ha
       cases ha with
       | ptr _ _ _ _ β l hJ hb=>
        obtain⟨l',h1,h2,h3,h4⟩:=hH.cells hg;rw[hJ] at h1
        injection h1 with h1
        subst h1;obtain⟨cs,t',⟨ff,h5,hff⟩,h6,h7,_,h8⟩:=h4 β hb
        have hone:∀ r∈(rows.drop row).take sz,r.length=1:=fun r hr=>by
         obtain⟨q,hq⟩:=List.getElem?_of_mem (List.mem_of_mem_drop (List.mem_of_mem_take hr));exact h3 q r hq
        obtain⟨f1,f2⟩:=lP _ hone
        obtain⟨x,hx,hrx⟩:=jC (off:=row * l.sz+0) (cells:=((rows.drop row).take sz).flatten) hv h5 hl (by
         right;rw[f1,h2,List.length_take,List.length_drop];have:=(gEs.1 hrow).1
         omega) (fun j c y hc hy=>by
         have hc2:=f2 j c hc;rw[List.getElem?_take] at hc2;split at hc2
         ·rw[List.getElem?_drop] at hc2
          refine h8 (row+j) [c] 0 c y hc2 rfl ?_;rw[← hy,h2];congr 1;omega
         ·cases hc2)
        rw[Nat.add_zero] at hx hcv;exact .quiet hH hM (by simp[execOp,h,Instr.loadAt,hcv,Instr.sureAddr,hx]) hrx
      ·cases hs
     ·cases hs
   ·cases hs
  ·cases hs
 ·cases hs
theorem I6 (hF:aU N M J fr tmps) (hH:aN M J H w.heap) (hM:a8 M w.heap) {t:TypeId} {sz:Nat} {a x:Operand} (hv:bH P t=some sz) (h:o.op=.store t a x)
  (hs:aD g i (.store sz a x) fr H=some (v,H')):bE P M J H w g i (execOp (Act.eval ⟨tmps,ds⟩) o) v H':=by
 have ha:=aH (ds:=ds) hF a;have hx:=aH (ds:=ds) hF x;simp only[aD] at hs;split at hs
 ·rename_i g' i' row off e
  rw[e] at ha;split at hs
  ·rename_i cs hcs
   obtain⟨hl,hrep⟩:=hx.cs hcs;split at hs
   ·rename_i s rows hg
    split at hs
    ·rename_i r hrow
     split at hs
     ·rename_i hb'
      simp only[bAe] at hb';obtain⟨hb1,hb2,hall⟩:=hb';have hcl:cs.length=sz:=nEb hb1;have hfit:off+sz≤r.length:=nlB hb2;simp only[oIn,pIn] at hs;obtain⟨rfl,rfl⟩:=hs;generalize hcv:Act.eval ⟨tmps,ds⟩ a=cv at ha;generalize hxv:Act.eval ⟨tmps,ds⟩ x=xv at hx hl hrep
      cases ha with
      | ptr _ _ _ _ β l hJ hb=>
       obtain⟨l',h1,h2,h3,h4⟩:=hH.cells hg;rw[hJ] at h1
       injection h1 with h1
       subst h1;obtain⟨ccs,t',⟨ff,h5,hff⟩,h6,h7,h9,h8⟩:=h4 β hb;have hrl:=(gEs.1 hrow).1;have hrle:=cM (sz:=s) hrl;have hlen:=h3 row r hrow
       have hone:∀ y∈xv.cells.toList,y.oneCell'=true:=fun y hy=>by
        obtain⟨j,hj,rfl⟩:=List.mem_iff_getElem.1 hy;simp at hj
        have hjc:j < cs.length:=by omega
        exact(hrep j cs[j] _ (gEg hjc) (by simp[hj])).cell1 (List.all_eq_true.1 hall _ (gMe hjc))
       have hrun:=eC P β (row * l.sz+off) t' xv.cells.toList w ccs 0 h5 hff (by simp; rw[h2]; omega) hone;refine⟨Go.undef,iA w β (.cells (splice ccs (row * l.sz+off) xv.cells.toList) t' ff),J,.inr ⟨?_,rfl⟩,.undef _,.refl _ _,fun k=>?_,fun _ _ _=>rfl⟩
       ·rw[Nat.add_zero] at hrun
        simp only[execOp,h,Instr.storeAt,hcv,hxv,Instr.sureAddr,storeVar,Sem.run_bind,Sem.run_pure,Result.andThen_ok,run_sizeOf hv,← hl,hcl,ne_eq,not_true_eq_false,if_false,hrun]
       ·refine aS.write k hH hM g' i' l β _ hg rfl hJ hb (.cells (splice ccs (row * l.sz+off) xv.cells.toList) t' ff) _ (fun _=>?_) rfl rfl rfl rfl
        have hblt:=bX h5;refine⟨h2,fun q r' hq=>?_,?_⟩
        ·rw[List.getElem?_set] at hq
         split at hq
         ·injection hq with hq
          subst hq;simp[hlen]
         ·exact h3 q r' hq
        ·rw[hb]
         refine⟨_,t',⟨_,cS _ _ _ hblt,by simpa using hff⟩,by simp[h6],by simpa using h7,fun j y hj hy=>?_,fun q r' j c y hq hc hy=>?_⟩
         ·rw[List.length_set] at hj
          rw[bW] at hy;split at hy
          ·exact hone y (mOg hy)
          ·exact h9 j y hj hy
         ·rw[List.getElem?_set] at hq
          rw[bW] at hy;split at hq
          ·rename_i hqe
           subst hqe
           injection hq with hq
           subst hq;rw[qF] at hc
           have hs2:(xv.cells.toList).length=cs.length:=by simp[hl]
           have hjr:j < r.length:=by
            split at hc
            ·rename_i hh; exact hh.2.2
            ·exact(gEs.1 hc).1
           by_cases hin:off≤j∧j < off+cs.length
           ·rw[if_pos ⟨hin.1,hin.2,hjr⟩] at hc
            rw[if_pos (by rw[h2,hs2]; exact⟨by omega,by omega,by omega⟩)] at hy;rw[show row * s+j - (row * l.sz+off)=j - off by rw[h2]; omega] at hy;exact hrep (j - off) c y hc (by simpa using hy)
           ·rw[if_neg (by omega)] at hc
            rw[if_neg (by rw[h2,hs2]; omega)] at hy;exact h8 row r j c y hrow hc hy
          ·rename_i hqe
           have hqlen:=h3 q r' hq;have hj':=(gEs.1 hc).1
           have hs2:(xv.cells.toList).length=cs.length:=by simp[hl]
           rw[if_neg ?_] at hy
           ·exact h8 q r' j c y hq hc hy
           ·rw[h2,hs2]
            rcases Nat.lt_or_gt_of_ne hqe with hlt | hgt
            ·have:=cM (sz:=s) hlt; omega
            ·have:=cM (sz:=s) hgt; omega
     ·cases hs
    ·cases hs
   ·cases hs
  ·cases hs
 ·cases hs
theorem y9 (hF:aU N M J fr tmps) (hH:aN M J H w.heap) (hM:a8 M w.heap) {x:Operand} (h:o.op=.nilCheck x) (hs:aD g i (.nilCheck x) fr H=some (v,H')):
  bE P M J H w g i (execOp (Act.eval ⟨tmps,ds⟩) o) v H':=by
 have hx:=aH (ds:=ds) hF x;simp only[aD] at hs;generalize hcv:Act.eval ⟨tmps,ds⟩ x=cv at hx;split at hs
 ·rename_i e
  rw[e] at hx;simp only[oIn,pIn] at hs;obtain⟨rfl,rfl⟩:=hs
  cases hx with
  | ptr _ _ _ _ β l hJ hb=>exact .quiet hH hM (by simp[execOp,h,hcv]) (.ptr _ _ _ _ β l hJ hb)
 ·rename_i e
  rw[e] at hx;simp only[oIn,pIn] at hs;obtain⟨rfl,rfl⟩:=hs
  cases hx with
  | cptr _ β off cs e f hMb hle hr=>exact .quiet hH hM (by simp[execOp,h,hcv]) (.cptr _ β off cs e f hMb hle hr)
 ·rename_i e
  rw[e] at hx;simp only[oIn,pIn] at hs;obtain⟨rfl,rfl⟩:=hs
  cases hx with
  | ifc _ _ v hv=>exact .quiet hH hM (by simp[execOp,h,hcv]) (.ifc _ _ v hv)
 ·cases hs
theorem PS (hF:aU N M J fr tmps) (hH:aN M J H w.heap) (hM:a8 M w.heap) {op:BinOp} {t u:TypeId} {x y:Operand} (h:o.op=.binOp op t x y u) (hs:aD g i (.bin op t x y) fr H=some (v,H')):
  bE P M J H w g i (execOp (Act.eval ⟨tmps,ds⟩) o) v H':=by
 have hx:=aH (ds:=ds) hF x;have hy:=aH (ds:=ds) hF y;simp only[aD] at hs;split at hs
 ·rename_i a b ea eb
  rw[ea] at hx;rw[eb] at hy;split at hs
  ·rename_i r hr
   simp only[oIn,pIn] at hs;obtain⟨rfl,rfl⟩:=hs;refine .quiet hH hM (cv:=r) ?_ (.sc r);have:=Sem.pure?_run hr P w;simp only[execOp,h,hx.sc_inv,hy.sc_inv,Sem.run_bind] at this ⊢;rw[this];rfl
  ·cases hs
 ·cases hs
theorem ok_un (hF:aU N M J fr tmps) (hH:aN M J H w.heap) (hM:a8 M w.heap) {op:UnOp} {t:TypeId} {x:Operand} (h:o.op=.unOp op t x) (hs:aD g i (.un op x) fr H=some (v,H')):
  bE P M J H w g i (execOp (Act.eval ⟨tmps,ds⟩) o) v H':=by
 have hx:=aH (ds:=ds) hF x;simp only[aD] at hs;split at hs
 ·rename_i a ea
  rw[ea] at hx;split at hs
  ·rename_i r hr
   simp only[oIn,pIn] at hs;obtain⟨rfl,rfl⟩:=hs;refine .quiet hH hM (cv:=r) ?_ (.sc r);have:=Sem.pure?_run hr P w;simp only[execOp,h,hx.sc_inv,Sem.run_bind];rw[this];rfl
  ·cases hs
 ·cases hs
theorem K8 (hF:aU N M J fr tmps) (hH:aN M J H w.heap) (hM:a8 M w.heap) {src dst:TypeId} {k k0:IntKind} {x:Operand} (h1:P.underlying src=some (.int k0)) (h2:P.underlying dst=some (.int k)) (h:o.op=.convert src dst x)
  (hs:aD g i (.conv k x) fr H=some (v,H')):bE P M J H w g i (execOp (Act.eval ⟨tmps,ds⟩) o) v H':=by
 have hx:=aH (ds:=ds) hF x;simp only[aD] at hs;split at hs
 ·rename_i k1 n ea
  rw[ea] at hx;simp only[oIn,pIn] at hs;obtain⟨rfl,rfl⟩:=hs;refine .quiet hH hM (cv:=.int k (k.wrap n)) ?_ (.sc _);simp[execOp,h,hx.sc_inv,convert,run_underlying h1,run_underlying h2,Conv.intToInt]
 ·cases hs
theorem wM (hF:aU N M J fr tmps) (hH:aN M J H w.heap) (hM:a8 M w.heap) {neg:Bool} {t u:TypeId} {x y:Operand} (ht:P.underlying t=some .bool)
  (h:o.op=.binOp (if neg then .neq else .eql) t x y u) (hs:aD g i (.eqBool neg x y) fr H=some (v,H')):bE P M J H w g i (execOp (Act.eval ⟨tmps,ds⟩) o) v H':=by
 have hx:=aH (ds:=ds) hF x;have hy:=aH (ds:=ds) hF y;simp only[aD] at hs;split at hs
 ·rename_i a b ea eb
  rw[ea] at hx;rw[eb] at hy
  have hq0:∀ d,(Op.equalIn (d+1) t (.bool a) (.bool b)).run P w=.ok (a == b) w:=fun d=>by
   simp[Op.equalIn,run_underlying ht]
  have hq:(Op.equal t (.bool a) (.bool b)).run P w=.ok (a == b) w:=hq0 9999;split at hs
  ·simp only[oIn,pIn] at hs
   obtain⟨rfl,rfl⟩:=hs;refine .quiet hH hM (cv:=.bool (!(a == b))) ?_ (.sc _);simp[execOp,h,hx.sc_inv,hy.sc_inv,eqGuard,binOp,hq]
  ·simp only[oIn,pIn] at hs
   obtain⟨rfl,rfl⟩:=hs;refine .quiet hH hM (cv:=.bool (a == b)) ?_ (.sc _);simp[execOp,h,hx.sc_inv,hy.sc_inv,eqGuard,binOp,hq]
 ·cases hs
theorem AO:∀ {xs:List AV} {l:List Bool},bools xs=some l→xs=l.map fun b=>AV.sc (.bool b)
 | [],l,h=>by simp[bools] at h; subst h; rfl
 | x::xs,l,h=>by
  unfold bools at h;split at h
  ·rename_i e; cases e
  ·rename_i b r e
   injection e with e1 e2
   subst e1; subst e2;split at h
   ·rename_i q hq
    injection h with h
    subst h;rw[List.map_cons,AO hq]
   ·cases h
  ·cases h
theorem Rep.bools {xs:List AV} {l:List Bool} {cv:Value} (hb:bools xs=some l) (h:Rep M J (.agg xs) cv):cv=.agg (l.map Value.bool).toArray:=by
 have hxs:=AO hb;subst hxs
 cases h with
 | agg _ cvs hl hr=>
  congr 1;apply Array.ext_getElem?;intro j
  by_cases hj:j < l.length
  ·have h1:(l.map fun b=>AV.sc (.bool b))[j]?=some (.sc (.bool l[j])):=by simp[hj]
   have hjc:j < cvs.size:=by rw[List.length_map] at hl; omega
   have h2:cvs[j]?=some cvs[j]:=Array.getElem?_eq_getElem hjc;have:=(hr j _ _ h1 h2).sc_inv;rw[h2,this];simp[hj]
  ·rw[Array.getElem?_eq_none (by simp at hl; omega),Array.getElem?_eq_none (by simp; omega)]
theorem kZ:∀(xs ys:List Bool),xs.length=ys.length→((List.range xs.length).all fun i=>xs.getD i false == ys.getD i false)=(xs == ys)
 | [],[],_=>rfl
 | x::xs,y::ys,h=>by
  have ih:=kZ xs ys (by simpa using h);rw[List.length_cons,List.range_succ_eq_map,List.all_cons,List.all_map];simp only[List.getD_cons_zero,Function.comp_def,List.getD_cons_succ,ih];simp[List.cons_beq_cons]
 | [],_::_,h=>by simp at h
 | _::_,[],h=>by simp at h
theorem oA (w:World) (d:Nat) (t e:TypeId) (n:Nat) (ht:P.underlying t=some (.array n e)) (he:P.underlying e=some .bool) (hsz:∀ w,(sizeOf e).run P w=.ok 1 w)
  (xs ys:List Bool) (hx:xs.length=n) (hy:ys.length=n):
  (Op.equalIn (d+2) t (.agg (xs.map Value.bool).toArray) (.agg (ys.map Value.bool).toArray)).run P w=.ok (xs == ys) w:=by
 rw[← kZ xs ys (hx.trans hy.symm),hx,List.range_eq_range',Op.equalIn];simp only[Sem.run_bind,run_underlying ht,Result.andThen_ok,hsz,Std.Legacy.Range.forIn_eq_forIn_range',Std.Legacy.Range.size,Nat.sub_zero,Nat.add_sub_cancel,Nat.div_one]
 have hl:∀ i∈List.range' 0 n 1,i < n:=fun i hi=>by simpa using(List.mem_range'_1.1 hi).2
 generalize List.range' 0 n 1=l at hl ⊢
 induction l with
 | nil=>simp
 | cons i l ih=>
  have hi:i < n:=hl i (by simp)
  have px:(part e (xs.map Value.bool).toArray (i * 1)).run P w=.ok (.bool (xs.getD i false)) w:=by
   simp[part,isAgg,run_underlying he,List.getD,gEg (show i < xs.length by omega)]
  have py:(part e (ys.map Value.bool).toArray (i * 1)).run P w=.ok (.bool (ys.getD i false)) w:=by
   simp[part,isAgg,run_underlying he,List.getD,gEg (show i < ys.length by omega)]
  have pe:(Op.equalIn (d+1) e (.bool (xs.getD i false)) (.bool (ys.getD i false))).run P w=.ok (xs.getD i false == ys.getD i false) w:=by
   simp[Op.equalIn,run_underlying he]
  simp only[List.forIn_cons,Sem.run_bind,px,py,pe,Result.andThen_ok,List.all_cons]
  cases hb:(xs.getD i false == ys.getD i false)
  ·simp
  ·simp only[Bool.not_true,Bool.false_eq_true,if_false,Sem.run_pure,Result.andThen_ok,Bool.true_and]
   exact ih fun j hj=>hl j (by simp[hj])
theorem zZ (hF:aU N M J fr tmps) (hH:aN M J H w.heap) (hM:a8 M w.heap) {neg:Bool} {t u e:TypeId} {n:Nat} {x y:Operand} (ht:P.underlying t=some (.array n e)) (he:P.underlying e=some .bool) (hsz:bH P e=some 1)
  (hg:P.eqGuardType P.depth t=false) (h:o.op=.binOp (if neg then .neq else .eql) t x y u) (hs:aD g i (.eqArr neg n x y) fr H=some (v,H')):bE P M J H w g i (execOp (Act.eval ⟨tmps,ds⟩) o) v H':=by
 have hx:=aH (ds:=ds) hF x;have hy:=aH (ds:=ds) hF y;simp only[aD] at hs;split at hs
 ·rename_i xs ys ea eb
  rw[ea] at hx;rw[eb] at hy;split at hs
  ·rename_i a b h1 h2
   have hxe:=Rep.bools h1 hx;have hye:=Rep.bools h2 hy;split at hs
   ·rename_i hn
    simp only[bAe] at hn;have hna:a.length=n:=nEb hn.1;have hnb:b.length=n:=nEb hn.2;have hq:=oA (P:=P) w 9998 t e n ht he (run_sizeOf hsz) a b hna hnb;split at hs
    ·simp only[oIn,pIn] at hs
     obtain⟨rfl,rfl⟩:=hs;refine .quiet hH hM (cv:=.bool (!(a == b))) ?_ (.sc _)
     have hgd:=fun x y=>run_eqGuard_agg (P:=P) w .neq t x y (a.map Value.bool).toArray (b.map Value.bool).toArray hg
     simp only[execOp,h,hxe,hye,if_true,Sem.run_bind,hgd,Result.andThen_ok,run_neq_struct,hq];rfl
    ·simp only[oIn,pIn] at hs
     obtain⟨rfl,rfl⟩:=hs;refine .quiet hH hM (cv:=.bool (a == b)) ?_ (.sc _)
     have hgd:=fun x y=>run_eqGuard_agg (P:=P) w .eql t x y (a.map Value.bool).toArray (b.map Value.bool).toArray hg
     simp only[execOp,h,hxe,hye,Bool.false_eq_true,if_false,Sem.run_bind,hgd,Result.andThen_ok,run_eql_struct,hq];rfl
   ·cases hs
  ·cases hs
 ·cases hs
theorem yM (hF:aU N M J fr tmps) (hH:aN M J H w.heap) (hM:a8 M w.heap) {neg:Bool} {t u e:TypeId} {x:Operand} (ht:P.underlying t=some (.pointer e))
  (h:o.op=.binOp (if neg then .neq else .eql) t x (.const (.pointer none)) u) (hs:aD g i (.eqNil neg x) fr H=some (v,H')):bE P M J H w g i (execOp (Act.eval ⟨tmps,ds⟩) o) v H':=by
 have hx:=aH (ds:=ds) hF x
 have key:∀(p:Option Addr),Act.eval ⟨tmps,ds⟩ x=.pointer p→(execOp (Act.eval ⟨tmps,ds⟩) o).run P w=.ok (.value (.bool (if neg then !p.isNone else p.isNone))) w:=by
  intro p hp
  have hq0:∀ d,(Op.equalIn (d+1) t (.pointer p) (.pointer none)).run P w=.ok p.isNone w:=fun d=>by
   cases p<;>simp[Op.equalIn,run_underlying ht]
  have hq:(Op.equal t (.pointer p) (.pointer none)).run P w=.ok p.isNone w:=hq0 9999;have hc:Act.eval ⟨tmps,ds⟩ (.const (.pointer none))=.pointer none:=rfl
  cases neg<;>simp[execOp,h,hp,hc,eqGuard,binOp,hq]
 simp only[aD] at hs;generalize hcv:Act.eval ⟨tmps,ds⟩ x=cv at hx key;split at hs
 ·rename_i ea
  rw[ea] at hx;simp only[oIn,pIn] at hs;obtain⟨rfl,rfl⟩:=hs
  cases hx with
  | ptr _ _ _ _ β l hJ hb=>
   refine .quiet hH hM (key _ rfl) ?_
   cases neg<;>exact .sc _
 ·rename_i ea
  rw[ea] at hx;simp only[oIn,pIn] at hs;obtain⟨rfl,rfl⟩:=hs
  cases hx with
  | cptr _ β off cs e f hMb hle hr=>
   refine .quiet hH hM (key _ rfl) ?_
   cases neg<;>exact .sc _
 ·rename_i ea
  rw[ea] at hx;simp only[oIn,pIn] at hs;obtain⟨rfl,rfl⟩:=hs
  cases hx
  refine .quiet hH hM (key _ rfl) ?_
  cases neg<;>exact .sc _
 ·cases hs
theorem dV (hF:aU N M J fr tmps) (xs:List Operand) (n:Nat) (h:xs.length=n) (arr:Array Operand) (ha:xs=arr.toList):
  (avals fr xs).length=(arr.map (Act.eval ⟨tmps,ds⟩)).size∧∀(j:Nat) c v,(avals fr xs)[j]?=some c→(arr.map (Act.eval ⟨tmps,ds⟩))[j]?=some v→Rep M J c v:=by
 subst ha;refine⟨by simp[avals],fun j c v hc hv=>?_⟩;simp only[avals,List.getElem?_map,Array.getElem?_toList,Array.getElem?_map] at hc hv
 cases e:arr[j]? with
 | none=>rw[e] at hc; cases hc
 | some x=>
  rw[e] at hc hv;simp at hc hv;subst hc; subst hv;exact aH hF x
theorem zJ (hF:aU N M J fr tmps) (hH:aN M J H w.heap) (hM:a8 M w.heap) {fn:Fn} {a b:Array Operand} (h:o.op=.makeFunc fn a b)
  (hs:aD g i (.makeFunc fn a.toList b.toList) fr H=some (v,H')):bE P M J H w g i (execOp (Act.eval ⟨tmps,ds⟩) o) v H':=by
 simp only[aD,wZ,oIn,pIn] at hs;obtain⟨rfl,rfl⟩:=hs;obtain⟨h1,h2⟩:=dV (ds:=ds) hF a.toList _ rfl a rfl;obtain⟨h3,h4⟩:=dV (ds:=ds) hF b.toList _ rfl b rfl;exact .quiet hH hM (cv:=.func fn (a.map (Act.eval ⟨tmps,ds⟩)) (b.map (Act.eval ⟨tmps,ds⟩))) (by simp[execOp,h,Instr.makeFunc]) (.clo fn _ _ _ _ h1 h3 h2 h4)
theorem CR (hH:aN M J H w.heap) (hM:a8 M w.heap) (hn:hok H g i) (hJ:J g i=none) {t:TypeId} (h:o.op=.makeMap t none)
  (hs:aD g i .makeMap fr H=some (v,H')):bE P M J H w g i (execOp (Act.eval ⟨tmps,ds⟩) o) v H':=by
 simp only[aD,oIn,pIn] at hs;obtain⟨rfl,rfl⟩:=hs;refine .new hH hM hn hJ (w':={ w with heap:=w.heap.push (.map #[] 0) }) (.map #[] 0) _ ⟨some w.heap.size,0,0⟩ rfl rfl rfl rfl (cv:=.map (some w.heap.size)) ?_ rfl ?_ ?_
 ·simp[execOp,h,Instr.makeMap]
 ·exact⟨w.heap.size,#[],0,rfl,eD _ _,rfl,fun j x y hx=>by simp at hx,fun j x y hx=>by simp at hx,.empty⟩
 ·exact .mref g i w.heap.size _ (Inj.set_self _) rfl
theorem xG (hF:aU N M J fr tmps) (hH:aN M J H w.heap) (hM:a8 M w.heap) {t:TypeId} {x:Operand} {f n:Nat} {fs:Array Field} {fd:Field} (h1:P.underlying t=some (.struct fs)) (h2:fs[f]?=some fd)
  (h3:bH P fd.type=some (n+1)) (h:o.op=.fieldAddr t x f) (hs:aD g i (.fieldAddr fd.offset x) fr H=some (v,H')):bE P M J H w g i (execOp (Act.eval ⟨tmps,ds⟩) o) v H':=by
 have hx:=aH (ds:=ds) hF x
 have key:∀(β off:Nat),Act.eval ⟨tmps,ds⟩ x=.pointer (some ⟨β,off,none⟩)→(execOp (Act.eval ⟨tmps,ds⟩) o).run P w=.ok (.value (.pointer (some ⟨β,off+fd.offset,none⟩))) w:=by
  intro β off hp;simp[execOp,h,Instr.fieldAt,run_underlying h1,h2,hp,Instr.sureAddr,fieldPlace,run_sizeOf h3,cC]
 simp only[aD] at hs;generalize hcv:Act.eval ⟨tmps,ds⟩ x=cv at hx key;split at hs
 ·rename_i cells ea
  rw[ea] at hx;simp only[oIn,pIn] at hs;obtain⟨rfl,rfl⟩:=hs
  cases hx with
  | cptr _ β off cs e f hMb hle hr=>
   refine .quiet hH hM (key _ _ rfl) (.cptr _ β _ cs e f hMb ?_ fun j c y hc hy=>?_)
   ·rcases hle with rfl | hle
    ·left; simp
    ·rcases Nat.lt_or_ge fd.offset cells.length with hlt | hge
     ·right; simp; omega
     ·left; exact List.drop_eq_nil_of_le hge
   ·rw[List.getElem?_drop] at hc
    exact hr _ c y hc (by rw[← Nat.add_assoc]; exact hy)
 ·rename_i g' i' row off ea
  rw[ea] at hx;simp only[oIn,pIn] at hs;obtain⟨rfl,rfl⟩:=hs
  cases hx with
  | ptr _ _ _ _ β l hJ hb=>
   have:=Rep.ptr (M:=M) g' i' row (off+fd.offset) β l hJ hb;rw[← Nat.add_assoc] at this;exact .quiet hH hM (key _ _ rfl) this
 ·cases hs
theorem A6 (hF:aU N M J fr tmps) (hH:aN M J H w.heap) (hM:a8 M w.heap) {x:Operand} {ix:Nat} (h:o.op=.extract x ix)
  (hs:aD g i (.extract x ix) fr H=some (v,H')):bE P M J H w g i (execOp (Act.eval ⟨tmps,ds⟩) o) v H':=by
 have hx:=aH (ds:=ds) hF x;simp only[aD] at hs;generalize hcv:Act.eval ⟨tmps,ds⟩ x=cv at hx;split at hs
 ·rename_i vs ea
  rw[ea] at hx;split at hs
  ·rename_i v' hv
   simp only[oIn,pIn] at hs;obtain⟨rfl,rfl⟩:=hs
   cases hx with
   | tup _ cvs hl hr=>
    have hlt:ix < cvs.size:=by rw[← hl]; exact(gEs.1 hv).1
    exact .quiet hH hM (cv:=cvs[ix]) (by simp[execOp,h,hcv,Instr.extract,hlt]) (hr ix _ _ hv (by simp[hlt]))
  ·cases hs
 ·cases hs
theorem QV (hF:aU N M J fr tmps) (hH:aN M J H w.heap) (hM:a8 M w.heap) {x:Operand} {t e:TypeId} {args:Array Operand} {ts:Array TypeId} (ha:args.toList=[x]) (ht:ts.toList=[t]) (hu:P.underlying t=some (.slice e))
  (h:o.op=.call ⟨.builtin .len,args,ts⟩) (hs:aD g i (.len x) fr H=some (v,H')):bE P M J H w g i (execOp (Act.eval ⟨tmps,ds⟩) o) v H':=by
 have hx:=aH (ds:=ds) hF x
 have ha':args=#[x]:=by cases args; simp_all
 have ht':ts=#[t]:=by cases ts; simp_all
 subst ha'; subst ht'
 have key:∀ a n c,Act.eval ⟨tmps,ds⟩ x=.slice a n c→(execOp (Act.eval ⟨tmps,ds⟩) o).run P w=.ok (.value (.int .i64 n)) w:=by
  intro a n c hp;simp[execOp,h,resolve,invoke,builtin,Builtin.len_,run_underlying hu,hp,goInt]
 simp only[aD] at hs;generalize hcv:Act.eval ⟨tmps,ds⟩ x=cv at hx key;split at hs
 ·rename_i ea
  rw[ea] at hx;simp only[oIn,pIn] at hs;obtain⟨rfl,rfl⟩:=hs
  cases hx with
  | nilList sz a cap=>exact .quiet hH hM (key _ _ _ rfl) (.sc _)
  | list sz rows β off cap n cs e fr hn=>obtain⟨hn,_⟩:=hn; subst hn; exact .quiet hH hM (key _ _ _ rfl) (.sc _)
 ·rename_i ea
  rw[ea] at hx;simp only[oIn,pIn] at hs;obtain⟨rfl,rfl⟩:=hs
  cases hx with
  | hsl=>exact .quiet hH hM (key _ _ _ rfl) (.sc _)
  | hslNil=>exact .quiet hH hM (key _ _ _ rfl) (.sc _)
 ·rename_i ea
  rw[ea] at hx;simp only[oIn,pIn] at hs;obtain⟨rfl,rfl⟩:=hs
  cases hx with
  | asl=>exact .quiet hH hM (key _ _ _ rfl) (.sc _)
 ·rename_i ea
  rw[ea] at hx;simp only[oIn,pIn] at hs;obtain⟨rfl,rfl⟩:=hs
  cases hx
  exact .quiet hH hM (key _ _ _ rfl) (.sc _)
 ·cases hs
end
end Go.Av
namespace Go.Av
section
variable {P:Program} {M:Mem} {J:Inj} {H:Heap} {w:World} {g i:Nat}
variable {N:Nat} {fr:Fr} {tmps:Array Value} {ds:List Deferred} {o:Oper} {v:AV} {H':Heap}
theorem jP (z:Array Value) (n k:Nat) (hk:k < n):(madeCells z n)[k]?=some z[k % z.size]!:=by simp[madeCells,hk]
theorem sO {q sz j:Nat} (hj:j < sz):(q * sz+j) % sz=j:=by
 rw[Nat.mul_comm,Nat.mul_add_mod,Nat.mod_eq_of_lt hj]
theorem jW {z:Array Value} {n q sz j:Nat} {x:Value} (hz:z.size=sz) (hj:j < sz) (hk:q * sz+j < n) (h:(madeCells z n)[q * sz+j]?=some x):z[j]?=some x:=by
 rw[jP z n _ hk,hz,sO hj] at h
 have hjz:j < z.size:=by omega
 rw[getElem!_pos z j hjz] at h;rw[Array.getElem?_eq_getElem hjz];exact h
theorem j9 {z:List (Nat×Value)} {zv:Value} (hun:o9 z=zv.cells.toList) {j:Nat} {c:AV} {x:Value} (hc:(d5 z)[j]?=some c) (hx:zv.cells[j]?=some x):c=.sc x:=by
 rw[fC,hun,List.getElem?_map,Array.getElem?_toList,hx] at hc;simp at hc;exact hc.symm
theorem oN (hF:aU N M J fr tmps) (hH:aN M J H w.heap) (hM:a8 M w.heap) (hn:hok H g i) (hJ:J g i=none) {t e:TypeId} {inf:TypeInfo} {z:List (Nat×Value)} {l:Operand}
  (ht:P.underlying t=some (.slice e)) (hi:P.info? e=some inf) (hz:zOf P e=some z) (hsz:0 < inf.size) (h:o.op=.makeSlice t l l)
  (hs:aD g i (.makeSlice inf.size inf.bytes z l) fr H=some (v,H')):bE P M J H w g i (execOp (Act.eval ⟨tmps,ds⟩) o) v H':=by
 have hx:=aH (ds:=ds) hF l;obtain⟨inf',zv,hi',hz0,hsize,hone,hun⟩:=gY hz;rw[hi] at hi'
 injection hi' with hi'
 subst hi';simp only[aD] at hs;split at hs
 ·rename_i n ea
  rw[ea] at hx;split at hs
  ·rename_i hb
   simp only[bAe] at hb;have hb1:inf.bytes * n≤70368744177664:=nlB hb.1;have hb2:n≤1073741824:=nlB hb.2;simp only[oIn,pIn] at hs;obtain⟨rfl,rfl⟩:=hs
   have hlen:(d5 z).length=inf.size:=by rw[fC,hun]; simp[hsize]
   have hrun:=run_make (P:=P) w t e inf zv ht hi hz0 .i64 .i64 (.ofNat n) (.ofNat n) (Int.natCast_nonneg n) (Int.le_refl _) (by
    have:((inf.bytes * n:Nat):Int)≤(70368744177664:Nat):=Int.ofNat_le.2 hb1
    simp at this ⊢; omega) (by show(n:Int)≤_; omega)
   have htn:(Int.ofNat n).toNat=n:=rfl;rw[htn] at hrun
   refine .new hH hM hn hJ (w':=w.alloc (.cells (madeCells zv.cells (n * inf.size)) e)) (.cells (madeCells zv.cells (n * inf.size)) e) _
    ⟨some w.heap.size,inf.size,n * inf.size⟩ rfl rfl rfl rfl (cv:=.slice (some ⟨w.heap.size,0,none⟩) n n) ?_ rfl ?_ ?_
   ·simp only[execOp,h,hx.sc_inv,Sem.run_bind,hrun,Result.andThen_ok,Sem.run_pure]
   ·refine⟨rfl,fun q r hq=>?_,?_⟩
    ·rw[List.getElem?_replicate] at hq
     split at hq
     ·injection hq with hq; subst hq; exact hlen
     ·cases hq
    ·refine⟨_,e,.of (eD _ _),size_madeCells _ _,by simp,fun j y hj hy=>?_,fun q r j c y hq hc hy=>?_⟩
     ·rw[List.length_replicate] at hj
      have hjm:j % inf.size < inf.size:=Nat.mod_lt _ hsz;rw[jP _ _ _ hj,hsize,getElem!_pos zv.cells (j % inf.size) (by omega)] at hy
      injection hy with hy
      subst hy;exact hone _ (Array.getElem_mem _)
     ·rw[List.getElem?_replicate] at hq
      split at hq
      ·rename_i hqn
       injection hq with hq
       subst hq
       have hj:j < inf.size:=by rw[← hlen]; exact(gEs.1 hc).1
       have:=cM (sz:=inf.size) hqn;have hy':=jW hsize hj (by omega) hy;rw[j9 hun hc hy'];exact .sc y
      ·cases hq
   ·have:=Rep.hsl (M:=M) (J:=J.set g i ⟨some w.heap.size,inf.size,n * inf.size⟩) g i 0 n n w.heap.size _ (Inj.set_self _) rfl (by simp) (Nat.le_refl _)
    rwa[Nat.zero_mul] at this
  ·cases hs
 ·cases hs
theorem KO (hF:aU N M J fr tmps) (hH:aN M J H w.heap) (hM:a8 M w.heap) {t:TypeId} {x:Operand} {f sz:Nat} {agg:Bool} {fs:Array Field} {fd:Field} (h1:P.underlying t=some (.struct fs)) (h2:fs[f]?=some fd)
  (h3:mV P fd.type=some (sz,agg)) (h:o.op=.field t x f) (hs:aD g i (.field fd.offset sz agg x) fr H=some (v,H')):bE P M J H w g i (execOp (Act.eval ⟨tmps,ds⟩) o) v H':=by
 have hx:=aH (ds:=ds) hF x;obtain⟨v1,v2,v3⟩:=nQ h3;simp only[aD] at hs;generalize hcv:Act.eval ⟨tmps,ds⟩ x=cv at hx;split at hs
 ·rename_i cells ea
  rw[ea] at hx;split at hs
  ·rename_i v' hl
   simp only[oIn,pIn] at hs;obtain⟨rfl,rfl⟩:=hs
   cases hx with
   | agg _ cvs hlen hr=>
    cases agg with
    | true=>
     obtain⟨hle,rfl⟩:=tW hl;rw[List.length_drop] at hle;refine .quiet hH hM (cv:=.agg (cvs.extract fd.offset (fd.offset+sz))) ?_ (.agg _ _ (by simp; omega) fun j c y hc hy=>?_)
     ·simp[execOp,h,hcv,Instr.field,run_underlying h1,h2,asAgg,part,iE v2,run_sizeOf v1]
     ·have hj:j < sz:=by
       have:=(gEs.1 hc).1;simp at this; omega
      rw[List.getElem?_take,if_pos hj,List.getElem?_drop] at hc;rw[Array.getElem?_extract] at hy;split at hy
      ·exact hr _ c y hc hy
      ·cases hy
    | false=>
     have h0:=tP hl;rw[List.getElem?_drop] at h0
     have hlt:fd.offset < cvs.size:=by have:=(gEs.1 h0).1; omega
     refine .quiet hH hM (cv:=cvs[fd.offset]) ?_ (hr _ _ _ h0 (by simp[hlt]));simp[execOp,h,hcv,Instr.field,run_underlying h1,h2,asAgg,part,iE v2,hlt]
  ·cases hs
 ·cases hs
theorem GB (hF:aU N M J fr tmps) (hH:aN M J H w.heap) (hM:a8 M w.heap) {t e:TypeId} {x ix:Operand} {n sz:Nat} {agg:Bool} (h1:P.underlying t=some (.array n e))
  (h3:mV P e=some (sz,agg)) (h:o.op=.index t x ix) (hs:aD g i (.idxVal n sz agg x ix) fr H=some (v,H')):bE P M J H w g i (execOp (Act.eval ⟨tmps,ds⟩) o) v H':=by
 have hx:=aH (ds:=ds) hF x;have hix:=aH (ds:=ds) hF ix;obtain⟨v1,v2,v3⟩:=nQ h3;simp only[aD] at hs;split at hs
 ·rename_i k q ei
  rw[ei] at hix;have hixv:=hix.sc_inv;split at hs
  ·rename_i hq
   have hqn:q < n:=nlB hq
   have hqi:((q:Int) < (n:Int)):=by omega
   have h0q:(0:Int)≤Int.ofNat q:=Int.natCast_nonneg q;have hqi':Int.ofNat q < (n:Int):=hqi
   have hcond:(0:Int)≤Int.ofNat q∧Int.ofNat q < (n:Int):=⟨h0q,hqi'⟩
   have htn:(Int.ofNat q).toNat=q:=rfl;generalize hcv:Act.eval ⟨tmps,ds⟩ x=cv at hx;split at hs
   ·rename_i cells ea
    rw[ea] at hx;split at hs
    ·rename_i v' hl
     simp only[oIn,pIn] at hs;obtain⟨rfl,rfl⟩:=hs
     cases hx with
     | agg _ cvs hlen hr=>
      have hstep:∀ r,(part e cvs (q * sz)).run P w=.ok r w→(execOp (Act.eval ⟨tmps,ds⟩) o).run P w=.ok (.value r) w:=fun r hr'=>by
       simp only[execOp,h,hcv,hixv,Instr.index,asIntOf,Sem.run_bind,Sem.run_pure,Result.andThen_ok,run_underlying h1,hcond,and_self,if_true,run_sizeOf v1,htn,hr']
      cases agg with
      | true=>
       obtain⟨hle,rfl⟩:=tW hl;rw[List.length_drop] at hle;refine .quiet hH hM (cv:=.agg (cvs.extract (q * sz) (q * sz+sz))) (hstep _ ?_) (.agg _ _ (by simp; omega) fun j c y hc hy=>?_)
       ·simp[part,iE v2,run_sizeOf v1]
       ·have hj:j < sz:=by
         have:=(gEs.1 hc).1;simp at this; omega
        rw[List.getElem?_take,if_pos hj,List.getElem?_drop] at hc;rw[Array.getElem?_extract] at hy;split at hy
        ·exact hr _ c y hc hy
        ·cases hy
      | false=>
       have h0:=tP hl;rw[List.getElem?_drop] at h0
       have hlt:q * sz < cvs.size:=by have:=(gEs.1 h0).1; omega
       refine .quiet hH hM (cv:=cvs[q * sz]) (hstep _ ?_) (hr _ _ _ h0 (by simp[hlt]));simp[part,iE v2,hlt]
    ·cases hs
   ·cases hs
  ·cases hs
 ·cases hs
theorem JW (hF:aU N M J fr tmps) (hH:aN M J H w.heap) (hM:a8 M w.heap) {t e:TypeId} {x ix:Operand} {sz:Nat} (h1:P.underlying t=some (.slice e)) (hsz:bH P e=some sz)
  (h:o.op=.indexAddr t x ix) (hs:aD g i (.idxSl sz x ix) fr H=some (v,H')):bE P M J H w g i (execOp (Act.eval ⟨tmps,ds⟩) o) v H':=by
 have hx:=aH (ds:=ds) hF x;have hix:=aH (ds:=ds) hF ix;simp only[aD] at hs;split at hs
 ·rename_i k n ei
  rw[ei] at hix;have hixv:=hix.sc_inv
  have key:∀(β off m c:Nat),Act.eval ⟨tmps,ds⟩ x=.slice (some ⟨β,off,none⟩) m c→0≤n→n < m→(execOp (Act.eval ⟨tmps,ds⟩) o).run P w=.ok (.value (.pointer (some ⟨β,off+n.toNat * sz,none⟩))) w:=by
   intro β off m c hp h0 hlt;simp[execOp,h,hixv,Instr.indexAt,asIntOf,run_underlying h1,hp,run_sizeOf hsz,h0,hlt,cC]
  generalize hcv:Act.eval ⟨tmps,ds⟩ x=cv at hx key;split at hs
  ·rename_i s rows ea
   rw[ea] at hx;split at hs
   ·rename_i r hb hrow
    have hss:s=sz:=nEb hb;subst hss;obtain⟨h0,hlt,hr⟩:=BP hrow;simp only[oIn,pIn] at hs;obtain⟨rfl,rfl⟩:=hs
    cases hx with
    | nilList=>simp at hlt; omega
    | list _ _ β off cap m cs e f hn hMb hrl hle _ hrep=>
     obtain⟨hn,_⟩:=hn;subst hn;refine .quiet hH hM (key β off _ cap rfl h0 hlt) (.cptr r β _ cs e f hMb ?_ fun j c y hc hy=>?_)
     ·right
      have:=cM (sz:=s) (show n.toNat < rows.length by omega);rw[hrl _ r hr]; omega
     ·exact hrep _ r j c y hr hc hy
   ·cases hs
  ·rename_i g' i' start len ea
   rw[ea] at hx;split at hs
   ·rename_i q
    split at hs
    ·rename_i s rows hg
     split at hs
     ·rename_i hb
      simp only[bAe] at hb;have hss:s=sz:=nEb hb.1;subst hss;have hql:q < len:=nlB hb.2.1;simp only[oIn,pIn] at hs;obtain⟨rfl,rfl⟩:=hs
      cases hx with
      | hsl _ _ _ _ cap β l hJ hbk hc hlc=>
       obtain⟨l',p1,p2,p3,p4⟩:=hH.cells hg;rw[hJ] at p1
       injection p1 with p1
       subst p1;have hrun:=key β (start * l.sz) len cap rfl (Int.natCast_nonneg q) (by show(q:Int) < len; omega);have hre:=Rep.ptr (M:=M) g' i' (start+q) 0 β l hJ hbk
       have had:start * l.sz+(Int.ofNat q).toNat * s=(start+q) * l.sz+0:=by
        show start * l.sz+q * s=_;rw[← p2,Nat.add_mul]; omega
       rw[had] at hrun;exact .quiet hH hM hrun hre
      | hslNil=>omega
     ·cases hs
    ·cases hs
   ·cases hs
  ·rename_i g' i' row off len ea
   rw[ea] at hx;split at hs
   ·rename_i q
    split at hs
    ·rename_i hb
     simp only[bAe] at hb;have hss:sz=1:=nEb hb.1;subst hss;have hql:q < len:=nlB hb.2;simp only[oIn,pIn] at hs;obtain⟨rfl,rfl⟩:=hs
     cases hx with
     | asl _ _ _ _ _ cap β l hJ hbk hlc=>
      have hrun:=key β (row * l.sz+off) len cap rfl (Int.natCast_nonneg q) (by show(q:Int) < len; omega);have hre:=Rep.ptr (M:=M) g' i' row (off+q) β l hJ hbk
      have had:row * l.sz+off+(Int.ofNat q).toNat * 1=row * l.sz+(off+q):=by
       show row * l.sz+off+q * 1=_;omega
      rw[had] at hrun;exact .quiet hH hM hrun hre
    ·cases hs
   ·cases hs
  ·cases hs
 ·cases hs
theorem GC (hF:aU N M J fr tmps) (hH:aN M J H w.heap) (hM:a8 M w.heap) {t e:TypeId} {x ix:Operand} {n sz:Nat} (h1:P.underlying t=some (.array n e)) (hsz:bH P e=some sz)
  (h:o.op=.indexAddr t x ix) (hs:aD g i (.idxArr n sz x ix) fr H=some (v,H')):bE P M J H w g i (execOp (Act.eval ⟨tmps,ds⟩) o) v H':=by
 have hx:=aH (ds:=ds) hF x;have hix:=aH (ds:=ds) hF ix;simp only[aD] at hs;split at hs
 ·rename_i k q ei
  rw[ei] at hix;have hixv:=hix.sc_inv;split at hs
  ·rename_i hq
   have hqn:q < n:=nlB hq;have h0q:(0:Int)≤Int.ofNat q:=Int.natCast_nonneg q
   have hqi:Int.ofNat q < (n:Int):=by show(q:Int) < n; omega
   have key:∀(β off:Nat),Act.eval ⟨tmps,ds⟩ x=.pointer (some ⟨β,off,none⟩)→(execOp (Act.eval ⟨tmps,ds⟩) o).run P w=.ok (.value (.pointer (some ⟨β,off+q * sz,none⟩))) w:=by
    intro β off hp
    have hcond:(0:Int)≤Int.ofNat q∧Int.ofNat q < (n:Int):=⟨h0q,hqi⟩
    have htn:(Int.ofNat q).toNat=q:=rfl;simp only[execOp,h,hixv,Instr.indexAt,asIntOf,Sem.run_bind,Sem.run_pure,Result.andThen_ok,run_underlying h1,hp,Instr.sureAddr,run_sizeOf hsz,hcond,and_self,if_true,cC,htn]
   generalize hcv:Act.eval ⟨tmps,ds⟩ x=cv at hx key;split at hs
   ·rename_i cells ea
    rw[ea] at hx;simp only[oIn,pIn] at hs;obtain⟨rfl,rfl⟩:=hs
    cases hx with
    | cptr _ β off cs e f hMb hle hr=>
     refine .quiet hH hM (key _ _ rfl) (.cptr _ β _ cs e f hMb ?_ fun j c y hc hy=>?_)
     ·rcases hle with rfl | hle
      ·left; simp
      ·rcases Nat.lt_or_ge (q * sz) cells.length with hlt | hge
       ·right; simp; omega
       ·left; exact List.drop_eq_nil_of_le hge
     ·rw[List.getElem?_drop] at hc
      exact hr _ c y hc (by rw[← Nat.add_assoc]; exact hy)
   ·rename_i g' i' row off ea
    rw[ea] at hx;simp only[oIn,pIn] at hs;obtain⟨rfl,rfl⟩:=hs
    cases hx with
    | ptr _ _ _ _ β l hJ hb=>
     have:=Rep.ptr (M:=M) g' i' row (off+q * sz) β l hJ hb;rw[← Nat.add_assoc] at this;exact .quiet hH hM (key _ _ rfl) this
   ·cases hs
  ·cases hs
 ·cases hs
theorem wR {xs:List AV}:∀ {vs:List Value} (_:scs xs=some vs) (cvs:List Value) (_:xs.length=cvs.length) (_:∀(j:Nat) c v,xs[j]?=some c→cvs[j]?=some v→Rep M J c v),cvs=vs:=by
 induction xs with
 | nil=>
  intro vs h cvs hl _;simp[scs] at h;subst h
  cases cvs with | nil=>rfl | cons _ _=>simp at hl
 | cons a xs ih=>
  intro vs h cvs hl hr
  cases a with
  | sc u=>
   simp only[scs] at h;split at h
   ·rename_i q hq
    injection h with h
    subst h
    cases cvs with
    | nil=>simp at hl
    | cons c cvs=>
     have h0:=hr 0 _ _ rfl rfl;rw[h0.sc_inv,ih hq cvs (by simpa using hl) fun j c v a b=>hr (j+1) c v a b]
   ·cases h
  | _=>cases h
theorem QJ (hF:aU N M J fr tmps) (hH:aN M J H w.heap) (hM:a8 M w.heap) {args:Array Operand} {ts:Array TypeId} (h:o.op=.call ⟨.builtin .max,args,ts⟩)
  (hs:aD g i (.max args.toList) fr H=some (v,H')):bE P M J H w g i (execOp (Act.eval ⟨tmps,ds⟩) o) v H':=by
 obtain⟨h1,h2⟩:=dV (ds:=ds) hF args.toList _ rfl args rfl;simp only[aD] at hs;split at hs
 ·rename_i vs hvs
  split at hs
  ·rename_i r hr
   simp only[oIn,pIn] at hs;obtain⟨rfl,rfl⟩:=hs;have he:=wR hvs (args.map (Act.eval ⟨tmps,ds⟩)).toList (by simpa using h1) (fun j c v a b=>h2 j c v a (by simpa using b))
   have he':args.map (Act.eval ⟨tmps,ds⟩)=vs.toArray:=by rw[← he]
   have hrun:=Sem.pure?_run hr P w;refine .quiet hH hM (cv:=r) ?_ (.sc r);have hrun':(Builtin.max_ ts o.type vs.toArray).run P w=.ok r w:=hrun;simp only[execOp,h,resolve,invoke,builtin,Sem.run_bind,Sem.run_pure,Result.andThen_ok,he',hrun']
  ·cases hs
 ·cases hs
theorem QE (hF:aU N M J fr tmps) (hH:aN M J H w.heap) (hM:a8 M w.heap) {args:Array Operand} {ts:Array TypeId} (h:o.op=.call ⟨.builtin .min,args,ts⟩)
  (hs:aD g i (.min args.toList) fr H=some (v,H')):bE P M J H w g i (execOp (Act.eval ⟨tmps,ds⟩) o) v H':=by
 obtain⟨h1,h2⟩:=dV (ds:=ds) hF args.toList _ rfl args rfl;simp only[aD] at hs;split at hs
 ·rename_i vs hvs
  split at hs
  ·rename_i r hr
   simp only[oIn,pIn] at hs;obtain⟨rfl,rfl⟩:=hs;have he:=wR hvs (args.map (Act.eval ⟨tmps,ds⟩)).toList (by simpa using h1) (fun j c v a b=>h2 j c v a (by simpa using b))
   have he':args.map (Act.eval ⟨tmps,ds⟩)=vs.toArray:=by rw[← he]
   have hrun:=Sem.pure?_run hr P w;refine .quiet hH hM (cv:=r) ?_ (.sc r);have hrun':(Builtin.min_ ts o.type vs.toArray).run P w=.ok r w:=hrun;simp only[execOp,h,resolve,invoke,builtin,Sem.run_bind,Sem.run_pure,Result.andThen_ok,he',hrun']
  ·cases hs
 ·cases hs
theorem gJ {N:Nat} {tmps:Array Value} {fr:Fr} {ds:List Deferred} (hF:aU N M J fr tmps) {d q:Nat} {x:Operand} (h:pI fr d (some x)=some q):∃ k,Act.eval ⟨tmps,ds⟩ x=.int k (q:Int):=by
 have hx:=aH (ds:=ds) hF x;simp only[pI] at h;split at h
 ·rename_i k q' e
  injection h with h
  subst h;rw[e] at hx;exact⟨k,hx.sc_inv⟩
 ·cases h
theorem jM {N:Nat} {tmps:Array Value} {fr:Fr} {ds:List Deferred} (hF:aU N M J fr tmps) {d cap l hh:Nat} {lo hi mx:Option Operand} (h:eF fr d lo hi mx=some (l,hh)) (hd:d≤cap):
  ∃ m,l≤hh∧hh≤m∧hh≤d∧(m≤cap∧(mx=none→m=cap))∧(Instr.sliceBounds true d cap (lo.map (Act.eval ⟨tmps,ds⟩)) (hi.map (Act.eval ⟨tmps,ds⟩)) (mx.map (Act.eval ⟨tmps,ds⟩))).run P w=.ok (l,hh,m) w:=by
 have hb:∀(k:IntKind) (q y:Nat) (c:BoundsCode),q≤y→(Instr.sliceBound (.int k (q:Int)) y c).run P w=.ok q w:=by
  intro k q y c hq
  have:0≤(q:Int)∧(q:Int)≤(y:Int):=by omega
  simp[Instr.sliceBound,asIntOf,this]
 simp only[eF] at h;split at h
 ·rename_i l' h' m' e1 e2 e3
  split at h
  ·rename_i hc
   simp only[bAe,Bool.or_eq_true] at hc;have c1:l'≤h':=nlB hc.1.1;have c2:h'≤m':=nlB hc.1.2.1;have c3:m'≤d:=nlB hc.1.2.2;have c4:=hc.2;simp only[oIn,pIn] at h;obtain⟨rfl,rfl⟩:=h
   cases mx with
   | none=>
    refine⟨cap,c1,by omega,by omega,⟨Nat.le_refl _,fun _=>rfl⟩,?_⟩
    cases hi with
    | none=>
     simp only[pI,oIn] at e2;subst e2
     cases lo with
     | none=>
      simp only[pI,oIn] at e1;subst e1;simp[Instr.sliceBounds]
     | some x=>
      obtain⟨k,hk⟩:=gJ (ds:=ds) hF e1;simp[Instr.sliceBounds,hk,hb _ _ _ _ c1]
    | some y=>
     obtain⟨ky,hky⟩:=gJ (ds:=ds) hF e2
     have c5:h'≤cap:=by omega
     cases lo with
     | none=>
      simp only[pI,oIn] at e1;subst e1;simp[Instr.sliceBounds,hky,hb _ _ _ _ c5]
     | some x=>
      obtain⟨k,hk⟩:=gJ (ds:=ds) hF e1;simp[Instr.sliceBounds,hk,hky,hb _ _ _ _ c1,hb _ _ _ _ c5]
   | some z=>
    obtain⟨kz,hkz⟩:=gJ (ds:=ds) hF e3
    have c6:m'≤cap:=by omega
    refine⟨m',c1,c2,by omega,⟨c6,fun h=>by cases h⟩,?_⟩
    cases hi with
    | none=>simp at c4
    | some y=>
     obtain⟨ky,hky⟩:=gJ (ds:=ds) hF e2
     cases lo with
     | none=>
      simp only[pI,oIn] at e1;subst e1;simp[Instr.sliceBounds,hky,hkz,hb _ _ _ _ c2,hb _ _ _ _ c6]
     | some x=>
      obtain⟨k,hk⟩:=gJ (ds:=ds) hF e1;simp[Instr.sliceBounds,hk,hky,hkz,hb _ _ _ _ c1,hb _ _ _ _ c2,hb _ _ _ _ c6]
  ·cases h
 ·cases h
theorem JA (hF:aU N M J fr tmps) (hH:aN M J H w.heap) (hM:a8 M w.heap) {t e:TypeId} {x:Operand} {lo hi mx:Option Operand} {sz:Nat} (h1:P.underlying t=some (.slice e)) (hsz:bH P e=some sz)
  (h:o.op=.slice t x lo hi mx) (hs:aD g i (.slice sz x lo hi mx) fr H=some (v,H')):bE P M J H w g i (execOp (Act.eval ⟨tmps,ds⟩) o) v H':=by
 have hx:=aH (ds:=ds) hF x
 have key:∀(a:Option Addr) (d cap l hh:Nat),Act.eval ⟨tmps,ds⟩ x=.slice a d cap→eF fr d lo hi mx=some (l,hh)→d≤cap→∃ m,l≤hh∧hh≤m∧hh≤d∧(m≤cap∧(mx=none→m=cap)) ∧
   (execOp (Act.eval ⟨tmps,ds⟩) o).run P w=.ok (.value (.slice (if m=l then a else a.map (·.add (l * sz))) (hh - l) (m - l))) w:=by
  intro a d cap l hh hp hb hd;obtain⟨m,c1,c2,c3,c4,c5⟩:=jM (P:=P) (w:=w) (ds:=ds) hF hb hd;refine⟨m,c1,c2,c3,c4,?_⟩;simp[execOp,h,Instr.sliceAt,Instr.slice,run_underlying h1,hp,c5,run_sizeOf hsz]
 simp only[aD] at hs;generalize hcv:Act.eval ⟨tmps,ds⟩ x=cv at hx key;split at hs
 ·rename_i s rows ea
  rw[ea] at hx;split at hs
  ·rename_i hb
   have hss:s=sz:=nEb hb;subst hss;split at hs
   ·rename_i l hh hsb
    simp only[oIn,pIn] at hs;obtain⟨rfl,rfl⟩:=hs
    cases hx with
    | nilList _ a cap=>
     obtain⟨m,c1,c2,c3,c4,hrun⟩:=key a 0 cap l hh rfl hsb (nZl _)
     have:hh=0:=by omega
     subst this
     have:l=0:=by omega
     subst this;simp only[List.drop_nil,List.take_nil];exact .quiet hH hM hrun (.nilList _ _ _)
    | list _ _ β off cap n cs e' f hn hMb hrl hle hone hrep=>
     obtain⟨hn,hcap⟩:=hn;subst hn;obtain⟨m,c1,c2,c3,c4,hrun⟩:=key _ _ cap l hh rfl hsb hcap;refine .quiet hH hM hrun ?_
     by_cases hlh:l=hh
     ·subst hlh
      rw[Nat.sub_self,List.take_zero];exact .nilList _ _ _
     ·rw[if_neg (by omega)]
      have hlen:((rows.drop l).take (hh - l)).length=hh - l:=by simp; omega
      have hgr:∀(q:Nat) (r:List AV),((rows.drop l).take (hh - l))[q]?=some r→q < hh - l∧rows[l+q]?=some r:=by
       intro q r hq;rw[List.getElem?_take] at hq;split at hq
       ·rw[List.getElem?_drop] at hq; exact⟨by assumption,hq⟩
       ·cases hq
      have hmul:l * s+(hh - l) * s≤rows.length * s:=by rw[← Nat.add_mul]; exact Nat.mul_le_mul_right _ (by omega)
      simp only[Option.map_some,cC];refine .list s _ β (off+l * s) (m - l) (hh - l) cs e' f ⟨hlen.symm,by omega⟩ hMb (fun q r hq=>hrl _ r (hgr q r hq).2) (by rw[hlen]; omega) (fun j y hj hy=>?_) (fun q r j c y hq hc hy=>?_)
      ·rw[hlen] at hj
       exact hone (l * s+j) y (by omega) (by rw[← Nat.add_assoc]; exact hy)
      ·exact hrep (l+q) r j c y (hgr q r hq).2 hc (by rw[Nat.add_mul,← Nat.add_assoc]; exact hy)
   ·cases hs
  ·cases hs
 ·rename_i g' i' start' len ea
  rw[ea] at hx;split at hs
  ·rename_i s rows hg
   split at hs
   ·rename_i hb
    have hss:s=sz:=nEb hb;subst hss;split at hs
    ·rename_i l hh hsb
     split at hs
     ·simp only[oIn,pIn] at hs
      obtain⟨rfl,rfl⟩:=hs;generalize hcv2:cv=cv2 at hx
      have fin:∀ a cap,cv=.slice a len cap→len≤cap→bE P M J H w g i (execOp (Act.eval ⟨tmps,ds⟩) o) .undef H:=by
       intro a cap e hle;obtain⟨m,_,_,_,_,hrun⟩:=key a len cap l hh e hsb hle;exact .quiet hH hM hrun (.undef _)
      cases hx with
      | hsl _ _ _ _ cap β l0 hJ hbk' hc hlc=>exact fin _ _ hcv2 hlc
      | hslNil _ _ a0 l0 hJ hbk'=>exact fin _ _ hcv2 (Nat.le_refl _)
     have hbk:∀ β0 (l0:Loc) (cap:Nat),J g' i'=some l0→l0.blk=some β0→(start'+cap) * l0.sz=l0.tot→len≤cap→∀ cv',cv'=Value.slice (some ⟨β0,start' * l0.sz,none⟩) len cap→cv=cv'→l0.sz=s →
       bE P M J H w g i (execOp (Act.eval ⟨tmps,ds⟩) o) v H':=by
      intro β0 l0 cap hJ0 hb0 hc0 hlc0 cv' hcv' hcvv hs0;subst hcv';subst hcvv;obtain⟨m,c1,c2,c3,⟨c4,c4'⟩,hrun⟩:=key _ len cap l hh rfl hsb hlc0;have c4':=c4' rfl;subst c4';split at hs
      ·rename_i hl0
       have hl0:=nEb hl0;subst hl0;simp only[oIn,pIn] at hs;obtain⟨rfl,rfl⟩:=hs;refine .quiet hH hM hrun ?_
       have e:(if m=0 then(some ⟨β0,start' * l0.sz,none⟩:Option Addr) else Option.map (fun(x:Addr)=>x.add (0 * s)) (some ⟨β0,start' * l0.sz,none⟩))=some ⟨β0,start' * l0.sz,none⟩:=by
        split
        ·rfl
        ·simp only[Option.map_some,cC,Nat.zero_mul,Nat.add_zero]
       rw[e,Nat.sub_zero,Nat.sub_zero];exact .hsl g' i' start' hh m β0 l0 hJ0 hb0 hc0 c2
      ·split at hs
       ·rename_i hlh
        have hlh:=nEb hlh;subst hlh;simp only[oIn,pIn] at hs;obtain⟨rfl,rfl⟩:=hs;rw[Nat.sub_self] at hrun;exact .quiet hH hM hrun (.nilList _ _ _)
       ·rename_i hlh
        have hne:l≠hh:=fun e=>by subst e; simp at hlh
        simp only[oIn,pIn] at hs;obtain⟨rfl,rfl⟩:=hs;rw[if_neg (by omega)] at hrun;simp only[Option.map_some,cC] at hrun;have:=Rep.hsl (M:=M) g' i' (start'+l) (hh - l) (m - l) β0 l0 hJ0 hb0 (by rw[show start'+l+(m - l)=start'+m by omega]; exact hc0) (by omega);rw[Nat.add_mul,hs0] at this;rw[hs0] at hrun;exact .quiet hH hM hrun this
     obtain⟨l',p1,p2,p3,p4⟩:=hH.cells hg;generalize hcv2:cv=cv2 at hx
     cases hx with
     | hsl _ _ _ _ cap β l0 hJ hbk' hc hlc=>
      rw[hJ] at p1
      injection p1 with p1
      subst p1;exact hbk β l0 cap hJ hbk' hc hlc _ rfl hcv2 p2
     | hslNil _ _ a0 l0 hJ hbk'=>
      subst hcv2;obtain⟨m,c1,c2,c3,c4,hrun⟩:=key a0 0 0 l hh rfl hsb (Nat.le_refl _)
      have hh0:hh=0:=by omega
      subst hh0
      have hl0:l=0:=by omega
      subst hl0
      have hm0:m=0:=by omega
      subst hm0;replace hs:some (AV.hsl g' i' 0 0,H)=some (v,H'):=hs;simp only[oIn,pIn] at hs;obtain⟨rfl,rfl⟩:=hs;exact .quiet hH hM hrun (.hslNil _ _ _ l0 hJ hbk')
    ·rename_i hsn
     clear hsn;split at hs
     ·rename_i l hh hsb
      split at hs
      ·rename_i y
       split at hs
       ·rename_i hb3
        simp only[bAe] at hb3;have hsp:0 < s:=nlB hb3.1;have hlh:l < hh:=nlB hb3.2;simp only[oIn,pIn] at hs;obtain⟨rfl,rfl⟩:=hs;obtain⟨l',p1,p2,p3,p4⟩:=hH.cells hg;obtain⟨l1,p1',_,_,pn⟩:=hH.blk g' i' _ hg rfl;generalize hcv2:cv=cv2 at hx
        cases hx with
        | hslNil _ _ a0 l0 hJ hbk'=>
         rw[hJ] at p1'
         injection p1' with p1'
         subst p1';rw[hbk'] at pn;simp only at pn;subst pn;obtain⟨m,c1,c2,c3,_⟩:=jM (P:=P) (w:=w) (ds:=ds) hF hsb (Nat.le_refl _);simp at c3;omega
        | hsl _ _ _ _ cap β l0 hJ hbk' hc hlc=>
         rw[hJ] at p1
         injection p1 with p1
         subst p1;subst hcv2;obtain⟨cs,e',⟨ff,q1,hff⟩,q2,q3,q4,q5⟩:=p4 β hbk';rw[p2] at hc hcv
         have hcap:rows.length≤start'+cap:=by
          rw[← hc] at q3;exact Nat.le_of_mul_le_mul_right q3 hsp
         obtain⟨m,c1,c2,c3,⟨c4,c4'⟩,c5⟩:=jM (P:=P) (w:=w) (ds:=ds) hF hsb (show rows.length - start'≤cap by omega);have c4':=c4' rfl;subst c4';have c5':(Instr.sliceBounds true len m (lo.map (Act.eval ⟨tmps,ds⟩)) ((some y).map (Act.eval ⟨tmps,ds⟩)) ((none:Option Operand).map (Act.eval ⟨tmps,ds⟩))).run P w=.ok (l,hh,m) w:=c5;simp only[Option.map_some,Option.map_none] at c5'
         have hrun:(execOp (Act.eval ⟨tmps,ds⟩) o).run P w=.ok (.value (.slice (if m=l then some ⟨β,start' * s,none⟩ else(some (⟨β,start' * s,none⟩:Addr)).map (·.add (l * s))) (hh - l) (m - l))) w:=by
          simp[execOp,h,Instr.sliceAt,Instr.slice,run_underlying h1,hcv,c5',run_sizeOf hsz]
         rw[if_neg (by omega)] at hrun;simp only[Option.map_some,cC] at hrun;have:=Rep.hsl (M:=M) g' i' (start'+l) (hh - l) (m - l) β l0 hJ hbk' (by rw[p2,show start'+l+(m - l)=start'+m by omega]; exact hc) (by omega);rw[Nat.add_mul,p2] at this;exact .quiet hH hM hrun this
       ·cases hs
      ·cases hs
     ·cases hs
   ·cases hs
  ·cases hs
 ·rename_i ea
  rw[ea] at hx;split at hs
  ·rename_i p hsb
   obtain⟨l,hh⟩:=p;simp only[oIn,pIn] at hs;obtain⟨rfl,rfl⟩:=hs
   cases hx
   obtain⟨m,c1,c2,c3,c4,hrun⟩:=key none 0 0 l hh rfl hsb (Nat.le_refl _)
   have hh0:hh=0:=by omega
   subst hh0
   have hl0:l=0:=by omega
   subst hl0
   have hm0:m=0:=by omega
   subst hm0;exact .quiet hH hM hrun (.sc _)
  ·cases hs
 ·cases hs
end
end Go.Av
namespace Go.Av
section
variable {P:Program} {M:Mem} {J:Inj} {H:Heap} {w:World} {g i:Nat}
variable {N:Nat} {fr:Fr} {tmps:Array Value} {ds:List Deferred} {o:Oper} {v:AV} {H':Heap}
theorem zT {α β:Type} (f:α→Sem β) (h:α→β):∀(l:List α),(∀ x∈l,(f x).run P w=.ok (h x) w)→(l.mapM f).run P w=.ok (l.map h) w
 | [],_=>by simp
 | x::l,hf=>by
  have h1:=hf x (List.mem_cons_self ..)
  have h2:=zT f h l fun y hy=>hf y (mCm _ hy)
  simp[h1,h2]
theorem xD {α β:Type} (f:α→Sem β) (h:α→β) (a:Array α) (hf:∀ x∈a.toList,(f x).run P w=.ok (h x) w):(a.mapM f).run P w=.ok (a.map h) w:=by
 rw[Array.mapM_eq_mapM_toList];simp only[Sem.run_map,zT f h a.toList hf,Result.andThen_ok];congr 1;apply Array.ext';simp
theorem w8 (l:List Value):∀(cs:Array Value) (off k:Nat),(l.zipIdx k).foldl (fun cs (x:Value×Nat)=>cs.setIfInBounds (off+x.2) x.1) cs=splice cs (off+k) l:=by
 induction l with
 | nil=>intro cs off k; rfl
 | cons v l ih=>
  intro cs off k;simp only[List.zipIdx_cons,List.foldl_cons,splice];rw[ih,Nat.add_assoc]
theorem jS (a:Array Value) (cs:Array Value) (off:Nat):a.zipIdx.foldl (fun cs (x:Value×Nat)=>cs.setIfInBounds (off+x.2) x.1) cs=splice cs off a.toList:=by
 rw[← Array.foldl_toList,Array.toList_zipIdx,w8,Nat.add_zero]
def kN (M:Mem) (J:Inj) (xs:List AV) (cs:Array Value):Prop:=xs.length=cs.size∧∀(j:Nat) c v,xs[j]?=some c→cs[j]?=some v→Rep M J c v
theorem kN.splice {xs:List AV} {cs:Array Value} (h:kN M J xs cs) {ys:List AV} {ws:List Value} (hl:ys.length=ws.length) (hr:∀(j:Nat) c v,ys[j]?=some c→ws[j]?=some v→Rep M J c v) (off:Nat):
  kN M J (bO xs off ys) (splice cs off ws):=by
 refine⟨by simp[h.1],fun j c v hc hv=>?_⟩;rw[qF] at hc;rw[bW] at hv;have:=h.1;split at hc
 ·rename_i hh
  rw[if_pos (by omega)] at hv;exact hr _ c v hc hv
 ·rename_i hh
  rw[if_neg (by omega)] at hv;exact h.2 j c v hc hv
theorem M8 (hF:aU N M J fr tmps) (fs:Array Field):∀(parts:List (Nat×Operand)) (lp:List (Nat×Nat×Operand)) (xs ys:List AV) (cs:Array Value),pT P fs parts=some lp →
  lay xs (lp.map fun p=>(p.1,p.2.1,ev fr p.2.2))=some ys→kN M J xs cs →
  ∃ cs',Instr.fill ((fs.map fun f=>(f.offset,P.cellsOf f.type))[·]?) cs (parts.map fun p=>(p.1,Act.eval ⟨tmps,ds⟩ p.2))=some cs'∧kN M J ys cs':=by
 intro parts
 induction parts with
 | nil=>
  intro lp xs ys cs hp hl hr;simp[pT] at hp;subst hp;simp[lay] at hl;subst hl;exact⟨cs,rfl,hr⟩
 | cons p parts ih=>
  obtain⟨k,x⟩:=p;intro lp xs ys cs hp hl hr;simp only[pT] at hp;split at hp
  ·rename_i f q hf hq
   split at hp
   ·rename_i n hn
    injection hp with hp
    subst hp;simp only[List.map_cons,lay] at hl;split at hl
    ·rename_i c hc
     split at hl
     ·rename_i hb
      simp only[bAe] at hb;have hcn:c.length=n:=nEb hb.1;have hle:f.offset+n≤xs.length:=nlB hb.2;obtain⟨h1,h2⟩:=(aH (ds:=ds) hF x).cs hc
      have hsz:P.cellsOf f.type=n:=by
       unfold bH at hn;unfold Program.cellsOf;rw[hn]; rfl
      obtain⟨cs',h3,h4⟩:=ih q _ ys (splice cs f.offset (Act.eval ⟨tmps,ds⟩ x).cells.toList) hq hl (hr.splice (by simpa using h1) (fun j c v a b=>h2 j c v a (by simpa using b)) f.offset);refine⟨cs',?_,h4⟩;have hr1:=hr.1;simp only[List.map_cons,Instr.fill,Array.getElem?_map,hf,Option.map_some]
      rw[if_neg (by
       simp only[Bool.or_eq_true,decide_eq_true_eq,not_or];rw[hsz]
       omega)]
      rw[jS];simp only[Array.getElem?_map] at h3;exact h3
     ·cases hl
    ·cases hl
   ·cases hp
  ·cases hp
theorem KJ (hF:aU N M J fr tmps) (hH:aN M J H w.heap) (hM:a8 M w.heap) {t:TypeId} {fs:Array Field} {z:List (Nat×Value)} {parts:Array (Nat×Operand)} {lp:List (Nat×Nat×Operand)}
  (ht:P.underlying t=some (.struct fs)) (hz:zOf P t=some z) (hall:fs.all (fun f=>(bH P f.type).isSome)=true) (hp:pT P fs parts.toList=some lp) (h:o.op=.build t parts)
  (hs:aD g i (.build z lp) fr H=some (v,H')):bE P M J H w g i (execOp (Act.eval ⟨tmps,ds⟩) o) v H':=by
 obtain⟨inf,zv,hi,hz0,hsize,hone,hun⟩:=gY hz;simp only[aD] at hs;split at hs
 ·rename_i ys hl
  simp only[oIn,pIn] at hs;obtain⟨rfl,rfl⟩:=hs
  have hz1:kN M J (d5 z) zv.cells:=⟨by rw[fC,hun]; simp,fun j c v hc hv=>by rw[j9 hun hc hv]; exact .sc v⟩
  obtain⟨cs',h1,h2⟩:=M8 (P:=P) (ds:=ds) hF fs parts.toList lp _ ys zv.cells hp hl hz1;refine .quiet hH hM (cv:=.agg cs') ?_ (.agg _ _ h2.1 h2.2)
  have hm:(fs.mapM fun f=>(do pure (f.offset,← sizeOf f.type):Sem (Nat×Nat))).run P w=.ok (fs.map fun f=>(f.offset,P.cellsOf f.type)) w:=by
   refine xD _ _ _ fun f hf=>?_
   have hsome:(bH P f.type).isSome=true:=by
    obtain⟨j,hj,rfl⟩:=List.mem_iff_getElem.1 hf;rw[Array.all_eq_true] at hall;simp at hj
    simpa using hall j hj
   rw[Option.isSome_iff_exists] at hsome;obtain⟨n,hn⟩:=hsome
   have:P.cellsOf f.type=n:=by
    have:=hn;unfold bH at this;unfold Program.cellsOf;rw[this]; rfl
   simp[run_sizeOf hn,this]
  have hfill:Instr.fill ((fs.map fun f=>(f.offset,P.cellsOf f.type))[·]?) zv.cells (parts.map fun p=>(p.1,Act.eval ⟨tmps,ds⟩ p.2)).toList=some cs':=by
   rw[Array.toList_map]; exact h1
  simp only[execOp,h,Instr.build,Sem.run_bind,dU hi hz0,Result.andThen_ok,run_underlying ht,hm,hfill,Sem.run_pure]
 ·cases hs
def rZ (M:Mem) (J:Inj) (sz:Nat) (rows:List (List AV)) (cs:Array Value):Prop:=
 rows.length * sz=cs.size∧(∀(q:Nat) (r:List AV),rows[q]?=some r→r.length=sz)∧(∀(j:Nat) v,cs[j]?=some v→v.oneCell'=true) ∧
  ∀(q:Nat) (r:List AV) (j:Nat) c v,rows[q]?=some r→r[j]?=some c→cs[q * sz+j]?=some v→Rep M J c v
theorem zY (hF:aU N M J fr tmps) (sz:Nat):∀(parts:List (Nat×Operand)) (xs ys:List (List AV)) (cs:Array Value),
  l8 sz xs (parts.map fun p=>(p.1,ev fr p.2))=some ys→rZ M J sz xs cs →
  ∃ cs',Instr.fill (fun i=>some (i * sz,sz)) cs (parts.map fun p=>(p.1,Act.eval ⟨tmps,ds⟩ p.2))=some cs'∧rZ M J sz ys cs'∧cs'.size=cs.size:=by
 intro parts
 induction parts with
 | nil=>
  intro xs ys cs hl hr;simp[l8] at hl;subst hl;exact⟨cs,rfl,hr,rfl⟩
 | cons p parts ih=>
  obtain⟨k,x⟩:=p;intro xs ys cs hl hr;simp only[List.map_cons,l8] at hl;split at hl
  ·rename_i c hc
   split at hl
   ·rename_i hb
    simp only[bAe] at hb;have hcn:c.length=sz:=nEb hb.1;have hk:k < xs.length:=nlB hb.2.1;obtain⟨h1,h2⟩:=(aH (ds:=ds) hF x).cs hc;generalize hxv:Act.eval ⟨tmps,ds⟩ x=xv at h1 h2;obtain⟨r1,r2,r3,r4⟩:=hr;have hkle:=cM (sz:=sz) hk
    have hone:∀ y∈xv.cells.toList,y.oneCell'=true:=fun y hy=>by
     obtain⟨j,hj,rfl⟩:=List.mem_iff_getElem.1 hy;simp at hj
     have hjc:j < c.length:=by omega
     exact(h2 j c[j] _ (gEg hjc) (by simp[hj])).cell1 (List.all_eq_true.1 hb.2.2 _ (gMe hjc))
    have hlen:xv.cells.toList.length=sz:=by simp; omega
    have hnew:rZ M J sz (xs.set k c) (splice cs (k * sz) xv.cells.toList):=by
     refine⟨by simp[r1],fun q r hq=>?_,fun j y hy=>?_,fun q r j c' y hq hc' hy=>?_⟩
     ·rw[List.getElem?_set] at hq
      split at hq
      ·rename_i e
       subst e
       injection hq with hq
       subst hq;exact hcn
      ·exact r2 q r hq
     ·rw[bW] at hy
      split at hy
      ·exact hone y (mOg hy)
      ·exact r3 j y hy
     ·rw[List.getElem?_set] at hq
      rw[bW] at hy;split at hq
      ·rename_i e
       subst e
       injection hq with hq
       subst hq;have hj:=(gEs.1 hc').1;rw[if_pos (by rw[hlen]; omega)] at hy;rw[show k * sz+j - k * sz=j by omega] at hy;exact h2 j c' y hc' (by simpa using hy)
      ·rename_i e
       have hj:=(gEs.1 hc').1;rw[r2 q r hq] at hj;rw[if_neg] at hy
       ·exact r4 q r j c' y hq hc' hy
       ·rw[hlen]
        rcases Nat.lt_or_gt_of_ne e with hlt | hgt
        ·have:=cM (sz:=sz) hlt; omega
        ·have:=cM (sz:=sz) hgt; omega
    obtain⟨cs',h3,h4,h5⟩:=ih _ ys _ hl hnew;refine⟨cs',?_,h4,by rw[h5]; simp⟩;simp only[List.map_cons,Instr.fill,hxv]
    rw[if_neg (by
     simp only[Bool.or_eq_true,decide_eq_true_eq,not_or]
     omega)]
    rw[jS];exact h3
   ·cases hl
  ·cases hl
theorem uR (hF:aU N M J fr tmps) (hH:aN M J H w.heap) (hM:a8 M w.heap) (hn:hok H g i) (hJ:J g i=none) {t e:TypeId} {sz n:Nat} {z:List (Nat×Value)} {parts:Array (Nat×Operand)}
  (ht:P.underlying t=some (.slice e)) (hsz:bH P e=some sz) (hz:zOf P e=some z) (hlim:n * sz≤16777216) (hpos:0 < sz) (h:o.op=.buildSlice t n parts)
  (hs:aD g i (.buildSlice sz z n parts.toList) fr H=some (v,H')):bE P M J H w g i (execOp (Act.eval ⟨tmps,ds⟩) o) v H':=by
 obtain⟨inf,zv,hi,hz0,hsize,hone,hun⟩:=gY hz
 have hszi:inf.size=sz:=by
  unfold bH at hsz;rw[hi] at hsz
  simpa using hsz
 have hzs:zv.cells.size=sz:=by omega
 simp only[aD] at hs;split at hs
 ·rename_i ys hl
  simp only[oIn,pIn] at hs;obtain⟨rfl,rfl⟩:=hs
  have hzl:(d5 z).length=sz:=by rw[fC,hun]; simp[hzs]
  have h0:rZ M J sz (List.replicate n (d5 z)) (madeCells zv.cells (n * sz)):=by
   refine⟨by simp[size_madeCells],fun q r hq=>?_,fun j y hy=>?_,fun q r j c y hq hc hy=>?_⟩
   ·rw[List.getElem?_replicate] at hq
    split at hq
    ·injection hq with hq; subst hq; exact hzl
    ·cases hq
   ·have hj:j < n * sz:=by have:=(Array.getElem?_eq_some_iff.1 hy).1; rwa[size_madeCells] at this
    have hjm:j % sz < sz:=Nat.mod_lt _ hpos;rw[jP _ _ _ hj,hzs,getElem!_pos zv.cells (j % sz) (by omega)] at hy
    injection hy with hy
    subst hy;exact hone _ (Array.getElem_mem _)
   ·rw[List.getElem?_replicate] at hq
    split at hq
    ·rename_i hqn
     injection hq with hq
     subst hq
     have hj:j < sz:=by rw[← hzl]; exact(gEs.1 hc).1
     have:=cM (sz:=sz) hqn;rw[j9 hun hc (jW hzs hj (by omega) hy)];exact .sc y
    ·cases hq
  obtain⟨cs',h1,⟨r1,r2,r3,r4⟩,h3⟩:=zY (ds:=ds) hF sz parts.toList _ ys _ hl h0
  have hylen:ys.length=n:=by
   have:ys.length * sz=n * sz:=by rw[r1,h3,size_madeCells]
   exact Nat.eq_of_mul_eq_mul_right hpos this
  refine .new hH hM hn hJ (w':={ w with heap:=w.heap.push (.cells cs' e) }) (.cells cs' e) _ ⟨some w.heap.size,sz,n * sz⟩ rfl rfl rfl rfl (cv:=.slice (some ⟨w.heap.size,0,none⟩) n n) ?_ rfl ?_ ?_
  ·have hlim':¬ (16777216 < n * sz):=by omega
   have hfill:Instr.fill (fun i=>some (i * sz,sz)) ((Array.range (n * sz)).map (zv.cells[· % zv.cells.size]!)) (parts.map fun p=>(p.1,Act.eval ⟨tmps,ds⟩ p.2)).toList=some cs':=by
    rw[Array.toList_map]; exact h1
   by_cases h0':n * sz=0
   ·have hfill0:Instr.fill (fun i=>some (i * sz,sz)) ((Array.range (n * sz)).map ((#[]:Array Value)[· % (#[]:Array Value).size]!)) (parts.map fun p=>(p.1,Act.eval ⟨tmps,ds⟩ p.2)).toList=some cs':=by
     rw[h0'] at hfill ⊢;rw[show Array.range 0=#[] from rfl,Array.map_empty] at hfill ⊢;exact hfill
    simp only[execOp,h,Instr.buildSlice,Sem.run_bind,run_underlying ht,Result.andThen_ok,run_sizeOf hsz,newRow,Sem.run_pure];rw[if_neg (by show¬ (n * sz > 2 ^ 24); omega),if_pos h0'];simp only[Sem.run_pure,Result.andThen_ok,hfill0,Sem.run_bind,run_newObj]
   ·simp only[execOp,h,Instr.buildSlice,Sem.run_bind,run_underlying ht,Result.andThen_ok,run_sizeOf hsz]
    rw[if_neg (by show¬ (n * sz > 2 ^ 24); omega),if_neg h0'];simp only[Sem.run_bind,dU hi hz0,Sem.run_pure,Result.andThen_ok,hfill,newRow,run_newObj]
  ·refine⟨rfl,r2,cs',e,.of (eD _ _),by rw[h3,size_madeCells],by rw[hylen]; exact Nat.le_refl _,fun j y _ hy=>r3 j y hy,r4⟩
  ·have:=Rep.hsl (M:=M) (J:=J.set g i ⟨some w.heap.size,sz,n * sz⟩) g i 0 n n w.heap.size _ (Inj.set_self _) rfl (by simp) (Nat.le_refl _)
   rwa[Nat.zero_mul] at this
 ·cases hs
end
end Go.Av
