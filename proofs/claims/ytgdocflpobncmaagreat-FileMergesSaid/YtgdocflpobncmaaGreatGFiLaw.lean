import Derived.Test.YtgdocflpobncmaaGreatGFtS7
import Derived.Test.YtgdocflpobncmaaGreatGAvSi
import Derived.Test.YtgdocflpobncmaaGreatGFtL11
import Derived.Test.YtgdocflpobncmaaGreatGFtP2
import Derived.Test.YtgdocflpobncmaaGreatGAvLr
import Derived.Test.YtgdocflpobncmaaGreatGAvR
import Derived.Test.YtgdocflpobncmaaGreatRows
set_option maxHeartbeats 4000000
namespace Go.Proofs.YtgdocflpobncmaaGreat
open Go.Av Go.Proofs
abbrev gB' (bm:List (Nat×Nat)) (x:Nat):Nat:=(dK bm x).getD 0
structure AcI (w lo:Nat) (bm:List (Nat×Nat)) (xs:List Nat) (out:List Ac):Prop where
 part:∀ a∈out,a.1=(a.2.1 - lo) / w∧a.2.1∈xs
 data:∀ a∈out,a.2.2≠[]∧∀ j,j < a.2.2.length→a.2.2.getD j 0=gB' bm (a.2.1+j)
 asc:out.Pairwise fun a b=>a.2.1+a.2.2.length≤b.2.1
 last:∀ o a,out=o++[a]→∃ y ys,xs=ys++[y]∧a.2.1+a.2.2.length=y+1∧a.1=(y - lo) / w
 none:out=[]→xs=[]
theorem xA (w lo:Nat) (bm:List (Nat×Nat)):∀(n:Nat) (xs:List Nat),xs.length=n→xs.Pairwise (· < ·)→AcI w lo bm xs (hY w lo bm xs)
 | 0,xs,hn,_=>by
  obtain rfl:=List.eq_nil_of_length_eq_zero hn;have e:hY w lo bm []=[]:=rfl;rw[e];refine⟨?_,?_,.nil,?_,fun _=>rfl⟩
  ·intro a ha; cases ha
  ·intro a ha; cases ha
  ·intro o a h
   have:=congrArg List.length h;simp at this
 | n+1,xs,hn,hp=>by
  rcases List.eq_nil_or_concat xs with rfl | ⟨ys,x,rfl⟩
  ·cases hn
  rw[List.concat_eq_append] at hn hp ⊢;obtain⟨p1,p2,p3⟩:=List.pairwise_append.1 hp;have ih:=xA w lo bm n ys (by simpa using hn) p1;rw[sI];generalize hout:hY w lo bm ys=out at *
  rcases List.eq_nil_or_concat out with rfl | ⟨o,a,rfl⟩
  ·have e:i8 w lo bm [] x=[((x - lo) / w,x,[gB' bm x])]:=rfl
   rw[e];refine⟨fun a ha=>?_,fun a ha=>?_,List.pairwise_singleton _ _,fun o a h=>?_,fun h=>by cases h⟩
   ·rw[List.mem_singleton.1 ha]; exact⟨rfl,by simp⟩
   ·rw[List.mem_singleton.1 ha]
    refine⟨by simp,fun j hj=>?_⟩
    obtain rfl:j=0:=by simpa using hj
    rfl
   ·cases o with
    | nil=>injection h with h1 _; subst h1; exact⟨x,ys,rfl,rfl,rfl⟩
    | cons q o=>injection h with _ h2; cases o<;>cases h2
  ·rw[List.concat_eq_append] at *
   obtain⟨y,zs,e1,e2,e3⟩:=ih.last o a rfl;subst e1;have hyx:y < x:=p3 y (by simp) x (by simp);unfold i8;simp only[List.getLast?_concat,List.dropLast_concat]
   by_cases c:a.1=(x - lo) / w∧a.2.1+a.2.2.length=x
   ·rw[if_pos c]
    have hpa:=ih.part a (by simp);have hda:=ih.data a (by simp);refine⟨fun b hb=>?_,fun b hb=>?_,?_,fun o' a' h=>?_,fun h=>by simp at h⟩
    ·rcases List.mem_append.1 hb with hb | hb
     ·have:=ih.part b (by simp[hb])
      exact⟨this.1,List.mem_append_left _ this.2⟩
     ·rw[List.mem_singleton.1 hb]
      exact⟨hpa.1,List.mem_append_left _ hpa.2⟩
    ·rcases List.mem_append.1 hb with hb | hb
     ·exact ih.data b (by simp[hb])
     ·rw[List.mem_singleton.1 hb]
      refine⟨by simp,fun j hj=>?_⟩;simp only[lAp,List.length_cons,List.length_nil] at hj;show(a.2.2++[gB' bm x]).getD j 0=gB' bm (a.2.1+j)
      rcases Nat.lt_or_ge j a.2.2.length with q | q
      ·rw[← hda.2 j q,List.getD_eq_getElem?_getD,List.getElem?_append_left q,List.getD_eq_getElem?_getD]
      ·obtain rfl:j=a.2.2.length:=by omega
       rw[c.2,List.getD_eq_getElem?_getD,List.getElem?_append_right (Nat.le_refl _),Nat.sub_self];rfl
    ·obtain⟨r1,r2,r3⟩:=List.pairwise_append.1 ih.asc
     exact List.pairwise_append.2 ⟨r1,List.pairwise_singleton _ _,fun b hb d hd=>by
      rw[List.mem_singleton.1 hd]
      exact r3 b hb a (by simp)⟩
    ·have:=List.append_inj' h rfl
     obtain⟨_,h2⟩:=this
     injection h2 with h2 _
     subst h2;refine⟨x,zs++[y],rfl,?_,c.1⟩;simp only[lAp,List.length_cons,List.length_nil];omega
   ·rw[if_neg c]
    refine⟨fun b hb=>?_,fun b hb=>?_,?_,fun o' a' h=>?_,fun h=>by simp at h⟩
    ·rcases List.mem_append.1 hb with hb | hb
     ·have:=ih.part b hb
      exact⟨this.1,List.mem_append_left _ this.2⟩
     ·rw[List.mem_singleton.1 hb]
      exact⟨rfl,by simp⟩
    ·rcases List.mem_append.1 hb with hb | hb
     ·exact ih.data b hb
     ·rw[List.mem_singleton.1 hb]
      refine⟨by simp,fun j hj=>?_⟩
      obtain rfl:j=0:=by simpa using hj
      rfl
    ·refine List.pairwise_append.2 ⟨ih.asc,List.pairwise_singleton _ _,fun b hb d hd=>?_⟩
     rw[List.mem_singleton.1 hd];show b.2.1+b.2.2.length≤x;obtain⟨_,_,r3⟩:=List.pairwise_append.1 ih.asc
     rcases List.mem_append.1 hb with hb | hb
     ·have h1:=r3 b hb a (by simp)
      have h2:=List.length_pos_iff.2 (ih.data a (by simp)).1;omega
     ·rw[List.mem_singleton.1 hb]
      omega
    ·have:=List.append_inj' h rfl
     obtain⟨_,h2⟩:=this
     injection h2 with h2 _
     subst h2;exact⟨x,zs++[y],rfl,rfl,rfl⟩
theorem DN (w lo:Nat) (bm:List (Nat×Nat)):∀(n:Nat) (xs:List Nat),xs.length=n→xs.Pairwise (· < ·)→(∀ x∈xs,lo≤x)→(hY w lo bm xs).length≤(bY (xs.map fun x:Nat=>(x:Int))).length+(xs.getLastD 0 - lo) / w∧((∀ x∈xs,(x - lo) / w=0)→(hY w lo bm xs).length=(bY (xs.map fun x:Nat=>(x:Int))).length)
 | 0,xs,hn,_,_=>by
  obtain rfl:=List.eq_nil_of_length_eq_zero hn;exact⟨nZl _,fun _=>rfl⟩
 | n+1,xs,hn,hp,hlo=>by
  rcases List.eq_nil_or_concat xs with rfl | ⟨ys,x,rfl⟩
  ·cases hn
  rw[List.concat_eq_append] at hn hp hlo ⊢;obtain⟨p1,p2,p3⟩:=List.pairwise_append.1 hp
  obtain⟨i1,i2⟩:=DN w lo bm n ys (by simpa using hn) p1 fun y hy=>hlo y (by simp[hy])
  have hI:=xA w lo bm n ys (by simpa using hn) p1;have hx:=hlo x (by simp);rw[sI,List.map_append,List.map_cons,List.map_nil,d6];rw[show(ys++[x]).getLastD 0=x by simp]
  rcases List.eq_nil_or_concat ys with rfl | ⟨zs,y,rfl⟩
  ·refine⟨?_,fun _=>rfl⟩
   exact Nat.le_add_right 1 _
  ·rw[List.concat_eq_append] at *
   have hyx:y < x:=p3 y (by simp) x (by simp);have hly:=hlo y (by simp);rw[show(zs++[y]).getLastD 0=y by simp] at i1;have hmono:(y - lo) / w≤(x - lo) / w:=Nat.div_le_div_right (by omega)
   have hseg:∃ s q,bY ((zs++[y]).map fun x:Nat=>(x:Int))=s++[q]∧q.1+q.2=(y:Int)+1:=by
    rw[List.map_append,List.map_cons,List.map_nil,d6]
    rcases List.eq_nil_or_concat (bY (zs.map fun x:Nat=>(x:Int))) with e | ⟨s,q,e⟩
    ·rw[e]
     exact⟨[],(y,1),rfl,rfl⟩
    ·rw[List.concat_eq_append] at e
     rw[e]
     by_cases c:q.1+q.2=(y:Int)
     ·rw[eL c]
      exact⟨s,(q.1,q.2+1),rfl,by show q.1+(q.2+1)=_; omega⟩
     ·rw[fH c]
      exact⟨s++[q],(y,1),rfl,rfl⟩
   obtain⟨s,q,hs,hq⟩:=hseg;generalize hY w lo bm (zs++[y])=out at *;rw[hs] at i1 i2 ⊢
   rcases List.eq_nil_or_concat out with rfl | ⟨o,a,rfl⟩
   ·have:=hI.none rfl
    simp at this
   rw[List.concat_eq_append] at *;obtain⟨y',zs',e1,e2,e3⟩:=hI.last o a rfl;have e4:=List.append_inj' e1 rfl;obtain⟨_,e4⟩:=e4
   injection e4 with e4 _
   subst e4;unfold i8;simp only[List.getLast?_concat,List.dropLast_concat]
   have i3:(∀ z∈zs++[y]++[x],(z - lo) / w=0)→o.length+1=s.length+1:=fun h=>by
    have:=i2 fun z hz=>h z (List.mem_append_left _ hz)
    simpa using this
   have i4:(∀ z∈zs++[y]++[x],(z - lo) / w=0)→(y - lo) / w=0∧(x - lo) / w=0:=fun h=>⟨h y (by simp),h x (by simp)⟩
   generalize (∀ z∈zs++[y]++[x],(z - lo) / w=0)=G at *;generalize (y - lo) / w=dy at *;generalize (x - lo) / w=dx at *;clear i2 hI
   have l1:(o++[a]).length=o.length+1:=by simp
   have l2:(s++[q]).length=s.length+1:=by simp
   rw[l1,l2] at i1
   by_cases c:a.1=dx∧a.2.1+a.2.2.length=x
   ·rw[if_pos c,eL (show q.1+q.2=(x:Int) by omega)]
    simp only[lAp,List.length_cons,List.length_nil];refine⟨by omega,fun h=>?_⟩;have:=i3 h;omega
   ·rw[if_neg c]
    by_cases c2:q.1+q.2=(x:Int)
    ·rw[eL c2]
     have hne:a.1≠dx:=fun h=>c ⟨h,by omega⟩
     simp only[lAp,List.length_cons,List.length_nil];refine⟨by omega,fun h=>?_⟩;have:=i4 h;omega
    ·rw[fH c2]
     simp only[lAp,List.length_cons,List.length_nil];refine⟨by omega,fun h=>?_⟩;have:=i3 h;omega
def lY (xs:List Nat):List Int:=xs.map fun x:Nat=>(x:Int)
def m8 (xs:List Nat):List Nat:=xs.filter fun x=>decide (x=0∨x - 1∉xs)
theorem GU:∀(ys:List Nat) (y:Nat),∃ s q,bY (lY (ys++[y]))=s++[q]∧q.1+q.2=(y:Int)+1:=fun ys y=>by
 unfold lY;rw[List.map_append,List.map_cons,List.map_nil,d6]
 rcases List.eq_nil_or_concat (bY (ys.map fun x:Nat=>(x:Int))) with e | ⟨s,q,e⟩
 ·rw[e]
  exact⟨[],(y,1),rfl,rfl⟩
 ·rw[List.concat_eq_append] at e
  rw[e]
  by_cases c:q.1+q.2=(y:Int)
  ·rw[eL c]
   exact⟨s,(q.1,q.2+1),rfl,by show q.1+(q.2+1)=_; omega⟩
  ·rw[fH c]
   exact⟨s++[q],(y,1),rfl,rfl⟩
theorem lK:∀(n:Nat) (xs:List Nat),xs.length=n→xs.Pairwise (· < ·)→(bY (lY xs)).length=(m8 xs).length
 | 0,xs,hn,_=>by
  obtain rfl:=List.eq_nil_of_length_eq_zero hn;rfl
 | n+1,xs,hn,hp=>by
  rcases List.eq_nil_or_concat xs with rfl | ⟨ys,x,rfl⟩
  ·cases hn
  rw[List.concat_eq_append] at hn hp ⊢;obtain⟨p1,p2,p3⟩:=List.pairwise_append.1 hp;have ih:=lK n ys (by simpa using hn) p1
  have e1:m8 (ys++[x])=m8 ys++if x=0∨x - 1∉ys then[x] else[]:=by
   unfold m8;rw[List.filter_append];congr 1
   ·refine List.filter_congr fun y hy=>?_
    have:=p3 y hy x (by simp);refine decide_eq_decide.2 ?_;rw[List.mem_append,List.mem_singleton];constructor
    ·rintro(h | h)
     ·exact .inl h
     ·exact .inr fun q=>h (.inl q)
    ·rintro(h | h)
     ·exact .inl h
     ·refine .inr ?_
      rintro(q | q)
      ·exact h q
      ·omega
   ·by_cases c:x=0∨x - 1∉ys
    ·rw[if_pos c,List.filter_cons_of_pos]
     ·rfl
     ·refine dTr ?_
      rw[List.mem_append,List.mem_singleton]
      rcases c with h | h
      ·exact .inl h
      ·by_cases h0:x=0
       ·exact .inl h0
       ·refine .inr ?_
        rintro(q | q)
        ·exact h q
        ·omega
    ·rw[if_neg c,List.filter_cons_of_neg]
     ·rfl
     ·intro q
      have q:=of_decide_eq_true q;rw[List.mem_append] at q;refine c ?_
      rcases q with h | h
      ·exact .inl h
      ·exact .inr fun z=>h (.inl z)
  have e2:lY (ys++[x])=lY ys++[(x:Int)]:=by simp[lY]
  rw[e1,e2,d6,lAp,← ih]
  rcases List.eq_nil_or_concat ys with rfl | ⟨zs,y,rfl⟩
  ·rw[if_pos (.inr (by simp))]
   rfl
  ·rw[List.concat_eq_append] at *
   have hyx:y < x:=p3 y (by simp) x (by simp);obtain⟨s,q,hs,hq⟩:=GU zs y;rw[hs];obtain⟨r1,r2,r3⟩:=List.pairwise_append.1 p1
   by_cases c:q.1+q.2=(x:Int)
   ·rw[eL c,if_neg]
    ·simp
    ·rintro(h | h)
     ·omega
     ·refine h ?_
      rw[show x - 1=y by omega];simp
   ·rw[fH c,if_pos]
    ·simp
    ·refine .inr fun z=>?_
     rcases List.mem_append.1 z with z | z
     ·have:=r3 (x - 1) z y (by simp)
      omega
     ·have:=List.mem_singleton.1 z
      omega
def iP (ps:List (List Nat)):Nat:=(ps.map fun p=>(bY (lY p)).length).sum
theorem sN:∀(ps:List (List Nat)),(∀ p∈ps,p.Pairwise (· < ·))→(ps.flatMap m8).length=iP ps
 | [],_=>rfl
 | p::ps,h=>by
  have ih:=sN ps fun q hq=>h q (by simp[hq])
  have h1:=lK p.length p rfl (h p (by simp));unfold iP at ih ⊢;rw[List.flatMap_cons,lAp,ih,← h1,List.map_cons,List.sum_cons]
theorem CW {s:List Nat} {ps:List (List Nat)} (hs:s.Pairwise (· < ·)) (hp:∀ p∈ps,p.Pairwise (· < ·)) (hm:∀ x,x∈s↔∃ p∈ps,x∈p):(bY (lY s)).length≤iP ps:=by
 rw[lK s.length s rfl hs,← sN ps hp]
 refine List.Nodup.length_le_of_subset ?_ fun x hx=>?_
 ·unfold m8
  exact(hs.imp fun h=>Nat.ne_of_lt h).filter _
 ·unfold m8 at hx
  obtain⟨h1,h2⟩:=List.mem_filter.1 hx;have h2:=of_decide_eq_true h2;obtain⟨p,hp1,hp2⟩:=(hm x).1 h1;refine List.mem_flatMap.2 ⟨p,hp1,List.mem_filter.2 ⟨hp2,dTr ?_⟩⟩
  rcases h2 with h2 | h2
  ·exact .inl h2
  ·exact .inr fun z=>h2 ((hm _).2 ⟨p,hp1,z⟩)
def wrN (at':Nat) (d:List Nat):List (Nat×Nat):=(List.range d.length).map fun i=>(at'+i,d.getD i 0)
def wrA (a:Ac):List (Nat×Nat):=wrN a.2.1 a.2.2
theorem E2 (g:Nat→Nat):∀(l:List (Nat×Nat)) (f:List Nat),(∀ y∈l,y.2=g y.1)→∀ y,y < f.length→(mkF f l).getD y 0=if y∈l.map (·.1) then g y else f.getD y 0
 | [],f,_,y,_=>by simp[mkF]
 | z::l,f,h,y,hy=>by
  show(mkF (f.set z.1 z.2) l).getD y 0=_;rw[E2 g l _ (fun y hy=>h y (by simp[hy])) y (by rw[List.length_set]; exact hy),h z (by simp)]
  by_cases c:y∈l.map (·.1)
  ·rw[if_pos c,if_pos (by rw[List.map_cons]; exact mCm _ c)]
  ·rw[if_neg c,List.getD_eq_getElem?_getD,List.getElem?_set]
   by_cases e:z.1=y
   ·subst e
    rw[if_pos rfl,if_pos hy,if_pos (by simp)];rfl
   ·rw[if_neg e,← List.getD_eq_getElem?_getD,if_neg]
    rw[List.map_cons,List.mem_cons];rintro(q | q)
    ·exact e q.symm
    ·exact c q
theorem ER {l:List Rq} (g:xT l):∀ n,n≤l.length→∀ x,x∈(iZ (psN l) (dsN l) n).map (·.1)↔∃ i,i < n∧x∈(psN l).getD i []
 | 0,_,x=>by simp[iZ]
 | n+1,h,x=>by
  have ih:=ER g n (by omega) x;obtain⟨h1,_⟩:=g.len n h;have h2:=g.ds n h;rw[oU,List.map_append,List.mem_append,ih,h2];have e:(((psN l).getD n []).zip l[n].data).map (·.1)=(psN l).getD n []:=List.map_fst_zip (by omega);rw[e];constructor
  ·rintro(⟨i,hi,hx⟩ | hx)
   ·exact⟨i,by omega,hx⟩
   ·exact⟨n,by omega,hx⟩
  ·rintro⟨i,hi,hx⟩
   rcases Nat.lt_or_ge i n with q | q
   ·exact .inl ⟨i,q,hx⟩
   ·obtain rfl:i=n:=by omega
    exact .inr hx
theorem wS (l:List Rq):(psN l).length=l.length:=by simp[psN]
theorem HB {l:List Rq} (g:xT l) (x:Nat):x∈(bmF l).map (·.1)↔∃ p∈psN l,x∈p:=by
 unfold bmF;rw[m6,ER g l.length (Nat.le_refl _)];constructor
 ·rintro(h | ⟨i,hi,hx⟩)
  ·cases h
  ·have hi2:i < (psN l).length:=by rw[wS]; exact hi
   refine⟨(psN l)[i],gMe _,?_⟩
   rwa[show(psN l).getD i []=(psN l)[i] by simp[hi2]] at hx
 ·rintro⟨p,hp,hx⟩
  obtain⟨i,hi,rfl⟩:=List.getElem_of_mem hp;refine .inr ⟨i,by rw[← wS]; exact hi,?_⟩;rw[show(psN l).getD i []=(psN l)[i] by simp[hi]];exact hx
theorem IB {l:List Rq} (g:xT l):∀ p∈psN l,p.Pairwise (· < ·):=fun p hp=>by
 obtain⟨i,hi,rfl⟩:=List.getElem_of_mem hp;have:=g.asc i
 rwa[show(psN l).getD i []=(psN l)[i] by simp[hi]] at this
theorem GI (l:List Rq):((bmF l).map (·.1)).Nodup:=qI _ _ (by simp)
theorem C6 {acs:List Ac} {x:Nat}:x∈acX acs↔∃ a∈acs,∃ j,j < a.2.2.length∧x=a.2.1+j:=by
 unfold acX;rw[List.mem_flatMap];constructor
 ·rintro⟨a,ha,hx⟩
  obtain⟨j,hj,rfl⟩:=List.mem_map.1 hx;exact⟨a,ha,j,List.mem_range.1 hj,rfl⟩
 ·rintro⟨a,ha,j,hj,rfl⟩
  exact⟨a,ha,List.mem_map.2 ⟨j,List.mem_range.2 hj,rfl⟩⟩
structure ColF (l:List Rq) (N:Nat) (acs:List Ac):Prop where
 each:∀ a∈acs,a.1 < N∧a.2.2≠[]∧a.2.1+a.2.2.length≤65536∧∀ j,j < a.2.2.length→a.2.2.getD j 0=gB' (bmF l) (a.2.1+j)
 asc:acs.Pairwise fun a b=>a.2.1+a.2.2.length≤b.2.1
 cnt:acs.length+1≤iP (psN l)+N
 one:l.length=1→N=1→acs.length=iP (psN l)
 keys:∀ x,(∃ a∈acs,∃ j,j < a.2.2.length∧x=a.2.1+j)↔x∈(bmF l).map (·.1)
theorem LL {l:List Rq} (g:xT l) {N:Nat} (hN:1≤N):ColF l N (yB (bmF l) N):=by
 have hlt:=PJ (bmF l) (GI l)
 have hmem:∀ x,x∈dL (bmF l)↔∃ p∈psN l,x∈p:=fun x=>by rw[C7,HB g]
 have hsu:=CW hlt (IB g) hmem;have hb:=(KK g).2
 have hk:∀ x,x∈dL (bmF l)↔x∈(bmF l).map (·.1):=fun x=>C7 _ x
 have hone:l.length=1→(bY (lY (dL (bmF l)))).length=iP (psN l):=fun h1=>by
  obtain⟨r,rfl⟩:=List.length_eq_one_iff.1 h1
  have e:dL (bmF [r])=eI (cD r).1:=E1 _ _ hlt (IB g _ (by simp[psN])) fun x=>by
   rw[hmem];simp[psN]
  rw[e];simp[iP,psN]
 unfold yB
 have e1:∀ x∈dL (bmF l),(dL (bmF l)).headD 0≤x∧x≤(dL (bmF l)).getLastD 0:=fun x hx=>by
  obtain⟨j,hj,rfl⟩:=List.getElem_of_mem hx
  have h0:0 < (dL (bmF l)).length:=by omega
  have a1:=rT (bmF l) 0 j h0 hj (nZl _);have a2:=rT (bmF l) j ((dL (bmF l)).length - 1) hj (by omega) (by omega)
  rw[show(dL (bmF l)).headD 0=(dL (bmF l))[0] by
   rw[List.headD_eq_head?_getD,List.head?_eq_getElem?,gEg h0]; rfl,show(dL (bmF l)).getLastD 0=(dL (bmF l))[(dL (bmF l)).length - 1] by
   rw[List.getLastD_eq_getLast?,List.getLast?_eq_getElem?,gEg (by omega)]; rfl]
  exact⟨a1,a2⟩
 generalize hlo:(dL (bmF l)).headD 0=lo at *;generalize hhi:(dL (bmF l)).getLastD 0=hi at *;generalize dL (bmF l)=s at *
 obtain⟨w,hw⟩:∃ w,w=(hi - lo+N) / N:=⟨_,rfl⟩
 rw[← hw]
 have hw2:w=(hi - lo) / N+1:=by rw[hw,Nat.add_div_right _ (by omega)]
 have hpart:∀ x,x≤hi→(x - lo) / w < N:=fun x hx=>by
  rw[Nat.div_lt_iff_lt_mul (by rw[hw2]; exact Nat.succ_pos _)];have h1:=Nat.div_add_mod (hi - lo) N;have h2:=Nat.mod_lt (hi - lo) (show N > 0 by omega)
  have h3:x - lo≤hi - lo:=by omega
  rw[hw2,Nat.mul_add,Nat.mul_one];generalize N * ((hi - lo) / N)=q at *;omega
 have hI:=xA w lo (bmF l) s.length s rfl hlt
 have hc:=DN w lo (bmF l) s.length s rfl hlt fun x hx=>(e1 x hx).1
 have hX:=MX w lo (bmF l) s;rw[show s.map (fun x:Nat=>(x:Int))=lY s from rfl,hhi] at hc;generalize hY w lo (bmF l) s=acs at *;refine⟨fun a ha=>?_,hI.asc,?_,fun h1 hN1=>?_,fun x=>?_⟩
 ·obtain⟨p1,p2⟩:=hI.part a ha
  obtain⟨d1,d2⟩:=hI.data a ha;refine⟨by rw[p1]; exact hpart _ (e1 _ p2).2,d1,?_,d2⟩;have hl:=List.length_pos_iff.2 d1;have:a.2.1+(a.2.2.length - 1)∈acX acs:=C6.2 ⟨a,ha,a.2.2.length - 1,by omega,rfl⟩;rw[hX] at this;have:=hb _ ((hk _).1 this);omega
 ·have h1:=hc.1
  have h2:=hpart hi (Nat.le_refl _);generalize (hi - lo) / w=q at *;omega
 ·have h2:=hc.2 fun x hx=>by
   subst hN1;have:=hpart x (e1 x hx).2;exact Nat.lt_one_iff.1 this
  rw[h2,hone h1]
 ·rw[← C6,hX,hk]
theorem CI {l:List Rq} (_g:xT l) {N:Nat} {acs acs':List Ac} (hc:ColF l N acs) (hm:∀ a,a∈acs'↔a∈acs) (f0:List Nat) (_hl:f0.length=65536) (h0:∀ y,f0.getD y 0=0):mkF f0 (acs'.flatMap wrA)=mkF f0 (iZ (psN l) (dsN l) l.length):=by
 refine List.ext_getElem (by rw[fB,fB]) fun y h1 h2=>?_
 rw[fB] at h1
 have e1:=E2 (gB' (bmF l)) (acs'.flatMap wrA) f0 (fun z hz=>by
  obtain⟨a,ha,hz⟩:=List.mem_flatMap.1 hz;obtain⟨j,hj,rfl⟩:=List.mem_map.1 hz
  exact(hc.each a ((hm a).1 ha)).2.2.2 j (List.mem_range.1 hj)) y h1
 have e2:=EU (iZ (psN l) (dsN l) l.length) f0 [] (fun y _=>by rw[h0]; rfl) y h1;rw[show eN [] (iZ (psN l) (dsN l) l.length)=bmF l from rfl] at e2
 have e3:y∈(acs'.flatMap wrA).map (·.1)↔y∈(bmF l).map (·.1):=by
  rw[← hc.keys];constructor
  ·intro h
   obtain⟨z,hz,rfl⟩:=List.mem_map.1 h;obtain⟨a,ha,hz⟩:=List.mem_flatMap.1 hz;obtain⟨j,hj,rfl⟩:=List.mem_map.1 hz;exact⟨a,(hm a).1 ha,j,List.mem_range.1 hj,rfl⟩
  ·rintro⟨a,ha,j,hj,rfl⟩
   exact List.mem_map.2 ⟨(a.2.1+j,a.2.2.getD j 0),List.mem_flatMap.2 ⟨a,(hm a).2 ha,List.mem_map.2 ⟨j,List.mem_range.2 hj,rfl⟩⟩,rfl⟩
 have e4:(mkF f0 (acs'.flatMap wrA)).getD y 0=(mkF f0 (iZ (psN l) (dsN l) l.length)).getD y 0:=by
  rw[e1,e2]
  by_cases q:y∈(bmF l).map (·.1)
  ·rw[if_pos (e3.2 q)]
  ·rw[if_neg (fun z=>q (e3.1 z)),h0]
   cases e:dK (bmF l) y with
   | none=>rfl
   | some b=>exact absurd ((iD y (bmF l)).1 (by rw[e]; simp)) q
 rw[List.getD_eq_getElem?_getD,List.getD_eq_getElem?_getD,gEg (by rw[fB]; exact h1),gEg (by rw[fB]; exact h1)] at e4;exact e4
set_option maxRecDepth 20000
theorem put35 {f d:List Nat} {at':Nat} (hf:f.length=65536) (hb:at'+d.length≤65536):aE Tryz.prog 35 [.hsl 0 0 0 65536,iv at',.list 1 (bys d)] [[.cells 1 (bys f)]] fun res H'=>∃ y,H'=[[y]]∧aZ res∧tM y∧(res=.tup []∧y=.cells 1 (bys (mkF f (wrN at' d)))):=by
 refine aE.of cF35 ?_ (nlB rfl);have hbl:=dZ d
 have hwl:(wrN at' d).length=d.length:=by simp[wrN]
 refine aA ?_;refine AWP.loop (fun i:Nat=>[(0,.hsl 0 0 0 65536),(1,iv at'),(2,.list 1 (bys d)),(6,iv i)]) (fun i=>[[.cells 1 (bys (mkF f ((wrN at' d).take i)))]]) (fun i=>i≤d.length) (fun i=>d.length - i) 0 (nZl _) ?_ ?_
 ·rw[show mkF f ((wrN at' d).take 0)=f from rfl]
  exact Sub.wl [] [[(0,0)]]
 rintro i hi
 have hfn:(bys (mkF f ((wrN at' d).take i))).length=65536:=by rw[dZ,fB,hf]
 refine aA ?_;rw[hbl]
 by_cases h:i < d.length
 ·rw[dTr h]
  have hr:=BK d i h
  obtain⟨v5,r5⟩:∃ v,(bys (mkF f ((wrN at' d).take i)))[at'+i]?=some [uv v]:=⟨_,by rw[← pW]; exact BK _ (at'+i) (by rw[fB,hf]; omega)⟩
  have hsn:(wrN at' d).take (i+1)=(wrN at' d).take i++[(at'+i,d[i])]:=by
   rw[List.take_add_one,gEg (by rw[hwl]; exact h)];simp[wrN,h]
  have hz9:(bys (mkF f ((wrN at' d).take i))).set (at'+i) [uv d[i]]=bys (mkF f ((wrN at' d).take (i+1))):=by
   rw[hsn,HM];unfold bys;rw[List.map_set]
  generalize d[i]=b at *;refine aA ?_;rw[dTr (show at'+i < 65536 by omega)];refine aA ?_;refine⟨i+1,by omega,by omega,?_⟩;exact Sub.wl [] [[(0,0)]]
 ·rw[dFa h]
  obtain rfl:d.length=i:=by omega
  rw[← hwl,List.take_length];refine aA ?_;refine iY (res':=.tup []) (H2:=[[.cells 1 (bys (mkF f (wrN at' d)))]]) [[(0,0)]] (by first | exact .inl rfl | exact .inr rfl) rfl ⟨_,rfl,.tup _ (fun _ h=>by cases h),prs _,rfl,rfl⟩ ?_ ?_ rfl rfl rfl
  (all_goals exact g8)
theorem BO {f d:List Nat} {at':Nat} {H:Heap} (g i:Nat) (hf:f.length=65536) (hb:at'+d.length≤65536) (hx:hget H g i=some (.cells 1 (bys f))):aE Tryz.prog 35 [.hsl g i 0 65536,iv at',.list 1 (bys d)] H fun res H'=>∃ y,H'=aK H g i y∧(res=.tup []∧y=.cells 1 (bys (mkF f (wrN at' d)))):=
 aE.via1 (args':=[.hsl 0 0 0 65536,iv at',.list 1 (bys d)]) (R:=fun res y=>res=.tup []∧y=.cells 1 (bys (mkF f (wrN at' d)))) g i (put35 hf hb) hx (prs _) ⟨.hsl _ _ _ _ _ _ rfl,.sc _,.pure (pv _),trivial⟩
theorem pB:∀(m n:Nat) (t:Ty),iK n t→m≤n→qG m t
 | 0,_,_,_,_=>trivial
 | m+1,0,_,_,hm=>by omega
 | m+1,n+1,t,h,hm=>by
  obtain⟨q,k,c,b,st,sz,bl,pl,of,e,rfl,_,_,_,_,h8⟩:=cK h
  obtain rfl:n=q:=by omega
  exact fun u hu=>pB m n u (h8 u hu) (by omega)
theorem BG {a:Int} {e o:Ty} (h:(dJ a e o).1=0):(dJ a e o).2.elem=(bI (bF e).2.es:Nat)∧(bF e).1=0:=by
 unfold dJ at h ⊢
 by_cases c1:a < 0∨65536 < a
 ·rw[if_pos c1] at h; cases h
 rw[if_neg c1] at h ⊢
 by_cases c2:(bF e).1≠0
 ·rw[if_pos c2] at h; exact absurd h c2
 rw[if_neg c2] at h ⊢
 by_cases c3:(bF o).1≠0
 ·rw[if_pos c3] at h; exact absurd h c3
 rw[if_neg c3] at h ⊢
 by_cases c4:rN (cO (bF o).2.es) (bF o).2.ext=true
 ·rw[if_pos c4] at h ⊢
  by_cases c5:FX (bI (bF e).2.es) (bI (bF o).2.es)=true
  ·rw[if_pos c5]
   exact⟨rfl,dBc c2⟩
  ·rw[if_neg c5] at h; cases h
 ·rw[if_neg c4] at h; cases h
theorem JX {r:Rq} (hr:r.ok) (h:(cD r).2=0):∃ E:Nat,1≤E∧(bF r.e).1=0∧bI (bF r.e).2.es=E∧AQ r.at' r.e r.o r.off (r.data.length / E:Nat)=(bY (cD r).1,0):=by
 obtain⟨he,ho,hoff,hdl⟩:=hr;have hf:=@BG r.at' r.e r.o;have hsn:=oB (a:=r.at') he ho;unfold cD Rq.v at h ⊢;unfold AQ;generalize dJ r.at' r.e r.o=z at *;obtain⟨er,s⟩:=z;simp only at h hf hsn ⊢
 by_cases c1:er≠0
 ·rw[if_pos c1] at h; exact absurd h c1
 rw[if_neg c1] at h ⊢;obtain⟨f1,f2⟩:=hf (dBc c1);have hs:=(hsn (dBc c1)).2.1;rw[f1] at h hs ⊢;rw[Int.toNat_natCast] at h ⊢;refine⟨bI (bF r.e).2.es,by omega,f2,rfl,?_⟩;rw[if_neg c1,Int.toNat_natCast];generalize bI (bF r.e).2.es=E at *
 by_cases c2:r.off < 0
 ·rw[if_pos c2] at h; cases h
 rw[if_neg c2] at h ⊢
 by_cases c3:r.data.length % E≠0
 ·rw[if_pos c3] at h; cases h
 rw[if_neg c3] at h ⊢
 by_cases c4:4096 < r.data.length
 ·rw[if_pos c4] at h; cases h
 rw[if_neg c4] at h ⊢
 have hdm:r.data.length / E * E=r.data.length:=by
  have:=Nat.div_add_mod r.data.length E;rw[Nat.mul_comm];omega
 have hdle:r.data.length / E≤r.data.length:=Nat.div_le_self _ _
 have hci:((r.data.length / E:Nat):Int) * (E:Nat)=(r.data.length:Int):=by rw[← Int.natCast_mul,hdm]
 generalize r.data.length / E=q at *;rw[if_neg (by omega),if_neg (by rw[hci]; omega)]
 try rw[Int.toNat_natCast]
 rw[hdm]
 by_cases c5:(fV s r.off.toNat r.data.length).2=true
 ·rw[if_pos c5,if_pos c5]
 ·rw[if_neg c5] at h; cases h
theorem GR {l:List Rq} {N:Nat} (h1:1≤N) (h2:N≤64) (h:(CD l N).2=0):(lA l).2=0∧(CD l N).1=yB (bmF l) N:=by
 unfold CD at h ⊢
 by_cases c1:(lA l).2≠0
 ·rw[if_pos c1] at h; exact absurd h c1
 rw[if_neg c1] at h ⊢;rw[if_neg (by omega),Int.toNat_natCast];exact⟨dBc c1,rfl⟩
theorem KF (sg:List (Int×Int)) (j:Nat) (h:j < sg.length):exP (sg.take (j+1))=exP (sg.take j)++(List.range sg[j].2.toNat).map fun i:Nat=>sg[j].1+(i:Int):=by
 rw[iB,iB,List.take_add_one,gEg h,List.flatMap_append];simp
theorem xM (f:List Nat) (l m:List (Nat×Nat)):mkF f (l++m)=mkF (mkF f l) m:=by simp[mkF]
theorem IK {P:List Int} {d:List Nat} {sg:List (Int×Int)} (hP:exP sg=P) (hd:P.length=d.length) (h0:∀ x∈P,0≤x∧x < 65536) (hpos:∀ x∈sg,0 < x.2) (j:Nat) (h:j < sg.length):
  ∃ A L:Nat,sg[j]=((A:Int),(L:Int))∧A+L≤65536∧(exP (sg.take j)).length+L≤d.length∧(exP (sg.take (j+1))).length=(exP (sg.take j)).length+L ∧
   ∀ W,mkF W ((eI (exP (sg.take (j+1)))).zip d)=mkF (mkF W ((eI (exP (sg.take j))).zip d)) (wrN A ((d.drop (exP (sg.take j)).length).take L)):=by
 have hsn:=KF sg j h;have hp:=hpos sg[j] (gMe _)
 have hpre:∃ r,P=exP (sg.take (j+1))++r:=by
  refine⟨exP (sg.drop (j+1)),?_⟩;rw[← hP,iB,iB,iB,← List.flatMap_append,List.take_append_drop]
 obtain⟨r,hr⟩:=hpre
 have hmem:∀ i,i < sg[j].2.toNat→0≤sg[j].1+(i:Int)∧sg[j].1+(i:Int) < 65536:=fun i hi=>h0 _ (by
  rw[hr,hsn]
  refine List.mem_append_left _ (List.mem_append_right _ (List.mem_map.2 ⟨i,List.mem_range.2 hi,rfl⟩)))
 have m0:=hmem 0 (by omega);have m1:=hmem (sg[j].2.toNat - 1) (by omega);generalize exP (sg.take j)=X at *
 rcases hsgj:sg[j] with⟨a,len⟩
 rw[hsgj] at hsn hp m0 m1 hmem;simp only at hsn hp m0 m1
 obtain⟨A,rfl⟩:∃ A:Nat,a=A:=⟨a.toNat,by omega⟩
 obtain⟨L,rfl⟩:∃ L:Nat,len=L:=⟨len.toNat,by omega⟩
 rw[Int.toNat_natCast] at hsn m1
 have hlen:P.length=X.length+L+r.length:=by rw[hr,hsn]; simp; omega
 refine⟨A,L,rfl,by omega,by omega,by rw[hsn]; simp,fun W=>?_⟩;rw[← xM,hsn];congr 1
 have e1:eI (X++(List.range L).map fun i:Nat=>(A:Int)+(i:Int))=eI X++(List.range L).map fun i=>A+i:=by
  unfold eI;rw[List.map_append,List.map_map];congr 1
 have hx:(eI X).length=X.length:=by simp[eI]
 have e2:d=d.take X.length++d.drop X.length:=(List.take_append_drop _ _).symm
 have hXd:(d.take X.length).length=X.length:=by rw[List.length_take]; omega
 rw[e1]
 conv=>lhs; rw[e2]
 conv=>rhs; rw[e2]
 rw[List.zip_append (by rw[hx,hXd])]
 have e3:(eI X).zip (d.take X.length++d.drop X.length)=(eI X).zip (d.take X.length):=by
  have:=List.zip_append (l₁:=eI X) (r₁:=[]) (l₂:=d.take X.length) (r₂:=d.drop X.length) (by rw[hx,hXd])
  simpa using this
 rw[e3];congr 1;have hdl:(d.drop X.length).length=d.length - X.length:=List.length_drop;rw[show(d.take X.length++d.drop X.length).drop X.length=d.drop X.length by rw[List.take_append_drop]];generalize d.drop X.length=D at *;unfold wrN;rw[List.length_take,show min L D.length=L by omega]
 refine List.ext_getElem (by simp; omega) fun i h1 h2=>?_
 simp only[List.length_map,List.length_range] at h2
 have:i < D.length:=by omega
 simp[h2,this,List.getD_eq_getElem?_getD,List.getElem?_take]
theorem FA {l:List Rq} (h:(CC l).2=true):(CC l).1=l∧l.length≤70:=by
 unfold CC at h ⊢
 by_cases c1:l.length≤12
 ·rw[if_pos c1] at h ⊢
  unfold yN at h ⊢
  by_cases c2:l.all zE=true
  ·rw[if_pos c2]
   exact⟨rfl,by omega⟩
  ·rw[if_neg c2] at h; cases h
 rw[if_neg c1] at h ⊢
 by_cases c2:64 < l.length∧l.length≤70
 ·rw[if_pos c2] at h ⊢
  unfold zD at h ⊢
  by_cases c3:l.all yW=true
  ·rw[if_pos c3]
   exact⟨rfl,by omega⟩
  ·rw[if_neg c3] at h; cases h
 ·rw[if_neg c2] at h; cases h
theorem CU (l:List Int):(bY l).length≤l.length:=(nJ (fun _=>True) l.length l rfl fun _ _=>trivial).1
theorem KP (l:List Ac):(acR l).length=l.length:=by simp[acR]
theorem x8 (l:List Ac) (k:Nat) (h:k < l.length):cW (acR l) (k:Int)=some [iv l[k].1,iv l[k].2.1,.list 1 (bys l[k].2.2)]:=eJ acF l k h
def ssI (l:List Rq) (i:Nat):Nat:=iP ((psN l).take i)
theorem JC (l:List Rq) (i:Nat) (h:i < l.length) (hr:l[i].ok) (h0:(cD l[i]).2=0):ssI l (i+1)=ssI l i+(bY (cD l[i]).1).length:=by
 have hp:(psN l)[i]?=some (eI (cD l[i]).1):=by simp[psN,h]
 have hg:=(nY hr h0).1;unfold ssI iP;rw[List.take_add_one,hp];simp only[List.map_append,List.sum_append,Option.toList_some,List.map_cons,List.map_nil,List.sum_cons,List.sum_nil,Nat.add_zero];rw[show lY (eI (cD l[i]).1)=(cD l[i]).1 from hg]
theorem CQ {g i:Nat} {fr:Fr} {H:Heap} {sz:Nat} {x lo hi:Operand} {k k':IntKind} {p q:Nat} {rows rows':List (List AV)} (hx:ev fr x=.list sz rows) (hl:ev fr lo=.sc (.int k (p:Int))) (hh:ev fr hi=.sc (.int k' (q:Int))) (hpq:p≤q) (hq:q≤rows.length) (he:(rows.drop p).take (q - p)=rows'):
  aD g i (.slice sz x (some lo) (some hi) none) fr H=some (.list sz rows',H):=by
 have e1:Nat.ble p q=true:=Nat.ble_eq_true_of_le hpq;have e2:Nat.ble q rows.length=true:=Nat.ble_eq_true_of_le hq;have e4:Nat.ble rows.length rows.length=true:=Nat.ble_eq_true_of_le (Nat.le_refl _)
 have e3:eF fr rows.length (some lo) (some hi) none=some (p,q):=by
  simp only[eF,pI,hl,hh];show(match Nat.ble p q && (Nat.ble q rows.length && Nat.ble rows.length rows.length) && true with | true=>some (p,q) | false=>none)=_;rw[e1,e2,e4];rfl
 simp only[aD,hx,e3,he,show Nat.beq sz sz=true from Nat.beq_refl sz]
def PQ (l:List Nat):ByteArray:=fS .empty (l.map UInt8.ofNat)
theorem qS:∀ l:List Nat,bytesOf (bys l)=some (l.map UInt8.ofNat)
 | []=>rfl
 | b::l=>by
  show(match bytesOf (bys l) with | some m=>some (UInt8.ofNat ((b:Int).toNat)::m) | none=>none)=_;rw[qS l,Int.toNat_natCast];rfl
theorem sK {g i:Nat} {fr:Fr} {H:Heap} {x:Operand} {l:List Nat} {n g' i':Nat} (hx:ev fr x=.hsl g' i' 0 n) (hn:n=l.length) (hh:hget H g' i'=some (.cells 1 (bys l))):aD g i (.xop .bstr [x]) fr H=some (.sc (.string (PQ l)),H):=by
 subst hn;have e1:Nat.ble (0+l.length) (bys l).length=true:=Nat.ble_eq_true_of_le (by rw[dZ]; omega)
 have e2:((bys l).drop 0).take l.length=bys l:=by rw[List.drop_zero,List.take_of_length_le (Nat.le_of_eq (dZ l))]
 simp only[aD,avals,List.map_cons,List.map_nil,hx,mS,d9,cY,hh,e1,e2,qS];rfl
theorem F1 {l:List Rq} {p:Nat} {back:Bool} (hok:∀ r∈l,r.ok) (hn:l.length < 140737488355328) (_hp:p≤255):aC Tryz.prog 7 [.list 19 (rqs l),.sc (.int .u8 (p:Nat)),bv back] (bv true):=by
 refine aC.mkI cF7 (nlB rfl) ?_;have hw:=works_ok;have hr:=LJ (l:=l) (fun r hr=>⟨pB 3 8 _ (hok r hr).1 (by omega),pB 3 8 _ (hok r hr).2.1 (by omega)⟩) (by omega);have hinv:=@FA l
 obtain⟨N,hN⟩:∃ N:Nat,N=1+p % 64:=⟨_,rfl⟩
 have hN1:1≤N∧N≤64:=by omega
 have hc:=PW (parts:=(N:Int)) hok hn;have hcg:=@GR l N hN1.1 hN1.2;generalize CC l=z at *;obtain⟨l2,g⟩:=z;generalize hcol:CD l N=q at *;obtain⟨acs,e⟩:=q;simp only at hr hinv hc hcg;refine aA ?_;rw[← hN];refine aA ?_
 cases g with
 | false=>
  refine aA ?_;exact aG.w
 | true=>
 obtain⟨rfl,h70⟩:=hinv rfl;refine aA ?_;refine AWP.condN (e≠0) rfl (by first | exact fX _ | (simp; done)) (fun h0=>?_) (fun h0=>?_)
 ·refine aA ?_
  exact aG.w
 obtain⟨g0,rfl⟩:=hcg (dBc h0);have gd:=DL hok g0;have hF:=LL gd hN1.1;generalize hacs:yB (bmF l2) N=acs at *;refine aA ?_;refine DK.nil ⟨by kernel_rfl,?_⟩;refine aA ?_;have hb0:List.replicate 65536 [uv 0]=bys (List.replicate 65536 0):=MY 65536;have f1:(List.replicate 65536 0:List Nat).length=65536:=List.length_replicate
 have f3:∀ y,(List.replicate 65536 0:List Nat).getD y 0=0:=fun y=>by
  rw[List.getD_eq_getElem?_getD,List.getElem?_replicate]
  split<;>rfl
 generalize hf0:(List.replicate 65536 0:List Nat)=f0 at *;have hll:=kI l2;have hpl:=wS l2;refine AWP.loop (fun i:Nat=>[(0,.list 19 (rqs l2)),(2,bv back),(9,iv N),(10,.list 3 (acR acs)),(12,.hsl 0 0 0 65536),(13,.hsl 1 0 0 65536),(14,iv (ssI l2 i)),(15,iv i)]) (fun i=>[[.cells 1 (bys (mkF f0 (iZ (psN l2) (dsN l2) i)))],[.cells 1 (bys f0)]]) (fun i=>i≤l2.length∧ssI l2 i≤i * 4096) (fun i=>l2.length - i) 0 ⟨nZl _,Nat.le_refl _⟩ ?_ ?_
 ·show Sub _ _ _ _ [(0,.list 19 (rqs l2)),(2,bv back),(9,iv N),(10,.list 3 (acR acs)),(12,.hsl 0 0 0 65536),(13,.hsl 1 0 0 65536),(14,iv 0),(15,iv 0)] [[.cells 1 (bys f0)],[.cells 1 (bys f0)]]
  exact Sub.wl [] [[(0,0)],[(0,1)]]
 rintro i ⟨hi,hss⟩;refine aA ?_;rw[hll];refine AWP.condN (i < l2.length) rfl rfl (fun h=>?_) (fun h=>?_)
 ·have hr:=tY l2 i h
  have hok1:=hok l2[i] (gMe _);have hp0:=(w9 g0).2.1 l2[i] (gMe _);obtain⟨E,hE1,hE0,hE2,hseg⟩:=JX hok1 hp0;have hgd:=nY hok1 hp0;have hsz:=xH hok1.1;have hsg:=PO (a:=l2[i].at') (off:=l2[i].off) (cnt:=(l2[i].data.length / E:Nat)) hok1.1 hok1.2.1 hok1.2.2.1;rw[hseg] at hsg;rw[hE2,hE0] at hsz;have hsu:=JC l2 i h hok1 hp0
  have hps:(psN l2).getD i []=eI (cD l2[i]).1:=by simp[psN,h]
  have hds:=gd.ds i h;have hws:=oU (psN l2) (dsN l2) i;rw[hps,hds] at hws;have hsl:=CU (cD l2[i]).1;have hex:=xN _ (cD l2[i]).1 rfl
  have hpos:∀ x∈bY (cD l2[i]).1,0 < x.2:=fun x hx=>((nJ (fun _=>True) _ (cD l2[i]).1 rfl (fun _ _=>trivial)).2 x hx).2.1
  have hdl:(cD l2[i]).1.length=l2[i].data.length:=by
   have:=hgd.2.1
   simpa[eI] using this
  have hd4:=hgd.2.2.1
  have hpb:∀ x∈(cD l2[i]).1,0≤x∧x < 65536:=fun x hx=>by
   have e:=hgd.1;rw[← e] at hx;obtain⟨y,hy,rfl⟩:=List.mem_map.1 hx;have:=hgd.2.2.2.1 y hy;omega
  have hst:=fun j hj=>IK hex hdl hpb hpos j hj
  generalize (cD l2[i]).1=P at *;generalize hsgs:bY P=sg at *;clear hsgs hseg hgd hp0 hds hps;generalize hq:l2[i]=q at *;clear hq;obtain⟨a,t1,t2,off,data⟩:=q;obtain⟨he,ho,hoff,_⟩:=hok1;obtain⟨_,k1,c1,b1,s1,z1,l1,p1,f1',_,rfl,_⟩:=cK he;obtain⟨_,k2,c2,b2,s2,z2,l2',p2,f2',_,rfl,_⟩:=cK ho;unfold rqR vwR at hr;unfold vwR at hsg;rw[tyR,tyR] at hr hsg;rw[tyR] at hsz;simp only at *;have hbl:=dZ data;refine aA ?_;rw[dFa (show¬ E < 1 by omega)];refine aA ?_;rw[hbl];refine aA ?_;refine DK.nil ⟨by kernel_rfl,?_⟩;refine aA ?_;have hel:=dH sg
  obtain⟨W,hW⟩:∃ W,W=mkF f0 (iZ (psN l2) (dsN l2) i):=⟨_,rfl⟩
  have hWl:W.length=65536:=by rw[hW,fB,f1]
  have hWn:mkF f0 (iZ (psN l2) (dsN l2) (i+1))=mkF W ((eI P).zip data):=by rw[hws,xM,hW]
  rw[← hW];refine AWP.loop (fun j:Nat=>[(0,.list 19 (rqs l2)),(2,bv back),(9,iv N),(10,.list 3 (acR acs)),(12,.hsl 0 0 0 65536),(13,.hsl 1 0 0 65536),(14,iv (ssI l2 i)),(15,iv i),(18,.list 2 (enR sg)),(19,iv (exP (sg.take j)).length),(20,iv j)]) (fun j=>[[.cells 1 (bys (mkF W ((eI (exP (sg.take j))).zip data)))],[.cells 1 (bys f0)]]) (fun j=>j≤sg.length) (fun j=>sg.length - j) 0 (nZl _) ?_ ?_
  ·show Sub _ _ _ _ [(0,.list 19 (rqs l2)),(2,bv back),(9,iv N),(10,.list 3 (acR acs)),(12,.hsl 0 0 0 65536),(13,.hsl 1 0 0 65536),(14,iv (ssI l2 i)),(15,iv i),(18,.list 2 (enR sg)),(19,iv 0),(20,iv 0)] [[.cells 1 (bys W)],[.cells 1 (bys f0)]]
   exact Sub.wl [] [[(0,0)],[(1,0)]]
  rintro j hj;refine aA ?_;rw[hel];refine AWP.condN (j < sg.length) rfl rfl (fun h2=>?_) (fun h2=>?_)
  ·obtain⟨A,L,hsj,hAL,hkL,hk1,hWs⟩:=hst j h2
   have hr3:=iH sg j h2;rw[hsj] at hr3;have hWs:=hWs W;generalize hXn:(exP (sg.take j)).length=k at *
   have hW1:(mkF W ((eI (exP (sg.take j))).zip data)).length=65536:=by rw[fB,hWl]
   generalize mkF W ((eI (exP (sg.take j))).zip data)=W1 at *;refine cT ?_;refine AWP.dkm 20 _ mixed rfl rfl (by kernel_rfl) (by kernel_rfl) (by kernel_rfl) ?_;refine aA ?_
   have hcut:((bys data).drop k).take (k+L - k)=bys ((data.drop k).take L):=by
    rw[show k+L - k=L by omega];unfold bys;rw[← List.map_drop,← List.map_take]
   refine DK.o rfl (CQ rfl rfl rfl (by omega) (by rw[hbl]; omega) hcut) ?_;refine DK.nil ⟨by kernel_rfl,?_⟩;have hp:=BO (f:=W1) (d:=(data.drop k).take L) (at':=A) (H:=[[.cells 1 (bys W1)],[.cells 1 (bys f0)],List.replicate 20 .dead]) 0 0 hW1 (by rw[List.length_take]; omega) rfl;refine Reg.c (nZl _) rfl (hp.mono ?_);rintro res H' ⟨_,rfl,rfl,rfl⟩;refine Reg.nil ?_;rw[← hWs];refine aA ?_;refine DK.nil ⟨by kernel_rfl,?_⟩;refine aA ?_;refine⟨j+1,by omega,by omega,?_⟩;rw[hk1];exact Sub.wl [] [[(0,0)],[(1,0)]]
  ·obtain rfl:sg.length=j:=by omega
   rw[List.take_length,hex,← hWn];refine aA ?_;rw[hel];refine aA ?_;refine⟨i+1,⟨by omega,by rw[hsu]; omega⟩,by omega,?_⟩;rw[hsu];exact Sub.wl [] [[(0,0)],[(1,0)]]
 ·obtain rfl:l2.length=i:=by omega
  have hS:ssI l2 l2.length=iP (psN l2):=by unfold ssI; rw[← hpl,List.take_length]
  rw[hS] at hss ⊢;have hacl:=KP acs
  have hsame:=fun acs' hm=>CI (acs':=acs') gd hF hm f0 f1 f3
  generalize hWw:mkF f0 (iZ (psN l2) (dsN l2) l2.length)=Wn at *
  have hWl:Wn.length=65536:=by rw[← hWw,fB,f1]
  have hcnt:=hF.cnt;have hone:=hF.one;generalize iP (psN l2)=S at *
  obtain⟨acs',hac1,hac2,hac3⟩:∃ acs':List Ac,acs'=(if back=true then acs.reverse else acs)∧acs'.length=acs.length∧∀ a,a∈acs'↔a∈acs:=by
   refine⟨_,rfl,?_,fun a=>?_⟩
   ·cases back<;>simp
   ·cases back<;>simp
  refine aA ?_;refine AWP.loop (fun i:Nat=>[(0,.list 19 (rqs l2)),(2,bv back),(9,iv N),(10,.list 3 (acR acs)),(12,.hsl 0 0 0 65536),(13,.hsl 1 0 0 65536),(14,iv S),(21,iv i)]) (fun i=>[[.cells 1 (bys Wn)],[.cells 1 (bys (mkF f0 ((acs'.take i).flatMap wrA)))]]) (fun i=>i≤acs.length) (fun i=>acs.length - i) 0 (nZl _) ?_ ?_
  ·show Sub _ _ _ _ [(0,.list 19 (rqs l2)),(2,bv back),(9,iv N),(10,.list 3 (acR acs)),(12,.hsl 0 0 0 65536),(13,.hsl 1 0 0 65536),(14,iv S),(21,iv 0)] [[.cells 1 (bys Wn)],[.cells 1 (bys f0)]]
   exact Sub.wl [] [[(0,0)],[(1,0)]]
  rintro i hi;refine aA ?_;rw[hacl];refine AWP.condN (i < acs.length) rfl rfl (fun h=>?_) (fun h=>?_)
  ·have hr:=x8 acs i h
   have he:=hF.each acs[i] (gMe _)
   have hlen0:acs[i].2.2.length≠0:=fun q=>he.2.1 (List.eq_nil_of_length_eq_zero q)
   have hlen1:=dZ acs[i].2.2
   have hprev:∀ j,j+1=i→∃ b:Ac,cW (acR acs) (j:Int)=some [iv b.1,iv b.2.1,.list 1 (bys b.2.2)]∧b.2.1+b.2.2.length≤acs[i].2.1∧b.2.1+b.2.2.length≤65536:=fun j hj=>by
    have hjl:j < acs.length:=by omega
    exact⟨acs[j],x8 acs j hjl,List.pairwise_iff_getElem.1 hF.asc j i hjl h (by omega),(hF.each _ (gMe _)).2.2.1⟩
   obtain⟨x,hx1,hx2,hxr,hxe⟩:∃ x:Ac,acs'[i]?=some x∧x∈acs∧cW (acR acs) ((if back=true then acs.length - 1 - i else i:Nat):Int)=some [iv x.1,iv x.2.1,.list 1 (bys x.2.2)]∧(back=false→x=acs[i]):=by
    cases back with
    | false=>
     rw[if_neg (by simp)] at hac1;exact⟨acs[i],by rw[hac1]; exact gEg h,gMe _,hr,fun _=>rfl⟩
    | true=>
     rw[if_pos rfl] at hac1;exact⟨acs[acs.length - 1 - i]'(by omega),(congrArg (fun z:List Ac=>z[i]?) hac1).trans ((List.getElem?_reverse h).trans (gEg (by omega))),gMe _,x8 acs (acs.length - 1 - i) (by omega),fun q=>by cases q⟩
   have hxb:=(hF.each x hx2).2.2.1
   have htk:(acs'.take (i+1)).flatMap wrA=(acs'.take i).flatMap wrA++wrN x.2.1 x.2.2:=by
    rw[List.take_add_one,hx1,List.flatMap_append];simp[wrA]
   have hGn:mkF f0 ((acs'.take (i+1)).flatMap wrA)=mkF (mkF f0 ((acs'.take i).flatMap wrA)) (wrN x.2.1 x.2.2):=by rw[htk,xM]
   have hGl:(mkF f0 ((acs'.take i).flatMap wrA)).length=65536:=by rw[fB,f1]
   generalize mkF f0 ((acs'.take i).flatMap wrA)=G at *
   have hS70:S≤70 * 4096:=by omega
   cases back with
   | false=>
    obtain rfl:=hxe rfl;clear hxr hxe;generalize acs[i].1=e1 at *;generalize acs[i].2.1=e2 at *;generalize acs[i].2.2=e3 at *;obtain⟨he1,_,he3,_⟩:=he;refine aA ?_;refine Reg.c (nZl _) rfl ((BO 1 0 hGl he3 rfl).mono ?_)
    (rintro res H' ⟨_,rfl,rfl,rfl⟩; refine aA ?_; rw[dFa (show¬ N≤e1 by omega)]; refine aA ?_; rw[hlen1,dFa hlen0]; refine aA ?_; by_cases hi0:0 < i; (obtain⟨b,hb1,hb2,hb3⟩:=hprev (i - 1) (by omega); have hbl:=dZ b.2.2; generalize b.1=y1 at *; generalize b.2.1=y2 at *; generalize b.2.2=y3 at *; rw[dTr hi0]; refine aA ?_; rw[hbl]; refine aA ?_; rw[dFa (show¬ e2 < y2+y3.length by omega)]; refine aA ?_; refine DK.nil ⟨by kernel_rfl,?_⟩; refine aA ?_; refine⟨i+1,by omega,by omega,?_⟩; rw[hGn]; exact Sub.wl [] [[(0,0)],[(1,0)]]); (rw[dFa hi0]; refine aA ?_; refine DK.nil ⟨by kernel_rfl,?_⟩; refine aA ?_; refine⟨i+1,by omega,by omega,?_⟩; rw[hGn]; exact Sub.wl [] [[(0,0)],[(1,0)]]))
   | true=>
    clear hxe;rw[if_pos rfl] at hxr;generalize acs[i].1=e1 at *;generalize acs[i].2.1=e2 at *;generalize acs[i].2.2=e3 at *;obtain⟨he1,_,he3,_⟩:=he;generalize x.1=x1 at *;generalize x.2.1=x2 at *;generalize x.2.2=x3 at *;refine aA ?_;rw[hacl];refine aA ?_;refine Reg.c (nZl _) rfl ((BO 1 0 hGl hxb rfl).mono ?_)
    (rintro res H' ⟨_,rfl,rfl,rfl⟩; refine aA ?_; rw[dFa (show¬ N≤e1 by omega)]; refine aA ?_; rw[hlen1,dFa hlen0]; refine aA ?_; by_cases hi0:0 < i; (obtain⟨b,hb1,hb2,hb3⟩:=hprev (i - 1) (by omega); have hbl:=dZ b.2.2; generalize b.1=y1 at *; generalize b.2.1=y2 at *; generalize b.2.2=y3 at *; rw[dTr hi0]; refine aA ?_; rw[hbl]; refine aA ?_; rw[dFa (show¬ e2 < y2+y3.length by omega)]; refine aA ?_; refine DK.nil ⟨by kernel_rfl,?_⟩; refine aA ?_; refine⟨i+1,by omega,by omega,?_⟩; rw[hGn]; exact Sub.wl [] [[(0,0)],[(1,0)]]); (rw[dFa hi0]; refine aA ?_; refine DK.nil ⟨by kernel_rfl,?_⟩; refine aA ?_; refine⟨i+1,by omega,by omega,?_⟩; rw[hGn]; exact Sub.wl [] [[(0,0)],[(1,0)]]))
  ·obtain rfl:acs.length=i:=by omega
   rw[← hac2,List.take_length,hsame acs' hac3];have hwn:=dZ Wn;refine aA ?_;refine Reg.o rfl (sK rfl hWl.symm rfl) ?_;refine aA ?_;refine Reg.o rfl (sK rfl hWl.symm rfl) ?_;refine aA ?_;rw[show((PQ Wn).toList == (PQ Wn).toList)=true from beq_self_eq_true _];refine aA ?_;rw[hacl];refine aA ?_;rw[dTr (show acs.length≤S+N - 1 by omega)];refine aA ?_;rw[hll]
   by_cases c1:l2.length=1
   ·rw[dTr c1]
    refine aA ?_
    by_cases c2:N=1
    ·rw[dTr c2]
     refine aA ?_;rw[hacl,dTr (hone c1 c2)];refine aA ?_;exact aG.w
    ·rw[dFa c2]
     refine aA ?_;exact aG.w
   ·rw[dFa c1]
    refine aA ?_;exact aG.w
def TyS:Nat→List Sh
 | 0=>[.int .i64,.int .i64,.int .i64,.int .i64,.slice [.int .i64],.slice [.int .i64],.slice [.int .i64],.any]
 | m+1=>[.int .i64,.int .i64,.int .i64,.int .i64,.slice [.int .i64],.slice [.int .i64],.slice [.int .i64],.slice (TyS m)]
theorem M0:Tryz.prog.underlying 4=some .bool:=by kernel_rfl
theorem G1:laidOutB Tryz.prog=true:=by kernel_rfl
theorem I7:mapsRowed Tryz.prog=true:=by kernel_rfl
theorem BX:∀ t e,t < Tryz.prog.types.size→Tryz.prog.underlying t=some (.slice e)→0 < Tryz.prog.cellsOf e:=slices_full_of Tryz.prog (by kernel_rfl)
theorem MO:ownKnob Tryz.prog.godebug=none:=by kernel_rfl
end Go.Proofs.YtgdocflpobncmaaGreat
