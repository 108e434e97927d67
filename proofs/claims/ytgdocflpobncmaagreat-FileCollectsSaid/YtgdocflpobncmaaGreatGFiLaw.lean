import Derived.Test.YtgdocflpobncmaaGreatGFtV1
import Derived.Test.YtgdocflpobncmaaGreatGFtQ6
import Derived.Test.YtgdocflpobncmaaGreatGFtR1
import Derived.Test.YtgdocflpobncmaaGreatGFtL10
import Derived.Test.YtgdocflpobncmaaGreatGFtP2
import Derived.Test.YtgdocflpobncmaaGreatGAvL
import Derived.Test.YtgdocflpobncmaaGreatGAvQ
import Derived.Test.YtgdocflpobncmaaGreatRows
set_option maxHeartbeats 4000000
namespace Go.Proofs.YtgdocflpobncmaaGreat
open Go.Av Go.Proofs
set_option maxRecDepth 20000
theorem OP {r:Rq} (hr:r.ok):aB Tryz.prog 144 [.agg (rqR r)] (.tup [.list 1 (inR (dF r).1),iv (dF r).2]):=by
 obtain⟨he,ho,hoff,hdl⟩:=hr;refine aB.mkI (ha:=⟨fun c hc=>by rw[List.mem_singleton.1 hc]; exact .agg _ (zP r).out⟩) cF144 (nlB rfl) ?_;unfold dF rqR Rq.v;obtain⟨a,e,o,off,data⟩:=r;simp only at he ho hoff hdl ⊢;have hc:=JD (a:=a) he ho;have e1:=qQ he;have hsn:=m5 (a:=a) he ho
 have hel:(cT a e o).1=0→(cT a e o).2.elem=(bN (aF 3 e).2.es:Nat)∧lG (cT a e o).2.pl (cT a e o).2.ext=true:=fun h=>by
  obtain⟨v1,_,_,v4⟩:=sE h;rw[v1];exact⟨rfl,v4⟩
 have hrel:=fun h f n hf hn=>P5 (a:=a) he ho h f n hf hn
 generalize cT a e o=r at *;obtain⟨er,s⟩:=r;simp only at hc hsn hel hrel ⊢;generalize bN (aF 3 e).2.es=E at *;generalize (aF 3 e).1=ee at *;obtain⟨_,k1,c1,b1,s1,z1,l1,p1,f1,_,rfl,_⟩:=aO he;obtain⟨_,k2,c2,b2,s2,z2,l2,p2,f2,_,rfl,_⟩:=aO ho;have hbl:=iX data;rw[SP] at *;rw[tyR] at e1;refine aA ?_;refine AWP.condN (er≠0) rfl (d9 _) (fun h1=>?_) (fun h1=>?_)
 ·rw[if_pos h1,show inR (([],er):List Int×Int).1=[] from rfl]
  refine aA ?_;exact aG.w
 rw[if_neg h1];obtain rfl:er=0:=dBc h1;have hs:=hsn rfl;obtain⟨hE,hA⟩:=hel rfl;obtain⟨⟨hat,_⟩,⟨q1,q2⟩,_,hpl,_⟩:=id hs;rw[hE] at q1 q2 ⊢;rw[Int.toNat_natCast]
 have hE0:1≤E:=by omega
 refine aA ?_;refine AWP.condN (off < 0) rfl rfl (fun g1=>?_) (fun g1=>?_)
 ·rw[if_pos g1,show inR (([],3):List Int×Int).1=[] from rfl]
  refine aA ?_;exact aG.w
 rw[if_neg g1]
 obtain⟨O,rfl⟩:∃ O:Nat,off=O:=⟨off.toNat,by omega⟩
 refine aA ?_;refine AWP.condN (data.length % E≠0) rfl (by simp[hbl]) (fun g2=>?_) (fun g2=>?_)
 ·rw[if_pos g2,show inR (([],26):List Int×Int).1=[] from rfl]
  refine aA ?_;exact aG.w
 rw[if_neg g2];refine aA ?_;refine AWP.condN (4096 < data.length) rfl (by rw[hbl]) (fun g3=>?_) (fun g3=>?_)
 ·rw[if_pos g3,show inR (([],9):List Int×Int).1=[] from rfl]
  refine aA ?_;exact aG.w
 rw[if_neg g3,Int.toNat_natCast];have hli:=hrel rfl O data.length (by omega) (by omega);rw[JP hA hpl hat] at hli;generalize jN s O data.length=l at *;obtain⟨l,ok⟩:=l;simp only at hli ⊢;rw[← hbl] at hli
 cases ok with
 | false=>
  rw[if_neg (by simp),show inR (([],3):List Int×Int).1=[] from rfl];refine aA ?_;exact aG.w
 | true=>
  rw[if_pos rfl];refine aA ?_;exact aG.w
theorem P4 {l:List Rq} (hl:∀ r∈l,r.ok) (hn:l.length < 1000000000):aB Tryz.prog 97 [.list 19 (rqs l)] (.tup [.list 1 (plR (kU l).1),iv (kU l).2]):=by
 refine aB.mkI cF97 (nlB rfl) ?_;have hll:=lZ l;refine aA ?_;refine AWP.condN (64 < l.length) rfl (by rw[hll]) (fun h64=>?_) (fun h64=>?_)
 ·rw[show kU l=([],9) from if_pos h64,show plR (([],9):List (List Int)×Int).1=[] from rfl]
  refine aA ?_;exact aG.w
 refine aA ?_;refine AWP.loop (fun i:Nat=>[(0,.list 19 (rqs l)),(4,.hsl 0 0 0 i),(5,iv i)]) (fun i=>[[.cells 1 (plR ((l.take i).map fun r=>(dF r).1))]]) (fun i=>i≤l.length∧∀ j (h:j < l.length),j < i→(dF l[j]).2=0) (fun i=>l.length - i) 0 ⟨nZl _,fun j _ h=>absurd h (Nat.not_lt_zero j)⟩ ?_ ?_
 ·exact Sub.wl [1] [[(0,0)]]
 rintro i ⟨hi,hg⟩;refine aA ?_;rw[hll];refine AWP.condN (i < l.length) rfl rfl (fun h=>?_) (fun h=>?_)
 ·have hr:=rL l i h
  have hc:=OP (hl l[i] (gMe _))
  have hbad:=fun hb=>HQ h64 h (fun j hj=>hg j (by omega) hj) hb
  have htk:(l.take (i+1)).map (fun r=>(dF r).1)=(l.take i).map (fun r=>(dF r).1)++[(dF l[i]).1]:=by
   rw[List.take_add_one,gEg h,List.map_append];rfl
  have hpl:((l.take i).map fun r=>(dF r).1).length=i:=by simp; omega
  have hgi:(dF l[i]).2=0→∀ j (h:j < l.length),j < i+1→(dF l[j]).2=0:=fun h0 j hj hlt=>by
   rcases Nat.lt_or_ge j i with q | q
   ·exact hg j hj q
   ·obtain rfl:j=i:=by omega
    exact h0
  generalize dF l[i]=z at *;obtain⟨p,e⟩:=z;generalize (l.take i).map (fun r=>(dF r).1)=ps at *;have hpr:=uH ps;have hok:=hl l[i] (gMe _);generalize l[i]=q at *;obtain⟨a,t1,t2,off,data⟩:=q;obtain⟨he,ho,_,_⟩:=hok;obtain⟨_,k1,c1,b1,s1,z1,l1,p1,f1,_,rfl,_⟩:=aO he;obtain⟨_,k2,c2,b2,s2,z2,l2,p2,f2,_,rfl,_⟩:=aO ho;unfold rqR vwR at hr hc;rw[tyR,tyR] at hr hc;replace hr:dO (rqs l) (i:Int)=some [iv a,iv k1,iv c1,iv b1,iv s1,.list 1 (inR z1),.list 1 (inR l1),.list 1 (inR p1),.list 8 (aM f1),iv k2,iv c2,iv b2,iv s2,.list 1 (inR z2),.list 1 (inR l2),.list 1 (inR p2),.list 8 (aM f2),iv off,.list 1 (bys data)]:=hr;replace hc:aB Tryz.prog 144 [.agg [iv a,iv k1,iv c1,iv b1,iv s1,.list 1 (inR z1),.list 1 (inR l1),.list 1 (inR p1),.list 8 (aM f1),iv k2,iv c2,iv b2,iv s2,.list 1 (inR z2),.list 1 (inR l2),.list 1 (inR p2),.list 8 (aM f2),iv off,.list 1 (bys data)]] (.tup [.list 1 (inR p),iv e]):=hc;refine aA ?_;refine AWP.condN (e≠0) rfl (d9 _) (fun h0=>?_) (fun h0=>?_)
  ·rw[hbad h0]
   rw[show plR (([],e):List (List Int)×Int).1=[] from rfl];refine aA ?_;exact aG.w
  ·refine aA ?_
   refine⟨i+1,⟨by omega,hgi (dBc h0)⟩,by omega,?_⟩;rw[htk]
   have e1:plR (ps++[p])=plR ps++[[.list 1 (inR p)]]:=by simp[plR]
   rw[e1];exact Sub.wl [] [[(2,0)]]
 ·obtain rfl:l.length=i:=by omega
  rw[CB h64 fun j h=>hg j h h,List.take_length];have:=uH (l.map fun r=>(dF r).1);rw[List.length_map] at this;refine aA ?_;exact aG.w
def mkF (f:List Nat) (l:List (Nat×Nat)):List Nat:=l.foldl (fun f y=>f.set y.1 y.2) f
theorem K5 (f:List Nat) (l:List (Nat×Nat)) (x b:Nat):mkF f (l++[(x,b)])=(mkF f l).set x b:=by simp[mkF]
theorem uJ:∀(l:List (Nat×Nat)) (f:List Nat),(mkF f l).length=f.length
 | [],_=>rfl
 | y::l,f=>by
  show(mkF (f.set y.1 y.2) l).length=_;rw[uJ l,List.length_set]
theorem HA:∀(l:List (Nat×Nat)) (f:List Nat) (bm:List (Nat×Nat)),(∀ y,y < f.length→f.getD y 0=(eE bm y).getD 0)→∀ y,y < f.length→(mkF f l).getD y 0=(eE (dT bm l) y).getD 0
 | [],_,_,h,y,hy=>h y hy
 | z::l,f,bm,h,y,hy=>by
  show(mkF (f.set z.1 z.2) l).getD y 0=(eE (dT (fN bm z.1 z.2) l) y).getD 0;refine HA l _ _ (fun y hy=>?_) y (by rw[List.length_set]; exact hy);rw[List.length_set] at hy;rw[sB,List.getD_eq_getElem?_getD,List.getElem?_set]
  by_cases e:z.1=y
  ·subst e; simp[hy]
  ·rw[if_neg e,if_neg (Ne.symm e),← List.getD_eq_getElem?_getD]
   exact h y hy
def WL (l:List Rq) (i j:Nat):List (Nat×Nat):=pU (psN l) (dsN l) i++(((psN l).getD i []).zip ((dsN l).getD i [])).take j
theorem z6 (l:List Rq) (i:Nat):WL l i 0=pU (psN l) (dsN l) i:=by simp[WL]
theorem P9 (l:List Rq) (i n:Nat) (h:(((psN l).getD i []).zip ((dsN l).getD i [])).length≤n):WL l i n=WL l (i+1) 0:=by
 rw[z6,wS];unfold WL;rw[List.take_of_length_le h]
theorem OV (l:List Rq) (i j:Nat) {x b:Nat} (hx:((psN l).getD i [])[j]?=some x) (hb:((dsN l).getD i [])[j]?=some b):WL l i (j+1)=WL l i j++[(x,b)]:=by
 unfold WL
 have:(((psN l).getD i []).zip ((dsN l).getD i []))[j]?=some (x,b):=by
  rw[List.getElem?_zip_eq_some];exact⟨hx,hb⟩
 rw[List.take_add_one,this,List.append_assoc];rfl
def loP (xs:List Nat):Nat:=xs.foldl min 65536
def hiP (xs:List Nat):Nat:=xs.foldl (fun m x=>max m (x+1)) 0
theorem CX (xs:List Nat) (x:Nat):loP (xs++[x])=min (loP xs) x:=by simp[loP]
theorem DH (xs:List Nat) (x:Nat):hiP (xs++[x])=max (hiP xs) (x+1):=by simp[hiP]
theorem GF:∀(n:Nat) (xs:List Nat),xs.length=n→(∀ x∈xs,x < 65536)→loP xs≤65536∧hiP xs≤65536∧(∀ x∈xs,loP xs≤x∧x < hiP xs)∧(xs≠[]→loP xs∈xs∧∃ m∈xs,hiP xs=m+1)
 | 0,xs,hn,h=>by
  obtain rfl:=List.eq_nil_of_length_eq_zero hn;refine⟨Nat.le_refl _,nZl _,?_,?_⟩
  ·intro x hx; cases hx
  ·intro q; exact absurd rfl q
 | n+1,xs,hn,h=>by
  rcases List.eq_nil_or_concat xs with rfl | ⟨o,a,rfl⟩
  ·cases hn
  rw[List.concat_eq_append] at hn h ⊢
  obtain⟨i1,i2,i3,i4⟩:=GF n o (by simpa using hn) fun x hx=>h x (by simp[hx])
  have ha:=h a (by simp);rw[CX,DH];refine⟨by omega,by omega,fun x hx=>?_,fun _=>?_⟩
  ·rcases List.mem_append.1 hx with hx | hx
   ·have:=i3 x hx
    omega
   ·rw[List.mem_singleton.1 hx]
    omega
  ·rcases List.eq_nil_or_concat o with e | e
   ·subst e
    have e1:loP []=65536:=rfl;have e2:hiP []=0:=rfl;rw[e1,e2];exact⟨by rw[show min 65536 a=a by omega]; simp,a,by simp,by omega⟩
   ·have hne:o≠[]:=by
     obtain⟨p,q,rfl⟩:=e;simp
    obtain⟨j1,m,j2,j3⟩:=i4 hne;refine⟨?_,?_⟩
    ·by_cases q:loP o≤a
     ·rw[show min (loP o) a=loP o by omega]
      simp[j1]
     ·rw[show min (loP o) a=a by omega]
      simp
    ·by_cases q:a+1≤hiP o
     ·exact⟨m,by simp[j2],by omega⟩
     ·exact⟨a,by simp,by omega⟩
def gC (h:List Bool) (n:Nat):List Nat:=(List.range n).filter fun y=>gB h y
theorem HW (h:List Bool) (n:Nat):gC h (n+1)=gC h n++if gB h n=true then[n] else[]:=by
 unfold gC;rw[List.range_succ,List.filter_append];congr 1
 by_cases e:gB h n=true
 ·rw[if_pos e,List.filter_cons_of_pos e]; rfl
 ·rw[if_neg e,List.filter_cons_of_neg e]; rfl
theorem yL (h:List Bool) (n:Nat) (hn:∀ y,y < n→gB h y=false):gC h n=[]:=by
 unfold gC;rw[List.filter_eq_nil_iff];intro y hy;rw[hn y (List.mem_range.1 hy)];simp
theorem HJ:∀(l m:List Nat),l.Pairwise (· < ·)→m.Pairwise (· < ·)→(∀ x,x∈l↔x∈m)→l=m
 | [],[],_,_,_=>rfl
 | [],b::m,_,_,h=>by have:=(h b).2 (by simp); cases this
 | a::l,[],_,_,h=>by have:=(h a).1 (by simp); cases this
 | a::l,b::m,h1,h2,h=>by
  obtain⟨p1,p2⟩:=List.pairwise_cons.1 h1;obtain⟨q1,q2⟩:=List.pairwise_cons.1 h2;have ha:=(h a).1 (by simp);have hb:=(h b).2 (by simp)
  have hab:a=b:=by
   rcases List.mem_cons.1 ha with e | e
   ·exact e
   ·rcases List.mem_cons.1 hb with e' | e'
    ·exact e'.symm
    ·have:=q1 a e
     have:=p1 b e';omega
  subst hab;congr 1
  refine HJ l m p2 q2 fun x=>⟨fun hx=>?_,fun hx=>?_⟩
  ·rcases List.mem_cons.1 ((h x).1 (by simp[hx])) with e | e
   ·subst e; have:=p1 x hx; omega
   ·exact e
  ·rcases List.mem_cons.1 ((h x).2 (by simp[hx])) with e | e
   ·subst e; have:=q1 x hx; omega
   ·exact e
theorem CQ (x b:Nat) (bm:List (Nat×Nat)) (h:(bm.map (·.1)).Nodup):((fN bm x b).map (·.1)).Nodup:=by
 cases e:eE bm x with
 | none=>
  rw[DV x b bm e,List.map_append]
  have hx:x∉bm.map (·.1):=fun q=>(kZ x bm).2 q e
  rw[List.nodup_append];refine⟨h,by simp,fun a ha c hc=>?_⟩;rw[List.map_cons,List.map_nil,List.mem_singleton] at hc;have hc':c=x:=hc;intro e;exact hx (by rw[← hc',← e]; exact ha)
 | some c=>
  rw[(FC x b bm c e).2];exact h
theorem sZ:∀(l bm:List (Nat×Nat)),(bm.map (·.1)).Nodup→((dT bm l).map (·.1)).Nodup
 | [],_,h=>h
 | y::l,bm,h=>sZ l _ (CQ y.1 y.2 bm h)
theorem OU (bm:List (Nat×Nat)) (x:Nat):x∈gI bm↔x∈bm.map (·.1):=by
 unfold gI;rw[List.mem_mergeSort]
theorem TR (bm:List (Nat×Nat)) (h:(bm.map (·.1)).Nodup):(gI bm).Pairwise (· < ·):=by
 have h1:(gI bm).Nodup:=(List.mergeSort_perm _ _).nodup_iff.2 h;rw[List.pairwise_iff_getElem];intro i j hi hj hij;have h2:=GZ bm i j hi hj (by omega)
 have h3:(gI bm)[i]≠(gI bm)[j]:=fun q=>by
  have:=(List.getElem_inj h1).1 q;omega
 omega
theorem OY {w:List (Nat×Nat)} (hw:∀ y∈w,y.1 < 65536) (hne:w≠[]) (N:Nat) (hN:1≤N) (h:List Bool) (hh:∀ y,y < 65536→(gB h y=true↔y∈w.map (·.1))):
  gX ((hiP (w.map (·.1)) - loP (w.map (·.1))+N - 1) / N) (loP (w.map (·.1))) (dT [] w) (gC h (hiP (w.map (·.1))))=DZ (dT [] w) N:=by
 have hb:=GF _ (w.map (·.1)) rfl fun x hx=>by
  obtain⟨y,hy,rfl⟩:=List.mem_map.1 hx;exact hw y hy
 have hk:∀ x,x∈gI (dT [] w)↔x∈w.map (·.1):=fun x=>by
  rw[OU,pG];simp
 have hlt:=TR (dT [] w) (sZ w [] (by simp))
 have hne':w.map (·.1)≠[]:=by simpa using hne
 generalize w.map (·.1)=xs at *;obtain⟨b1,b2,b3,b4⟩:=hb;obtain⟨b4,m,b5,b6⟩:=b4 hne'
 have hs:gC h (hiP xs)=gI (dT [] w):=by
  refine HJ _ _ (List.pairwise_lt_range.filter _) hlt fun x=>?_
  rw[hk];unfold gC;rw[List.mem_filter,List.mem_range];constructor
  ·rintro⟨q1,q2⟩
   exact(hh x (by omega)).1 q2
  ·intro q
   have:=b3 x q;exact⟨this.2,(hh x (by omega)).2 q⟩
 unfold DZ;rw[hs];generalize gI (dT [] w)=s at *;generalize dT [] w=bm at *;have hs0:0 < s.length:=List.length_pos_of_mem ((hk m).2 b5)
 have e1:s.headD 0=s[0]:=by cases s with | nil=>exact absurd hs0 (Nat.lt_irrefl 0) | cons=>rfl
 have e2:s.getLastD 0=s[s.length - 1]:=by rw[List.getLastD_eq_getLast?,List.getLast?_eq_getElem?,gEg (by omega)]; rfl
 have hpw:=List.pairwise_iff_getElem.1 hlt
 have f1:s[0]=loP xs:=by
  obtain⟨j,hj,e⟩:=List.getElem_of_mem ((hk _).2 b4);have h1:=(b3 s[0] ((hk _).1 (gMe _))).1
  rcases Nat.eq_zero_or_pos j with q | q
  ·subst q; exact e
  ·have:=hpw 0 j hs0 hj q
   omega
 have f2:s[s.length - 1]+1=hiP xs:=by
  obtain⟨j,hj,e⟩:=List.getElem_of_mem ((hk _).2 b5);have h1:=(b3 s[s.length - 1] ((hk _).1 (gMe _))).2
  rcases Nat.lt_or_ge j (s.length - 1) with q | q
  ·have:=hpw j (s.length - 1) hj (by omega) q
   omega
  ·obtain rfl:j=s.length - 1:=by omega
   omega
 have h1:=(b3 s[s.length - 1] ((hk _).1 (gMe _))).1;rw[e1,e2,f1,show hiP xs - loP xs+N - 1=s[s.length - 1] - loP xs+N by omega]
theorem IV {N lo hi:Nat} {f:List Nat} {h:List Bool} {bm:List (Nat×Nat)} (h1:1≤N) (h2:N≤64) (hlh:lo < hi) (hhi:hi≤65536) (fl:f.length=65536) (hl:h.length=65536) (hfb:∀ y,y < 65536→f.getD y 0=(eE bm y).getD 0) (hno:∀ y,y < lo→gB h y=false):
  AWP Tryz.prog F33.n 0 (gZ [1,1,1,1,1,1,1,1] F33.code) (aG F33.res (.tup [.list 3 (acR (gX ((hi - lo+N - 1) / N) lo bm (gC h hi))),iv 0])) [(1,iv N),(8,.hsl 0 0 0 65536),(9,.hsl 1 0 0 65536),(10,iv lo),(11,iv hi)] [[.cells 1 (bys f)],[.cells 1 (blR h)]]:=by
 show AWP _ _ _ (.seq _ _) _ _ _
 have hfn:(bys f).length=65536:=by rw[iX,fl]
 have hhn:(blR h).length=65536:=by rw[HG,hl]
 refine aA ?_
 obtain⟨w,hw⟩:∃ w,w=(hi - lo+N - 1) / N:=⟨_,rfl⟩
 rw[← hw]
 have hw1:w≠0:=by
  have:=Nat.div_le_div_right (c:=N) (show N≤hi - lo+N - 1 by omega);rw[Nat.div_self (by omega)] at this;omega
 refine AWP.loop (fun x:Nat=>[(8,.hsl 2 0 0 65536),(9,.hsl 3 0 0 65536),(10,iv lo),(11,iv hi),(15,iv w),(16,.hsl 0 0 0 (gX w lo bm (gC h x)).length),(17,iv x)]) (fun x=>[[.cells 3 (sW (gX w lo bm (gC h x)))],[.cells 1 (bys (mT (gX w lo bm (gC h x))))],[.cells 1 (bys f)],[.cells 1 (blR h)]]) (fun x=>lo≤x∧x≤hi∧(gX w lo bm (gC h x)).length≤x∧(mT (gX w lo bm (gC h x))).length≤x∧∀ a∈gX w lo bm (gC h x),a.2.1 < 65536) (fun x=>hi - x) lo ?_ ?_ ?_
 ·rw[yL h lo hno]
  exact⟨Nat.le_refl _,by omega,nZl _,nZl _,fun a ha=>by cases ha⟩
 ·rw[yL h lo hno]
  show Sub _ _ _ _ [(8,.hsl 2 0 0 65536),(9,.hsl 3 0 0 65536),(10,iv lo),(11,iv hi),(15,iv w),(16,.hsl 0 0 0 0),(17,iv lo)] [[.cells 3 []],[.cells 1 []],[.cells 1 (bys f)],[.cells 1 (blR h)]];exact Sub.wl [3,1] [[(2,0)],[(3,0)],[(0,0)],[(1,0)]]
 rintro x ⟨g1,g2,hol,hdl,hat⟩;refine aA ?_;refine AWP.condN (x < hi) rfl rfl (fun h9=>?_) (fun h9=>?_)
 ·have r1:=K9 h x (by omega)
  have r2:=zQ f x (by omega);have hfx:=hfb x (by omega);rw[show f.getD x 0=f[x]'(by omega) by simp[show x < f.length by omega]] at hfx;rw[hfx] at r2;have hsc:=HW h x;generalize gB h x=gx at *;refine aA ?_
  cases gx with
  | false=>
   rw[if_neg (by simp),List.append_nil] at hsc;refine aA ?_;rw[← hsc] at hol hdl hat;refine⟨x+1,⟨by omega,by omega,by omega,by omega,hat⟩,by omega,?_⟩;rw[hsc];rw[hsc] at hol hdl;generalize gX w lo bm (gC h x)=out at *
   rcases List.eq_nil_or_concat out with rfl | ⟨o,a,hox⟩
   ·rw[IG,JF]
    exact Sub.wl [] [[(0,0)],[(1,0)],[(2,0)],[(3,0)]]
   ·rw[List.concat_eq_append] at hox
    subst hox;rw[dH,cF];exact Sub.wl [] [[(0,0)],[(1,0)],[(2,0)],[(3,0)]]
  | true=>
   rw[if_pos rfl] at hsc;have hsn:=BL w lo bm (gC h x) x;rw[← hsc] at hsn;generalize gX w lo bm (gC h x)=out at *;have hat2:=B6 (w:=w) (lo:=lo) (bm:=bm) (x:=x) (by omega) hat;rw[← hsn] at hat2;unfold lH at hsn;generalize (eE bm x).getD 0=b at *;have hrl:=yY out
   obtain⟨pp,hpp⟩:∃ pp,pp=(x - lo) / w:=⟨_,rfl⟩
   rw[← hpp] at hsn
   rcases List.eq_nil_or_concat out with rfl | ⟨o,a,hox⟩
   ·refine aA ?_
    rw[← hpp];refine aA ?_;refine DK.nil ⟨by kernel_rfl,?_⟩;refine aA ?_;replace hsn:gX w lo bm (gC h (x+1))=[(pp,x,[b])]:=hsn;refine⟨x+1,⟨by omega,by omega,by rw[hsn]; simp,by rw[hsn]; simp[mT],hat2⟩,by omega,?_⟩;rw[hsn,show sW [(pp,x,[b])]=[[iv pp,iv x,.hsl 1 0 0 1]] from rfl,show bys (mT [(pp,x,[b])])=[[uv b]] from rfl];exact Sub.wl [] [[(7,0)],[(5,0)],[(2,0)],[(3,0)]]
   ·rw[List.concat_eq_append] at hox
    subst hox;obtain⟨a1,a2,a3⟩:=a
    have hln:(o++[(a1,a2,a3)]).length=o.length+1:=by simp
    have hal:(acR o).length=o.length:=by simp[acR]
    have hr2:dO (acR o++[[iv a1,iv a2,.hsl 1 0 0 a3.length]]) ((o.length:Nat):Int)=some [iv a1,iv a2,.hsl 1 0 0 a3.length]:=by
     rw[lC,← hal,List.getElem?_concat_length]
    rw[hln] at hrl ⊢;rw[dH] at hrl ⊢;rw[cF] at hdl ⊢;have ha2:a2 < 65536:=hat (a1,a2,a3) (by simp);replace hdl:a3.length≤x:=hdl;have hbl:=iX a3;simp only[List.getLast?_concat,List.dropLast_concat] at hsn
    replace hsn:gX w lo bm (gC h (x+1))=if a1=pp∧a2+a3.length=x then o++[(a1,a2,a3++[b])] else o++[(a1,a2,a3)]++[(pp,x,[b])]:=hsn
    show AWP _ _ _ _ _ _ [[.cells 3 (acR o++[[iv a1,iv a2,.hsl 1 0 0 a3.length]])],[.cells 1 (bys a3)],[.cells 1 (bys f)],[.cells 1 (blR h)]];refine aA ?_;rw[← hpp]
    by_cases e1:a1=pp
    ·rw[dTr e1]
     refine aA ?_;refine DK.nil ⟨by kernel_rfl,?_⟩;refine aA ?_;refine AWP.condN (a2+a3.length=x) rfl rfl (fun e2=>?_) (fun e2=>?_)
     ·rw[if_pos ⟨e1,e2⟩] at hsn
      refine aA ?_;refine DK.nil ⟨by kernel_rfl,?_⟩;refine aA ?_;refine⟨x+1,⟨by omega,by omega,by rw[hsn]; simp only[lAp,List.length_cons,List.length_nil] at hol ⊢; omega,by rw[hsn,cF]; simp only[lAp,List.length_cons,List.length_nil]; omega,hat2⟩,by omega,?_⟩;rw[hsn,dH,cF]
      have hbs:bys a3++[[uv b]]=bys (a3++[b]):=by simp[bys]
      refine Sub.to [] [[(0,0)],[(5,14)],[(2,0)],[(3,0)]] ?_ (aI.cons (eF (acS (n:=o.length+1 - 1) ?hn ?_) bQ.nil rfl) (aI.cons ?_ (aI.cons ?_ (aI.cons ?_ aI.nil)))) rfl rfl rfl
      case hn=>omega
      (all_goals exact gY)
     ·rw[if_neg (fun q=>e2 q.2)] at hsn
      refine aA ?_;refine⟨x+1,⟨by omega,by omega,by rw[hsn]; simpa using hol,by rw[hsn,cF]; simp,hat2⟩,by omega,?_⟩;rw[hsn,dH,cF];refine Sub.to [] [[(7,0)],[(5,0)],[(2,0)],[(3,0)]] ?_ (aI.cons (eF (acB (wt2 rfl rfl hbl rfl) ?_) bQ.nil) (aI.cons ?_ (aI.cons ?_ (aI.cons ?_ aI.nil)))) rfl rfl rfl
      (all_goals exact gY)
    ·rw[dFa e1,if_neg (fun q=>e1 q.1)] at *
     refine aA ?_;refine DK.nil ⟨by kernel_rfl,?_⟩;refine aA ?_;refine⟨x+1,⟨by omega,by omega,by rw[hsn]; simpa using hol,by rw[hsn,cF]; simp,hat2⟩,by omega,?_⟩;rw[hsn,dH,cF];refine Sub.to [] [[(7,0)],[(5,0)],[(2,0)],[(3,0)]] ?_ (aI.cons (eF (acB (wt2 rfl rfl hbl rfl) ?_) bQ.nil) (aI.cons ?_ (aI.cons ?_ (aI.cons ?_ aI.nil)))) rfl rfl rfl
     (all_goals exact gY)
 ·obtain rfl:hi=x:=by omega
  generalize gX w lo bm (gC h hi)=out at *;refine aA ?_
  rcases List.eq_nil_or_concat out with rfl | ⟨o,a,hox⟩
  ·exact aG.w
  ·rw[List.concat_eq_append] at hox
   subst hox;obtain⟨a1,a2,a3⟩:=a
   have hln:(o++[(a1,a2,a3)]).length=o.length+1:=by simp
   have hal:(acR o).length=o.length:=by simp[acR]
   have hbl:=iX a3;rw[dH,cF,show acR (o++[(a1,a2,a3)])=acR o++[[iv a1,iv a2,.list 1 (bys a3)]] by simp[acR,acF]];refine aG.mk (.inr rfl) rfl rfl ?_;refine To.tupL (ToL.cons ?_ (ToL.cons (.sc _) ToL.nil));refine To.fzT rfl rfl (by simp[hal]) (To.listR (ToR.append (ToR.pure (prs _)) (ToR.cons (ToL.cons (.sc _) (ToL.cons (.sc _) (ToL.cons ?_ ToL.nil))) ToR.nil)));exact wt2 rfl rfl hbl rfl
theorem E0 {g i:Nat} {fr:Fr} {H:Heap} {t:TypeId} {x y:Operand} {a b:Int} (hx:ev fr x=.sc (.int .i64 a)) (hy:ev fr y=.sc (.int .i64 b)) (hb:b≠0):aD g i (.bin .quo t x y) fr H=some (.sc (.int .i64 (IntKind.i64.wrap (a.tdiv b))),H):=by
 have e:Sem.pure? (binOp .quo t (.int .i64 a) (.int .i64 b))=some (.int .i64 (IntKind.i64.wrap (a.tdiv b))):=by
  show Sem.pure? (Op.intDiv .quo .i64 a b)=_;unfold Op.intDiv;rw[if_neg hb];rfl
 simp only[aD,hx,hy];have e2:(do eqGuard .quo t x y (.int .i64 a) (.int .i64 b); binOp .quo t (.int .i64 a) (.int .i64 b):Sem Value)=binOp .quo t (.int .i64 a) (.int .i64 b):=rfl;rw[e2,e]
theorem H7 {N:Nat} {f:List Nat} {h:List Bool} (h1:1≤N) (h2:N≤64):
  AWP Tryz.prog F33.n 0 (gZ [1,1,1,1,1,1,1,1] F33.code) (aG F33.res (.tup [.list 3 [],iv 0])) [(1,iv N),(8,.hsl 0 0 0 65536),(9,.hsl 1 0 0 65536),(10,iv 65536),(11,iv 0)] [[.cells 1 (bys f)],[.cells 1 (blR h)]]:=by
 show AWP _ _ _ (.seq _ _) _ _ _;refine aA ?_;refine Reg.o rfl (E0 rfl rfl (by omega)) ?_;refine aA ?_;refine AWP.loop (fun _:Unit=>[(8,.hsl 1 0 0 65536),(9,.hsl 2 0 0 65536),(10,iv 65536),(11,iv 0),(16,.hsl 0 0 0 0),(17,iv 65536)]) (fun _=>[[.cells 3 []],[.cells 1 (bys f)],[.cells 1 (blR h)]]) (fun _=>True) (fun _=>0) () trivial ?_ ?_
 ·exact Sub.wl [3] [[(2,0)],[(0,0)],[(1,0)]]
 rintro _ _;refine aA ?_;exact aG.w
def PT (f0:List Nat) (b0:List Bool) (w:List (Nat×Nat)):Heap:=[[.cells 1 (bys (mkF f0 w))],[.cells 1 (blR (mkB b0 (w.map (·.1))))]]
theorem WL_bd {l:List Rq} (g:MN l) (i j:Nat) (hi:i < l.length):∀ y∈WL l i j,y.1 < 65536:=fun y hy=>by
 unfold WL at hy
 rcases List.mem_append.1 hy with hy | hy
 ·exact(nA g i (by omega)).2 y hy
 ·exact g.bd i _ (List.of_mem_zip (List.mem_of_mem_take hy)).1
theorem QU {l:List Rq} {parts:Int} (hl:∀ r∈l,r.ok) (hn:l.length < 1000000000):aB Tryz.prog 33 [.list 19 (rqs l),iv parts] (.tup [.list 3 (acR (zW l parts).1),iv (zW l parts).2]):=by
 refine aB.mkI cF33 (nlB rfl) ?_;have ha:=P4 hl hn;unfold zW;have hgood:=AP hl;have hpl:=HM hl;generalize kU l=z at *;obtain⟨pz,er⟩:=z;simp only at ha hgood hpl ⊢;refine aA ?_;refine AWP.condN (er≠0) rfl (d9 _) (fun h0=>?_) (fun h0=>?_)
 ·rw[if_pos h0,show acR (([],er):List Ac×Int).1=[] from rfl]
  refine aA ?_;exact aG.w
 rw[if_neg h0];obtain rfl:er=0:=dBc h0;have g:=hgood rfl;rw[hpl rfl] at ha ⊢;refine aA ?_
 by_cases c1:parts < 1
 ·rw[dTr c1,if_pos (.inl c1),show acR (([],3):List Ac×Int).1=[] from rfl]
  refine aA ?_;exact aG.w
 rw[dFa c1];refine aA ?_;refine AWP.condN (64 < parts) rfl rfl (fun c2=>?_) (fun c2=>?_)
 ·rw[if_pos (.inr c2),show acR (([],3):List Ac×Int).1=[] from rfl]
  refine aA ?_;exact aG.w
 rw[if_neg (by omega)]
 obtain⟨N,rfl⟩:∃ N:Nat,parts=N:=⟨parts.toNat,by omega⟩
 rw[Int.toNat_natCast];have hpn:=G4 (psN l)
 have hps:(psN l).length=l.length:=by simp[psN]
 refine aA ?_;have hb0:List.replicate 65536 [uv 0]=bys (List.replicate 65536 0):=OQ 65536;have hd0:List.replicate 65536 [bv false]=blR (List.replicate 65536 false):=P0 65536;have f1:(List.replicate 65536 0:List Nat).length=65536:=List.length_replicate;have f2:(List.replicate 65536 false).length=65536:=List.length_replicate
 have f3:∀ y,(List.replicate 65536 0:List Nat).getD y 0=0:=fun y=>by
  rw[List.getD_eq_getElem?_getD,List.getElem?_replicate]
  split<;>rfl
 have f4:∀ y,gB (List.replicate 65536 false) y=false:=fun y=>TU 65536 y
 generalize hf0:(List.replicate 65536 0:List Nat)=f0 at *;generalize hbb:(List.replicate 65536 false)=b0 at *;refine AWP.loop (fun i:Nat=>[(0,.list 19 (rqs l)),(1,iv N),(6,.list 1 (plN (psN l))),(8,.hsl 0 0 0 65536),(9,.hsl 1 0 0 65536),(10,iv (loP ((WL l i 0).map (·.1)))),(11,iv (hiP ((WL l i 0).map (·.1)))),(12,iv i)]) (fun i=>PT f0 b0 (WL l i 0)) (fun i=>i≤(psN l).length) (fun i=>(psN l).length - i) 0 (nZl _) ?_ ?_
 ·show Sub _ _ _ _ [(0,.list 19 (rqs l)),(1,iv N),(6,.list 1 (plN (psN l))),(8,.hsl 0 0 0 65536),(9,.hsl 1 0 0 65536),(10,iv 65536),(11,iv 0),(12,iv 0)] [[.cells 1 (bys f0)],[.cells 1 (blR b0)]]
  exact Sub.wl [] [[(0,0)],[(1,0)]]
 rintro i hi;refine aA ?_;rw[hpn];refine AWP.condN (i < (psN l).length) rfl rfl (fun h=>?_) (fun h=>?_)
 ·have hr:=M9 (psN l) i h
  have hil:i < l.length:=by omega
  obtain⟨q1,q2⟩:=g.len i hil;have hds:=g.ds i hil;have hnx:=P9 l i ((psN l).getD i []).length (by rw[List.length_zip]; omega)
  have hbd:=fun j=>WL_bd g i j hil
  have hsc:=fun j x b=>@OV l i j x b
  obtain⟨c0,c1',c2',c3,c4,c5,c6,c7,c8,c9,c10,c11,c12,c13,c14,c15,c16,hrow⟩:=CR (hl l[i] (gMe _));have hr2:=rL l i hil;rw[hrow] at hr2;rw[hds] at hsc;have hqb:=g.bd i;rw[show(psN l)[i]=(psN l).getD i [] by simp[h]] at hr;generalize (psN l).getD i []=q at *;generalize l[i].data=d at *;generalize l[i].off=off at *;have hql:=uF q;refine aA ?_;refine AWP.loop (fun j:Nat=>[(0,.list 19 (rqs l)),(1,iv N),(6,.list 1 (plN (psN l))),(8,.hsl 0 0 0 65536),(9,.hsl 1 0 0 65536),(10,iv (loP ((WL l i j).map (·.1)))),(11,iv (hiP ((WL l i j).map (·.1)))),(12,iv i),(13,iv j)]) (fun j=>PT f0 b0 (WL l i j)) (fun j=>j≤q.length) (fun j=>q.length - j) 0 (nZl _) ?_ ?_
  ·unfold PT
   exact Sub.wl [] [[(0,0)],[(1,0)]]
  rintro j hj;unfold PT
  have hfn:(bys (mkF f0 (WL l i j))).length=65536:=by rw[iX,uJ,f1]
  have hhn:(blR (mkB b0 ((WL l i j).map (·.1)))).length=65536:=by rw[HG,uL,f2]
  have hlh:=GF _ ((WL l i j).map (·.1)) rfl fun x hx=>by
   obtain⟨y,hy,rfl⟩:=List.mem_map.1 hx;exact hbd j y hy
  obtain⟨lb1,lb2,_,_⟩:=hlh;refine aA ?_;rw[hql];refine AWP.condN (j < q.length) rfl rfl (fun h2=>?_) (fun h2=>?_)
  ·have hr3:=uX q j h2
   have hr4:=zQ d j (by omega);have hs:=hsc j q[j] (d[j]'(by omega)) (gEg h2) (gEg _);have hxb:=hqb q[j] (gMe _);generalize q[j]=x at *;generalize d[j]'(by omega)=b at *
   obtain⟨v5,r5⟩:∃ v,(bys (mkF f0 (WL l i j)))[x]?=some [uv v]:=⟨_,by rw[← lC]; exact zQ _ x (by rw[uJ,f1]; exact hxb)⟩
   obtain⟨v6,r6⟩:∃ v,(blR (mkB b0 ((WL l i j).map (·.1))))[x]?=some [bv v]:=⟨_,by rw[← lC]; exact K9 _ x (by rw[uL,f2]; exact hxb)⟩
   have hz8:(bys (mkF f0 (WL l i j))).set x [uv b]=bys (mkF f0 (WL l i j++[(x,b)])):=by
    rw[K5];unfold bys;rw[List.map_set]
   have hz9:(blR (mkB b0 ((WL l i j).map (·.1)))).set x [bv true]=blR (mkB b0 ((WL l i j++[(x,b)]).map (·.1))):=by
    rw[List.map_append,List.map_cons,List.map_nil,MX];unfold blR;rw[List.map_set]
   have hz6:loP ((WL l i j++[(x,b)]).map (·.1))=min (loP ((WL l i j).map (·.1))) x:=by rw[List.map_append]; exact CX _ _
   have hz7:hiP ((WL l i j++[(x,b)]).map (·.1))=max (hiP ((WL l i j).map (·.1))) (x+1):=by rw[List.map_append]; exact DH _ _
   refine aA ?_;refine⟨j+1,by omega,by omega,?_⟩;rw[hs,hz6,hz7];exact Sub.wl [] [[(0,0)],[(1,0)]]
  ·obtain rfl:q.length=j:=by omega
   refine aA ?_;refine⟨i+1,by omega,by omega,?_⟩;rw[← hnx];exact Sub.wl [] [[(0,0)],[(1,0)]]
 ·obtain rfl:(psN l).length=i:=by omega
  have hwb:∀ y∈WL l (psN l).length 0,y.1 < 65536:=fun y hy=>by
   rw[z6,hps] at hy;exact(nA g l.length (Nat.le_refl _)).2 y hy
  have hbm:bmF l=dT [] (WL l (psN l).length 0):=by rw[z6,hps]; rfl
  rw[hbm];generalize WL l (psN l).length 0=w at *;refine AWP.exit ?_
  by_cases hw:w=[]
  ·subst hw
   rw[show dT [] ([]:List (Nat×Nat))=[] from rfl,BI,show acR (([],0):List Ac×Int).1=[] from rfl];have e1:loP (([]:List (Nat×Nat)).map (·.1))=65536:=rfl;have e2:hiP (([]:List (Nat×Nat)).map (·.1))=0:=rfl;rw[e1,e2];refine AWP.sub ?_ (H7 (N:=N) (f:=mkF f0 []) (h:=mkB b0 (([]:List (Nat×Nat)).map (·.1))) (by omega) (by omega));exact Sub.wl [] [[(0,0)],[(1,0)]]
  ·have hlh:=GF _ (w.map (·.1)) rfl fun x hx=>by
    obtain⟨y,hy,rfl⟩:=List.mem_map.1 hx;exact hwb y hy
   obtain⟨l1,l2,l3,l4⟩:=hlh;obtain⟨l4,m,l5,l6⟩:=l4 (by simpa using hw);have l7:=l3 m l5
   have hgb:∀ y,y < 65536→(gB (mkB b0 (w.map (·.1))) y=true↔y∈w.map (·.1)):=fun y hy=>by
    rw[HR _ b0 y (by rw[f2]; exact hy),f4];simp
   have hcd:=OY hwb hw N (by omega) (mkB b0 (w.map (·.1))) hgb
   have ht:=IV (N:=N) (lo:=loP (w.map (·.1))) (hi:=hiP (w.map (·.1))) (f:=mkF f0 w) (h:=mkB b0 (w.map (·.1))) (bm:=dT [] w) (by omega) (by omega) (by omega) l2 (by rw[uJ,f1]) (by rw[uL,f2]) (fun y hy=>HA w f0 [] (fun y _=>by rw[f3]; rfl) y (by rw[f1]; exact hy)) (fun y hy=>by
    rw[Bool.eq_false_iff];intro q;have:=(l3 y ((hgb y (by omega)).1 q)).1
    omega)
   rw[hcd] at ht;refine AWP.sub ?_ ht;exact Sub.wl [] [[(0,0)],[(1,0)]]
theorem OR (l:List Ac):(acR l).length=l.length:=by simp[acR]
theorem TE (l:List Ac) (k:Nat) (h:k < l.length):dO (acR l) (k:Int)=some [iv l[k].1,iv l[k].2.1,.list 1 (bys l[k].2.2)]:=eD acF l k h
def ST (l:List Nat):ByteArray:=iF .empty (l.map UInt8.ofNat)
theorem tP:∀ l:List Nat,n9 (bys l)=some (l.map UInt8.ofNat)
 | []=>rfl
 | b::l=>by
  show(match n9 (bys l) with | some m=>some (UInt8.ofNat ((b:Int).toNat)::m) | none=>none)=_;rw[tP l,Int.toNat_natCast];rfl
theorem yM {g i:Nat} {fr:Fr} {H:Heap} {x:Operand} {l:List Nat} (hx:ev fr x=.list 1 (bys l)):aD g i (.xop .bstr [x]) fr H=some (.sc (.string (ST l)),H):=by
 simp only[aD,avals,List.map_cons,List.map_nil,hx,oO,fP,dZ,tP];rfl
theorem IL (l:List Ac) (hl:l.length≤1000000000):aB Tryz.prog 34 [.list 3 (acR l),.list 3 (acR l)] (bv true):=by
 refine aB.mkI cF34 (nlB rfl) ?_;have hel:=OR l;refine aA ?_;rw[show(!decide ((acR l).length=(acR l).length))=false by simp];refine aA ?_;refine AWP.loop (fun i:Nat=>[(0,.list 3 (acR l)),(1,.list 3 (acR l)),(5,iv i)]) (fun _=>[]) (fun i=>i≤l.length) (fun i=>l.length - i) 0 (nZl _) ?_ ?_
 ·exact Sub.wl [] []
 rintro i hi;refine aA ?_;rw[hel];refine AWP.condN (i < l.length) rfl rfl (fun h=>?_) (fun h=>?_)
 ·have hr:=TE l i h
  generalize l[i].1=a1 at *;generalize l[i].2.1=a2 at *;generalize l[i].2.2=a3 at *;refine aA ?_;rw[show(!decide (a1=a1))=false by simp];refine aA ?_;rw[show(!decide (a2=a2))=false by simp];refine aA ?_;refine DK.o rfl (yM rfl) ?_;refine aA ?_;refine DK.o rfl (yM rfl) ?_;refine aA ?_;rw[show(!(ST a3).toList == (ST a3).toList)=false by simp];refine DK.nil ⟨by kernel_rfl,?_⟩;refine aA ?_;refine⟨i+1,by omega,by omega,?_⟩;exact Sub.wl [] []
 ·refine aA ?_
  exact aG.w
def AE (r:Rq):Bool:=aX 3 r.e && aX 3 r.o && !decide (0 < r.data.length)
def BY (l:List Rq):List Rq×Bool:=if l.all AE=true then(l,true) else([],false)
theorem O6 {l:List Rq} (hk:∀ r∈l,r.kn) (hn:64 < l.length) (hn2:l.length≤70):aB Tryz.prog 31 [.list 19 (rqs l)] (.tup [.list 19 (rqs (BY l).1),bv (BY l).2]):=by
 refine aB.mkI TN (nlB rfl) ?_;have hll:=lZ l;refine aA ?_;rw[hll,dTr (show 12 < l.length by omega)];refine aA ?_;rw[hll,dFa (show¬ l.length≤64 by omega)];refine aA ?_;rw[hll,dFa (show¬ 70 < l.length by omega)];refine aA ?_;refine AWP.loop (fun i:Nat=>[(0,.list 19 (rqs l)),(4,.hsl 0 0 0 i),(5,iv i)]) (fun i=>[[.cells 19 (rqs (l.take i))]]) (fun i=>i≤l.length∧∀ j (h:j < l.length),j < i→AE l[j]=true) (fun i=>l.length - i) 0 ⟨nZl _,fun j _ h=>absurd h (Nat.not_lt_zero j)⟩ ?_ ?_
 ·exact Sub.wl [19] [[(0,0)]]
 rintro i ⟨hi,hg⟩;refine aA ?_;rw[hll];refine AWP.condN (i < l.length) rfl rfl (fun h=>?_) (fun h=>?_)
 ·have hr:=rL l i h
  have hki:=hk l[i] (gMe _);have hv:=G9 (a:=l[i].at') hki.1 hki.2
  have hbad:AE l[i]=false→BY l=([],false):=fun hb=>by
   unfold BY;rw[if_neg];intro q;have:=List.all_eq_true.1 q l[i] (gMe _);rw[hb] at this
   cases this
  have hgi:AE l[i]=true→∀ j (h:j < l.length),j < i+1→AE l[j]=true:=fun h0 j hj hlt=>by
   rcases Nat.lt_or_ge j i with q | q
   ·exact hg j hj q
   ·obtain rfl:j=i:=by omega
    exact h0
  have htk:rqs (l.take (i+1))=rqs (l.take i)++[rqR l[i]]:=by
   unfold rqs;rw[List.take_add_one,gEg h,List.map_append];rfl
  have htl:(rqs (l.take i)).length=i:=by rw[lZ,List.length_take]; omega
  have hfb:AE l[i]=(aX 3 l[i].e && aX 3 l[i].o && !decide (0 < l[i].data.length)):=rfl;generalize hq:l[i]=q at *;clear hq;obtain⟨a,t1,t2,off,data⟩:=q;obtain⟨he,ho⟩:=hki;obtain⟨k1,c1,b1,s1,z1,l1,p1,f1,rfl⟩:=iP he;obtain⟨k2,c2,b2,s2,z2,l2,p2,f2,rfl⟩:=iP ho;simp only at hfb hv;generalize aX 3 (Ty.mk k1 c1 b1 s1 z1 l1 p1 f1)=g1 at *;generalize aX 3 (Ty.mk k2 c2 b2 s2 z2 l2 p2 f2)=g2 at *
  have e0:vwR a (Ty.mk k1 c1 b1 s1 z1 l1 p1 f1) (Ty.mk k2 c2 b2 s2 z2 l2 p2 f2)=[iv a,iv k1,iv c1,iv b1,iv s1,.list 1 (inR z1),.list 1 (inR l1),.list 1 (inR p1),.list 8 (aM f1),iv k2,iv c2,iv b2,iv s2,.list 1 (inR z2),.list 1 (inR l2),.list 1 (inR p2),.list 8 (aM f2)]:=by unfold vwR; rw[tyR,tyR]; rfl
  have e1:rqR ⟨a,Ty.mk k1 c1 b1 s1 z1 l1 p1 f1,Ty.mk k2 c2 b2 s2 z2 l2 p2 f2,off,data⟩=[iv a,iv k1,iv c1,iv b1,iv s1,.list 1 (inR z1),.list 1 (inR l1),.list 1 (inR p1),.list 8 (aM f1),iv k2,iv c2,iv b2,iv s2,.list 1 (inR z2),.list 1 (inR l2),.list 1 (inR p2),.list 8 (aM f2),iv off,.list 1 (bys data)]:=by unfold rqR; rw[e0]; rfl
  rw[e1] at hr htk;rw[e0] at hv;generalize (g1 && g2)=is at *;generalize AE ⟨a,Ty.mk k1 c1 b1 s1 z1 l1 p1 f1,Ty.mk k2 c2 b2 s2 z2 l2 p2 f2,off,data⟩=fb at *;have hbl:=iX data;clear e0 e1 he ho;refine aA ?_;rw[hbl]
  cases is with
  | false=>
   (rw[hbad (by rw[hfb]; rfl),show rqs (([],false):List Rq×Bool).1=[] from rfl]; refine aA ?_; exact aG.w)
  | true=>
  rw[Bool.true_and] at hfb
  by_cases n0:0 < data.length
  ·rw[dTr n0] at hfb
   refine aA ?_
   by_cases n1:300 < data.length
   ·rw[dTr n1]
    refine aA ?_
    by_cases n2:data.length≤4096
    ·rw[dTr n2]
     (rw[hbad (by rw[hfb]; rfl),show rqs (([],false):List Rq×Bool).1=[] from rfl]; refine aA ?_; exact aG.w)
    ·rw[dFa n2]
     refine aA ?_
     by_cases n3:5000 < data.length
     ·rw[dTr n3]
      (rw[hbad (by rw[hfb]; rfl),show rqs (([],false):List Rq×Bool).1=[] from rfl]; refine aA ?_; exact aG.w)
     ·rw[dFa n3]
      refine aA ?_;rw[hll,dTr (show 12 < l.length by omega)];refine aA ?_;rw[dTr n0]
      (rw[hbad (by rw[hfb]; rfl),show rqs (([],false):List Rq×Bool).1=[] from rfl]; refine aA ?_; exact aG.w)
   ·rw[dFa n1]
    refine aA ?_;rw[hll,dTr (show 12 < l.length by omega)];refine aA ?_;rw[dTr n0]
    (rw[hbad (by rw[hfb]; rfl),show rqs (([],false):List Rq×Bool).1=[] from rfl]; refine aA ?_; exact aG.w)
  ·rw[dFa n0] at hfb
   refine aA ?_;rw[dFa (show¬ 300 < data.length by omega)];refine aA ?_;rw[hll,dTr (show 12 < l.length by omega)];refine aA ?_;rw[dFa n0];refine aA ?_;refine DK.nil ⟨by kernel_rfl,?_⟩;refine aA ?_;refine⟨i+1,⟨by omega,hgi (by rw[hfb]; rfl)⟩,by omega,?_⟩;rw[htk];exact Sub.wl [] [[(2,14)]]
 ·obtain rfl:l.length=i:=by omega
  have:BY l=(l,true):=by
   unfold BY;rw[if_pos];rw[List.all_eq_true];intro r hr;obtain⟨j,hj,rfl⟩:=List.mem_iff_getElem.1 hr;exact hg j hj hj
  rw[this,List.take_length];refine aA ?_;exact aG.w
def EI (l:List Rq):List Rq×Bool:=if l.length≤12 then A5 l else if 64 < l.length∧l.length≤70 then BY l else([],false)
theorem PX {l:List Rq} (hk:∀ r∈l,r.kn) (hn:l.length≤9223372036854775807):aB Tryz.prog 31 [.list 19 (rqs l)] (.tup [.list 19 (rqs (EI l).1),bv (EI l).2]):=by
 unfold EI
 by_cases c1:l.length≤12
 ·rw[if_pos c1]
  exact P1 hk c1
 rw[if_neg c1]
 by_cases c2:64 < l.length∧l.length≤70
 ·rw[if_pos c2]
  exact O6 hk c2.1 c2.2
 rw[if_neg c2];refine aB.mkI TN (nlB rfl) ?_;have hll:=lZ l;rw[show rqs (([],false):List Rq×Bool).1=[] from rfl];refine aA ?_;rw[hll,dTr (show 12 < l.length by omega)];refine aA ?_;rw[hll]
 by_cases h64:l.length≤64
 ·rw[dTr h64]
  refine aA ?_;exact aG.w
 ·rw[dFa h64]
  refine aA ?_;rw[hll,dTr (show 70 < l.length by omega)];refine aA ?_;exact aG.w
theorem MU {l:List Rq} {parts:Int} (hl:∀ r∈l,r.ok):(zW l parts).1.length≤1000000000:=by
 unfold zW
 by_cases h:(kU l).2≠0
 ·rw[if_pos h]; exact nZl _
 rw[if_neg h];have g:=AP hl (dBc h);split
 ·exact nZl _
 ·have hb:=(N1 g).1
  show(gX _ _ _ _).length≤_;have h1:=FV (((gI (bmF l)).getLastD 0 - (gI (bmF l)).headD 0+parts.toNat) / parts.toNat) ((gI (bmF l)).headD 0) (bmF l) (gI (bmF l)) []
  have h2:(gI (bmF l)).length=(bmF l).length:=by unfold gI; rw[List.length_mergeSort,List.length_map]
  unfold gX;simp only[List.length_nil] at h1;omega
theorem LO {l:List Rq} (ho:∀ r∈l,r.off < 9223372036854775808) (h:(EI l).2=true):(EI l).1=l∧l.length≤70∧∀ r∈l,r.ok:=by
 unfold EI at h ⊢
 by_cases c1:l.length≤12
 ·rw[if_pos c1] at h ⊢
  unfold A5 at h ⊢
  by_cases c2:l.all zO=true
  ·rw[if_pos c2]
   refine⟨rfl,by omega,fun r hr=>?_⟩;have:=List.all_eq_true.1 c2 r hr;unfold zO at this;simp only[bAe,Bool.not_eq_true',Bool.and_eq_false_iff,Bool.or_eq_false_iff,decide_eq_false_iff_not] at this;exact⟨this.1.1,this.1.2,ho r hr,by omega⟩
  ·rw[if_neg c2] at h; cases h
 rw[if_neg c1] at h ⊢
 by_cases c2:64 < l.length∧l.length≤70
 ·rw[if_pos c2] at h ⊢
  unfold BY at h ⊢
  by_cases c3:l.all AE=true
  ·rw[if_pos c3]
   refine⟨rfl,by omega,fun r hr=>?_⟩;have:=List.all_eq_true.1 c3 r hr;unfold AE at this;simp only[bAe,Bool.not_eq_true',decide_eq_false_iff_not] at this;exact⟨this.1.1,this.1.2,ho r hr,by omega⟩
  ·rw[if_neg c3] at h; cases h
 ·rw[if_neg c2] at h; cases h
theorem DA {l:List Rq} {parts:Int} (hk:∀ r∈l,r.kn) (ho:∀ r∈l,r.off < 9223372036854775808) (hn:l.length≤9223372036854775807):aB Tryz.prog 6 [.list 19 (rqs l),iv parts] (bv true):=by
 refine aB.mkI cF6 (nlB rfl) ?_;have hw:=works_ok;have hr:=PX hk hn;have hinv:=LO ho
 have hc:=fun h h2=>@TW l parts h h2
 have hrc:=fun h h2=>@QU l parts h h2
 have hlen:=@MU l parts;generalize EI l=z at *;obtain⟨l2,g⟩:=z;simp only at hr hinv
 cases g with
 | false=>
  refine aA ?_;exact aG.w
 | true=>
  obtain⟨rfl,h70,hok⟩:=hinv rfl;have hc:=hc hok (by omega);have hrc:=hrc hok (by omega);have hsa:=IL _ (hlen hok);generalize zW l2 parts=q at *;obtain⟨A,e⟩:=q;simp only at hc hrc hsa;refine aA ?_;rw[show(e == e)=true by simp];refine aA ?_;exact aG.w
def TyS:Nat→List Sh
 | 0=>[.int .i64,.int .i64,.int .i64,.int .i64,.slice [.int .i64],.slice [.int .i64],.slice [.int .i64],.any]
 | m+1=>[.int .i64,.int .i64,.int .i64,.int .i64,.slice [.int .i64],.slice [.int .i64],.slice [.int .i64],.slice (TyS m)]
theorem zK:∀(m:Nat) (r:List AV),r.length=(TyS m).length→(∀(j:Nat) s c,(TyS m)[j]?=some s→r[j]?=some c→Fit s c)→∃ t,r=tyR t∧nG m t
 | 0,r,hl,hf=>by
  match r,hl with
  | [x0,x1,x2,x3,x4,x5,x6,x7],_=>
   obtain⟨k,rfl,_⟩:=eS (hf 0 _ x0 rfl rfl);obtain⟨c,rfl,_⟩:=eS (hf 1 _ x1 rfl rfl);obtain⟨b,rfl,_⟩:=eS (hf 2 _ x2 rfl rfl);obtain⟨s,rfl,_⟩:=eS (hf 3 _ x3 rfl rfl);obtain⟨sz,rfl,_⟩:=iR (hf 4 _ x4 rfl rfl);obtain⟨bl,rfl,_⟩:=iR (hf 5 _ x5 rfl rfl);obtain⟨pl,rfl,_⟩:=iR (hf 6 _ x6 rfl rfl);have h7:=hf 7 _ x7 rfl rfl
   cases h7
   exact⟨.raw k c b s sz bl pl,by rw[tyR]; rfl,trivial⟩
 | m+1,r,hl,hf=>by
  match r,hl with
  | [x0,x1,x2,x3,x4,x5,x6,x7],_=>
   obtain⟨k,rfl,_⟩:=eS (hf 0 _ x0 rfl rfl);obtain⟨c,rfl,_⟩:=eS (hf 1 _ x1 rfl rfl);obtain⟨b,rfl,_⟩:=eS (hf 2 _ x2 rfl rfl);obtain⟨s,rfl,_⟩:=eS (hf 3 _ x3 rfl rfl);obtain⟨sz,rfl,_⟩:=iR (hf 4 _ x4 rfl rfl);obtain⟨bl,rfl,_⟩:=iR (hf 5 _ x5 rfl rfl);obtain⟨pl,rfl,_⟩:=iR (hf 6 _ x6 rfl rfl)
   obtain⟨of,rfl,_,ho⟩:=nZ (hf 7 _ x7 rfl rfl) tyR (nG m) fun r hl hf=>zK m r hl hf
   refine⟨.mk k c b s sz bl pl of,?_,ho⟩;rw[tyR,nE]
   cases m<;>rfl
theorem v8:∀(n:Nat) (t:Ty),nG (n+1) t→nG n t
 | 0,_,_=>trivial
 | _+1,.raw ..,h=>h.elim
 | n+1,.mk ..,h=>fun u hu=>v8 n u (h u hu)
theorem PI:Tryz.prog.underlying 4=some .bool:=by kernel_rfl
theorem MG:laidOutB Tryz.prog=true:=by kernel_rfl
theorem NN:mapsRowed Tryz.prog=true:=by kernel_rfl
theorem D9:∀ t e,t < Tryz.prog.types.size→Tryz.prog.underlying t=some (.slice e)→0 < Tryz.prog.cellsOf e:=slices_full_of Tryz.prog (by kernel_rfl)
theorem PN:ownKnob Tryz.prog.godebug=none:=by kernel_rfl
end Go.Proofs.YtgdocflpobncmaaGreat
