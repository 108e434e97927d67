import Derived.Test.YtgdocflpobncmaaGreatGAvF
import Derived.Test.YtgdocflpobncmaaGreatGAvI
import Derived.Test.YtgdocflpobncmaaGreatGAvP
import Derived.Test.YtgdocflpobncmaaGreatGAvE1
namespace Go.Av
inductive pZ:AV→Prop
 | undef:pZ .undef
 | sc (v:Value):pZ (.sc v)
 | agg (cs:List AV) (h:∀ c∈cs,pZ c):pZ (.agg cs)
 | tup (cs:List AV) (h:∀ c∈cs,pZ c):pZ (.tup cs)
 | ptr (g i r o:Nat):pZ (.ptr g i r o)
 | hsl (g i s l:Nat):pZ (.hsl g i s l)
 | mref (g i:Nat):pZ (.mref g i)
theorem Rep.anyM {M J} {a:AV} {v:Value} (h:Rep M J a v) (hb:pZ a) (M':Mem):Rep M' J a v:=by
 induction hb generalizing v with
 | undef=>cases h; exact .undef _
 | sc v=>cases h; exact .sc _
 | agg cs _ ih=>
  cases h with
  | agg _ cvs hl hr=>exact .agg _ cvs hl fun j c v a b=>ih c (List.mem_of_getElem? a) (hr j c v a b)
 | tup cs _ ih=>
  cases h with
  | tup _ cvs hl hr=>exact .tup _ cvs hl fun j c v a b=>ih c (List.mem_of_getElem? a) (hr j c v a b)
 | ptr g i r o=>cases h with | ptr _ _ _ _ β l hJ hb=>exact .ptr _ _ _ _ β l hJ hb
 | hsl g i s l=>
  cases h with
  | hsl _ _ _ _ cap β l hJ hb hc hlc=>exact .hsl _ _ _ _ cap β l hJ hb hc hlc
  | hslNil _ _ a l hJ hb=>exact .hslNil _ _ a l hJ hb
 | mref g i=>cases h with | mref _ _ β l hJ hb=>exact .mref _ _ β l hJ hb
def K3:Blk→Prop
 | .dead=>True
 | .cells _ rows=>∀ r∈rows,∀ c∈r,pZ c
 | _=>False
theorem eO.anyM {M J} {l:Loc} {h:Array Obj} {x:Blk} (hb:eO M J l h x) (hx:K3 x) (M':Mem):eO M' J l h x:=by
 cases x with
 | dead=>trivial
 | cells sz rows=>
  obtain⟨h1,h2,h3⟩:=hb
  refine⟨h1,h2,?_⟩
  cases e:l.blk with
  | none=>rw[e] at h3; exact h3
  | some β=>
   rw[e] at h3
   obtain⟨cs,t,a,b,c,o,d⟩:=h3
   exact⟨cs,t,a,b,c,o,fun i r j c v x y z=>(d i r j c v x y z).anyM (hx r (List.mem_of_getElem? x) c (List.mem_of_getElem? y)) M'⟩
 | _=>exact hx.elim
theorem aD.viewF {P:Program} {f:FuncId} {args args':List AV} {R R':AV→Heap→Prop} {H:Heap} (h:aD P f args' [] R) (ha:ToL (ToT (H++gh []) H.length (cH [])) (rho []) args args')
  (hR:∀ res H0,R res H0→pZ res∧(∀ g i x,hget H0 g i=some x→K3 x)∧∃ res' H0',Ren (beh H.length) res res'∧(∀ g i x',hget H0' g i=some x'→x'.live=true→∃ x,hget H0 g i=some x∧bJ (beh H.length) x x')∧(∀ g i,(hget H0 g i).isSome→(hget H0' g i).isSome)∧R' res' (H++H0')):aD P f args H R':=by
 refine⟨h.1,fun M J w cargs hl hr hH hM=>?_⟩
 obtain⟨h1,h2⟩:=ha.spec
 obtain⟨M1,J1,s1,t1⟩:=qM (k:=0) (szs:=[]) (ids:=[]) (H':=[]) hH hM rfl rfl rfl trivial
 refine(h.2 M1 J1 w cargs (by omega) (fun j c x a b=>?_) s1.hrep s1.mrep).mono ?_
 ·obtain⟨c0,hc0⟩:=aS h1 a
  exact t1 _ _ _ (h2 j c0 c hc0 a) (hr j c0 x hc0 b)
 rintro e w' ⟨cv,M',J',res,H0,rfl,hs,hrep,hr0⟩
 obtain⟨b1,b2,res',H0',r1,r2,r3,r4⟩:=hR res H0 hr0
 have hno:∀ g i,¬ aL [] g i:=by
  rintro g i ⟨x,hx,_⟩
  simp[hget] at hx
 have hsame:∀(β:Nat) o,w.heap[β]?=some o→w'.heap[β]?=some o:=fun β o ho=>hs.frame β o ho fun g i l hl _=>absurd hl (hno g i)
 let J2:Inj:=fun a b=>if a < H.length then J a b else J' (a - H.length) b
 have hJlt:∀ g i l,J g i=some l→g < H.length:=fun g i l hJ=>c8 ((hH.dom g i l hJ).1)
 have x1:Ext M J M J2:=⟨fun _ _ h=>h,fun g i l hJ=>by
  show(if g < H.length then J g i else J' (g - H.length) i)=some l
  rw[if_pos (hJlt g i l hJ)]; exact hJ⟩
 have x2:Ext M (J'.via (beh H.length)) M J2:=⟨fun _ _ h=>h,fun a b l hJ=>by
  show(if a < H.length then J a b else J' (a - H.length) b)=some l
  by_cases hlt:a < H.length
  ·unfold Inj.via at hJ
   rw[GE hlt] at hJ
   cases hJ
  ·rw[if_neg hlt]
   unfold Inj.via at hJ
   rw[sR (by omega)] at hJ
   exact hJ⟩
 have hl1:∀ a b,a < H.length→aL (H++H0') a b→aL H a b:=by
  rintro a b hlt ⟨x,hx,hxl⟩
  rw[b7 hlt] at hx
  exact⟨x,hx,hxl⟩
 have hl2:∀ a b,H.length≤a→aL (H++H0') a b→aL H0 (a - H.length) b:=by
  rintro a b hge ⟨x,hx,hxl⟩
  rw[bZ hge] at hx
  obtain⟨y,hy,hb⟩:=r2 _ _ x hx hxl
  exact⟨y,hy,hb.live hxl⟩
 have j1:∀ {a b:Nat} {l:Loc},a < H.length→J2 a b=some l→J a b=some l:=fun {a b l} hlt hJ=>by
  have:(if a < H.length then J a b else J' (a - H.length) b)=some l:=hJ
  rwa[if_pos hlt] at this
 have j2:∀ {a b:Nat} {l:Loc},H.length≤a→J2 a b=some l→J' (a - H.length) b=some l:=fun {a b l} hge hJ=>by
  have:(if a < H.length then J a b else J' (a - H.length) b)=some l:=hJ
  rwa[if_neg (by omega)] at this
 have hnew:∀ g i l β,aL H0 g i→J' g i=some l→l.blk=some β→w.heap.size≤β:=fun g i l β a b c=>by
  rcases hs.live g i l β a b c with⟨g0,i0,l0,q,_⟩ | q
  ·exact absurd q (hno g0 i0)
  ·exact q
 refine⟨cv,M,J2,res',H++H0',rfl,⟨fun _ _ h=>h,fun g i l hg hJ=>x1.j g i l hJ,⟨?_,?_,?_,?_⟩,fun β o ho=>hsame β o (hM β o ho),hs.os,hs.tape,hs.output,hs.size,fun β o ho _=>hsame β o ho,fun β o ho=>.inl ho,?_,hs.bk⟩,((hrep.anyM b1 M).ren r1).ext x2,r4⟩
 ·intro a b x hx hxl
  by_cases hlt:a < H.length
  ·rw[b7 hlt] at hx
   obtain⟨l,p,q⟩:=hH.blk a b x hx hxl
   refine⟨l,x1.j a b l p,q.ext x1 fun β hβ=>?_⟩
   have hb:=(hH.dom a b l p).2 β hβ
   rw[Array.getElem?_eq_getElem hb]
   exact hsame β _ (Array.getElem?_eq_getElem hb)
  ·rw[bZ (by omega)] at hx
   obtain⟨y,hy,hb⟩:=r2 _ _ x hx hxl
   obtain⟨l,p,q⟩:=hs.hrep.blk _ _ y hy (hb.live hxl)
   refine⟨l,x2.j a b l ?_,((q.anyM (b2 _ _ y hy) M).ren hb).ext x2 fun β _=>rfl⟩
   unfold Inj.via
   rw[sR (by omega)]
   exact p
 ·intro a b a' b' l l' β la lb ja jb ba bb
  by_cases h1:a < H.length
  ·by_cases h2:a' < H.length
   ·exact hH.inj a b a' b' l l' β (hl1 a b h1 la) (hl1 a' b' h2 lb) (j1 h1 ja) (j1 h2 jb) ba bb
   ·have q1:=(hH.dom a b l (j1 h1 ja)).2 β ba
    have q2:=hnew _ _ l' β (hl2 a' b' (by omega) lb) (j2 (by omega) jb) bb
    omega
  ·by_cases h2:a' < H.length
   ·have q1:=(hH.dom a' b' l' (j1 h2 jb)).2 β bb
    have q2:=hnew _ _ l β (hl2 a b (by omega) la) (j2 (by omega) ja) ba
    omega
   ·have:=hs.hrep.inj _ _ _ _ l l' β (hl2 a b (by omega) la) (hl2 a' b' (by omega) lb) (j2 (by omega) ja) (j2 (by omega) jb) ba bb
    exact⟨by omega,this.2⟩
 ·intro a b l β la ja ba
  by_cases h1:a < H.length
  ·exact hH.out a b l β (hl1 a b h1 la) (j1 h1 ja) ba
  ·exact hM.lt (hnew _ _ l β (hl2 a b (by omega) la) (j2 (by omega) ja) ba)
 ·intro a b l ja
  by_cases h1:a < H.length
  ·have:=hH.dom a b l (j1 h1 ja)
   exact⟨by rw[b7 h1]; exact this.1,fun β hβ=>Nat.lt_of_lt_of_le (this.2 β hβ) hs.size⟩
  ·have:=hs.hrep.dom _ _ l (j2 (by omega) ja)
   exact⟨by rw[bZ (by omega)]; exact r3 _ _ this.1,this.2⟩
 ·intro a b l β la ja ba
  by_cases h1:a < H.length
  ·exact .inl ⟨a,b,l,hl1 a b h1 la,j1 h1 ja,ba⟩
  ·exact .inr (hnew _ _ l β (hl2 a b (by omega) la) (j2 (by omega) ja) ba)
theorem aD.viewL {P:Program} {f:FuncId} {args args':List AV} {n sz:Nat} {rows:List (List AV)} {H:Heap} (hb:∀ r∈rows,∀ c∈r,∃ v,c=.sc v) (h:aD P f args' [] fun res H'=>res=.hsl 0 0 0 n∧H'=[[.cells sz rows]]) (ha:ToL (ToT (H++gh []) H.length (cH [])) (rho []) args args'):
  aD P f args H fun res H'=>res=.hsl H.length 0 0 n∧H'=H++[[.cells sz rows]]:=by
 refine h.viewF ha ?_
 rintro res H0 ⟨rfl,rfl⟩
 refine⟨.hsl ..,fun g i x hx=>?_,.hsl H.length 0 0 n,[[.cells sz rows]],.hsl _ _ _ _ _ _ (by rw[sR (Nat.le_refl _),Nat.sub_self]),fun g i x' hx hl=>⟨x',hx,?_⟩,fun _ _ h=>h,rfl,rfl⟩
 ·match g,i with
  | 0,0=>
   injection hx with hx
   subst hx
   intro r hr c hc
   obtain⟨v,rfl⟩:=hb r hr c hc
   exact .sc v
  | 0,i+1=>simp[hget] at hx
  | g+1,i=>simp[hget] at hx
 ·match g,i with
  | 0,0=>
   injection hx with hx
   subst hx
   exact .pure _ _ fun r hr c hc=>by
    obtain⟨v,rfl⟩:=hb r hr c hc
    exact .sc v
  | 0,i+1=>simp[hget] at hx
  | g+1,i=>simp[hget] at hx
end Go.Av
namespace Go.Av
def eqV (a b:Value):Bool:=
 match a with
 | .int k n=>match b with
  | .int k' n'=>decide (k=k') && decide (n=n')
  | _=>false
 | .bool x=>match b with
  | .bool y=>match x with
   | true=>y
   | false=>!y
  | _=>false
 | .slice none 0 0=>match b with
  | .slice none 0 0=>true
  | _=>false
 | .pointer none=>match b with
  | .pointer none=>true
  | _=>false
 | .map none=>match b with
  | .map none=>true
  | _=>false
 | _=>false
theorem vU {a b:Value} (h:eqV a b=true):a=b:=by
 unfold eqV at h
 split at h
 ·split at h
  ·simp only[Bool.and_eq_true,decide_eq_true_eq] at h
   rw[h.1,h.2]
  ·cases h
 ·split at h
  ·rename_i x _ y
   cases x<;>cases y<;>first | rfl | cases h
  ·cases h
 ·split at h
  ·rfl
  ·cases h
 ·split at h
  ·rfl
  ·cases h
 ·split at h
  ·rfl
  ·cases h
 ·cases h
def eqN (a b:Nat):Bool:=Nat.beq a b
theorem cI {a b:Nat} (h:eqN a b=true):a=b:=Nat.eq_of_beq_eq_true h
mutual
def eqA:AV→AV→Bool
 | .undef,b=>match b with
  | .undef=>true
  | _=>false
 | .sc u,b=>match b with
  | .sc v=>eqV u v
  | _=>false
 | .agg l,b=>match b with
  | .agg m=>eqL l m
  | _=>false
 | .tup _,_=>false
 | .list s r,b=>match b with
  | .list s' r'=>eqN s s' && eqR r r'
  | _=>false
 | .cptr l,b=>match b with
  | .cptr m=>eqL l m
  | _=>false
 | .tmap _,_=>false
 | .ptr g i r o,b=>match b with
  | .ptr g' i' r' o'=>(eqN g g' && eqN i i') && (eqN r r' && eqN o o')
  | _=>false
 | .hsl g i r o,b=>match b with
  | .hsl g' i' r' o'=>(eqN g g' && eqN i i') && (eqN r r' && eqN o o')
  | _=>false
 | .mref g i,b=>match b with
  | .mref g' i'=>eqN g g' && eqN i i'
  | _=>false
 | .clo _ _ _,_=>false
 | .yld _ _,_=>false
 | .asl _ _ _ _ _,_=>false
 | .ifc t a,b=>match b with
  | .ifc t' b'=>eqN t t' && eqA a b'
  | _=>false
 | .one,_=>false
def eqL:List AV→List AV→Bool
 | [],m=>match m with
  | []=>true
  | _=>false
 | a::l,m=>match m with
  | b::m=>eqA a b && eqL l m
  | []=>false
def eqR:List (List AV)→List (List AV)→Bool
 | [],m=>match m with
  | []=>true
  | _=>false
 | a::l,m=>match m with
  | b::m=>eqL a b && eqR l m
  | []=>false
end
mutual
theorem oO:∀(a b:AV),eqA a b=true→a=b
 | .undef,b,h=>by
  simp only[eqA] at h
  split at h
  ·rfl
  ·cases h
 | .sc u,b,h=>by
  simp only[eqA] at h
  split at h
  ·rw[vU h]
  ·cases h
 | .agg l,b,h=>by
  simp only[eqA] at h
  split at h
  ·rw[lD l _ h]
  ·cases h
 | .tup _,_,h=>by simp only[eqA] at h; cases h
 | .list s r,b,h=>by
  simp only[eqA] at h
  split at h
  ·simp only[Bool.and_eq_true] at h
   rw[cI h.1,oL r _ h.2]
  ·cases h
 | .cptr l,b,h=>by
  simp only[eqA] at h
  split at h
  ·rw[lD l _ h]
  ·cases h
 | .tmap _,_,h=>by simp only[eqA] at h; cases h
 | .ptr g i r o,b,h=>by
  simp only[eqA] at h
  split at h
  ·simp only[Bool.and_eq_true] at h
   rw[cI h.1.1,cI h.1.2,cI h.2.1,cI h.2.2]
  ·cases h
 | .hsl g i r o,b,h=>by
  simp only[eqA] at h
  split at h
  ·simp only[Bool.and_eq_true] at h
   rw[cI h.1.1,cI h.1.2,cI h.2.1,cI h.2.2]
  ·cases h
 | .mref g i,b,h=>by
  simp only[eqA] at h
  split at h
  ·simp only[Bool.and_eq_true] at h
   rw[cI h.1,cI h.2]
  ·cases h
 | .clo _ _ _,_,h=>by simp only[eqA] at h; cases h
 | .yld _ _,_,h=>by simp only[eqA] at h; cases h
 | .asl _ _ _ _ _,_,h=>by simp only[eqA] at h; cases h
 | .ifc t a,b,h=>by
  simp only[eqA] at h
  split at h
  ·simp only[Bool.and_eq_true] at h
   rw[cI h.1,oO a _ h.2]
  ·cases h
 | .one,_,h=>by simp only[eqA] at h; cases h
theorem lD:∀(a b:List AV),eqL a b=true→a=b
 | [],b,h=>by
  simp only[eqL] at h
  split at h
  ·rfl
  ·cases h
 | a::l,m,h=>by
  simp only[eqL] at h
  split at h
  ·simp only[Bool.and_eq_true] at h
   rw[oO a _ h.1,lD l _ h.2]
  ·cases h
theorem oL:∀(a b:List (List AV)),eqR a b=true→a=b
 | [],b,h=>by
  simp only[eqR] at h
  split at h
  ·rfl
  ·cases h
 | a::l,m,h=>by
  simp only[eqR] at h
  split at h
  ·simp only[Bool.and_eq_true] at h
   rw[lD a _ h.1,oL l _ h.2]
  ·cases h
end
def eqM:List (Value×AV)→List (Value×AV)→Bool
 | [],m=>match m with
  | []=>true
  | _=>false
 | (k,a)::l,m=>match m with
  | (k',b)::m=>(eqV k k' && eqA a b) && eqM l m
  | []=>false
theorem vW:∀(a b:List (Value×AV)),eqM a b=true→a=b
 | [],b,h=>by
  simp only[eqM] at h
  split at h
  ·rfl
  ·cases h
 | (k,a)::l,m,h=>by
  simp only[eqM] at h
  split at h
  ·simp only[Bool.and_eq_true] at h
   rw[vU h.1.1,oO a _ h.1.2,vW l _ h.2]
  ·cases h
def eqB:Option Blk→Option Blk→Bool
 | none,y=>match y with
  | none=>true
  | _=>false
 | some x,y=>match y with
  | none=>false
  | some y=>match x with
   | .dead=>match y with
    | .dead=>true
    | _=>false
   | .cells s r=>match y with
    | .cells s' r'=>eqN s s' && eqR r r'
    | _=>false
   | .map es=>match y with
    | .map es'=>eqM es es'
    | _=>false
   | _=>false
theorem E3 {a b:Option Blk} (h:eqB a b=true):a=b:=by
 unfold eqB at h
 split at h
 ·split at h
  ·rfl
  ·cases h
 ·split at h
  ·cases h
  ·split at h
   ·split at h
    ·rfl
    ·cases h
   ·split at h
    ·simp only[Bool.and_eq_true] at h
     rw[cI h.1,oL _ _ h.2]
    ·cases h
   ·split at h
    ·rw[vW _ _ h]
    ·cases h
   ·cases h
def v8:List (Nat×Nat)→Heap→Heap→Bool
 | [],_,_=>true
 | q::r,H,H'=>eqB (hget H' q.1 q.2) (hget H q.1 q.2) && v8 r H H'
theorem m5 {H H':Heap}:∀(l:List (Nat×Nat)),v8 l H H'=true→dE l H H'
 | [],_=>trivial
 | q::r,h=>by
  simp only[v8,Bool.and_eq_true] at h
  exact⟨E3 h.1,m5 r h.2⟩
def K2 (cl:List Nat) (zs:List IOper):List Nat→List Nat→Option (Nat×List Nat)
 | _,[]=>none
 | A,i::B=>match zs[i]? with
  | some x=>match tD x && (A.all (fun j=>!bef cl i j && iN zs x j) && B.all (fun j=>bef cl i j || iN zs x j)) with
   | true=>some (i,A++B)
   | false=>K2 cl zs (A++[i]) B
  | none=>none
def GU (cl:List Nat) (zs:List IOper):Nat→List Nat→List (Bool×Nat)
 | 0,_=>[]
 | f+1,rem=>match rem with
  | []=>[]
  | a::r=>match K2 cl zs [] (a::r) with
   | some (i,rem')=>(true,i)::GU cl zs f rem'
   | none=>(false,a)::GU cl zs f r
noncomputable def M8 (T:FT) (x:IOper):List (Nat×Nat):=
 match x.act with
 | .op o=>KT T.evK o
 | _=>[]
theorem KJ {fr:Fr} {T:FT} (h:AgT fr T) (x:IOper):rdX fr x=M8 T x:=by
 obtain⟨d,g,a⟩:=x
 cases a with
 | op o=>
  show drd fr o=KT T.evK o
  rw[CH,h.evK]
 | _=>rfl
section
variable {P:Program} {N k:Nat} {call:bS}
theorem LD (hcall:cG P call) {x:IOper} {pr:List (Nat×Nat)} {T:FT} {H:Heap} {T':FT} {H':Heap} (h:g6 call k [x] T H=.out T' H') (hp:dE pr H H') {fr:Fr} (ha:AgT fr T):RT P k [(x,pr)] fr H fun fr' H2=>AgT fr' T'∧H2=H':=by
 obtain⟨d,gd,a⟩:=x
 replace h:GO call k d a (g6 call k []) gd T H=.out T' H':=h
 have fin:∀ {T1:FT} {H1:Heap} {fr1:Fr},g6 call k [] T1 H1=.out T' H'→AgT fr1 T1→RT P k [] fr1 H1 fun fr' H2=>AgT fr' T'∧H2=H':=fun h ha=>by
  injection h with h1 h2
  subst h1; subst h2
  exact .nil ⟨ha,rfl⟩
 have hH:∀ {T1:FT} {H1:Heap},g6 call k [] T1 H1=.out T' H'→H1=H':=fun h=>by injection h
 have act:∀ {gd:Option (Nat×Bool)},gok fr gd=some true→iI call k d (g6 call k []) a T H=.out T' H'→RT P k [(⟨d,gd,a⟩,pr)] fr H fun fr' H2=>AgT fr' T'∧H2=H':=by
  intro gd hg h
  cases a with
  | op o=>
   simp only[iI] at h
   unfold z9 at h
   split at h
   ·rename_i v H1 e
    rw[← ha.evK,bQ] at e
    obtain⟨T1,h1,h2⟩:=cV h ha
    have:=hH h2
    subst this
    exact .op (x:=⟨d,gd,.op o⟩) hg rfl (jJ e) hp (fin h2 h1)
   ·cases h
  | call f args=>
   simp only[iI] at h
   cases hb:Nat.ble k (cR H) with
   | false=>rw[hb] at h; cases h
   | true=>
    rw[hb] at h
    have hk:k≤H.length:=by rw[← bQ]; exact nlB hb
    replace h:d7 d T (g6 call k []) (call.run f (mapK T args) H)=.out T' H':=h
    unfold d7 at h
    split at h
    ·rename_i v H1 e
     obtain⟨T1,h1,h2⟩:=cV h ha
     have:=hH h2
     subst this
     refine .call (x:=⟨d,gd,.call f args⟩) (R:=fun r H2=>r=v∧H2=H1) hk hg rfl ?_ (fun res H2 hr=>by rw[hr.2]; exact hp) ?_
     ·rw[ha.mapK]
      exact hcall.run f _ H v _ e
     ·rintro res H2 ⟨rfl,rfl⟩
      exact fin h2 h1
    ·cases h
  | callV f args=>
   simp only[iI] at h
   cases hb:Nat.ble k (cR H) with
   | false=>rw[hb] at h; cases h
   | true=>
    rw[hb] at h
    have hk:k≤H.length:=by rw[← bQ]; exact nlB hb
    replace h:mW call d (mapK T args) T H (g6 call k []) (kN T f)=.out T' H':=h
    have fin2:∀ {g:FuncId} {fs cs:List AV},d7 d T (g6 call k []) (call.run g (fs++mapK T args++cs) H)=.out T' H'→evC P fr f=.clo (.func g) fs cs→RT P k [(⟨d,gd,.callV f args⟩,pr)] fr H fun fr' H2=>AgT fr' T'∧H2=H':=by
     intro g fs cs h ef
     unfold d7 at h
     split at h
     ·rename_i v H1 e
      obtain⟨T1,h1,h2⟩:=cV h ha
      have:=hH h2
      subst this
      refine .callV (x:=⟨d,gd,.callV f args⟩) (f:=f) (g:=g) (fs:=fs) (cs:=cs) (R:=fun r H2=>r=v∧H2=H1) hk hg rfl ef ?_ (fun res H2 hr=>by rw[hr.2]; exact hp) ?_
      ·rw[ha.mapK]
       exact hcall.run g _ H v _ e
      ·rintro res H2 ⟨rfl,rfl⟩
       exact fin h2 h1
     ·cases h
    unfold mW at h
    split at h
    ·rename_i g fs cs ef
     exact fin2 h (v7 ha ef)
    ·rename_i name fs cs ef
     unfold xA at h
     split at h
     ·rename_i t a
      split at h
      ·rename_i g hm
       exact fin2 (fs:=[a]) (cs:=[]) h (uC ha ef (hcall.mth _ _ _ hm))
      ·cases h
     ·cases h
    ·cases h
 cases gd with
 | none=>exact act rfl h
 | some p=>
  obtain⟨t,b⟩:=p
  rcases CF ha h with⟨h1,h2⟩ | ⟨h1,h2⟩
  ·exact act h1 h2
  ·obtain⟨T1,h3,h4⟩:=cV h2 ha
   exact .skip (x:=⟨d,some (t,b),a⟩) h1 (fin h4 h3)
noncomputable def E9 (call:bS) (k:Nat) (cl:List Nat) (zs:List IOper):List (Bool×Nat)→List (Nat×List (Nat×Nat))→FT→Heap→RR
 | [],_,T,H=>.out T H
 | (true,i)::pl,pend,T,H=>match zs[i]? with
  | some x=>match g6 call k [x] T H with
   | .out T' H'=>E9 call k cl zs pl (FL i (M8 T x) pend) T' H'
   | .stuck=>.stuck
  | none=>.stuck
 | (false,i)::pl,pend,T,H=>match zs[i]? with
  | some x=>match g6 call k [x] T H with
   | .out T' H'=>match v8 (bY cl pend i) H H' with
    | true=>E9 call k cl zs pl pend T' H'
    | false=>.stuck
   | .stuck=>.stuck
  | none=>.stuck
theorem mK (hcall:cG P call) {cl:List Nat} {zs:List IOper} {T':FT} {H':Heap} {K:Fr→Heap→Prop} (hK:∀ fr',AgT fr' T'→K fr' H'):∀(pl:List (Bool×Nat)) (pend:List (Nat×List (Nat×Nat))) (T:FT) (H:Heap) (fr:Fr),E9 call k cl zs pl pend T H=.out T' H'→AgT fr T →
  LP P k cl zs pl pend fr H K
 | [],pend,T,H,fr,h,ha=>by
  injection h with h1 h2
  subst h1; subst h2
  exact hK fr ha
 | (true,i)::pl,pend,T,H,fr,h,ha=>by
  simp only[E9] at h
  split at h
  ·rename_i x hx
   split at h
   ·rename_i T1 H1 hr
    refine⟨x,M8 T x,hx,fun q hq=>by rw[← KJ ha]; exact hq,(LD (pr:=[]) hcall hr trivial ha).mono ?_⟩
    rintro fr1 H2 ⟨ha1,rfl⟩
    exact mK hcall hK pl _ T1 _ fr1 h ha1
   ·cases h
  ·cases h
 | (false,i)::pl,pend,T,H,fr,h,ha=>by
  simp only[E9] at h
  split at h
  ·rename_i x hx
   split at h
   ·rename_i T1 H1 hr
    split at h
    ·rename_i hk
     refine⟨x,hx,(LD hcall hr (m5 _ hk) ha).mono ?_⟩
     rintro fr1 H2 ⟨ha1,rfl⟩
     exact mK hcall hK pl _ T1 _ fr1 h ha1
    ·cases h
   ·cases h
  ·cases h
noncomputable def MH (call:bS) (k:Nat) (cl:List Nat) (zs:List IOper) (af:List (List Nat)) (pl:List (Bool×Nat)) (T:FT) (H:Heap):XR:=
 match oX 0 af && okP cl zs pl (List.range zs.length) with
 | true=>(E9 call k cl zs pl [] T H).x
 | false=>.stuck
theorem BB (hp:P.follows .mixedOrders=true) (hcall:cG P call) {zs:List IOper} {af:List (List Nat)} {pl:List (Bool×Nat)} {T:FT} {H:Heap} {e:Exit} {T':FT} {H':Heap} (h:MH call k (clo af) zs af pl T H=.out e T' H') {fr:Fr} (ha:AgT fr T)
  {Q:Exit→Fr→Heap→Prop} (hQ:∀ fr',AgT fr' T'→Q e fr' H'):AWP P N k (.draw zs af) Q fr H:=by
 unfold MH at h
 split at h
 ·rename_i hb
  simp only[Bool.and_eq_true] at hb
  obtain⟨rfl,hr⟩:=RR.x_out h
  refine AWP.lin pl hp hb.1 hb.2 ?_
  exact mK hcall hQ pl [] T H fr hr ha
 ·cases h
noncomputable def BP (call:bS) (k:Nat) (zs:List IOper) (af:List (List Nat)) (T:FT) (H:Heap):XR:=
 match IC call k zs af T H with
 | .out e T' H'=>.out e T' H'
 | .stuck=>MH call k (clo af) zs af (GU (clo af) zs zs.length (List.range zs.length)) T H
theorem iE (hp:P.follows .mixedOrders=true) (hcall:cG P call) {zs:List IOper} {af:List (List Nat)} {T:FT} {H:Heap} {e:Exit} {T':FT} {H':Heap} (h:BP call k zs af T H=.out e T' H') {fr:Fr} (ha:AgT fr T)
  {Q:Exit→Fr→Heap→Prop} (hQ:∀ fr',AgT fr' T'→Q e fr' H'):AWP P N k (.draw zs af) Q fr H:=by
 unfold BP at h
 split at h
 ·rename_i e1 T1 H1 hd
  injection h with h1 h2 h3
  subst h1; subst h2; subst h3
  exact yU hp hcall hd ha hQ
 ·exact BB hp hcall h ha hQ
end
section
variable {P:Program} {N k fuel:Nat} {call:bS}
end
def fn1 (a:AV):AV:=
 match a with
 | .sc (.func (.func f) ⟨[]⟩ ⟨[]⟩)=>.clo (.func f) [] []
 | a=>a
noncomputable def fnA (l:List AV):List AV:=List.rec (motive:=fun _=>List AV) [] (fun a _ ih=>fn1 a::ih) l
theorem MU (l:List AV):fnA l=l.map fn1:=by
 induction l with
 | nil=>rfl
 | cons a l ih=>
  show fn1 a::fnA l=_
  rw[ih]
  rfl
theorem MT (a:AV):Le a (fn1 a):=by
 unfold fn1
 split
 ·exact Le.func _
 ·exact fun _ _ _ h=>h
theorem aD.fnA {P:Program} {f:FuncId} {args:List AV} {H:Heap} {R:AV→Heap→Prop} (h:aD P f (fnA args) H R):aD P f args H R:=by
 rw[MU] at h
 refine h.args (by simp) fun j a b ha hb=>?_
 rw[List.getElem?_map,ha] at hb
 injection hb with hb
 subst hb
 exact MT a
end Go.Av
namespace Go.Av
inductive FK where
 | c (ps:List (Nat×Nat))
 | w (g n:Nat) (ps:List (Nat×Nat))
 | r (g n k:Nat) (p:Nat×Nat)
def FK.l:FK→List (Nat×Nat)
 | .c ps=>ps
 | .w g n ps=>(List.range n).map (fun i=>(g,i))++ps
 | .r g n k p=>(List.range n).map fun i=>if i=k then p else(g,i)
def FK.ps:FK→List (Nat×Nat)
 | .c ps=>ps
 | .w _ _ ps=>ps
 | .r _ _ _ p=>[p]
def FK.gs:FK→List Nat
 | .c _=>[]
 | .w g _ _=>[g]
 | .r g _ _ _=>[g]
def idK (ks:List FK):List (List (Nat×Nat)):=ks.map FK.l
def dF (ks:List FK) (g i:Nat):Bool:=!(D5 (g,i) (ks.map FK.ps).flatten || (ks.map FK.gs).flatten.any fun x=>Nat.beq g x)
def BR:List Nat→Bool
 | []=>true
 | x::l=>!(l.any fun y=>Nat.beq x y) && BR l
def okK (ks:List FK):Bool:=nH (ks.map FK.ps).flatten && (BR (ks.map FK.gs).flatten && (ks.map FK.ps).flatten.all fun p=>!((ks.map FK.gs).flatten.any fun x=>Nat.beq p.1 x))
theorem qP:∀ {l:List Nat},BR l=true→l.Nodup
 | [],_=>List.nodup_nil
 | x::l,h=>by
  simp only[BR,Bool.and_eq_true,Bool.not_eq_true'] at h
  refine List.nodup_cons.2 ⟨fun hm=>?_,qP h.2⟩
  have:(l.any fun y=>Nat.beq x y)=true:=List.any_eq_true.2 ⟨x,hm,by simp⟩
  rw[this] at h
  cases h.1
theorem FK.mem {k:FK} {p:Nat×Nat} (h:p∈k.l):p∈k.ps∨p.1∈k.gs:=by
 cases k with
 | c ps=>exact .inl h
 | w g n ps=>
  rcases List.mem_append.1 h with h | h
  ·obtain⟨i,_,rfl⟩:=List.mem_map.1 h
   exact .inr (by simp[FK.gs])
  ·exact .inl h
 | r g n k p=>
  obtain⟨i,_,e⟩:=List.mem_map.1 h
  split at e
  ·exact .inl (by rw[← e]; simp[FK.ps])
  ·exact .inr (by rw[← e]; simp[FK.gs])
theorem vD {ks:List FK} (h:okK ks=true):(idK ks).flatten.Nodup:=by
 unfold okK at h
 simp only[Bool.and_eq_true] at h
 obtain⟨g1,g2,g3⟩:=h
 have h1:=lA g1
 have h2:=qP g2
 rw[List.all_eq_true] at g3
 have h3:∀ p∈(ks.map FK.ps).flatten,p.1∉(ks.map FK.gs).flatten:=fun p hp hg=>by
  have:=g3 p hp
  rw[show((ks.map FK.gs).flatten.any fun x=>Nat.beq p.1 x)=true from List.any_eq_true.2 ⟨p.1,hg,by simp⟩] at this
  cases this
 clear g1 g2 g3
 unfold idK
 induction ks with
 | nil=>exact List.nodup_nil
 | cons k ks ih=>
  simp only[List.map_cons,List.flatten_cons] at h1 h2 h3 ⊢
  obtain⟨a1,a2,a3⟩:=List.nodup_append.1 h1
  obtain⟨b1,b2,b3⟩:=List.nodup_append.1 h2
  refine List.nodup_append.2 ⟨?_,ih a2 b2 fun p hp hg=>h3 p (List.mem_append_right _ hp) (List.mem_append_right _ hg),?_⟩
  ·cases k with
   | c ps=>exact a1
   | w g n ps=>
    refine List.nodup_append.2 ⟨?_,a1,?_⟩
    ·refine List.pairwise_map.2 (List.nodup_range.imp fun hne e=>hne ?_)
     exact(Prod.mk.inj e).2
    ·rintro p hp q hq rfl
     obtain⟨i,_,rfl⟩:=List.mem_map.1 hp
     exact h3 (g,i) (List.mem_append_left _ hq) (List.mem_append_left _ (by simp[FK.gs]))
   | r g n j p=>
    have h4:=h3 p (List.mem_append_left _ (by simp[FK.ps]))
    have h5:p.1≠g:=fun e=>h4 (List.mem_append_left _ (by rw[e]; simp[FK.gs]))
    refine List.pairwise_map.2 (List.nodup_range.imp fun {a b} hne e=>hne ?_)
    split at e
    ·rename_i e1
     split at e
     ·rename_i e2
      rw[e1,e2]
     ·exact absurd (congrArg Prod.fst e) h5
    ·split at e
     ·exact absurd (congrArg Prod.fst e).symm h5
     ·exact(Prod.mk.inj e).2
  ·rintro p hp q hq rfl
   obtain⟨f,hf,hpf⟩:=List.mem_flatten.1 hq
   obtain⟨k',hk',rfl⟩:=List.mem_map.1 hf
   rcases FK.mem hp with h | h<;>rcases FK.mem hpf with h' | h'
   ·exact a3 p h p (List.mem_flatten.2 ⟨_,List.mem_map.2 ⟨k',hk',rfl⟩,h'⟩) rfl
   ·exact h3 p (List.mem_append_left _ h) (List.mem_append_right _ (List.mem_flatten.2 ⟨_,List.mem_map.2 ⟨k',hk',rfl⟩,h'⟩))
   ·exact h3 p (List.mem_append_right _ (List.mem_flatten.2 ⟨_,List.mem_map.2 ⟨k',hk',rfl⟩,h'⟩)) (List.mem_append_left _ h)
   ·exact b3 p.1 h p.1 (List.mem_flatten.2 ⟨_,List.mem_map.2 ⟨k',hk',rfl⟩,h'⟩) rfl
theorem B2 {ks:List FK} {p:Nat×Nat} (h:p∈(idK ks).flatten):dF ks p.1 p.2=false:=by
 obtain⟨f,hf,hpf⟩:=List.mem_flatten.1 h
 obtain⟨k,hk,rfl⟩:=List.mem_map.1 hf
 unfold dF
 rcases FK.mem hpf with h | h
 ·rw[x8.2 (List.mem_flatten.2 ⟨_,List.mem_map.2 ⟨k,hk,rfl⟩,h⟩)]
  rfl
 ·rw[show((ks.map FK.gs).flatten.any fun x=>Nat.beq p.1 x)=true from List.any_eq_true.2 ⟨p.1,List.mem_flatten.2 ⟨_,List.mem_map.2 ⟨k,hk,rfl⟩,h⟩,by simp⟩]
  simp
inductive mM (j:Nat) (F:List Blk):FK→Prop
 | c (ps:List (Nat×Nat)) (h:(ps.zipIdx.all fun x=>Nat.beq x.1.1 j && Nat.beq x.1.2 x.2)=true) (h':Nat.ble F.length ps.length=true):mM j F (.c ps)
 | w (n:Nat) (ps:List (Nat×Nat)) (h:F.length≤n):mM j F (.w j n ps)
def j9:Nat→Nat→List FK→Heap→Prop
 | _,0,_,_=>True
 | j,k+1,f::r,F::H=>mM j F f∧j9 (j+1) k r H
 | _,_+1,_,_=>False
theorem oE:∀(k j:Nat) {ks:List FK} {H:Heap},j9 j k ks H→∀ g i,g < k→(hget H g i).isSome→rho (idK ks) g i=some (j+g,i)
 | 0,_,_,_,_,g,_,hg,_=>by omega
 | k+1,j,[],_,h,_,_,_,_=>h.elim
 | k+1,j,_::_,[],h,_,_,_,_=>h.elim
 | k+1,j,f::r,F::H,⟨h1,h2⟩,0,i,_,hs=>by
  have hi:i < F.length:=by
   have:(F[i]?).isSome:=hs
   exact(gEs.1 (Option.isSome_iff_exists.1 this).choose_spec).1
  show f.l[i]?=some (j+0,i)
  cases h1 with
  | c ps h h'=>
   have hip:i < ps.length:=Nat.lt_of_lt_of_le hi (nlB h')
   rw[List.all_eq_true] at h
   have:=h (ps[i],i) (by rw[List.mem_zipIdx_iff_getElem?]; exact gEg hip)
   simp only[Bool.and_eq_true] at this
   show ps[i]?=_
   rw[gEg hip]
   exact congrArg some (Prod.ext (Nat.eq_of_beq_eq_true this.1) (Nat.eq_of_beq_eq_true this.2))
  | w n ps h=>
   show((List.range n).map (fun i=>(j,i))++ps)[i]?=_
   rw[List.getElem?_append_left (by simp; omega),List.getElem?_map,List.getElem?_range (by omega)]
   rfl
 | k+1,j,f::r,F::H,⟨h1,h2⟩,g+1,i,hg,hs=>by
  have:=oE k (j+1) h2 g i (by omega) hs
  rw[show j+(g+1)=j+1+g by omega]
  exact this
theorem vX {ks:List FK} {g g' n i:Nat} {ps:List (Nat×Nat)} (h:ks[g]?=some (.w g' n ps)) (hi:i < n):rho (idK ks) g i=some (g',i):=by
 unfold rho idK
 rw[List.getElem?_map,h]
 show((List.range n).map (fun i=>(g',i))++ps)[i]?=_
 rw[List.getElem?_append_left (by simp; omega),List.getElem?_map,List.getElem?_range (by omega)]
 rfl
theorem HF {ks:List FK} {g g' n i:Nat} {ps:List (Nat×Nat)} {p:Nat×Nat} (h:ks[g]?=some (.w g' n ps)) (hi:ps[i]?=some p):rho (idK ks) g (n+i)=some p:=by
 unfold rho idK
 rw[List.getElem?_map,h]
 show((List.range n).map (fun i=>(g',i))++ps)[n+i]?=_
 rw[List.getElem?_append_right (by simp)]
 simpa using hi
theorem jZ.listK {T:AV→AV→Prop} {k:Nat} {H H2 H':Heap} {ks:List FK} (h1:j9 0 k ks H) (h3:okK ks=true) (h4:aI (ToB T (rho (idK ks))) H (idK ks) H')
  (hk:∀ g i,(hget H2 g i).isSome=(hget H g i).isSome) (hs:∀ p∈(idK ks).flatten,hget H2 p.1 p.2=hget H p.1 p.2):jZ T (rho (idK ks)) k H2 H':=by
 obtain⟨hl,hf⟩:=jV h4
 have hnd:=vD h3
 generalize hids:idK ks=ids at *
 refine⟨fun g i hg hi=>?_,fun g i g' i' p hp hp'=>?_,fun g i x hx _=>?_,fun g i p hp _=>?_⟩
 ·rw[hk] at hi
  have:=oE k 0 h1 g i hg hi
  rw[Nat.zero_add,hids] at this
  exact this
 ·unfold rho at hp hp'
  split at hp
  ·rename_i f e
   split at hp'
   ·rename_i f' e'
    unfold List.Nodup at hnd
    rw[List.pairwise_flatten] at hnd
    by_cases hgg:g=g'
    ·subst hgg
     rw[e] at e'
     injection e' with e'
     subst e'
     refine⟨rfl,?_⟩
     have hn:=hnd.1 f (List.mem_of_getElem? e)
     have hi:=(gEs.1 hp).1
     exact(List.getElem?_inj hi hn).1 (hp.trans hp'.symm)
    ·exfalso
     have hpw:=hnd.2
     rw[List.pairwise_iff_getElem] at hpw
     have hg1:=(gEs.1 e).1
     have hg2:=(gEs.1 e').1
     have v1:=(gEs.1 e).2
     have v2:=(gEs.1 e').2
     rcases Nat.lt_or_gt_of_ne hgg with hlt | hgt
     ·have:=hpw g g' hg1 hg2 hlt
      rw[v1,v2] at this
      exact this p (List.mem_of_getElem? hp) p (List.mem_of_getElem? hp') rfl
     ·have:=hpw g' g hg2 hg1 hgt
      rw[v1,v2] at this
      exact this p (List.mem_of_getElem? hp') p (List.mem_of_getElem? hp) rfl
   ·cases hp'
  ·cases hp
 ·unfold hget at hx
  split at hx
  ·rename_i f e
   have hg:=(gEs.1 e).1
   have e':ids[g]?=some ids[g]:=gEg (by omega)
   obtain⟨q1,q2⟩:=fK (hf g _ _ e' e)
   have hi:=(gEs.1 hx).1
   have e2:ids[g][i]?=some ids[g][i]:=gEg (by omega)
   obtain⟨y,r1,r2⟩:=q2 i _ x e2 hx
   have hr:rho ids g i=some ids[g][i]:=by simp only[rho,e']; exact e2
   exact⟨ids[g][i].1,ids[g][i].2,y,hr,(hs _ (v5 hr)).trans r1,r2⟩
  ·cases hx
 ·unfold rho at hp
  split at hp
  ·rename_i f e
   have hg:=(gEs.1 e).1
   have e':H'[g]?=some H'[g]:=gEg (by omega)
   obtain⟨q1,_⟩:=fK (hf g _ _ e e')
   have hi:=(gEs.1 hp).1
   simp only[hget,e',gEg (show i < H'[g].length by omega)]
   rfl
  ·cases hp
section
variable {k N:Nat} {fr fr':Fr} {H H':Heap} {ks:List FK} {szs:List Nat}
theorem yT {M J} {w:World} (hH:aP M J H w.heap) (hM:aZ M w.heap) (h1:j9 0 k ks (H++gh szs)) (h3:okK ks=true)
  (h4:aI (ToB (ToT (H++gh szs) H.length (dF ks)) (rho (idK ks))) (H++gh szs) (idK ks) H'):
  ∃ M' J',aQ k M J H w M' J' H' w∧∀ a b v,To (ToT (H++gh szs) H.length (dF ks)) (rho (idK ks)) a b→Rep M J a v→Rep M' J' b v:=by
 obtain⟨s1,x1,t1⟩:=aQ.ghost (k:=k) hH hM (m8.gh H szs)
 obtain⟨s2,x2,t2⟩:=aQ.frz (k:=k) s1.hrep s1.mrep (iF.killS (dF ks) (H++gh szs))
 have hT:∀ a b v,ToT (H++gh szs) H.length (dF ks) a b→Rep (M.freeze (J.ghost H (H++gh szs)) (H++gh szs) (dF ks) w.heap) (J.ghost H (H++gh szs)) a v →
   Rep (M.freeze (J.ghost H (H++gh szs)) (H++gh szs) (dF ks) w.heap) (J.ghost H (H++gh szs)) b v:=by
  intro a b v h hv
  cases h with
  | fz h=>
   refine t2 a b v h ?_
   cases h with
   | hsl g i start len sz rows hS h hl=>
    cases hv with
    | hsl _ _ _ _ cap β l hJ hb hc hlc=>exact .hsl _ _ _ _ cap β l hJ hb hc hlc
    | hslNil _ _ a0 l hJ hb=>exact .hslNil _ _ a0 l hJ hb
   | ptr g i row off sz rows r hS h hr=>
    cases hv with
    | ptr _ _ _ _ β l hJ hb=>exact .ptr _ _ _ _ β l hJ hb
   | mref g i es hS h=>
    cases hv with
    | mref _ _ β l hJ hb=>exact .mref _ _ β l hJ hb
  | gh g sz hg h'=>
   cases hv
   refine .hslNil g 0 _ ⟨none,sz,0⟩ ?_ rfl
   have:hget H g 0=none:=by
    cases e:hget H g 0 with
    | none=>rfl
    | some y=>
     have:=c8 (by rw[e]; rfl:(hget H g 0).isSome)
     have:=nlB hg
     omega
   unfold Inj.ghost
   rw[this,h']
  | nil sz=>cases hv; exact .nilList sz none 0
 have hn:jZ (ToT (H++gh szs) H.length (dF ks)) (rho (idK ks)) k (killS (dF ks) (H++gh szs)) H':=by
  refine jZ.listK h1 h3 h4 (fun g i=>by rw[d4,Option.isSome_map]) fun p hp=>?_
  rw[d4,B2 hp]
  cases hget (H++gh szs) p.1 p.2<;>rfl
 refine⟨_,_,aQ.to hT (s1.trans s2) hn,fun a b v h hv=>To.rep hT h ?_⟩
 exact(hv.ext x1).ext x2
theorem Sub.toK (szs:List Nat) (ks:List FK) (h5:aO (ToT (H++gh szs) H.length (dF ks)) (rho (idK ks)) fr fr')
  (h4:aI (ToB (ToT (H++gh szs) H.length (dF ks)) (rho (idK ks))) (H++gh szs) (idK ks) H') (h1:j9 0 k ks (H++gh szs)) (h3:okK ks=true:=by rfl):Sub k N fr H fr' H':=by
 intro M J tmps w hF hH hM
 obtain⟨M',J',q1,q2⟩:=yT (szs:=szs) hH hM h1 h3 h4
 exact⟨M',J',q1,hF.1,fun t=>q2 _ _ _ (h5.get t) (hF.2 t)⟩
theorem cQ.toK {a b:AV} (szs:List Nat) (ks:List FK) (h5:To (ToT (H++gh szs) H.length (dF ks)) (rho (idK ks)) a b)
  (h4:aI (ToB (ToT (H++gh szs) H.length (dF ks)) (rho (idK ks))) (H++gh szs) (idK ks) H') (h1:j9 0 k ks (H++gh szs)) (h3:okK ks=true:=by rfl):cQ k H a H' b:=by
 intro M J v w hv hH hM
 obtain⟨M',J',q1,q2⟩:=yT (szs:=szs) hH hM h1 h3 h4
 exact⟨M',J',q1,q2 _ _ _ h5 hv⟩
end
section
variable {R:Blk→Blk→Prop} {H:Heap}
theorem bD.range {g n:Nat} {f:Nat→Blk} {ps:List (Nat×Nat)} {xs:List Blk} (h:∀ i,i < n→∃ y,hget H g i=some y∧R y (f i)) (h':bD R H ps xs):bD R H ((List.range n).map (fun i=>(g,i))++ps) (fam n f++xs):=by
 unfold fam
 have key:∀(l:List Nat),(∀ i∈l,∃ y,hget H g i=some y∧R y (f i))→bD R H (l.map (fun i=>(g,i))++ps) (l.map f++xs):=by
  intro l
  induction l with
  | nil=>exact fun _=>h'
  | cons i l ih=>exact fun h=>⟨h i (by simp),ih fun j hj=>h j (by simp[hj])⟩
 exact key _ fun i hi=>h i (List.mem_range.1 hi)
theorem bD.ofFam {g n:Nat} {f:Nat→Blk} (h:∀ i,i < n→∃ y,hget H g i=some y∧R y (f i)):bD R H (FK.w g n []).l (fam n f):=by
 have:=bD.range (f:=f) (ps:=[]) (xs:=[]) h trivial
 rw[List.append_nil (fam n f)] at this
 exact this
theorem bD.famS {g n:Nat} {f:Nat→Blk} {p:Nat×Nat} {y:Blk} (h:∀ i,i < n→∃ y,hget H g i=some y∧R y (f i)) (h':hget H p.1 p.2=some y) (hy:R y (f n)):bD R H (FK.w g n [p]).l (fam (n+1) f):=by
 have:=bD.range (f:=f) (ps:=[p]) (xs:=[f n]) h ⟨⟨y,h',hy⟩,trivial⟩
 unfold Av.fam at *
 rw[List.range_succ,List.map_append]
 exact this
end
theorem wZ {n k:Nat} {f:Nat→Blk} {x:Blk}:(fam n f).set k x=fam n fun j=>if j=k then x else f j:=by
 apply List.ext_getElem?
 intro j
 unfold fam
 rw[List.getElem?_set]
 by_cases hj:j < n
 ·rw[List.getElem?_map,List.getElem?_map,List.getElem?_range hj]
  simp only[Option.map_some,List.length_map,List.length_range]
  by_cases h:k=j
  ·subst h
   simp[hj]
  ·rw[if_neg h,if_neg (fun e=>h e.symm)]
 ·rw[List.getElem?_map,List.getElem?_map,List.getElem?_eq_none (show(List.range n).length≤j by rw[List.length_range]; omega)]
  simp
  omega
theorem jC {n:Nat} {f f':Nat→Blk} (h:∀ k,k < n→f k=f' k):fam n f=fam n f':=List.map_congr_left fun k hk=>by rw[h k (List.mem_range.1 hk)]
end Go.Av
namespace Go.Av
def idH (H:Heap) (g i:Nat):Option (Nat×Nat):=match (hget H g i).isSome with
 | true=>some (g,i)
 | false=>none
theorem rX {H:Heap} {g i:Nat} {p:Nat×Nat} (h:idH H g i=some p):(hget H g i).isSome=true∧p=(g,i):=by
 unfold idH at h
 split at h
 ·rename_i e
  injection h with h
  exact⟨e,h.symm⟩
 ·cases h
theorem oT {H:Heap} {g i:Nat} (h:(hget H g i).isSome=true):idH H g i=some (g,i):=by
 unfold idH
 rw[h]
theorem HS {H:Heap} {g i:Nat} (h:¬ (hget H g i).isSome=true):idH H g i=none:=by
 unfold idH
 rw[show(hget H g i).isSome=false by simpa using h]
structure zX (H0 H:Heap):Prop where
 len:H.length=H0.length
 dom:∀ g i,(hget H g i).isSome=(hget H0 g i).isSome
 blk:∀ g i x,hget H g i=some x→x.live=true∧bJ (idH H0) x x
theorem kV {H:Heap} {g i:Nat} (h:(hget H g i).isSome=true):g < H.length:=by
 unfold hget at h
 split at h
 ·rename_i f hf; exact(gEs.1 hf).1
 ·cases h
theorem aD.more {P:Program} {f:FuncId} {args:List AV} {H0:Heap} (G:Heap) {R:AV→Heap→Prop} (hc:zX H0 H0) (h:aD P f args H0 fun res H'=>aX res∧zX H0 H'∧R res H') (ha:∀ a∈args,Ren (idH H0) a a):
  aD P f args (H0++G) fun res H'=>∃ H1,H'=H1++G∧R res H1:=by
 refine aD.via (idH H0) (idH H0) h rfl (fun j a b e1 e2=>?_) (fun a b p e=>?_) (fun a b q e=>?_) (fun a b y e=>?_) (fun a b p e=>?_) fun res H' hr=>?_
 ·rw[e1] at e2
  injection e2 with e2
  subst e2
  exact ha a (List.mem_of_getElem? e1)
 ·obtain⟨h1,rfl⟩:=rX e
  exact oT h1
 ·obtain⟨h1,rfl⟩:=rX e
  exact oT h1
 ·have hs:(hget H0 a b).isSome=true:=by rw[e]; rfl
  obtain⟨h1,h2⟩:=hc.blk a b y e
  exact⟨h1,(a,b),y,oT hs,by rw[b7 (kV hs)]; exact e,h2⟩
 ·exact(rX e).1
 ·obtain⟨hp,hcl,hR⟩:=hr
  refine⟨fun a b e=>by rw[← hcl.dom]; exact e,res,H'++G,.pure hp,fun a b z hz hzl=>?_,fun a b e=>?_,H',rfl,hR⟩
  ·by_cases hl:a < H'.length
   ·rw[b7 hl] at hz
    have hs:(hget H0 a b).isSome=true:=by rw[← hcl.dom,hz]; rfl
    exact .inl ⟨(a,b),z,oT hs,hz,(hcl.blk a b z hz).2⟩
   ·refine .inr ⟨HS fun hs=>hl (by rw[hcl.len]; exact kV hs),?_⟩
    rw[bZ (by omega)] at hz
    rw[bZ (by rw[hcl.len] at hl; omega),← hcl.len]
    exact hz
  ·by_cases hl:a < H0.length
   ·rw[b7 hl] at e
    rw[b7 (by rw[hcl.len]; exact hl),hcl.dom]
    exact e
   ·rw[bZ (by omega)] at e
    rw[bZ (by rw[hcl.len]; omega),hcl.len]
    exact e
end Go.Av
namespace Go.Av
structure rW (T:AV→AV→Prop) (ρ:Nat→Nat→Option (Nat×Nat)) (k:Nat) (H H':Heap):Prop where
 low:∀ g i,g < k→(hget H g i).isSome→ρ g i=some (g,i)
 inj:∀ g i g' i' p,aL H' g i→aL H' g' i'→ρ g i=some p→ρ g' i'=some p→g=g'∧i=i'
 blk:∀ g i x,hget H' g i=some x→x.live=true→∃ g0 i0 y,ρ g i=some (g0,i0)∧hget H g0 i0=some y∧ToB T ρ y x
 dom:∀ g i p,ρ g i=some p→(hget H p.1 p.2).isSome→(hget H' g i).isSome
theorem rW.live {T:AV→AV→Prop} {ρ:Nat→Nat→Option (Nat×Nat)} {k H H'} (hn:rW T ρ k H H') {J:Inj} {g i:Nat} {l:Loc} (h:aL H' g i) (hJ:J.via ρ g i=some l):∃ g0 i0,ρ g i=some (g0,i0)∧aL H g0 i0∧J g0 i0=some l:=by
 obtain⟨x,hx,hxl⟩:=h
 obtain⟨g0,i0,y,h1,h2,h3⟩:=hn.blk g i x hx hxl
 exact⟨g0,i0,h1,⟨y,h2,h3.live hxl⟩,by rw[← hJ,Inj.via_some h1]⟩
theorem aQ.toM {T:AV→AV→Prop} {ρ:Nat→Nat→Option (Nat×Nat)} {k M J H w M' J' H' w' H''} (hT:∀ a b v,T a b→Rep M' J' a v→Rep M' J' b v) (a:aQ k M J H w M' J' H' w') (hn:rW T ρ k H' H''):aQ k M J H w M' (J'.via ρ) H'' w' where
 m:=a.m
 j g i l hk h:=by
  have h1:=a.j g i l hk h
  rw[Inj.via_some (hn.low g i hk (a.hrep.dom g i l h1).1)]
  exact h1
 hrep:=by
  refine⟨fun g i x hx hl=>?_,fun g i g' i' l l' β a1 b c d e f=>?_,fun g i l β a1 b c=>?_,fun g i l a1=>?_⟩
  ·obtain⟨g0,i0,y,h1,h2,h3⟩:=hn.blk g i x hx hl
   obtain⟨l,h4,h5⟩:=a.hrep.blk g0 i0 y h2 (h3.live hl)
   exact⟨l,by rw[Inj.via_some h1,h4],ToB.rep hT h5 h3⟩
  ·obtain⟨g0,i0,p1,p2,p3⟩:=hn.live a1 c
   obtain⟨g1,i1,q1,q2,q3⟩:=hn.live b d
   obtain⟨rfl,rfl⟩:=a.hrep.inj g0 i0 g1 i1 l l' β p2 q2 p3 q3 e f
   exact hn.inj _ _ _ _ _ a1 b p1 q1
  ·obtain⟨g0,i0,p1,p2,p3⟩:=hn.live a1 b
   exact a.hrep.out g0 i0 l β p2 p3 c
  ·unfold Inj.via at a1
   split at a1
   ·rename_i g' i' e
    have:=a.hrep.dom g' i' l a1
    exact⟨hn.dom g i _ e this.1,this.2⟩
   ·cases a1
 mrep:=a.mrep
 os:=a.os
 tape:=a.tape
 output:=a.output
 size:=a.size
 frame:=a.frame
 fresh:=a.fresh
 live g i l β h1 h2 h3:=by
  obtain⟨g0,i0,p1,p2,p3⟩:=hn.live h1 h2
  exact a.live g0 i0 l β p2 p3 h3
 bk:=a.bk
def eA (ds:List Nat):Nat→List FK→List FK
 | _,[]=>[]
 | j,f::r=>(match ds.any fun d=>Nat.beq d j with | true=>.c [] | false=>f)::eA ds (j+1) r
def fF (H:Heap):List Nat→Prop
 | []=>True
 | d::ds=>H[d]?=some [.dead]∧fF H ds
theorem pS (ds:List Nat):∀(ks:List FK) (j g:Nat),(ds.any fun d=>Nat.beq d (j+g))=false→(eA ds j ks)[g]?=ks[g]?
 | [],_,_,_=>rfl
 | f::r,j,0,h=>by
  show some (match ds.any fun d=>Nat.beq d j with | true=>FK.c [] | false=>f)=some f
  rw[show(ds.any fun d=>Nat.beq d j)=false from h]
 | f::r,j,g+1,h=>by
  show(eA ds (j+1) r)[g]?=r[g]?
  exact pS ds r (j+1) g (by rw[show j+1+g=j+(g+1) by omega]; exact h)
theorem nR {H:Heap}:∀ {ds:List Nat} {g i:Nat},fF H ds→aL H g i→(ds.any fun d=>Nat.beq d g)=false
 | [],_,_,_,_=>rfl
 | d::ds,g,i,⟨h1,h2⟩,hl=>by
  rw[List.any_cons,nR h2 hl,Bool.or_false]
  apply Bool.eq_false_iff.2
  intro e
  obtain rfl:=Nat.eq_of_beq_eq_true e
  obtain⟨x,hx,hxl⟩:=hl
  unfold hget at hx
  rw[h1] at hx
  cases i with
  | zero=>
   injection hx with hx
   subst hx
   cases hxl
  | succ i=>cases hx
theorem JG {ids:List (List (Nat×Nat))} (hnd:ids.flatten.Nodup) {g i g' i':Nat} {p:Nat×Nat} (hp:rho ids g i=some p) (hp':rho ids g' i'=some p):g=g'∧i=i':=by
 unfold rho at hp hp'
 split at hp
 ·rename_i f e
  split at hp'
  ·rename_i f' e'
   unfold List.Nodup at hnd
   rw[List.pairwise_flatten] at hnd
   by_cases hgg:g=g'
   ·subst hgg
    rw[e] at e'
    injection e' with e'
    subst e'
    refine⟨rfl,?_⟩
    have hn:=hnd.1 f (List.mem_of_getElem? e)
    have hi:=(gEs.1 hp).1
    exact(List.getElem?_inj hi hn).1 (hp.trans hp'.symm)
   ·exfalso
    have hpw:=hnd.2
    rw[List.pairwise_iff_getElem] at hpw
    have hg1:=(gEs.1 e).1
    have hg2:=(gEs.1 e').1
    have v1:=(gEs.1 e).2
    have v2:=(gEs.1 e').2
    rcases Nat.lt_or_gt_of_ne hgg with hlt | hgt
    ·have:=hpw g g' hg1 hg2 hlt
     rw[v1,v2] at this
     exact this p (List.mem_of_getElem? hp) p (List.mem_of_getElem? hp') rfl
    ·have:=hpw g' g hg2 hg1 hgt
     rw[v1,v2] at this
     exact this p (List.mem_of_getElem? hp') p (List.mem_of_getElem? hp) rfl
  ·cases hp'
 ·cases hp
theorem rW.listK {T:AV→AV→Prop} {k:Nat} {H H2 H':Heap} {ks:List FK} (ds:List Nat) (h1:j9 0 k ks H) (h3:okK (eA ds 0 ks)=true) (h4:aI (ToB T (rho (idK ks))) H (idK ks) H') (hd:fF H' ds)
  (hk:∀ g i,(hget H2 g i).isSome=(hget H g i).isSome) (hs:∀ p∈(idK ks).flatten,hget H2 p.1 p.2=hget H p.1 p.2):rW T (rho (idK ks)) k H2 H':=by
 obtain⟨hl,hf⟩:=jV h4
 have hnd:=vD h3
 have hrho:∀ g i,aL H' g i→rho (idK ks) g i=rho (idK (eA ds 0 ks)) g i:=fun g i hlv=>by
  have:=pS ds ks 0 g (by rw[Nat.zero_add]; exact nR hd hlv)
  unfold rho idK
  rw[List.getElem?_map,List.getElem?_map,this]
 refine⟨fun g i hg hi=>?_,fun g i g' i' p l1 l2 hp hp'=>?_,fun g i x hx _=>?_,fun g i p hp _=>?_⟩
 ·rw[hk] at hi
  have:=oE k 0 h1 g i hg hi
  rw[Nat.zero_add] at this
  exact this
 ·rw[hrho _ _ l1] at hp
  rw[hrho _ _ l2] at hp'
  exact JG hnd hp hp'
 ·generalize hids:idK ks=ids at *
  unfold hget at hx
  split at hx
  ·rename_i f e
   have hg:=(gEs.1 e).1
   have e':ids[g]?=some ids[g]:=gEg (by omega)
   obtain⟨q1,q2⟩:=fK (hf g _ _ e' e)
   have hi:=(gEs.1 hx).1
   have e2:ids[g][i]?=some ids[g][i]:=gEg (by omega)
   obtain⟨y,r1,r2⟩:=q2 i _ x e2 hx
   have hr:rho ids g i=some ids[g][i]:=by simp only[rho,e']; exact e2
   exact⟨ids[g][i].1,ids[g][i].2,y,hr,(hs _ (v5 hr)).trans r1,r2⟩
  ·cases hx
 ·generalize hids:idK ks=ids at *
  unfold rho at hp
  split at hp
  ·rename_i f e
   have hg:=(gEs.1 e).1
   have e':H'[g]?=some H'[g]:=gEg (by omega)
   obtain⟨q1,_⟩:=fK (hf g _ _ e e')
   have hi:=(gEs.1 hp).1
   simp only[hget,e',gEg (show i < H'[g].length by omega)]
   rfl
  ·cases hp
section
variable {k N:Nat} {fr fr':Fr} {H H':Heap} {ks:List FK} {szs:List Nat}
theorem yB {M J} {w:World} (ds:List Nat) (hH:aP M J H w.heap) (hM:aZ M w.heap) (h1:j9 0 k ks (H++gh szs)) (h3:okK (eA ds 0 ks)=true) (hd:fF H' ds)
  (h4:aI (ToB (ToT (H++gh szs) H.length (dF ks)) (rho (idK ks))) (H++gh szs) (idK ks) H'):
  ∃ M' J',aQ k M J H w M' J' H' w∧∀ a b v,To (ToT (H++gh szs) H.length (dF ks)) (rho (idK ks)) a b→Rep M J a v→Rep M' J' b v:=by
 obtain⟨s1,x1,t1⟩:=aQ.ghost (k:=k) hH hM (m8.gh H szs)
 obtain⟨s2,x2,t2⟩:=aQ.frz (k:=k) s1.hrep s1.mrep (iF.killS (dF ks) (H++gh szs))
 have hT:∀ a b v,ToT (H++gh szs) H.length (dF ks) a b→Rep (M.freeze (J.ghost H (H++gh szs)) (H++gh szs) (dF ks) w.heap) (J.ghost H (H++gh szs)) a v →
   Rep (M.freeze (J.ghost H (H++gh szs)) (H++gh szs) (dF ks) w.heap) (J.ghost H (H++gh szs)) b v:=by
  intro a b v h hv
  cases h with
  | fz h=>
   refine t2 a b v h ?_
   cases h with
   | hsl g i start len sz rows hS h hl=>
    cases hv with
    | hsl _ _ _ _ cap β l hJ hb hc hlc=>exact .hsl _ _ _ _ cap β l hJ hb hc hlc
    | hslNil _ _ a0 l hJ hb=>exact .hslNil _ _ a0 l hJ hb
   | ptr g i row off sz rows r hS h hr=>
    cases hv with
    | ptr _ _ _ _ β l hJ hb=>exact .ptr _ _ _ _ β l hJ hb
   | mref g i es hS h=>
    cases hv with
    | mref _ _ β l hJ hb=>exact .mref _ _ β l hJ hb
  | gh g sz hg h'=>
   cases hv
   refine .hslNil g 0 _ ⟨none,sz,0⟩ ?_ rfl
   have:hget H g 0=none:=by
    cases e:hget H g 0 with
    | none=>rfl
    | some y=>
     have:=c8 (by rw[e]; rfl:(hget H g 0).isSome)
     have:=nlB hg
     omega
   unfold Inj.ghost
   rw[this,h']
  | nil sz=>cases hv; exact .nilList sz none 0
 have hn:rW (ToT (H++gh szs) H.length (dF ks)) (rho (idK ks)) k (killS (dF ks) (H++gh szs)) H':=by
  refine rW.listK ds h1 h3 h4 hd (fun g i=>by rw[d4,Option.isSome_map]) fun p hp=>?_
  rw[d4,B2 hp]
  cases hget (H++gh szs) p.1 p.2<;>rfl
 refine⟨_,_,aQ.toM hT (s1.trans s2) hn,fun a b v h hv=>To.rep hT h ?_⟩
 exact(hv.ext x1).ext x2
theorem Sub.toM (szs:List Nat) (ks:List FK) (ds:List Nat) (h5:aO (ToT (H++gh szs) H.length (dF ks)) (rho (idK ks)) fr fr')
  (h4:aI (ToB (ToT (H++gh szs) H.length (dF ks)) (rho (idK ks))) (H++gh szs) (idK ks) H') (hd:fF H' ds) (h1:j9 0 k ks (H++gh szs)) (h3:okK (eA ds 0 ks)=true:=by rfl):Sub k N fr H fr' H':=by
 intro M J tmps w hF hH hM
 obtain⟨M',J',q1,q2⟩:=yB (szs:=szs) ds hH hM h1 h3 hd h4
 exact⟨M',J',q1,hF.1,fun t=>q2 _ _ _ (h5.get t) (hF.2 t)⟩
theorem cQ.toM {a b:AV} (szs:List Nat) (ks:List FK) (ds:List Nat) (h5:To (ToT (H++gh szs) H.length (dF ks)) (rho (idK ks)) a b)
  (h4:aI (ToB (ToT (H++gh szs) H.length (dF ks)) (rho (idK ks))) (H++gh szs) (idK ks) H') (hd:fF H' ds) (h1:j9 0 k ks (H++gh szs)) (h3:okK (eA ds 0 ks)=true:=by rfl):cQ k H a H' b:=by
 intro M J v w hv hH hM
 obtain⟨M',J',q1,q2⟩:=yB (szs:=szs) ds hH hM h1 h3 hd h4
 exact⟨M',J',q1,q2 _ _ _ h5 hv⟩
theorem endMs {rs:List gJ} {e:Exit} {R:AV→Heap→Prop} {res res':AV} {H2:Heap} (ks:List FK) (ds:List Nat) (hR:R res' H2) (he:e=.normal∨e=.ret) (hres:eF fr H rs=some res)
  (h5:To (ToT (H++gh []) H.length (dF ks)) (rho (idK ks)) res res') (h4:aI (ToB (ToT (H++gh []) H.length (dF ks)) (rho (idK ks))) (H++gh []) (idK ks) H2) (hd:fF H2 ds) (h1:j9 0 k ks (H++gh [])) (h3:okK (eA ds 0 ks)=true:=by rfl):
  (e=.normal∨e=.ret)∧∃ res res' H2,eF fr H rs=some res∧cQ k H res H2 res'∧R res' H2:=⟨he,res,res',H2,hres,cQ.toM [] ks ds h5 h4 hd h1 h3,hR⟩
end
end Go.Av
namespace Go.Av
def fY (n n0:Nat) (ρ':Nat→Nat→Option (Nat×Nat)) (a b:Nat):Option (Nat×Nat):=match Nat.blt a n with
 | true=>ρ' a b
 | false=>some (a - n+n0,b)
theorem fA {n n0 a b:Nat} {ρ'} (h:a < n):fY n n0 ρ' a b=ρ' a b:=by
 have e:Nat.blt a n=true:=by simpa[Nat.blt_eq] using h
 simp only[fY,e]
theorem fG {n n0 a b:Nat} {ρ'} (h:n≤a):fY n n0 ρ' a b=some (a - n+n0,b):=by
 have e:Nat.blt a n=false:=by
  apply Bool.eq_false_iff.2
  intro q
  have:a < n:=by simpa[Nat.blt_eq] using q
  omega
 simp only[fY,e]
theorem aD.viaG {P:Program} {f:FuncId} {args args':List AV} {H0 H:Heap} {R R':AV→Heap→Prop} (ρ ρ':Nat→Nat→Option (Nat×Nat)) (h:aD P f args' H0 R)
  (hl:args.length=args'.length) (hargs:∀(j:Nat) a b,args[j]?=some a→args'[j]?=some b→Ren ρ a b)
  (hρ:∀ g i p,ρ g i=some p→ρ' p.1 p.2=some (g,i)) (hρ':∀ g i q,ρ' g i=some q→ρ q.1 q.2=some (g,i))
  (h0:∀ g i x,hget H0 g i=some x→x.live=true∧∃ p y,ρ g i=some p∧hget H p.1 p.2=some y∧bJ ρ y x)
  (hdom:∀ g i p,ρ g i=some p→(hget H0 g i).isSome)
  (hR:∀ res H',R res H'→(∀ g i,g < H0.length→(hget H' g i).isSome→(hget H0 g i).isSome)∧∃ res' H'',Ren (fY H.length H0.length ρ') res res' ∧
   (∀ g i x,hget H'' g i=some x→x.live=true→(∃ q y,fY H.length H0.length ρ' g i=some q∧hget H' q.1 q.2=some y∧bJ (fY H.length H0.length ρ') y x)∨(g < H.length∧ρ' g i=none∧hget H g i=some x)) ∧
   (∀ g i,(hget H g i).isSome→(hget H'' g i).isSome)∧(∀ g i,H.length≤g→(hget H' (g - H.length+H0.length) i).isSome→(hget H'' g i).isSome)∧R' res' H''):aD P f args H R':=by
 refine⟨h.1,fun M J w cargs e1 e2 hH hM=>?_⟩
 have hJ1:∀ g i l,J.via ρ g i=some l→∃ p,ρ g i=some p∧J p.1 p.2=some l:=by
  intro g i l hl
  unfold Inj.via at hl
  split at hl
  ·rename_i g' i' e; exact⟨(g',i'),e,hl⟩
  ·cases hl
 have hlive0:∀ g i l,aL H0 g i→J.via ρ g i=some l→∃ p,ρ g i=some p∧J p.1 p.2=some l∧aL H p.1 p.2:=by
  rintro g i l ⟨x,hx,hxl⟩ hJ
  obtain⟨_,p,y,p1,p2,p3⟩:=h0 g i x hx
  obtain⟨p',q1,q2⟩:=hJ1 g i l hJ
  rw[p1] at q1
  injection q1 with q1
  subst q1
  exact⟨p,p1,q2,y,p2,p3.live hxl⟩
 have hH0:aP M (J.via ρ) H0 w.heap:=by
  refine⟨fun g i x hx hxl=>?_,fun g i g' i' l l' β a b c d e f=>?_,fun g i l β a b c=>?_,fun g i l a=>?_⟩
  ·obtain⟨_,p,y,p1,p2,p3⟩:=h0 g i x hx
   obtain⟨l,q1,q2⟩:=hH.blk p.1 p.2 y p2 (p3.live hxl)
   exact⟨l,by rw[Inj.via_some (g':=p.1) (i':=p.2) p1]; exact q1,q2.ren p3⟩
  ·obtain⟨p,p1,p2,p3⟩:=hlive0 g i l a c
   obtain⟨q,q1,q2,q3⟩:=hlive0 g' i' l' b d
   obtain⟨r1,r2⟩:=hH.inj _ _ _ _ l l' β p3 q3 p2 q2 e f
   have hpq:p=q:=Prod.ext r1 r2
   subst hpq
   have:=(hρ g i p p1).symm.trans (hρ g' i' p q1)
   injection this with this
   injection this with t1 t2
   exact⟨t1,t2⟩
  ·obtain⟨p,p1,p2,p3⟩:=hlive0 g i l a b
   exact hH.out _ _ l β p3 p2 c
  ·obtain⟨p,p1,p2⟩:=hJ1 g i l a
   exact⟨hdom g i p p1,(hH.dom _ _ l p2).2⟩
 refine(h.2 M (J.via ρ) w cargs (by omega) (fun j c v hc hv=>?_) hH0 hM).mono ?_
 ·obtain⟨a,ha⟩:=aS hl hc
  exact(e2 j a v ha hv).ren (hargs j a c ha hc)
 ·rintro e w' ⟨v,M',J',res,H',rfl,s,hres,hr⟩
  obtain⟨hd,res',H'',r1,r2,r3,r3',r4⟩:=hR res H' hr
  let J2:Inj:=fun a b=>if a < H.length then J a b else J' (a - H.length+H0.length) b
  have hJlt:∀ g i l,J g i=some l→g < H.length:=fun g i l hJ=>c8 ((hH.dom g i l hJ).1)
  have j1:∀ {a b:Nat},a < H.length→J2 a b=J a b:=fun {a b} hlt=>if_pos hlt
  have j2:∀ {a b:Nat},H.length≤a→J2 a b=J' (a - H.length+H0.length) b:=fun {a b} hge=>if_neg (by omega)
  have hJ':∀ g i l,g < H0.length→J' g i=some l→∃ p,ρ g i=some p∧J p.1 p.2=some l:=by
   intro g i l hg hl
   have hs:=hd g i hg (s.hrep.dom g i l hl).1
   obtain⟨x,hx⟩:=Option.isSome_iff_exists.1 hs
   obtain⟨hxl,p,y,p1,p2,p3⟩:=h0 g i x hx
   obtain⟨l1,q1,_⟩:=hH0.blk g i x hx hxl
   have:=s.j g i l1 hg q1
   rw[hl] at this
   injection this with this
   subst this
   obtain⟨p',t1,t2⟩:=hJ1 g i l q1
   exact⟨p',t1,t2⟩
  have hq0:∀ {g i q},ρ' g i=some q→q.1 < H0.length:=fun h=>c8 (hdom _ _ _ (hρ' _ _ _ h))
  have hqJ:∀ {g i:Nat} {q:Nat×Nat} {l:Loc},ρ' g i=some q→J' q.1 q.2=some l→J g i=some l:=by
   intro g i q l hq hJq
   obtain⟨p,p1,p2⟩:=hJ' _ _ _ (hq0 hq) hJq
   have:=hρ' g i q hq
   rw[p1] at this
   injection this with this
   subst this
   exact p2
  have hback:Ext M' (J'.via (fY H.length H0.length ρ')) M' J2:=⟨fun _ _ h=>h,fun g i l hl=>by
   unfold Inj.via at hl
   by_cases hg:g < H.length
   ·rw[fA hg] at hl
    split at hl
    ·rename_i g' i' e
     rw[j1 hg]
     exact hqJ e hl
    ·cases hl
   ·rw[fG (by omega)] at hl
    rw[j2 (by omega)]
    exact hl⟩
  have hfwd:Ext M J M' J2:=⟨s.m,fun g i l h=>by rw[j1 (hJlt g i l h)]; exact h⟩
  have hother:∀ g i l β,ρ' g i=none→aL H g i→J g i=some l→l.blk=some β→∀ g0 i0 l0,aL H0 g0 i0→J.via ρ g0 i0=some l0→l0.blk≠some β:=by
   intro g i l β hn hlv hJ hb g0 i0 l0 a b c
   obtain⟨p,p1,p2,p3⟩:=hlive0 g0 i0 l0 a b
   obtain⟨t1,t2⟩:=hH.inj _ _ _ _ l l0 β hlv p3 hJ p2 hb c
   have:=hρ g0 i0 p p1
   rw[← t1,← t2,hn] at this
   cases this
  have hlive':∀ g i l β,aL H'' g i→J2 g i=some l→l.blk=some β→(∃ q,fY H.length H0.length ρ' g i=some q∧aL H' q.1 q.2∧J' q.1 q.2=some l)∨(ρ' g i=none∧aL H g i∧J g i=some l):=by
   rintro g i l β ⟨x,hx,hxl⟩ hJ hb
   rcases r2 g i x hx hxl with⟨q,y,q1,q2,q3⟩ | ⟨q0,q1,q2⟩
   ·left
    refine⟨q,q1,⟨y,q2,q3.live hxl⟩,?_⟩
    by_cases hg:g < H.length
    ·rw[fA hg] at q1
     obtain⟨l',t1,_⟩:=s.hrep.blk q.1 q.2 y q2 (q3.live hxl)
     have:=hqJ q1 t1
     rw[j1 hg,this] at hJ
     injection hJ with hJ
     subst hJ
     exact t1
    ·rw[fG (by omega)] at q1
     injection q1 with q1
     subst q1
     rw[j2 (by omega)] at hJ
     exact hJ
   ·exact .inr ⟨q1,⟨x,q2,hxl⟩,by rw[j1 q0] at hJ; exact hJ⟩
  have hinj:∀ {g i g' i':Nat} {q:Nat×Nat},fY H.length H0.length ρ' g i=some q→fY H.length H0.length ρ' g' i'=some q→g=g'∧i=i':=by
   intro g i g' i' q q1 p1
   by_cases hg:g < H.length<;>by_cases hg':g' < H.length
   ·rw[fA hg] at q1
    rw[fA hg'] at p1
    have:=(hρ' g i q q1).symm.trans (hρ' g' i' q p1)
    injection this with this
    injection this with t1 t2
    exact⟨t1,t2⟩
   ·rw[fA hg] at q1
    rw[fG (by omega)] at p1
    have:=hq0 q1
    injection p1 with p1
    subst p1
    exact absurd this (by simp)
   ·rw[fG (by omega)] at q1
    rw[fA hg'] at p1
    have:=hq0 p1
    injection q1 with q1
    subst q1
    exact absurd this (by simp)
   ·rw[fG (by omega)] at q1 p1
    rw[← q1] at p1
    injection p1 with p1
    injection p1 with p1 p2
    exact⟨by omega,p2.symm⟩
  refine⟨v,M',J2,res',H'',rfl,⟨s.m,fun g i l hg h=>hfwd.j g i l h,⟨?_,?_,?_,?_⟩,s.mrep,s.os,s.tape,s.output,s.size,?_,?_,?_,s.bk⟩,(hres.ren r1).ext hback,r4⟩
  ·intro g i x hx hxl
   rcases r2 g i x hx hxl with⟨q,y,q1,q2,q3⟩ | ⟨q0,q1,q2⟩
   ·obtain⟨l,t1,t2⟩:=s.hrep.blk q.1 q.2 y q2 (q3.live hxl)
    refine⟨l,hback.j g i l (by rw[Inj.via_some (g':=q.1) (i':=q.2) q1]; exact t1),(t2.ren q3).ext hback fun _ _=>rfl⟩
   ·obtain⟨l,t1,t2⟩:=hH.blk g i x q2 hxl
    refine⟨l,hfwd.j g i l t1,t2.ext hfwd fun β hβ=>?_⟩
    have hb:=(hH.dom g i l t1).2 β hβ
    rw[Array.getElem?_eq_getElem hb]
    exact s.frame β _ (Array.getElem?_eq_getElem hb) (hother g i l β q1 ⟨x,q2,hxl⟩ t1 hβ)
  ·intro g i g' i' l l' β a b c d e f
   rcases hlive' g i l β a c e with⟨q,q1,q2,q3⟩ | ⟨q1,q2,q3⟩<;>rcases hlive' g' i' l' β b d f with⟨p,p1,p2,p3⟩ | ⟨p1,p2,p3⟩
   ·obtain⟨t1,t2⟩:=s.hrep.inj _ _ _ _ l l' β q2 p2 q3 p3 e f
    have hpq:q=p:=Prod.ext t1 t2
    subst hpq
    exact hinj q1 p1
   ·exfalso
    rcases s.live _ _ l β q2 q3 e with⟨g0,i0,l0,u1,u2,u3⟩ | u
    ·exact hother g' i' l' β p1 p2 p3 f g0 i0 l0 u1 u2 u3
    ·have:=(hH.dom g' i' l' p3).2 β f; omega
   ·exfalso
    rcases s.live _ _ l' β p2 p3 f with⟨g0,i0,l0,u1,u2,u3⟩ | u
    ·exact hother g i l β q1 q2 q3 e g0 i0 l0 u1 u2 u3
    ·have:=(hH.dom g i l q3).2 β e; omega
   ·exact hH.inj g i g' i' l l' β q2 p2 q3 p3 e f
  ·intro g i l β a b c
   rcases hlive' g i l β a b c with⟨q,q1,q2,q3⟩ | ⟨q1,q2,q3⟩
   ·exact s.hrep.out _ _ l β q2 q3 c
   ·cases e:M' β with
    | none=>rfl
    | some o=>
     exfalso
     rcases s.fresh β o e with u | u | ⟨g0,i0,l0,u1,u2,u3⟩
     ·rw[hH.out g i l β q2 q3 c] at u; cases u
     ·have:=(hH.dom g i l q3).2 β c; omega
     ·exact hother g i l β q1 q2 q3 c g0 i0 l0 u1 u2 u3
  ·intro g i l a
   by_cases hg:g < H.length
   ·rw[j1 hg] at a
    have:=hH.dom g i l a
    exact⟨r3 g i this.1,fun β hβ=>Nat.lt_of_lt_of_le (this.2 β hβ) s.size⟩
   ·rw[j2 (by omega)] at a
    have:=s.hrep.dom _ _ l a
    exact⟨r3' g i (by omega) this.1,this.2⟩
  ·intro β o ho hn
   refine s.frame β o ho fun g0 i0 l0 a b c=>?_
   obtain⟨p,p1,p2,p3⟩:=hlive0 g0 i0 l0 a b
   exact hn _ _ l0 p3 p2 c
  ·intro β o ho
   rcases s.fresh β o ho with u | u | ⟨g0,i0,l0,u1,u2,u3⟩
   ·exact .inl u
   ·exact .inr (.inl u)
   ·obtain⟨p,p1,p2,p3⟩:=hlive0 g0 i0 l0 u1 u2
    exact .inr (.inr ⟨_,_,l0,p3,p2,u3⟩)
  ·intro g i l β a b c
   rcases hlive' g i l β a b c with⟨q,q1,q2,q3⟩ | ⟨q1,q2,q3⟩
   ·rcases s.live _ _ l β q2 q3 c with⟨g0,i0,l0,u1,u2,u3⟩ | u
    ·obtain⟨p,p1,p2,p3⟩:=hlive0 g0 i0 l0 u1 u2
     exact .inl ⟨_,_,l0,p3,p2,u3⟩
    ·exact .inr u
   ·exact .inl ⟨g,i,l,q2,q3,c⟩
end Go.Av
