import Derived.Test.YtgdocflpobncmaaGreatGAvV
import Derived.Test.YtgdocflpobncmaaGreatGAvR
namespace Go.Av
def beh (n a b:Nat):Option (Nat×Nat):=match Nat.blt a n with
 | true=>none
 | false=>some (a - n,b)
theorem IP {n a b:Nat} (h:a < n):beh n a b=none:=by
 have e:Nat.blt a n=true:=by simpa[Nat.blt_eq] using h
 simp only[beh,e]
theorem uM {n a b:Nat} (h:n≤a):beh n a b=some (a - n,b):=by
 have e:Nat.blt a n=false:=by
  apply Bool.eq_false_iff.2;intro q
  have:a < n:=by simpa[Nat.blt_eq] using q
  omega
 simp only[beh,e]
theorem fL {H X:Heap} {a b:Nat} (h:a < H.length):hget (H++X) a b=hget H a b:=by
 unfold hget;rw[List.getElem?_append_left h]
theorem fJ {H X:Heap} {a b:Nat} (h:H.length≤a):hget (H++X) a b=hget X (a - H.length) b:=by
 unfold hget;rw[List.getElem?_append_right h]
theorem aE.frame {P:Program} {f:FuncId} {args:List AV} {R R':AV→Heap→Prop} (h:aE P f args [] R) (ha:∀ a∈args,aZ a) (H:Heap)
  (hR:∀ res H0,R res H0→∃ res' H0',Ren (beh H.length) res res'∧(∀ g i x',hget H0' g i=some x'→x'.live=true→∃ x,hget H0 g i=some x∧eY (beh H.length) x x')∧(∀ g i,(hget H0 g i).isSome→(hget H0' g i).isSome)∧R' res' (H++H0')):aE P f args H R':=by
 refine⟨h.1,fun M J w cargs hl hr hH hM=>?_⟩
 have hH0:aN M (fun _ _=>none) [] w.heap:=
  ⟨fun g i x hx=>(by simp[hget] at hx),fun g i g' i' l l' β _ _ hJ=>(by cases hJ),fun g i l β _ hJ=>(by cases hJ),fun g i l hJ=>(by cases hJ)⟩
 refine(h.2 M (fun _ _=>none) w cargs hl (fun j c x hc hx=>(hr j c x hc hx).anyJ (ha c (mOg hc)) _) hH0 hM).mono ?_;rintro e w' ⟨cv,M',J',res,H0,rfl,hs,hrep,hr0⟩;obtain⟨res',H0',r1,r2,r3,r4⟩:=hR res H0 hr0
 have hno:∀ g i,¬ aQ [] g i:=by
  rintro g i ⟨x,hx,_⟩;simp[hget] at hx
 have hsame:∀(β:Nat) o,w.heap[β]?=some o→w'.heap[β]?=some o:=fun β o ho=>hs.frame β o ho fun g i l hl _=>absurd hl (hno g i)
 let J2:Inj:=fun a b=>if a < H.length then J a b else J' (a - H.length) b
 have hJlt:∀ g i l,J g i=some l→g < H.length:=fun g i l hJ=>fT ((hH.dom g i l hJ).1)
 have x1:Ext M J M' J2:=⟨hs.m,fun g i l hJ=>by
  show(if g < H.length then J g i else J' (g - H.length) i)=some l
  rw[if_pos (hJlt g i l hJ)]; exact hJ⟩
 have x2:Ext M' (J'.via (beh H.length)) M' J2:=⟨fun _ _ h=>h,fun a b l hJ=>by
  show(if a < H.length then J a b else J' (a - H.length) b)=some l
  by_cases hlt:a < H.length
  ·unfold Inj.via at hJ
   rw[IP hlt] at hJ
   cases hJ
  ·rw[if_neg hlt]
   unfold Inj.via at hJ;rw[uM (by omega)] at hJ
   exact hJ⟩
 have hl1:∀ a b,a < H.length→aQ (H++H0') a b→aQ H a b:=by
  rintro a b hlt ⟨x,hx,hxl⟩;rw[fL hlt] at hx;exact⟨x,hx,hxl⟩
 have hl2:∀ a b,H.length≤a→aQ (H++H0') a b→aQ H0 (a - H.length) b:=by
  rintro a b hge ⟨x,hx,hxl⟩;rw[fJ hge] at hx;obtain⟨y,hy,hb⟩:=r2 _ _ x hx hxl;exact⟨y,hy,hb.live hxl⟩
 have j1:∀ {a b:Nat} {l:Loc},a < H.length→J2 a b=some l→J a b=some l:=fun {a b l} hlt hJ=>by
  have:(if a < H.length then J a b else J' (a - H.length) b)=some l:=hJ
  rwa[if_pos hlt] at this
 have j2:∀ {a b:Nat} {l:Loc},H.length≤a→J2 a b=some l→J' (a - H.length) b=some l:=fun {a b l} hge hJ=>by
  have:(if a < H.length then J a b else J' (a - H.length) b)=some l:=hJ
  rwa[if_neg (by omega)] at this
 have hnew:∀ g i l β,aQ H0 g i→J' g i=some l→l.blk=some β→w.heap.size≤β:=fun g i l β a b c=>by
  rcases hs.live g i l β a b c with⟨g0,i0,l0,q,_⟩ | q
  ·exact absurd q (hno g0 i0)
  ·exact q
 have hfresh:∀ β o,M' β=some o→M β=some o∨w.heap.size≤β:=fun β o ho=>by
  rcases hs.fresh β o ho with q | q | ⟨g,i,l,q,_⟩
  ·exact .inl q
  ·exact .inr q
  ·exact absurd q (hno g i)
 refine⟨cv,M',J2,res',H++H0',rfl,⟨hs.m,fun g i l hg hJ=>x1.j g i l hJ,⟨?_,?_,?_,?_⟩,hs.mrep,hs.os,hs.tape,hs.output,hs.size,fun β o ho _=>hsame β o ho,?_,?_,hs.bk⟩,(hrep.ren r1).ext x2,r4⟩
 ·intro a b x hx hxl
  by_cases hlt:a < H.length
  ·rw[fL hlt] at hx
   obtain⟨l,p,q⟩:=hH.blk a b x hx hxl;refine⟨l,x1.j a b l p,q.ext x1 fun β hβ=>?_⟩;have hb:=(hH.dom a b l p).2 β hβ;rw[Array.getElem?_eq_getElem hb];exact hsame β _ (Array.getElem?_eq_getElem hb)
  ·rw[fJ (by omega)] at hx
   obtain⟨y,hy,hb⟩:=r2 _ _ x hx hxl;obtain⟨l,p,q⟩:=hs.hrep.blk _ _ y hy (hb.live hxl);refine⟨l,x2.j a b l ?_,(q.ren hb).ext x2 fun β _=>rfl⟩;unfold Inj.via;rw[uM (by omega)];exact p
 ·intro a b a' b' l l' β la lb ja jb ba bb
  by_cases h1:a < H.length
  ·by_cases h2:a' < H.length
   ·exact hH.inj a b a' b' l l' β (hl1 a b h1 la) (hl1 a' b' h2 lb) (j1 h1 ja) (j1 h2 jb) ba bb
   ·have q1:=(hH.dom a b l (j1 h1 ja)).2 β ba
    have q2:=hnew _ _ l' β (hl2 a' b' (by omega) lb) (j2 (by omega) jb) bb;omega
  ·by_cases h2:a' < H.length
   ·have q1:=(hH.dom a' b' l' (j1 h2 jb)).2 β bb
    have q2:=hnew _ _ l β (hl2 a b (by omega) la) (j2 (by omega) ja) ba;omega
   ·have:=hs.hrep.inj _ _ _ _ l l' β (hl2 a b (by omega) la) (hl2 a' b' (by omega) lb) (j2 (by omega) ja) (j2 (by omega) jb) ba bb
    exact⟨by omega,this.2⟩
 ·intro a b l β la ja ba
  by_cases h1:a < H.length
  ·cases e:M' β with
   | none=>rfl
   | some o=>
    rcases hfresh β o e with q | q
    ·rw[hH.out a b l β (hl1 a b h1 la) (j1 h1 ja) ba] at q; cases q
    ·have:=(hH.dom a b l (j1 h1 ja)).2 β ba; omega
  ·exact hs.hrep.out _ _ l β (hl2 a b (by omega) la) (j2 (by omega) ja) ba
 ·intro a b l ja
  by_cases h1:a < H.length
  ·have:=hH.dom a b l (j1 h1 ja)
   exact⟨by rw[fL h1]; exact this.1,fun β hβ=>Nat.lt_of_lt_of_le (this.2 β hβ) hs.size⟩
  ·have:=hs.hrep.dom _ _ l (j2 (by omega) ja)
   exact⟨by rw[fJ (by omega)]; exact r3 _ _ this.1,this.2⟩
 ·intro β o ho
  rcases hfresh β o ho with q | q
  ·exact .inl q
  ·exact .inr (.inl q)
 ·intro a b l β la ja ba
  by_cases h1:a < H.length
  ·exact .inl ⟨a,b,l,hl1 a b h1 la,j1 h1 ja,ba⟩
  ·exact .inr (hnew _ _ l β (hl2 a b (by omega) la) (j2 (by omega) ja) ba)
end Go.Av
namespace Go.Av
open Go.RowKit Go.WideShapes Go.ChangeShapes Go.ChangeAt
inductive ASh
 | one (s:Sh)
 | agg (r:List Sh)
inductive AFit:ASh→AV→Prop
 | one {s:Sh} {c:AV} (h:Fit s c):AFit (.one s) c
 | agg {r:List Sh} {cs:List AV} (hl:cs.length=r.length) (h:∀(j:Nat) s c,r[j]?=some s→cs[j]?=some c→Fit s c):AFit (.agg r) (.agg cs)
section
variable {H:Type} {enc:TypeId×Value→H} {P:Program}
end
end Go.Av
namespace Go.Av
open Go.RowKit Go.WideShapes Go.ChangeShapes Go.ChangeAt
def wgt:Sh→Nat
 | .int k=>match k with
  | .u8=>1
  | .i64=>8
  | .u64=>8
  | _=>1
 | .bool=>1
 | .str=>16
 | .float _=>1
 | .slice _=>24
 | .any=>24
def uS:List Sh→Nat
 | []=>0
 | s::r=>wgt s+uS r
inductive jN:Sh→AV→Prop
 | int (k:IntKind) (n:Int) (h:(Lit.int k n).wf=true):jN (.int k) (.sc (.int k n))
 | bool (b:Bool):jN .bool (.sc (.bool b))
 | str (s:ByteArray) (h:s.size≤maxLen):jN .str (.sc (.string s))
 | float (k:FloatKind) (b:Nat) (h:(Lit.float k b).wf=true):jN (.float k) (.sc (.float k b))
 | slice (row:List Sh) (rows:List (List AV)) (hl:rows.length≤maxLen) (hw:rows.length * uS row≤reachBytes) (hr:∀ r∈rows,r.length=row.length) (h:∀ r∈rows,∀(j:Nat) s c,row[j]?=some s→r[j]?=some c→jN s c):jN (.slice row) (.list row.length rows)
 | any:jN .any .one
mutual
def uX (P:Program):Nat→TypeId→Option (List Sh)
 | 0,_=>none
 | d+1,t=>match P.underlying t with
  | some .bool=>some [.bool]
  | some (.int k)=>some [.int k]
  | some .string=>some [.str]
  | some (.float k)=>some [.float k]
  | some (.slice e)=>match uX P d e with
   | some (s::r)=>match Nat.beq (P.cellsOf e) (s::r).length && Nat.ble (uS (s::r)) (P.bytesOf e) with
    | true=>some [.slice (s::r)]
    | false=>none
   | _=>some [.any]
  | some (.struct fs)=>match wF P d 0 fs.toList with
   | some r=>match Nat.beq (P.cellsOf t) r.length with
    | true=>some r
    | false=>none
   | none=>none
  | some (.array n e)=>match uX P d e with
   | some r=>match Nat.beq (P.cellsOf e) r.length && Nat.beq (P.cellsOf t) (n * r.length) with
    | true=>some (z8 r n)
    | false=>none
   | none=>none
  | _=>none
def wF (P:Program):Nat→Nat→List Field→Option (List Sh)
 | 0,_,_=>none
 | _+1,_,[]=>some []
 | d+1,off,f::fs=>match uX P d f.type,wF P d (off+P.cellsOf f.type) fs with
  | some r,some q=>match Nat.beq f.offset off && Nat.beq (P.cellsOf f.type) r.length with
   | true=>some (r++q)
   | false=>none
  | _,_=>none
end
inductive n8:ASh→AV→Prop
 | one {s:Sh} {c:AV} (h:jN s c):n8 (.one s) c
 | agg {r:List Sh} {cs:List AV} (hl:cs.length=r.length) (h:∀(j:Nat) s c,r[j]?=some s→cs[j]?=some c→jN s c):n8 (.agg r) (.agg cs)
section
variable {H:Type} {enc:TypeId×Value→H} {P:Program} {w:World}
theorem iR {e:TypeId} {d:DataW H} {n:Nat} (hn:n∈d.weights P e):∀ {l:List (DataW H)},d∈l→n∈DataW.weightsAll P e l
 | [],h=>by cases h
 | x::l,h=>by
  unfold DataW.weightsAll
  rcases List.mem_cons.1 h with h | h
  ·subst h; exact List.mem_append_left _ hn
  ·exact List.mem_append_right _ (iR hn h)
theorem g9 {t:TypeId} {d:DataW H} {n:Nat} (hn:n∈d.weights P t):∀ {ts:List TypeId} {ds:List (DataW H)} {i:Nat},ts[i]?=some t→ds[i]?=some d→n∈DataW.weightsEach P ts ds
 | [],_,_,h,_=>by simp at h
 | _::_,[],_,_,h=>by simp at h
 | u::ts,x::ds,0,h1,h2=>by
  injection h1 with h1
  injection h2 with h2
  subst h1 h2;unfold DataW.weightsEach;exact List.mem_append_left _ hn
 | u::ts,x::ds,i+1,h1,h2=>by
  unfold DataW.weightsEach;exact List.mem_append_right _ (g9 hn (by simpa using h1) (by simpa using h2))
def f9 (w:World) (row:List Sh) (cs:List Value):Prop:=
 cs.length=row.length∧∃ avs:List AV,avs.length=row.length∧(∀(j:Nat) s c,row[j]?=some s→avs[j]?=some c→jN s c)∧∀(j:Nat) c v,avs[j]?=some c→cs[j]?=some v→Rep (kX w) noJ c v∧v.oneCell'=true
theorem f9.one {s:Sh} {v:Value} {a:AV} (hf:jN s a) (hr:Rep (kX w) noJ a v) (h1:v.oneCell'=true):f9 w [s] [v]:=by
 refine⟨rfl,[a],rfl,fun j s' c h h'=>?_,fun j c u h h'=>?_⟩
 ·cases j with
  | zero=>simp at h h'; subst h; subst h'; exact hf
  | succ j=>simp at h
 ·cases j with
  | zero=>simp at h h'; subst h; subst h'; exact⟨hr,h1⟩
  | succ j=>simp at h
theorem f9.append {r q:List Sh} {a b:List Value} (h1:f9 w r a) (h2:f9 w q b):f9 w (r++q) (a++b):=by
 obtain⟨l1,x,e1,f1,g1⟩:=h1;obtain⟨l2,y,e2,f2,g2⟩:=h2;refine⟨by simp[l1,l2],x++y,by simp[e1,e2],fun j s c h h'=>?_,fun j c v h h'=>?_⟩
 ·rw[List.getElem?_append] at h h'
  rw[e1] at h';split at h
  ·rename_i hj; rw[if_pos hj] at h'; exact f1 j s c h h'
  ·rename_i hj; rw[if_neg hj] at h'; exact f2 _ s c h h'
 ·rw[List.getElem?_append] at h h'
  rw[e1,← l1] at h;split at h
  ·rename_i hj; rw[if_pos hj] at h'; exact g1 j c v h h'
  ·rename_i hj; rw[if_neg hj] at h'; exact g2 _ c v h h'
theorem f9.rep {r:List Sh}:∀(n off:Nat) (cs:List Value),cs.length=off+n * r.length→(∀ i,i < n→f9 w r ((cs.drop (off+i * r.length)).take r.length))→f9 w (z8 r n) (cs.drop off)
 | 0,off,cs,hl,_=>⟨by simp at hl ⊢; simp[z8]; omega,[],rfl,fun j s c h=>by simp[z8] at h,fun j c v h=>by simp at h⟩
 | n+1,off,cs,hl,h=>by
  have h0:=h 0 (by omega);rw[Nat.zero_mul,Nat.add_zero] at h0
  have h1:=f9.rep (r:=r) n (off+r.length) cs (by rw[hl,Nat.succ_mul]; omega) fun i hi=>by
   have:=h (i+1) (by omega)
   rwa[Nat.succ_mul,Nat.add_comm (i * r.length) r.length,← Nat.add_assoc] at this
  have:=h0.append h1;rw[← List.drop_drop,List.take_append_drop] at this;exact this
mutual
theorem DI:∀(d fuel:Nat) (t:TypeId) (cs:List Value) (x:DataW H×List MemPlace) (row:List Sh),DataW.trod enc P w 0 (fun _=>true) true fuel t cs=some x→uX P d t=some row→(∀ n∈x.1.weights P t,n≤reachBytes)→f9 w row cs
 | 0,_,_,_,_,_,_,hs,_=>by simp[uX] at hs
 | d+1,fuel,t,cs,x,row,h,hs,hwt=>by
  simp only[uX] at hs;split at hs
  ·rename_i ht
   injection hs with hs; subst hs
   obtain⟨b,rfl,_⟩:=DataW.trod_bool ht h;exact .one (.bool b) (.sc _) rfl
  ·rename_i k ht
   injection hs with hs; subst hs
   obtain⟨n,rfl,_,hw⟩:=DataW.trod_int ht h;exact .one (.int k n hw) (.sc _) rfl
  ·rename_i ht
   injection hs with hs; subst hs
   obtain⟨s,rfl,_,hw⟩:=DataW.trod_string ht h;exact .one (.str s hw) (.sc _) rfl
  ·rename_i k ht
   injection hs with hs; subst hs
   cases fuel with
   | zero=>simp[DataW.trod] at h
   | succ n=>
    unfold DataW.trod at h;rw[ht] at h
    split at h<;>simp_all
    exact .one (.float _ _ h.1.2) (.sc _) rfl
  ·rename_i e ht
   split at hs
   ·rename_i s r he
    split at hs
    ·rename_i hce
     simp only[bAe] at hce;have hsz:P.cellsOf e=(s::r).length:=nEb hce.1;have hby:uS (s::r)≤P.bytesOf e:=nlB hce.2
     injection hs with hs; subst hs
     rcases DataW.trod_slice ht h with⟨rfl,_⟩ | ⟨a,len,cap,elems,rest,n,_,rfl,hxe,_,hlc,hcm,hel,hread,_,_⟩
     ·exact .one (.slice (s::r) [] (by simp) (by simp) (fun q hq=>by cases hq) (fun q hq=>by cases hq)) (.nilList _ _ _) rfl
     ·subst hxe
      have hwx:∀ n∈(elems.length+rest.length) * P.bytesOf e::(DataW.weightsAll P e (elems.map (·.1))++DataW.weightsAll P e (rest.map (·.1))),n≤reachBytes:=by
       simpa only[DataW.weights,ht,List.length_map] using hwt
      have each:∀ i,i < len→∃ avs:List AV,avs.length=(s::r).length∧(∀(j:Nat) s' c,(s::r)[j]?=some s'→avs[j]?=some c→jN s' c) ∧
        ∀(j:Nat) c,avs[j]?=some c→∃ v,w.cell? ((a.add (i * (s::r).length)).add j)=some v∧Rep (kX w) noJ c v∧v.oneCell'=true:=by
       intro i hi;have h1:=hread i hi;rw[gEg (by omega),Option.bind_eq_some_iff] at h1;obtain⟨cells,hc,hy⟩:=h1;obtain⟨_,hcl,hcell⟩:=World.cells?_some hc
       obtain⟨hl,avs,e1,e2,e3⟩:=DI d n e cells _ _ hy he fun m hm=>hwx m (mCm _ (List.mem_append_left _ (iR hm (List.mem_map.2 ⟨_,gMe _,rfl⟩))))
       refine⟨avs,e1,e2,fun j c hj=>?_⟩;have hjl:=(gEs.1 hj).1;have hv:cells[j]?=some (cells[j]'(by omega)):=gEg (by omega);refine⟨cells[j]'(by omega),?_,e3 j c _ hj hv⟩;rw[← hsz,hcell j (by omega),hv]
      obtain⟨rows,hrl,hrows⟩:=qQ _ len each
      have hfit:jN (.slice (s::r)) (.list (s::r).length rows):=by
       refine .slice _ _ (by rw[hrl]; omega) (by
        rw[hrl];have h1:=hwx _ (List.mem_cons_self ..);have h2:len * uS (s::r)≤(elems.length+rest.length) * P.bytesOf e:=Nat.mul_le_mul (by omega) hby
        omega) (fun q hq=>?_) (fun q hq=>?_)
       ·obtain⟨i,hi⟩:=List.getElem?_of_mem hq
        exact(hrows i q hi).1
       ·obtain⟨i,hi⟩:=List.getElem?_of_mem hq
        exact(hrows i q hi).2.1
      by_cases hlen:len=0
      ·subst hlen
       have:rows=[]:=by simpa using hrl
       subst this;exact .one hfit (.nilList _ _ _) rfl
      ·have getR:∀ i,i < len→∃ q,rows[i]?=some q:=fun i hi=>⟨rows[i],gEg (by omega)⟩
       have cellAt:∀ i j,i < len→j < (s::r).length→∃ c v,(∃ q,rows[i]?=some q∧q[j]?=some c)∧w.cell? ((a.add (i * (s::r).length)).add j)=some v∧Rep (kX w) noJ c v∧v.oneCell'=true:=by
        intro i j hi hj;obtain⟨q,hq⟩:=getR i hi;obtain⟨h1,_,h3⟩:=hrows i q hq;have hqj:q[j]?=some (q[j]'(by omega)):=gEg (by omega);obtain⟨v,hv1,hv2⟩:=h3 j _ hqj;exact⟨_,v,⟨q,hq,hqj⟩,hv1,hv2⟩
       obtain⟨c0,v0,_,hv0,_,_⟩:=cellAt 0 0 (by omega) (by simp)
       have ha0:(a.add (0 * (s::r).length)).add 0=a:=by simp[Addr.add]
       rw[ha0] at hv0;obtain⟨csb,eb,frb,hb,hsp,_⟩:=uN hv0
       have ha:a=⟨a.block,a.off,none⟩:=by cases a; simp_all
       have hadd:∀ k j,(a.add k).add j=⟨a.block,a.off+(k+j),none⟩:=by
        intro k j;rw[ha,cC,cC,Nat.add_assoc]
       have hcell:∀ i j,i < len→j < (s::r).length→∃ c v,(∃ q,rows[i]?=some q∧q[j]?=some c)∧csb[a.off+(i * (s::r).length+j)]?=some v∧Rep (kX w) noJ c v∧v.oneCell'=true:=by
        intro i j hi hj;obtain⟨c,v,h1,h2,h3⟩:=cellAt i j hi hj;rw[hadd] at h2;refine⟨c,v,h1,?_,h3⟩;rw[kG hb] at h2;exact h2
       have hsz0:0 < (s::r).length:=by simp
       rw[ha];refine .one hfit (.list (s::r).length rows a.block a.off cap len csb eb frb ⟨hrl.symm,hlc⟩ hb (fun i q hq=>(hrows i q hq).1) ?_ (fun j v hj hv=>?_) (fun i q j c v hq hc hv=>?_)) rfl
       ·obtain⟨_,v,_,hv,_⟩:=hcell (len - 1) ((s::r).length - 1) (by omega) (by omega)
        have:=(Array.getElem?_eq_some_iff.1 hv).1
        have e1:(len - 1) * (s::r).length+(s::r).length=len * (s::r).length:=by
         rw[← Nat.succ_mul]; congr 1; omega
        rw[hrl];omega
       ·rw[hrl] at hj
        have hi:j / (s::r).length < len:=(Nat.div_lt_iff_lt_mul hsz0).2 hj;have hm:j % (s::r).length < (s::r).length:=Nat.mod_lt _ hsz0;obtain⟨c,v',_,h2,_,h4⟩:=hcell _ _ hi hm
        have e1:j / (s::r).length * (s::r).length+j % (s::r).length=j:=by rw[Nat.mul_comm]; exact Nat.div_add_mod _ _
        rw[e1,hv] at h2
        injection h2 with h2
        subst h2;exact h4
       ·have hi:=(gEs.1 hq).1
        have hj:=(gEs.1 hc).1;rw[(hrows i q hq).1] at hj;obtain⟨c',v',⟨q',h1,h1'⟩,h2,h3,_⟩:=hcell i j (by omega) hj;rw[hq] at h1
        injection h1 with h1
        subst h1;rw[hc] at h1'
        injection h1' with h1'
        subst h1';rw[← Nat.add_assoc,hv] at h2
        injection h2 with h2
        subst h2;exact h3
    ·cases hs
   ·injection hs with hs; subst hs
    rcases DataW.trod_slice ht h with⟨rfl,_⟩ | ⟨a,len,cap,elems,rest,n,_,rfl,_⟩
    ·exact .one .any (.one _ rfl) rfl
    ·exact .one .any (.one _ rfl) rfl
  ·rename_i fs ht
   split at hs
   ·rename_i q hq
    split at hs
    ·rename_i hce
     have hsz:P.cellsOf t=q.length:=nEb hce
     injection hs with hs; subst hs
     obtain⟨xs,n,_,hxe,hl,hlen,hf⟩:=DataW.trod_struct ht h;subst hxe
     have hwx:∀ n∈DataW.weightsEach P (fs.toList.map (·.type)) (xs.map (·.1)),n≤reachBytes:=by
      simpa only[DataW.weights,ht] using hwt
     have:=JP d n fs.toList 0 cs q hq (by omega) (fun i f hi=>by
      have h1:=hf i f (by simpa using hi);have hi':=(Array.getElem?_eq_some_iff.1 (show fs[i]?=some f by simpa using hi)).1;have:xs[i]?=some (xs[i]'(by omega)):=gEg (by omega)
      exact⟨_,h1.trans this,fun m hm=>hwx m (g9 (i:=i) hm (by rw[List.getElem?_map,hi]; rfl) (by rw[List.getElem?_map,this]; rfl))⟩)
     rwa[List.drop_zero] at this
    ·cases hs
   ·cases hs
  ·rename_i n e ht
   split at hs
   ·rename_i r hr
    split at hs
    ·rename_i hce
     simp only[bAe] at hce;have hsz:P.cellsOf e=r.length:=nEb hce.1;have hst:P.cellsOf t=n * r.length:=nEb hce.2
     injection hs with hs; subst hs
     obtain⟨xs,m,_,hxe,hl,hlen,hel⟩:=DataW.trod_array ht h;subst hxe
     have hwx:∀ n∈DataW.weightsAll P e (xs.map (·.1)),n≤reachBytes:=by
      simpa only[DataW.weights,ht] using hwt
     have:=f9.rep (w:=w) (r:=r) n 0 cs (by rw[hl,hst,Nat.zero_add]) fun i hi=>by
      have hy:=hel i hi;rw[gEg (by omega)] at hy;rw[Nat.zero_add,← hsz]
      exact DI d m e _ _ r hy hr fun k hk=>hwx k (iR hk (List.mem_map.2 ⟨_,gMe _,rfl⟩))
     rwa[List.drop_zero] at this
    ·cases hs
   ·cases hs
  ·cases hs
theorem JP:∀(d n:Nat) (fs:List Field) (off:Nat) (cs:List Value) (q:List Sh),wF P d off fs=some q→cs.length=off+q.length →
  (∀(i:Nat) f,fs[i]?=some f→∃ y,DataW.trod enc P w 0 (fun _=>true) true n f.type ((cs.drop f.offset).take (P.cellsOf f.type))=some y∧∀ n∈y.1.weights P f.type,n≤reachBytes)→f9 w q (cs.drop off)
 | 0,_,_,_,_,_,hs,_,_=>by simp[wF] at hs
 | d+1,n,[],off,cs,q,hs,hl,_=>by
  simp only[wF,oIn] at hs;subst hs;refine⟨by simp at hl ⊢; omega,[],rfl,fun j s c h=>by simp at h,fun j c v h=>by simp at h⟩
 | d+1,n,f::fs,off,cs,q,hs,hl,hf=>by
  simp only[wF] at hs;split at hs
  ·rename_i r q' h1 h2
   split at hs
   ·rename_i hb
    simp only[bAe] at hb;have e1:f.offset=off:=nEb hb.1;have e2:P.cellsOf f.type=r.length:=nEb hb.2
    injection hs with hs; subst hs
    obtain⟨y,hy,hyw⟩:=hf 0 f rfl;rw[e1] at hy;have k1:=DI d n f.type _ y r hy h1 hyw;have k2:=JP d n fs (off+P.cellsOf f.type) cs q' h2 (by rw[e2]; simp at hl; omega) (fun i g hi=>hf (i+1) g (by simpa using hi));have:=k1.append k2
    have e3:(cs.drop off).take (P.cellsOf f.type)++cs.drop (off+P.cellsOf f.type)=cs.drop off:=by
     rw[← List.drop_drop,List.take_append_drop]
    rwa[e3] at this
   ·cases hs
  ·cases hs
end
theorem KL {w:World} {base:Nat} {t:TypeId} {v:Value} {d:Nat} {s:Sh} (hs:uX P d t=some [s]) (hn:∀ fs,P.underlying t≠some (.struct fs)) (hn2:∀ n e,P.underlying t≠some (.array n e)) (h:Value.okWide P w .any base t v):v.cells.toList=[v]:=by
 cases v with
 | agg cs=>
  exfalso
  cases d with
  | zero=>simp[uX] at hs
  | succ d=>
   simp only[uX] at hs;split at hs
   ·rename_i ht; simp[Value.okWide,ht,Cell.okWide,Cell.ok] at h
   ·rename_i k ht; simp[Value.okWide,ht,Cell.okWide,Cell.ok] at h
   ·rename_i ht; simp[Value.okWide,ht,Cell.okWide,Cell.ok] at h
   ·rename_i k ht; simp[Value.okWide,ht,Cell.okWide,Cell.ok] at h
   ·rename_i e ht; simp[Value.okWide,ht,Cell.okWide,Cell.ok] at h
   ·rename_i fs ht; exact hn fs ht
   ·rename_i n e ht; exact hn2 n e ht
   ·cases hs
 | _=>rfl
def kC (P:Program) (d:Nat):List TypeId→Option (List ASh)
 | []=>some []
 | t::ts=>match uX P d t,kC P d ts with
  | some q,some r=>match P.underlying t with
   | some (.struct _)=>some (.agg q::r)
   | some (.array _ _)=>none
   | _=>match q with
    | [s]=>some (.one s::r)
    | _=>none
  | _,_=>none
theorem qX {w:World} {base d:Nat}:∀(ts:List TypeId) (row:List ASh) (vs:List Value) (ds:List (DataW H)) (ps:List MemPlace),DataW.TrodAll enc P w 0 (fun _=>true) true ts vs ds ps→kC P d ts=some row→(∀(i:Nat) t d,ts[i]?=some t→ds[i]?=some d→∀ n∈d.weights P t,n≤reachBytes) →
  (∀(j:Nat) t v,ts[j]?=some t→vs[j]?=some v→Value.okWide P w .any base t v) →
  vs.length=row.length∧∃ avs:List AV,avs.length=row.length∧(∀(j:Nat) s c,row[j]?=some s→avs[j]?=some c→n8 s c)∧∀(j:Nat) c v,avs[j]?=some c→vs[j]?=some v→Rep (kX w) noJ c v
 | [],row,[],_,_,_,hs,_,_=>by
  simp only[kC,oIn] at hs;subst hs;exact⟨rfl,[],rfl,fun j s c h=>by simp at h,fun j c v h=>by simp at h⟩
 | t::ts,row,v::vs,d0::ds,ps,h,hs,hsz,hc=>by
  obtain⟨p,q,⟨fuel,h1⟩,h2,_⟩:=h;simp only[kC] at hs;have hv:=hc 0 t v rfl rfl;split at hs
  ·rename_i q0 r e1 e2
   obtain⟨l2,avs,k1,k2,k3⟩:=qX ts r vs ds q h2 e2 (fun i t d a b=>hsz (i+1) t d (by simpa using a) (by simpa using b)) fun j t v a b=>hc (j+1) t v (by simpa using a) (by simpa using b)
   have hk:=DI d fuel t _ _ _ h1 e1 (hsz 0 t d0 rfl rfl)
   have fin:∀(s:ASh) (c:AV),n8 s c→Rep (kX w) noJ c v→(v::vs).length=(s::r).length∧∃ avs:List AV,avs.length=(s::r).length∧(∀(j:Nat) s' c,(s::r)[j]?=some s'→avs[j]?=some c→n8 s' c)∧∀(j:Nat) c v',avs[j]?=some c→(v::vs)[j]?=some v'→Rep (kX w) noJ c v':=by
    intro s c hf hr;refine⟨by simp[l2],c::avs,by simp[k1],fun j s' c' a b=>?_,fun j c' v' a b=>?_⟩
    ·cases j with
     | zero=>simp at a b; subst a; subst b; exact hf
     | succ j=>exact k2 j s' c' (by simpa using a) (by simpa using b)
    ·cases j with
     | zero=>simp at a b; subst a; subst b; exact hr
     | succ j=>exact k3 j c' v' (by simpa using a) (by simpa using b)
   split at hs
   ·rename_i fs ht
    injection hs with hs; subst hs
    cases v with
    | agg cells=>
     obtain⟨m1,cs,m2,m3,m4⟩:=hk;refine fin _ (.agg cs) (.agg m2 m3) (.agg cs cells ?_ fun j c u a b=>(m4 j c u a (by simpa[Value.cells] using b)).1);simp[Value.cells] at m1;omega
    | _=>simp[Value.okWide,ht] at hv
   ·cases hs
   ·rename_i hne hne2
    split at hs
    ·injection hs with hs; subst hs
     rw[KL e1 (fun fs hf=>hne fs hf) (fun n e hf=>hne2 n e hf) hv] at hk;obtain⟨m1,cs,m2,m3,m4⟩:=hk
     match cs,m2 with
     | [c],_=>exact fin _ c (.one (m3 0 _ c rfl rfl)) (m4 0 c v rfl rfl).1
    ·cases hs
  ·cases hs
theorem BV {f:FuncId} {fn:Func} {s:ChangeSpec} {row:List ASh} {d:Nat} {tb:TypeId} (hs:kC P d fn.params.toList=some row) (hvars:s.vars=[])
  (hl:laidOutB P=true) (hm:mapsRowed P=true) (hz:∀ t e,t < P.types.size→P.underlying t=some (.slice e)→0 < P.cellsOf e) (hts:∀ t∈fn.params.toList,t < P.types.size)
  (hr:fn.resultTypes=#[tb]) (htb:P.underlying tb=some .bool)
  (hspec:∀ ds:List (DataW H),ds.length=fn.params.size→(s.fn H ds).results=[.lit (.bool true)]∧(s.fn H ds).args=ds∧(s.fn H ds).vars=[])
  (hc:∀ avs:List AV,avs.length=row.length→(∀(j:Nat) t c,row[j]?=some t→avs[j]?=some c→n8 t c)→aE P f avs [] fun res _=>res=.sc (.bool true))
  {W:World} {base:Nat} {args:Array Value} {ds gs:List (DataW H)} {before:List MemPlace}
  (hval:∀(j:Nat) t v,fn.params[j]?=some t→args[j]?=some v→Value.okWide P W .any base t v) (hW:DataW.Whole enc P fn.params.toList s.vars false W args.toList ds gs before) {us:List TypeId} (hall:(DataW.weightsEach P (fn.params.toList++us) (ds++gs)).all (·≤reachBytes)=true):
  Calls P f args W fun e W'=>∃ v,e=.returned v∧s.post enc P fn false true false false W args v W':=by
 have hW0:=hW;obtain⟨p,q,h1,h2,e,hzf,hn⟩:=hW;obtain⟨l1,l2⟩:=trodAll_length h1
 have hgs:gs=[]:=by
  rw[hvars] at h2
  cases gs with
  | nil=>rfl
  | cons=>exact h2.elim
 subst hgs
 obtain⟨hlen,avs,e1,e2,e3⟩:=qX (base:=base) fn.params.toList row args.toList ds p h1 hs (fun i t d ht hd n hn'=>by
  have h9:=List.all_eq_true.1 hall n (g9 (i:=i) hn' (by rw[List.getElem?_append_left (gEs.1 ht).1]; exact ht) (by rw[List.getElem?_append_left (gEs.1 hd).1]; exact hd))
  simpa using h9) (fun j t v a b=>hval j t v (by simpa using a) (by simpa using b))
 refine((hc avs e1 e2).2 (kX W) noJ W args (by simp at hlen; omega) (fun j c v a b=>e3 j c v a (by simpa using b)) (MD _ _) (E9 W)).mono ?_;rintro e W' ⟨v,M',J',res,H',rfl,hst,hrep,rfl⟩
 cases hrep
 obtain⟨r1,r2,r3⟩:=hspec ds (by simp at l1 l2 ⊢; omega);refine⟨.bool true,rfl,uU hW0 hvars hl hm hz hts hr htb (by rw[List.append_nil]; exact r1) (by rw[List.append_nil]; exact r2) (by rw[List.append_nil]; exact r3) ?_⟩;exact Below.same (fun β o h=>hst.mrep β o (hst.m β o h)) hst.os hst.tape.1 hst.output hst.size
end
end Go.Av
namespace Go.Av
theorem AP {g i g' i':Nat} {fr:Fr} {o:IOp} {H H':Heap} {v:AV} (hd:dwr g i fr o=[]) (h:aD g i o fr H=some (v,H')):H'=H∧aD g' i' o fr H=some (v,H):=by
 have fin:∀ {x:Option (AV×Heap)},aD g i o fr H=x→aD g' i' o fr H=x→H'=H→H'=H∧aD g' i' o fr H=some (v,H):=fun {x} h1 h2 h3=>⟨h3,by rw[h2,← h1,h,h3]⟩
 cases o with
 | alloc | box | buildSlice | makeMap | makeSlice | append=>simp[dwr] at hd
 | store sz a x=>
  simp only[dwr] at hd;simp only[aD] at h;split at h
  ·rename_i e
   rw[e] at hd;simp[bB] at hd
  ·cases h
 | mapUpdate k m ix x=>
  simp only[dwr] at hd;simp only[aD] at h;split at h
  ·rename_i e _
   rw[e] at hd;simp[bB] at hd
  ·cases h
 | mop e xs=>
  simp only[dwr] at hd;simp only[aD] at h
  have hm:∀ r,dG g i H e (avals fr xs)=some r→dG g' i' H e (avals fr xs)=some r∧r.2=H:=by
   intro r hr;generalize avals fr xs=as at *;unfold dG at hr ⊢
   cases e with
   | range=>simp[mwr] at hd
   | slice0=>simp[mwr] at hd
   | sliceA=>
    refine⟨hr,?_⟩;simp only at hr
    (repeat' split at hr)<;>(try (cases hr; done))<;>(injection hr with hr; rw[← hr])
   | next=>
    refine⟨hr,?_⟩;simp only at hr
    (repeat' split at hr)<;>(try (cases hr; done))<;>(injection hr with hr; rw[← hr])
   | entry=>
    refine⟨hr,?_⟩;simp only at hr
    (repeat' split at hr)<;>(try (cases hr; done))<;>(injection hr with hr; rw[← hr])
   | cap=>
    refine⟨hr,?_⟩;simp only at hr
    (repeat' split at hr)<;>(try (cases hr; done))<;>(injection hr with hr; rw[← hr])
   | stop=>cases hr
   | appN=>simp[mwr] at hd
   | strB=>simp[mwr] at hd
   | iface t=>
    refine⟨hr,?_⟩;simp only[gT] at hr
    (repeat' split at hr)<;>(try (cases hr; done))<;>(injection hr with hr; rw[← hr])
   | s2a n=>
    refine⟨hr,?_⟩;simp only at hr
    (repeat' split at hr)<;>(try (cases hr; done))<;>(injection hr with hr; rw[← hr])
   | sliceP n lo hi=>
    refine⟨hr,?_⟩;obtain⟨u,H1⟩:=r;simp only at hr
    (repeat' split at hr)<;>(try (cases hr; done))<;>exact(v8 (H2:=H) hr).2
   | nilM T=>
    refine⟨hr,?_⟩;simp only at hr
    (repeat' split at hr)<;>(try (cases hr; done))<;>(injection hr with hr; rw[← hr])
   | markS=>
    simp only at hr;split at hr
    ·simp[mwr,bB] at hd
    ·cases hr
   | clearM=>
    simp only at hr;split at hr
    ·simp[mwr,bB] at hd
    ·cases hr
   | del k=>
    simp only at hr;split at hr
    ·simp[mwr,bB] at hd
    ·cases hr
   | clear z=>
    simp only at hr;split at hr
    ·exact⟨hr,by injection hr with hr; rw[← hr]⟩
    ·simp[mwr,bB] at hd
    ·cases hr
   | copy sz=>
    simp only at hr;split at hr
    ·simp[mwr,bB] at hd
    ·cases hr
  obtain⟨h1,h2⟩:=hm _ h;simp only at h2;subst h2;exact⟨rfl,by simp only[aD]; exact h1⟩
 | insF ks m ix x=>
  simp only[dwr] at hd;simp only[aD] at h;split at h
  ·rename_i e _
   rw[e] at hd;simp[bB] at hd
  ·cases h
 | lookup z k x ix ok=>
  refine fin rfl rfl ?_;simp only[aD] at h;split at h
  ·split at h
   ·generalize l7 H _ _ _=r at h
    cases r with
    | none=>cases h
    | some r=>cases r<;>cases ok<;>simp only[lM,oIn,pIn] at h<;>exact h.2.symm
   ·cases h
  ·cases h
 | move x=>exact fin rfl rfl (by simp only[aD,gT,oIn,pIn] at h; exact h.2.symm)
 | makeFunc fn a b=>exact fin rfl rfl (by simp only[aD,wZ,oIn,pIn] at h; exact h.2.symm)
 | _=>
  refine fin rfl rfl ?_;simp only[aD] at h
  try simp only[gT] at h
  (repeat' split at h)<;>(try (cases h; done))<;>(simp only[oIn,pIn] at h; exact h.2.symm)
def eZ:List (Nat×Nat)→Heap→Heap→Prop
 | [],_,_=>True
 | q::r,H,H'=>hget H' q.1 q.2=hget H q.1 q.2∧eZ r H H'
theorem eZ.mem {H H':Heap}:∀ {pr:List (Nat×Nat)},eZ pr H H'→∀ q∈pr,hget H' q.1 q.2=hget H q.1 q.2
 | _::_,h,q,hq=>by
  rcases List.mem_cons.1 hq with rfl | hq
  ·exact h.1
  ·exact h.2.mem q hq
theorem eZ.refl (H:Heap):∀ pr:List (Nat×Nat),eZ pr H H
 | []=>trivial
 | _::r=>⟨rfl,eZ.refl H r⟩
inductive RT (P:Program) (k:Nat):List (IOper×List (Nat×Nat))→Fr→Heap→(Fr→Heap→Prop)→Prop
 | nil {fr:Fr} {H:Heap} {K:Fr→Heap→Prop} (h:K fr H):RT P k [] fr H K
 | op {x:IOper} {pr:List (Nat×Nat)} {xs:List (IOper×List (Nat×Nat))} {fr:Fr} {H:Heap} {K:Fr→Heap→Prop} {o:IOp} {v:AV} {H':Heap} (hg:gok fr x.guard=some true) (hx:x.act=.op o) (hs:aD H.length 0 o fr H=some (v,H'))
   (hp:eZ pr H H') (h:RT P k xs (fr.put x.dst v) H' K):RT P k ((x,pr)::xs) fr H K
 | skip {x:IOper} {pr:List (Nat×Nat)} {xs:List (IOper×List (Nat×Nat))} {fr:Fr} {H:Heap} {K:Fr→Heap→Prop} (hg:gok fr x.guard=some false) (h:RT P k xs (fr.put x.dst (.sc Go.undef)) H K):RT P k ((x,pr)::xs) fr H K
 | call {x:IOper} {pr:List (Nat×Nat)} {xs:List (IOper×List (Nat×Nat))} {fr:Fr} {H:Heap} {K:Fr→Heap→Prop} {f:FuncId} {args:List Operand} {R:AV→Heap→Prop} (hk:k≤H.length) (hg:gok fr x.guard=some true) (hx:x.act=.call f args)
   (hc:aE P f (avals fr args) H R) (hp:∀ res H',R res H'→eZ pr H H') (h:∀ res H',R res H'→RT P k xs (fr.put x.dst res) H' K):RT P k ((x,pr)::xs) fr H K
 | callV {x:IOper} {pr:List (Nat×Nat)} {xs:List (IOper×List (Nat×Nat))} {fr:Fr} {H:Heap} {K:Fr→Heap→Prop} {f:Cal} {g:FuncId} {fs cs:List AV} {args:List Operand} {R:AV→Heap→Prop} (hk:k≤H.length) (hg:gok fr x.guard=some true)
   (hx:x.act=.callV f args) (hf:evC P fr f=.clo (.func g) fs cs) (hc:aE P g (fs++avals fr args++cs) H R) (hp:∀ res H',R res H'→eZ pr H H') (h:∀ res H',R res H'→RT P k xs (fr.put x.dst res) H' K):RT P k ((x,pr)::xs) fr H K
section
variable {P:Program} {N k:Nat} {xs:List (IOper×List (Nat×Nat))} {fr:Fr} {H:Heap} {K:Fr→Heap→Prop}
theorem RT.reg (h:RT P k xs fr H K):Reg P N k (xs.map (·.1)) fr H K:=by
 induction h with
 | nil h=>exact Reg.nil h
 | op hg hx hs _ _ ih=>exact Reg.op hg hx hs ih
 | skip hg _ ih=>exact Reg.skip hg ih
 | call hk hg hx hc _ _ ih=>exact Reg.call hk hg hx (hc.mono fun res H' hr=>ih res H' hr)
 | callV hk hg hx hf hc _ _ ih=>exact Reg.callV hk hg hx hf (hc.mono fun res H' hr=>ih res H' hr)
theorem RT.mono {K':Fr→Heap→Prop} (h:RT P k xs fr H K) (hk:∀ fr H,K fr H→K' fr H):RT P k xs fr H K':=by
 induction h with
 | nil h=>exact .nil (hk _ _ h)
 | op hg hx hs hp _ ih=>exact .op hg hx hs hp (ih hk)
 | skip hg _ ih=>exact .skip hg (ih hk)
 | call hk' hg hx hc hp _ ih=>exact .call hk' hg hx hc hp fun res H' hr=>ih res H' hr hk
 | callV hk' hg hx hf hc hp _ ih=>exact .callV hk' hg hx hf hc hp fun res H' hr=>ih res H' hr hk
theorem RT.cons {x:IOper} {pr:List (Nat×Nat)} (h:RT P k [(x,pr)] fr H fun fr' H'=>RT P k xs fr' H' K):RT P k ((x,pr)::xs) fr H K:=by
 have inv:∀ {fr:Fr} {H:Heap},RT P k [] fr H (fun fr' H'=>RT P k xs fr' H' K)→RT P k xs fr H K:=fun h=>by
  cases h with
  | nil h=>exact h
 cases h with
 | op hg hx hs hp h=>exact .op hg hx hs hp (inv h)
 | skip hg h=>exact .skip hg (inv h)
 | call hk' hg hx hc hp h=>exact .call hk' hg hx hc hp fun res H' hr=>inv (h res H' hr)
 | callV hk' hg hx hf hc hp h=>exact .callV hk' hg hx hf hc hp fun res H' hr=>inv (h res H' hr)
def Kc (K:Fr→Heap→Prop) (fr:Fr) (H:Heap):Prop:=∃ fr0:Fr,(∀ t,fr0.get t=fr.get t)∧K fr0 H
theorem Kc.of {K:Fr→Heap→Prop} {fr:Fr} {H:Heap} (h:K fr H):Kc K fr H:=⟨fr,fun _=>rfl,h⟩
theorem Kc.kc {K:Fr→Heap→Prop} {fr:Fr} {H:Heap} (h:Kc (Kc K) fr H):Kc K fr H:=by
 obtain⟨a,h1,b,h2,h3⟩:=h;exact⟨b,fun t=>(h2 t).trans (h1 t),h3⟩
theorem oL {fr fr2:Fr} (h:∀ t,fr.get t=fr2.get t) (d:Option Nat) (v:AV):∀ t,(fr.put d v).get t=(fr2.put d v).get t:=fun t=>by rw[gO,gO,h]
theorem RT.feq (h:RT P k xs fr H K):∀ {fr2:Fr},(∀ t,fr.get t=fr2.get t)→RT P k xs fr2 H (Kc K):=by
 induction h with
 | nil h=>exact fun he=>.nil ⟨_,he,h⟩
 | @op x pr xs fr H K o v H' hg hx hs hp _ ih=>
  intro fr2 he
  obtain⟨ha,hgk⟩:=iO (x:=x) (fr:=fr) (fr2:=fr2) fun t _=>(he t).symm
  refine .op (o:=o) (by rw[hgk,hg]) hx ?_ hp (ih (oL he _ _));rw[jD fun y hy=>ha y (by rw[hx]; exact hy)];exact hs
 | @skip x pr xs fr H K hg _ ih=>
  intro fr2 he
  obtain⟨ha,hgk⟩:=iO (x:=x) (fr:=fr) (fr2:=fr2) fun t _=>(he t).symm
  exact .skip (by rw[hgk,hg]) (ih (oL he _ _))
 | @call x pr xs fr H K f args R hk hg hx hc hp _ ih=>
  intro fr2 he
  obtain⟨ha,hgk⟩:=iO (x:=x) (fr:=fr) (fr2:=fr2) fun t _=>(he t).symm
  have hav:avals fr2 args=avals fr args:=List.map_congr_left fun y hy=>ha y (by rw[hx]; exact hy)
  exact .call (f:=f) (args:=args) hk (by rw[hgk,hg]) hx (by rw[hav]; exact hc) hp fun res H' hr=>ih res H' hr (oL he _ _)
 | @callV x pr xs fr H K f g fs cs args R hk hg hx hf hc hp _ ih=>
  intro fr2 he
  obtain⟨ha,hgk⟩:=iO (x:=x) (fr:=fr) (fr2:=fr2) fun t _=>(he t).symm
  have hav:avals fr2 args=avals fr args:=List.map_congr_left fun y hy=>ha y (by rw[hx]; exact mCm _ hy)
  exact .callV (f:=f) (args:=args) hk (by rw[hgk,hg]) hx (by unfold evC; rw[ha f.opd (by rw[hx]; exact List.mem_cons_self ..)]; exact hf) (by rw[hav]; exact hc) hp fun res H' hr=>ih res H' hr (oL he _ _)
def CA:IOp→Bool
 | .alloc _=>false
 | .box _=>false
 | .buildSlice _ _ _ _=>false
 | .makeMap=>false
 | .makeSlice _ _ _ _=>false
 | .store _ _ _=>false
 | .mapUpdate _ _ _ _=>false
 | .insF _ _ _ _=>false
 | .append _ _ _ _=>false
 | .mop e _=>CZ e
 | _=>true
theorem wJ {o:IOp} (h:CA o=true) (g i:Nat) (fr:Fr):dwr g i fr o=[]:=by cases o<;>first | rfl | exact vP h _ _ _ | cases h
def B2 (x y:IOper):Bool:=lX x.dst y.tmps && (lX y.dst x.tmps && kO x.dst y.dst)
theorem uB {d:Option Nat} {l:List Nat} (h:lX d l=true) (fr:Fr) (v:AV):∀ t∈l,(fr.put d v).get t=fr.get t:=fun t ht=>by
 rw[gO]
 cases d with
 | none=>simp
 | some d=>
  have:=List.all_eq_true.1 h t ht;rw[if_neg];intro e
  injection e with e
  subst e;simp at this
theorem KV {o:IOp} {fr fr2:Fr} (ho:∀ x∈o.opds,ev fr2 x=ev fr x):drd fr2 o=drd fr o:=by
 cases o with
 | xop e xs=>simp only[drd,show avals fr2 xs=avals fr xs from List.map_congr_left ho]
 | mop e xs=>simp only[drd,show avals fr2 xs=avals fr xs from List.map_congr_left ho]
 | _=>simp only[drd]<;>simp only[IOp.opds,List.mem_cons,List.not_mem_nil,or_false,forall_eq_or_imp,forall_eq] at ho<;>simp[ho]
def yI (x:IOper) (fr:Fr) (H:Heap) (v:AV) (B:List (Nat×Nat)):Prop:=
 (gok fr x.guard=some true∧∃ o,x.act=.op o∧CA o=true∧aD H.length 0 o fr H=some (v,H)∧∀ q∈drd fr o,q∈B)∨(gok fr x.guard=some false∧v=.sc Go.undef)
theorem yI.at {x:IOper} {fr fr2:Fr} {H H2:Heap} {v:AV} {B:List (Nat×Nat)} (h:yI x fr H v B) (hf:∀ t∈x.tmps,fr2.get t=fr.get t) (hB:∀ q∈B,hget H2 q.1 q.2=hget H q.1 q.2):yI x fr2 H2 v B:=by
 obtain⟨ha,hgk⟩:=iO (x:=x) (fr:=fr) (fr2:=fr2) hf
 rcases h with⟨h1,o,h2,h3,h4,h5⟩ | ⟨h1,h2⟩
 ·have ho:∀ y∈o.opds,ev fr2 y=ev fr y:=fun y hy=>ha y (by rw[h2]; exact hy)
  refine .inl ⟨by rw[hgk,h1],o,h2,h3,?_,by rw[KV ho]; exact h5⟩;have hw:=wJ h3
  obtain⟨H2',q1,_⟩:=sG (H2:=H2) h4 (fun hm=>by rw[hw] at hm; cases hm) (fun hm=>by rw[hw] at hm; cases hm) fun p hp=>hB p (h5 p hp)
  rw[jD ho];have:=(AP (g':=H2.length) (i':=0) (hw _ _ _) q1).2;exact this
 ·exact .inr ⟨by rw[hgk,h1],h2⟩
theorem yI.rt {x:IOper} {px:List (Nat×Nat)} {v:AV} {B:List (Nat×Nat)} (h:yI x fr H v B) (hr:RT P k xs (fr.put x.dst v) H K):RT P k ((x,px)::xs) fr H K:=by
 rcases h with⟨h1,o,h2,h3,h4,h5⟩ | ⟨h1,rfl⟩
 ·exact .op h1 h2 h4 (eZ.refl _ _) hr
 ·exact .skip h1 hr
theorem GL {fr:Fr} {d e:Option Nat} (h:kO d e=true) (v u:AV):∀ t,((fr.put d v).put e u).get t=((fr.put e u).put d v).get t:=fun t=>by
 rw[gO,gO,gO,gO]
 by_cases h1:e=some t<;>by_cases h2:d=some t
 ·subst h1; subst h2; simp[kO] at h
 ·rw[if_pos h1,if_neg h2,if_pos h1]
 ·rw[if_neg h1,if_pos h2,if_pos h2]
 ·rw[if_neg h1,if_neg h2,if_neg h2,if_neg h1]
theorem RT.insert {x:IOper} {px B:List (Nat×Nat)} {v:AV} {l2:List (IOper×List (Nat×Nat))}:∀(l1:List (IOper×List (Nat×Nat))) {fr:Fr} {H:Heap} {K:Fr→Heap→Prop},RT P k (l1++l2) (fr.put x.dst v) H K→yI x fr H v B →
  (∀ a∈l1,B2 x a.1=true∧∀ q∈B,q∈a.2)→RT P k (l1++(x,px)::l2) fr H (Kc K)
 | [],fr,H,K,h,ht,_=>ht.rt (h.mono fun _ _=>Kc.of)
 | (y,py)::l1,fr,H,K,h,ht,hl=>by
  obtain⟨hap,hB⟩:=hl _ (List.mem_cons_self ..);simp only[B2,bAe] at hap;obtain⟨e1,e2,e3⟩:=hap
  have hl':=fun a ha=>hl a (mCm _ ha)
  obtain⟨ha,hgk⟩:=iO (x:=y) (fr:=fr) (fr2:=fr.put x.dst v) (uB e1 fr v)
  have next:∀(u:AV) (H':Heap),eZ py H H'→RT P k (l1++l2) ((fr.put x.dst v).put y.dst u) H' K→RT P k (l1++(x,px)::l2) (fr.put y.dst u) H' (Kc K):=fun u H' hp h=>by
   have h1:=h.feq (GL e3 v u);have h2:=RT.insert (px:=px) (B:=B) l1 h1 (ht.at (uB e2 fr u) fun q hq=>hp.mem q (hB q hq)) hl'
   exact h2.mono fun _ _=>Kc.kc
  cases h with
  | op hg hx hs hp h=>
   refine .op (by rw[← hgk,hg]) hx ?_ hp (next _ _ hp h);rw[← jD fun y hy=>ha y (by rw[hx]; exact hy)];exact hs
  | skip hg h=>exact .skip (by rw[← hgk,hg]) (next _ _ (eZ.refl _ _) h)
  | @call _ _ _ _ _ _ f args R hk hg hx hc hp h=>
   have hav:avals (fr.put x.dst v) args=avals fr args:=List.map_congr_left fun y hy=>ha y (by rw[hx]; exact hy)
   exact .call hk (by rw[← hgk,hg]) hx (by rw[← hav]; exact hc) hp fun res H' hr=>next _ _ (hp res H' hr) (h res H' hr)
  | @callV _ _ _ _ _ _ f g fs cs args R hk hg hx hf hc hp h=>
   have hav:avals (fr.put x.dst v) args=avals fr args:=List.map_congr_left fun y hy=>ha y (by rw[hx]; exact mCm _ hy)
   exact .callV hk (by rw[← hgk,hg]) hx (by unfold evC; rw[← ha f.opd (by rw[hx]; exact List.mem_cons_self ..)]; exact hf) (by rw[← hav]; exact hc) hp fun res H' hr=>next _ _ (hp res H' hr) (h res H' hr)
end
theorem bU.pull {I:Nat→Nat→Prop} {rem l:List Nat} (h:bU I rem l):∀(A:List Nat) (i:Nat) (B:List Nat),rem=A++i::B→∃ l1 l2,l=l1++i::l2∧bU I (A++B) (l1++l2)∧∀ j∈l1,j∈A∨(j∈B∧I i j):=by
 induction h with
 | nil=>intro A i B e; simp at e
 | cons A0 i0 B0 l hA hs ih=>
  intro A i B e
  rcases List.append_eq_append_iff.1 e with⟨A2,e1,e2⟩ | ⟨A2,e1,e2⟩
  ·cases A2 with
   | nil=>
    simp only[List.append_nil] at e1;subst e1;simp only[List.nil_append,List.cons.injEq] at e2;obtain⟨rfl,rfl⟩:=e2;exact⟨[],l,rfl,hs,fun j hj=>by cases hj⟩
   | cons x A2=>
    simp only[List.cons_append,List.cons.injEq] at e2;obtain⟨rfl,rfl⟩:=e2;subst e1;obtain⟨l1,l2,q1,q2,q3⟩:=ih (A0++A2) i B (by simp);refine⟨i0::l1,l2,by rw[q1]; rfl,?_,fun j hj=>?_⟩
    ·have:=bU.cons A0 i0 (A2++B) _ hA (by rw[← List.append_assoc]; exact q2)
     simpa using this
    ·rcases List.mem_cons.1 hj with rfl | hj
     ·exact .inl (by simp)
     ·rcases q3 j hj with h | h
      ·exact .inl (by simp at h ⊢; rcases h with h | h<;>simp[h])
      ·exact .inr h
  ·cases A2 with
   | nil=>
    simp only[List.append_nil] at e1;subst e1;simp only[List.nil_append,List.cons.injEq] at e2;obtain⟨rfl,rfl⟩:=e2;exact⟨[],l,rfl,hs,fun j hj=>by cases hj⟩
   | cons x A2=>
    simp only[List.cons_append,List.cons.injEq] at e2;obtain⟨rfl,rfl⟩:=e2;subst e1;obtain⟨l1,l2,q1,q2,q3⟩:=ih A i (A2++B0) (by simp);refine⟨i0::l1,l2,by rw[q1]; rfl,?_,fun j hj=>?_⟩
    ·have:=bU.cons (A++A2) i0 B0 _ (fun a ha=>hA a (by simp at ha ⊢; rcases ha with h | h<;>simp[h])) (by rw[List.append_assoc]; exact q2)
     simpa using this
    ·rcases List.mem_cons.1 hj with rfl | hj
     ·exact .inr ⟨by simp,hA i (by simp)⟩
     ·rcases q3 j hj with h | ⟨h,h'⟩
      ·exact .inl h
      ·exact .inr ⟨by simp at h ⊢; rcases h with h | h<;>simp[h],h'⟩
def qT (acc:List Nat):List Nat→Nat
 | []=>0
 | k::l=>(2 ^ k ||| acc.getD k 0) ||| qT acc l
def cgo:List Nat→List (List Nat)→List Nat
 | acc,[]=>acc
 | acc,l::r=>cgo (acc++[qT acc l]) r
def clo (af:List (List Nat)):List Nat:=cgo [] af
def bef (cl:List Nat) (i j:Nat):Bool:=(cl.getD j 0).testBit i
theorem sQ {F:Nat→List Nat} {acc:List Nat} (ha:∀ j a,(acc.getD j 0).testBit a=true→Bef F a j):∀ {l:List Nat} {b:Nat},(∀ k∈l,k∈F b)→∀ {a:Nat},(qT acc l).testBit a=true→Bef F a b
 | [],_,_,a,h=>by simp[qT] at h
 | k::l,b,hl,a,h=>by
  have hk:=hl k (List.mem_cons_self ..);simp only[qT,Nat.testBit_or,Bool.or_eq_true,Nat.testBit_two_pow,decide_eq_true_eq] at h
  rcases h with(rfl | h) | h
  ·exact .base hk
  ·exact .step hk (ha k a h)
  ·exact sQ ha (fun q hq=>hl q (mCm _ hq)) h
theorem zW {F:Nat→List Nat}:∀(r:List (List Nat)) (acc:List Nat),(∀(j:Nat) l,r[j]?=some l→F (acc.length+j)=l)→(∀ j a,(acc.getD j 0).testBit a=true→Bef F a j)→∀ j a,((cgo acc r).getD j 0).testBit a=true→Bef F a j
 | [],_,_,ha=>ha
 | l::r,acc,hF,ha=>by
  refine zW r (acc++[qT acc l]) (fun j q hq=>?_) fun j a h=>?_
  ·rw[lAp,List.length_singleton,Nat.add_assoc,Nat.add_comm 1 j]
   exact hF (j+1) q (by simpa using hq)
  ·by_cases h1:j < acc.length
   ·refine ha j a ?_
    simpa[List.getD,List.getElem?_append,h1] using h
   ·by_cases h2:j=acc.length
    ·subst h2
     have h3:(qT acc l).testBit a=true:=by simpa[List.getD,List.getElem?_append] using h
     refine sQ ha (fun k hk=>?_) h3;have:=hF 0 l rfl;rw[Nat.add_zero] at this;rw[this];exact hk
    ·have h3:(acc++[qT acc l])[j]?=none:=List.getElem?_eq_none (by simp; omega)
     simp[List.getD,h3] at h
theorem HZ {F:Nat→List Nat} {af:List (List Nat)} (hF:∀(j:Nat) l,af[j]?=some l→F j=l) {i j:Nat} (h:bef (clo af) i j=true):Bef F i j:=
 zW af [] (fun j l hl=>by rw[List.length_nil,Nat.zero_add]; exact hF j l hl) (fun j a h=>by simp at h) j i h
def fF (cl:List Nat):List (Nat×List (Nat×Nat))→Nat→List (Nat×Nat)
 | [],_=>[]
 | (i,B)::p,j=>match bef cl i j with
  | true=>fF cl p j
  | false=>B++fF cl p j
def xQ (i:Nat):List Nat→Option (List Nat×List Nat)
 | []=>none
 | a::r=>match Nat.beq a i with
  | true=>some ([],r)
  | false=>match xQ i r with
   | some (A,B)=>some (a::A,B)
   | none=>none
theorem qJ {i:Nat}:∀ {rem A B:List Nat},xQ i rem=some (A,B)→rem=A++i::B
 | [],A,B,h=>by cases h
 | a::r,A,B,h=>by
  simp only[xQ] at h;split at h
  ·rename_i e
   have:=nEb e;subst this
   injection h with h
   injection h with h1 h2
   subst h1; subst h2;rfl
  ·split at h
   ·rename_i e
    injection h with h
    injection h with h1 h2
    subst h1; subst h2;rw[qJ e];rfl
   ·cases h
def BH (x:IOper):Bool:=
 match x.act with
 | .op o=>CA o
 | _=>false
def pA (zs:List IOper) (x:IOper) (j:Nat):Bool:=
 match zs[j]? with
 | some y=>B2 x y
 | none=>false
def okP (cl:List Nat) (zs:List IOper):List (Bool×Nat)→List Nat→Bool
 | [],rem=>rem.isEmpty
 | (true,i)::pl,rem=>match xQ i rem,zs[i]? with
  | some (A,B),some x=>BH x && (A.all (fun j=>!bef cl i j && pA zs x j) && (B.all (fun j=>bef cl i j || pA zs x j) && okP cl zs pl (A++B)))
  | _,_=>false
 | (false,i)::pl,rem=>match rem with
  | a::B=>Nat.beq a i && (B.all (fun j=>bef cl i j) && okP cl zs pl B)
  | []=>false
def rdX (fr:Fr) (x:IOper):List (Nat×Nat):=
 match x.act with
 | .op o=>drd fr o
 | _=>[]
inductive rD:List (IOper×List (Nat×Nat))→List (IOper×List (Nat×Nat))→Prop
 | nil:rD [] []
 | cons {a b:IOper×List (Nat×Nat)} {l m:List (IOper×List (Nat×Nat))} (h:a.1=b.1∧∀ q∈a.2,q∈b.2) (h':rD l m):rD (a::l) (b::m)
def PP (i:Nat):List (Nat×Nat)→List (Nat×List (Nat×Nat))→List (Nat×List (Nat×Nat))
 | [],pend=>pend
 | q::B,pend=>(i,q::B)::pend
def LP (P:Program) (k:Nat) (cl:List Nat) (zs:List IOper):List (Bool×Nat)→List (Nat×List (Nat×Nat))→Fr→Heap→(Fr→Heap→Prop)→Prop
 | [],_,fr,H,K=>K fr H
 | (true,i)::pl,pend,fr,H,K=>∃ x B,zs[i]?=some x∧(∀ q∈rdX fr x,q∈B)∧RT P k [(x,[])] fr H fun fr' H'=>LP P k cl zs pl (PP i B pend) fr' H' K
 | (false,i)::pl,pend,fr,H,K=>∃ x,zs[i]?=some x∧RT P k [(x,fF cl pend i)] fr H fun fr' H'=>LP P k cl zs pl pend fr' H' K
def sS (cl:List Nat) (zs:List IOper) (pend:List (Nat×List (Nat×Nat))) (j:Nat):IOper×List (Nat×Nat):=(zs.getD j ⟨none,none,.call 0 []⟩,fF cl pend j)
theorem o7 {cl zs pend j x} (h:zs[j]?=some x):sS cl zs pend j=(x,fF cl pend j):=by simp[sS,List.getD,h]
theorem LP.sound {P:Program} {k:Nat} {cl:List Nat} {zs:List IOper}:∀(pl:List (Bool×Nat)) (rem l:List Nat) (pend:List (Nat×List (Nat×Nat))) {fr:Fr} {H:Heap} {K:Fr→Heap→Prop},okP cl zs pl rem=true→bU (fun a b=>¬ bef cl a b=true) rem l →
  LP P k cl zs pl pend fr H K→RT P k (l.map (sS cl zs pend)) fr H (Kc K)
 | [],rem,l,pend,fr,H,K,hok,hs,h=>by
  have e:rem=[]:=by cases rem with | nil=>rfl | cons=>cases hok
  rw[hs.nil_inv e];exact .nil (.of h)
 | (false,i)::pl,rem,l,pend,fr,H,K,hok,hs,h=>by
  cases rem with
  | nil=>cases hok
  | cons a B=>
   simp only[okP,bAe] at hok;obtain⟨e,hB,hok⟩:=hok;have:=nEb e;subst this;obtain⟨l1,l2,q1,q2,q3⟩:=hs.pull [] a B rfl
   have e1:l1=[]:=by
    cases l1 with
    | nil=>rfl
    | cons j l1=>
     rcases q3 j (List.mem_cons_self ..) with h | ⟨h,h'⟩
     ·cases h
     ·exact absurd (List.all_eq_true.1 hB j h) h'
   subst e1;subst q1;obtain⟨x,hx,h⟩:=h;rw[List.nil_append,List.map_cons,o7 hx];exact RT.cons (h.mono fun fr' H' h=>LP.sound pl B l2 pend hok q2 h)
 | (true,i)::pl,rem,l,pend,fr,H,K,hok,hs,h=>by
  simp only[okP] at hok;split at hok
  ·rename_i A B x e1 e2
   simp only[bAe] at hok;obtain⟨hq,hA,hB,hok⟩:=hok;have e:=qJ e1;obtain⟨l1,l2,q1,q2,q3⟩:=hs.pull A i B e;obtain⟨x',C,hx,hC,h⟩:=h;rw[e2] at hx
   injection hx with hx
   subst hx;subst q1;rw[List.map_append,List.map_cons,o7 e2]
   have hap:∀ j∈l1,¬ bef cl i j=true∧pA zs x j=true:=fun j hj=>by
    rcases q3 j hj with h | ⟨h,h'⟩
    ·have:=List.all_eq_true.1 hA j h
     simp only[bAe,Bool.not_eq_true'] at this;exact⟨by rw[this.1]; simp,this.2⟩
    ·have:=List.all_eq_true.1 hB j h
     simp only[Bool.or_eq_true] at this;exact⟨h',this.resolve_left h'⟩
   have key:∀(pend':List (Nat×List (Nat×Nat))),(∀ j,∀ q∈fF cl pend j,q∈fF cl pend' j)→(∀ j,¬ bef cl i j=true→∀ q∈C,q∈fF cl pend' j)→∀(v:AV),yI x fr H v C→LP P k cl zs pl pend' (fr.put x.dst v) H K →
     RT P k (l1.map (sS cl zs pend)++(x,fF cl pend i)::l2.map (sS cl zs pend)) fr H (Kc K):=by
    intro pend' h1 h2 v ht h;have hrt:=LP.sound pl (A++B) (l1++l2) pend' hok q2 h;rw[List.map_append] at hrt
    have hins:=RT.insert (px:=fF cl pend i) (B:=C) (l1.map (sS cl zs pend')) hrt ht fun a ha=>by
     obtain⟨j,hj,rfl⟩:=List.mem_map.1 ha;obtain⟨p1,p2⟩:=hap j hj;unfold pA at p2;split at p2
     ·rename_i y hy
      rw[o7 hy];exact⟨p2,h2 j p1⟩
     ·cases p2
    have hdrop:∀(L L':List (IOper×List (Nat×Nat))),rD L' L→∀ {fr:Fr} {H:Heap} {K:Fr→Heap→Prop},RT P k L fr H K→RT P k L' fr H K:=by
     intro L L' hf
     induction hf with
     | nil=>exact fun h=>h
     | @cons a b L' L hab _ ih=>
      obtain⟨a1,a2⟩:=a;obtain⟨b1,b2⟩:=b;obtain⟨rfl,hsub⟩:=hab
      have kk:∀ {H H':Heap},eZ b2 H H'→eZ a2 H H':=fun {H H'} h=>by
       have hm:=h.mem;clear h
       induction a2 with
       | nil=>trivial
       | cons q r ihr=>exact⟨hm q (hsub q (List.mem_cons_self ..)),ihr fun p hp=>hsub p (mCm _ hp)⟩
      intro fr H K h
      cases h with
      | op hg hx hs hp h=>exact .op hg hx hs (kk hp) (ih h)
      | skip hg h=>exact .skip hg (ih h)
      | call hk hg hx hc hp h=>exact .call hk hg hx hc (fun res H' hr=>kk (hp res H' hr)) fun res H' hr=>ih (h res H' hr)
      | callV hk hg hx hf hc hp h=>exact .callV hk hg hx hf hc (fun res H' hr=>kk (hp res H' hr)) fun res H' hr=>ih (h res H' hr)
    have fm:∀ L:List Nat,rD (L.map (sS cl zs pend)) (L.map (sS cl zs pend')):=fun L=>by
     induction L with
     | nil=>exact .nil
     | cons j L ih=>exact .cons ⟨rfl,h1 j⟩ ih
    have fa:∀ {a b c d:List (IOper×List (Nat×Nat))},rD a b→rD c d→rD (a++c) (b++d):=fun {a b c d} h1 h2=>by
     induction h1 with
     | nil=>exact h2
     | cons h _ ih=>exact .cons h ih
    exact(hdrop _ _ (fa (fm l1) (.cons ⟨rfl,fun q hq=>hq⟩ (fm l2))) hins).mono fun _ _=>Kc.kc
   have fin:∀ {fr':Fr} {H':Heap} {K':Fr→Heap→Prop},RT P k [] fr' H' K'→K' fr' H':=fun h=>by
    cases h with
    | nil h=>exact h
   have mk:∀(v:AV),yI x fr H v C→LP P k cl zs pl (PP i C pend) (fr.put x.dst v) H K→RT P k (l1.map (sS cl zs pend)++(x,fF cl pend i)::l2.map (sS cl zs pend)) fr H (Kc K):=by
    intro v ht h
    cases C with
    | nil=>exact key pend (fun _ _ h=>h) (fun _ _ q hq=>by cases hq) v ht h
    | cons c C=>
     refine key ((i,c::C)::pend) (fun j q hq=>?_) (fun j hj q hq=>?_) v ht h
     ·simp only[fF]
      split
      ·exact hq
      ·exact List.mem_append_right _ hq
     ·simp only[fF]
      split
      ·rename_i hb; exact absurd hb hj
      ·exact List.mem_append_left _ hq
   unfold BH at hq
   cases h with
   | @op _ _ _ _ _ _ o v H' hg hxa hst hp h=>
    rw[hxa] at hq;obtain⟨rfl,hst'⟩:=AP (g':=H.length) (i':=0) (wJ hq _ _ _) hst;refine mk v (.inl ⟨hg,o,hxa,hq,hst',fun q hq'=>hC q ?_⟩) (fin h);unfold rdX;rw[hxa];exact hq'
   | skip hg h=>exact mk _ (.inr ⟨hg,rfl⟩) (fin h)
   | call hk hg hxa=>rw[hxa] at hq; cases hq
   | callV hk hg hxa=>rw[hxa] at hq; cases hq
  ·cases hok
theorem AWP.lin {P:Program} {N k:Nat} {fr:Fr} {H:Heap} {Q:Exit→Fr→Heap→Prop} {zs:List IOper} {af:List (List Nat)} (pl:List (Bool×Nat)) (hp:P.follows .mixedOrders=true)
  (hlow:qA 0 af=true) (hok:okP (clo af) zs pl (List.range zs.length)=true) (h:LP P k (clo af) zs pl [] fr H (Q .normal)):AWP P N k (.draw zs af) Q fr H:=by
 intro c0 hc cx M J tmps w hcx hF hH hM
 cases c0 with
 | region id ops draw=>
  simp only[bM] at hc;split at hc
  ·rename_i us hus
   cases draw with
   | false=>cases hc
   | true=>
    injection hc with hc
    injection hc with hc1' hc2'
    subst hc1'; subst hc2'
    refine wpIn_region_draw fun t=>iC hcx ?_
    rw[hp]
    have hsch:Region.schedule true ops t=Region.linearise .any ops t:=by simp[Region.schedule]
    rw[hsch];obtain⟨hlen,hgx⟩:=iT _ _ hus
    have hsz:us.length=ops.size:=by rw[hlen]; simp
    have haf:∀ j l,(ops.toList.map dY)[j]?=some l→bJ ops j=l:=by
     intro j l hj;rw[List.getElem?_map,Array.getElem?_toList] at hj;unfold bJ
     cases ho:ops[j]? with
     | none=>rw[ho] at hj; cases hj
     | some o=>rw[ho] at hj; simpa using hj
    have hs:=eK ops (fun a b=>¬ bef (clo (ops.toList.map dY)) a b=true) (fun j kk hk=>by
     have hl:(ops.toList.map dY)[j]?=some (bJ ops j):=by
      rw[List.getElem?_map,Array.getElem?_toList];unfold bJ at hk ⊢
      cases ho:ops[j]? with
      | none=>rw[ho] at hk; cases hk
      | some o=>rfl
     have:=iM _ 0 hlow j _ hl kk hk
     omega) (fun a b hab hb=>by
     by_cases h:bef (clo (ops.toList.map dY)) a b=true
     ·exact .inl (HZ haf h)
     ·exact .inr h) t
    rw[hsz] at hok;have hrt:=LP.sound pl _ _ [] hok hs h
    have hmem:∀(all l:List Nat),bU (fun a b=>¬ bef (clo (ops.toList.map dY)) a b=true) all l→∀ j∈l,j∈all:=by
     intro all l hs
     induction hs with
     | nil=>exact fun j hj=>hj
     | cons A i B l _ _ ih=>
      intro j hj
      rcases List.mem_cons.1 hj with rfl | hj
      ·simp
      ·have:=ih j hj
       simp at this ⊢
       rcases this with h | h<;>simp[h]
    have hmat:∀ l:List Nat,(∀ j∈l,j < ops.size)→fP P N ops l ((l.map (sS (clo (ops.toList.map dY)) us [])).map (·.1)):=by
     intro l
     induction l with
     | nil=>exact fun _=>trivial
     | cons j l ih=>
      intro hl;have hj:=hl j (List.mem_cons_self ..);have ho:ops[j]?=some ops[j]:=Array.getElem?_eq_getElem hj;obtain⟨x,e1,e2⟩:=hgx j ops[j] (by rw[Array.getElem?_toList]; exact ho);refine⟨⟨ops[j],ho,?_⟩,ih fun q hq=>hl q (mCm _ hq)⟩;rw[o7 e1];exact e2
    refine hrt.reg (N:=N) ops _ (hmat _ fun j hj=>List.mem_range.1 (hmem _ _ hs j hj)) M J tmps { w with drawn:=w.drawn+1 } hF hH hM _ fun a' w' hpost=>⟨rfl,?_⟩
    obtain⟨M2,J2,fr2,H2,q1,q2,q3,fr3,q4,q5⟩:=hpost;exact⟨M2,J2,fr3,H2,⟨q1.m,q1.j,q1.hrep,q1.mrep,q1.os,(by first | exact q1.tape | exact⟨q1.tape.1,Nat.le_trans (Nat.le_succ _) q1.tape.2⟩),q1.output,q1.size,q1.frame,q1.fresh,q1.live,q1.bk⟩,⟨q2.1,fun t=>by rw[q4]; exact q2.2 t⟩,q3,q5⟩
  ·cases hc
 | _=>simp only[bM] at hc; (try split at hc)<;>(try cases hc)<;>(try simp at hc)
end Go.Av
namespace Go.Av
section
variable {P:Program} {k:Nat} {xs:List (IOper×List (Nat×Nat))} {pr:List (Nat×Nat)} {fr:Fr} {H:Heap} {K:Fr→Heap→Prop} {d:Nat} {gd:Option (Nat×Bool)}
theorem RT.o {o:IOp} {v:AV} {H':Heap} (hg:gok fr gd=some true) (hs:aD H.length 0 o fr H=some (v,H')) (hp:eZ pr H H') (h:RT P k xs ((d,v)::fr) H' K):RT P k ((⟨some d,gd,.op o⟩,pr)::xs) fr H K:=.op (x:=⟨some d,gd,.op o⟩) hg rfl hs hp h
theorem RT.on {o:IOp} {v:AV} {H':Heap} (hg:gok fr gd=some true) (hs:aD H.length 0 o fr H=some (v,H')) (hp:eZ pr H H') (h:RT P k xs fr H' K):RT P k ((⟨none,gd,.op o⟩,pr)::xs) fr H K:=.op (x:=⟨none,gd,.op o⟩) hg rfl hs hp h
theorem RT.s {a:IAct} (hg:gok fr gd=some false) (h:RT P k xs ((d,.sc Go.undef)::fr) H K):RT P k ((⟨some d,gd,a⟩,pr)::xs) fr H K:=.skip (x:=⟨some d,gd,a⟩) hg h
theorem RT.p {f:FuncId} {args:List Operand} {v:AV} (hk:k≤H.length) (hg:gok fr gd=some true) (hp:aC P f (avals fr args) v) (h:RT P k xs ((d,v)::fr) H K):RT P k ((⟨some d,gd,.call f args⟩,pr)::xs) fr H K:=
 .call (x:=⟨some d,gd,.call f args⟩) (R:=fun res H'=>res=v∧H'=H) hk hg rfl (aE.ofPure hp H ⟨rfl,rfl⟩) (fun _ _ h=>by rw[h.2]; exact eZ.refl _ _) fun _ _ hr=>by rw[hr.1,hr.2]; exact h
theorem RT.cc {f:FuncId} {args:List Operand} {R:AV→Heap→Prop} (hk:k≤H.length) (hg:gok fr gd=some true) (hc:aE P f (avals fr args) H R) (h:∀ res H',R res H'→eZ pr H H'∧RT P k xs ((d,res)::fr) H' K):RT P k ((⟨some d,gd,.call f args⟩,pr)::xs) fr H K:=
 .call (x:=⟨some d,gd,.call f args⟩) hk hg rfl hc (fun res H' hr=>(h res H' hr).1) fun res H' hr=>(h res H' hr).2
theorem RT.cv {f:Cal} {g:FuncId} {fs cs:List AV} {args:List Operand} {R:AV→Heap→Prop} (hk:k≤H.length) (hg:gok fr gd=some true) (hf:evC P fr f=.clo (.func g) fs cs) (hc:aE P g (fs++avals fr args++cs) H R)
  (h:∀ res H',R res H'→eZ pr H H'∧RT P k xs ((d,res)::fr) H' K):RT P k ((⟨some d,gd,.callV f args⟩,pr)::xs) fr H K:=
 .callV (x:=⟨some d,gd,.callV f args⟩) hk hg rfl hf hc (fun res H' hr=>(h res H' hr).1) fun res H' hr=>(h res H' hr).2
theorem LP.z {cl:List Nat} {zs:List IOper} {pend:List (Nat×List (Nat×Nat))} (h:K fr H):LP P k cl zs [] pend fr H K:=h
theorem LP.t0 {cl:List Nat} {zs:List IOper} {pl:List (Bool×Nat)} {i:Nat} {x:IOper} {pend:List (Nat×List (Nat×Nat))} (h:RT P k [(x,[])] fr H fun fr' H'=>LP P k cl zs pl pend fr' H' K) (hx:zs[i]?=some x:=by rfl) (hB:rdX fr x=[]:=by rfl):LP P k cl zs ((true,i)::pl) pend fr H K:=
 ⟨x,[],hx,fun q hq=>by rw[hB] at hq; exact hq,h⟩
theorem LP.t1 {cl:List Nat} {zs:List IOper} {pl:List (Bool×Nat)} {i g b:Nat} {x:IOper} {pend:List (Nat×List (Nat×Nat))} (h:RT P k [(x,[])] fr H fun fr' H'=>LP P k cl zs pl ((i,[(g,b)])::pend) fr' H' K) (hx:zs[i]?=some x:=by rfl) (hB:rdX fr x=[(g,b)]:=by rfl):LP P k cl zs ((true,i)::pl) pend fr H K:=
 ⟨x,[(g,b)],hx,fun q hq=>by rw[hB] at hq; exact hq,h⟩
theorem LP.t2 {cl:List Nat} {zs:List IOper} {pl:List (Bool×Nat)} {i g b g' b':Nat} {x:IOper} {pend:List (Nat×List (Nat×Nat))} (h:RT P k [(x,[])] fr H fun fr' H'=>LP P k cl zs pl ((i,[(g,b),(g',b')])::pend) fr' H' K) (hx:zs[i]?=some x:=by rfl) (hB:rdX fr x=[(g,b),(g',b')]:=by rfl):LP P k cl zs ((true,i)::pl) pend fr H K:=
 ⟨x,[(g,b),(g',b')],hx,fun q hq=>by rw[hB] at hq; exact hq,h⟩
theorem LP.c {cl:List Nat} {zs:List IOper} {pl:List (Bool×Nat)} {i:Nat} {x:IOper} {pend:List (Nat×List (Nat×Nat))} (h:RT P k [(x,fF cl pend i)] fr H fun fr' H'=>LP P k cl zs pl pend fr' H' K) (hx:zs[i]?=some x:=by rfl):LP P k cl zs ((false,i)::pl) pend fr H K:=⟨x,hx,h⟩
end
end Go.Av
