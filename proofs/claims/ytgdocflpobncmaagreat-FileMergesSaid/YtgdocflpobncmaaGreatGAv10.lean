import Derived.Test.YtgdocflpobncmaaGreatGAv8
namespace Go.Av
section
variable {P:Program} {M:Mem} {J:Inj} {H:Heap} {w:World} {g i:Nat}
variable {N:Nat} {fr:Fr} {tmps:Array Value} {ds:List Deferred} {o:Oper} {v:AV} {H':Heap}
theorem aS.rebind (k:Nat) {M J H w w'} (h:aN M J H w.heap) (m:a8 M w.heap) (g' i':Nat) (l:Loc) (β:Nat) (x0:Blk) (hx0:hget H g' i'=some x0) (hl0:x0.live=true) (hJ0:J g' i'=some l) (hβ:l.blk=some β)
  (g i:Nat) (hn:hok (aK H g' i' .dead) g i) (hJ:J g i=none) (o:Obj) (x:Blk) (hx:eQ M J l w'.heap x) (hw:w'.heap=w.heap.setIfInBounds β o) (hos:w'.os=w.os) (htape:w'.tape=w.tape) (hout:w'.output=w.output) (hpl:x0.plain=true:=by rfl) (hd:w.drawn≤w'.drawn:=by first | exact Nat.le_refl _ | exact Nat.le_succ _ | exact Nat.le_add_right _ _):
  aS k M J H w M (J.set g i l) (aK (aK H g' i' .dead) g i x) w':=by
 have hg1:=fun a b=>aL H g' i' .dead a b (.inl (by rw[hx0]; rfl))
 have hg2:=fun a b=>aL (aK H g' i' .dead) g i x a b hn
 have hother:∀ γ:Nat,γ≠β→w'.heap[γ]?=w.heap[γ]?:=by
  intro γ hγ;rw[hw,Array.getElem?_setIfInBounds,if_neg (fun e=>hγ e.symm)]
 have hext:=Inj.set_ext (g:=g) (i:=i) l hJ M
 have key:∀ a b l',aQ (aK (aK H g' i' .dead) g i x) a b→(J.set g i l) a b=some l'→(a=g∧b=i∧l'=l)∨(¬ (a=g∧b=i)∧¬ (a=g'∧b=i')∧aQ H a b∧J a b=some l'):=by
  intro a b l' hc hj
  by_cases e:a=g∧b=i
  ·simp only[Inj.set,if_pos e,oIn] at hj
   exact .inl ⟨e.1,e.2,hj.symm⟩
  ·obtain⟨y,hy,hyl⟩:=hc
   rw[hg2,if_neg e,hg1] at hy;simp only[Inj.set,if_neg e] at hj
   by_cases e':a=g'∧b=i'
   ·rw[if_pos e'] at hy; injection hy with hy; subst hy; cases hyl
   ·rw[if_neg e'] at hy
    exact .inr ⟨e,e',⟨y,hy,hyl⟩,hj⟩
 refine⟨fun _ _ h=>h,fun a b l' _ h'=>hext.j a b l' h',⟨?_,?_,?_,?_⟩,?_,hos,⟨htape,hd⟩,hout,by rw[hw]; simp,?_,fun β o' h=>.inl h,?_,?_⟩
 ·intro a b y hy hyl
  rw[hg2] at hy
  by_cases e:a=g∧b=i
  ·rw[if_pos e] at hy
   injection hy with hy
   subst hy;exact⟨l,by simp[Inj.set,e],hx.ext hext fun _ _=>rfl⟩
  ·rw[if_neg e,hg1] at hy
   by_cases e':a=g'∧b=i'
   ·rw[if_pos e'] at hy; injection hy with hy; subst hy; cases hyl
   ·rw[if_neg e'] at hy
    obtain⟨l',h1,h3⟩:=h.blk a b y hy hyl;refine⟨l',by simp only[Inj.set,if_neg e]; exact h1,h3.ext hext fun γ hγ=>hother γ ?_⟩;rintro rfl;exact e' (h.inj a b g' i' l' l γ ⟨y,hy,hyl⟩ ⟨x0,hx0,hl0⟩ h1 hJ0 hγ hβ)
 ·intro a1 b1 a2 b2 l1 l2 γ h1 h2 h3 h4 h5 h6
  rcases key a1 b1 l1 h1 h3 with⟨e1,e2,e3⟩ | ⟨e1,e0,e2,e3⟩<;>rcases key a2 b2 l2 h2 h4 with⟨f1,f2,f3⟩ | ⟨f1,f0,f2,f3⟩
  ·exact⟨e1.trans f1.symm,e2.trans f2.symm⟩
  ·subst e3
   exact absurd (h.inj a2 b2 g' i' l2 l1 γ f2 ⟨x0,hx0,hl0⟩ f3 hJ0 h6 h5) f0
  ·subst f3
   exact absurd (h.inj a1 b1 g' i' l1 l2 γ e2 ⟨x0,hx0,hl0⟩ e3 hJ0 h5 h6) e0
  ·exact h.inj a1 b1 a2 b2 l1 l2 γ e2 f2 e3 f3 h5 h6
 ·intro a b l' γ h1 h2 h3
  rcases key a b l' h1 h2 with⟨e1,e2,e3⟩ | ⟨e1,e0,e2,e3⟩
  ·subst e3
   exact h.out g' i' l' γ ⟨x0,hx0,hl0⟩ hJ0 h3
  ·exact h.out a b l' γ e2 e3 h3
 ·intro a b l' h1
  by_cases e:a=g∧b=i
  ·rw[hg2,if_pos e]
   simp only[Inj.set,if_pos e,oIn] at h1;subst h1;exact⟨rfl,fun γ hγ=>by rw[hw]; simp; exact(h.dom g' i' l hJ0).2 γ hγ⟩
  ·rw[hg2,if_neg e,hg1]
   simp only[Inj.set,if_neg e] at h1;have:=h.dom a b l' h1;refine⟨?_,fun γ hγ=>by rw[hw]; simp; exact this.2 γ hγ⟩;split
   ·rfl
   ·exact this.1
 ·intro γ o' hm
  rw[hother]
  ·exact m γ o' hm
  ·rintro rfl
   rw[h.out g' i' l γ ⟨x0,hx0,hl0⟩ hJ0 hβ] at hm
   cases hm
 ·intro γ o' ho hn'
  rw[hother]
  ·exact ho
  ·rintro rfl
   exact hn' g' i' l ⟨x0,hx0,hl0⟩ hJ0 hβ
 ·intro a b l' γ h1 h2 h3
  rcases key a b l' h1 h2 with⟨e1,e2,e3⟩ | ⟨e1,e0,e2,e3⟩
  ·subst e3
   exact .inl ⟨g',i',l',⟨x0,hx0,hl0⟩,hJ0,h3⟩
  ·exact .inl ⟨a,b,l',e2,e3,h3⟩
 ·intro γ r hr
  refine⟨r,(hother γ ?_).trans hr,rfl⟩;rintro rfl;obtain⟨l',e1,e2⟩:=h.blk g' i' x0 hx0 hl0;rw[hJ0] at e1
  injection e1 with e1
  subst e1;exact e2.noLoop hl0 hpl hβ r hr
theorem oD (hH:aN M J H w.heap) (hM:a8 M w.heap) {a:AV} {x:Value} (hr:Rep M J a x) {sz:Nat} {rows:List (List AV)} (h:cY H a=some (sz,rows)):
  ∃ b m c,x=.slice b m c∧m=rows.length∧(∀(q:Nat) (r:List AV),rows[q]?=some r→r.length=sz) ∧
   ∃ news:List Value,news.length=m * sz∧(∀ v∈news,v.oneCell'=true)∧(∀(q:Nat) (r:List AV) (j:Nat) c v,rows[q]?=some r→r[j]?=some c→news[q * sz+j]?=some v→Rep M J c v) ∧
    ∀ w':World,w'.heap=w.heap→(Builtin.firstCells sz m x).run P w'=.ok news.toArray w':=by
 have blockCase:∀(β off m c:Nat) (cs:Array Value) (e:TypeId) (f:Nat×Nat),w.heap[β]?=some (.cells cs e f)→off+m * sz≤cs.size→m=rows.length →
   (∀(q:Nat) (r:List AV),rows[q]?=some r→r.length=sz)→(∀(j:Nat) v,j < m * sz→cs[off+j]?=some v→v.oneCell'=true) →
   (∀(q:Nat) (r:List AV) (j:Nat) c v,rows[q]?=some r→r[j]?=some c→cs[off+(q * sz+j)]?=some v→Rep M J c v) →
   ∃ news:List Value,news.length=m * sz∧(∀ v∈news,v.oneCell'=true)∧(∀(q:Nat) (r:List AV) (j:Nat) c v,rows[q]?=some r→r[j]?=some c→news[q * sz+j]?=some v→Rep M J c v) ∧
    ∀ w':World,w'.heap=w.heap→(Builtin.firstCells sz m (.slice (some ⟨β,off,none⟩) m c)).run P w'=.ok news.toArray w':=by
  intro β off m c cs e f hb hle hm hrl hone hrep
  have hget:∀ j v,(cs.extract off (off+m * sz)).toList[j]?=some v→j < m * sz∧cs[off+j]?=some v:=by
   intro j v hv;rw[Array.getElem?_toList,Array.getElem?_extract] at hv;split at hv
   ·exact⟨by omega,hv⟩
   ·cases hv
  refine⟨(cs.extract off (off+m * sz)).toList,by simp; omega,fun y hy=>?_,fun q r j c y hq hc hy=>?_,fun w' hw'=>?_⟩
  ·obtain⟨j,hj⟩:=List.getElem?_of_mem hy
   have:=hget j y hj;exact hone j y this.1 this.2
  ·exact hrep q r j c y hq hc (hget _ y hy).2
  ·rw[Array.toArray_toList]
   exact eS P (by rw[hw']; exact hb) hle
 cases hr with
 | list s rows' β off cap n cs e f hn hMb hrl hle hone hrep=>
  simp only[cY,oIn,pIn] at h;obtain⟨rfl,rfl⟩:=h;obtain⟨hn,_⟩:=hn;exact⟨_,n,cap,rfl,hn,hrl,blockCase β off n cap cs e f (hM _ _ hMb) (by rw[hn]; exact hle) hn hrl (by rw[hn]; exact hone) (fun q r j c y a b d=>hrep q r j c y a b (by rw[Nat.add_assoc]; exact d))⟩
 | nilList s a cap=>
  simp only[cY,oIn,pIn] at h;obtain⟨rfl,rfl⟩:=h;refine⟨a,0,cap,rfl,rfl,fun q r hq=>by simp at hq,[],by simp,fun v hv=>(by cases hv),fun q r j c v hq=>by simp at hq,fun w' _=>?_⟩
  cases a<;>simp[Builtin.firstCells,loadCells,loadCellsFrom]
 | hsl g' i' start len cap β l hJ hb hc hlc=>
  simp only[cY] at h;split at h
  ·rename_i s rows0 hg
   split at h
   ·rename_i hble
    have hle':start+len≤rows0.length:=nlB hble;simp only[oIn,pIn] at h;obtain⟨rfl,rfl⟩:=h;obtain⟨l',p1,p2,p3,p4⟩:=hH.cells hg;rw[hJ] at p1
    injection p1 with p1
    subst p1;obtain⟨cs,e,⟨ff,q1,hff⟩,q2,q3,q4,q5⟩:=p4 β hb
    have hm:len=((rows0.drop start).take len).length:=by simp; omega
    have hgr:∀(q:Nat) (r:List AV),((rows0.drop start).take len)[q]?=some r→q < len∧rows0[start+q]?=some r:=by
     intro q r hq;rw[List.getElem?_take] at hq;split at hq
     ·rw[List.getElem?_drop] at hq; exact⟨by assumption,hq⟩
     ·cases hq
    have hmul:start * s+len * s≤rows0.length * s:=by rw[← Nat.add_mul]; exact Nat.mul_le_mul_right _ hle'
    refine⟨_,len,cap,rfl,hm,fun q r hq=>p3 _ r (hgr q r hq).2,?_⟩
    have:=blockCase β (start * l.sz) len cap cs e ff q1 (by rw[p2]; omega) hm (fun q r hq=>p3 _ r (hgr q r hq).2) (fun j y hj hy=>q4 (start * s+j) y (by omega) (by rw[p2] at hy; exact hy))
     (fun q r j c y hq hc hy=>q5 (start+q) r j c y (hgr q r hq).2 hc (by rw[p2] at hy; rw[Nat.add_mul,Nat.add_assoc]; exact hy))
    exact this
   ·cases h
  ·cases h
 | asl g' i' row off len cap β l hJ hb hlc=>
  simp only[cY] at h;split at h
  ·rename_i s rows0 hg
   split at h
   ·rename_i r0 hr0
    split at h
    ·rename_i hble
     have hle':off+len≤s:=nlB hble;simp only[oIn,pIn] at h;obtain⟨rfl,rfl⟩:=h;obtain⟨l',p1,p2,p3,p4⟩:=hH.cells hg;rw[hJ] at p1
     injection p1 with p1
     subst p1;obtain⟨cs,e,⟨ff,q1,hff⟩,q2,q3,q4,q5⟩:=p4 β hb;have hr0l:=p3 _ _ hr0;have hrow:=(gEs.1 hr0).1
     have hmul:row * s+s≤rows0.length * s:=by rw[← Nat.succ_mul]; exact Nat.mul_le_mul_right _ hrow
     have hm:len=(((r0.drop off).take len).map fun c=>[c]).length:=by simp; omega
     have hgr:∀(q:Nat) (r:List AV),(((r0.drop off).take len).map fun c=>[c])[q]?=some r→q < len∧∃ c,r=[c]∧r0[off+q]?=some c:=by
      intro q r hq;rw[List.getElem?_map,Option.map_eq_some_iff] at hq;obtain⟨c,hc,rfl⟩:=hq;rw[List.getElem?_take] at hc;split at hc
      ·rw[List.getElem?_drop] at hc; exact⟨by assumption,c,rfl,hc⟩
      ·cases hc
     refine⟨_,len,cap,rfl,hm,fun q r hq=>by obtain⟨_,c,rfl,_⟩:=hgr q r hq; rfl,?_⟩
     have:=blockCase β (row * l.sz+off) len cap cs e ff q1 (by rw[p2]; omega) hm (fun q r hq=>by obtain⟨_,c,rfl,_⟩:=hgr q r hq; rfl) (fun j y hj hy=>q4 (row * s+off+j) y (by omega) (by rw[p2] at hy; exact hy))
      (fun q r j c y hq hc hy=>by
       obtain⟨hql,c',rfl,hc'⟩:=hgr q r hq
       cases j with
       | zero=>
        simp at hc;subst hc;exact q5 row r0 (off+q) c' y hr0 hc' (by rw[p2] at hy; rw[← hy]; congr 1; omega)
       | succ j=>simp at hc)
     exact this
    ·cases h
   ·cases h
  ·cases h
 | hslNil g' i' a0 l hJ hb=>
  simp only[cY] at h;split at h
  ·rename_i s rows0 hg
   split at h
   ·simp only[oIn,pIn,List.drop_zero,List.take_zero] at h
    obtain⟨rfl,rfl⟩:=h;refine⟨a0,0,0,rfl,rfl,fun q r hq=>by simp at hq,[],by simp,fun v hv=>(by cases hv),fun q r j c v hq=>by simp at hq,fun w' _=>?_⟩
    cases a0<;>simp[Builtin.firstCells,loadCells,loadCellsFrom]
   ·cases h
  ·cases h
 | _=>cases h
theorem gU (hH:aN M J H w.heap) (hM:a8 M w.heap) {a:AV} {x:Value} (hr:Rep M J a x) {s0 sz:Nat} {rows:List (List AV)} (h:d9 s0 H a=some (sz,rows)):
  ∃ b m c,x=.slice b m c∧m=rows.length∧(∀(q:Nat) (r:List AV),rows[q]?=some r→r.length=sz) ∧
   ∃ news:List Value,news.length=m * sz∧(∀ v∈news,v.oneCell'=true)∧(∀(q:Nat) (r:List AV) (j:Nat) c v,rows[q]?=some r→r[j]?=some c→news[q * sz+j]?=some v→Rep M J c v) ∧
    ∀ w':World,w'.heap=w.heap→(Builtin.firstCells sz m x).run P w'=.ok news.toArray w':=by
 unfold d9 at h;split at h
 ·simp only[oIn,pIn] at h
  obtain⟨rfl,rfl⟩:=h
  cases hr
  refine⟨none,0,0,rfl,rfl,fun q r hq=>by simp at hq,[],by simp,fun v hv=>(by cases hv),fun q r j c v hq=>by simp at hq,fun w' _=>?_⟩;simp[Builtin.firstCells]
 ·exact oD hH hM hr h
theorem kY (H:Heap):∀(g i:Nat) (x:Blk),(hget H g i).isSome→(aK H g i x).length=H.length:=by
 induction H with
 | nil=>intro g i x h; simp[hget] at h
 | cons f r ih=>
  intro g i x h
  cases g with
  | zero=>simp[aK]
  | succ g=>simp[aK,ih g i x h]
theorem eQ.append {l:Loc} {h:Array Obj} {sz β len:Nat} {cs:Array Value} {e:TypeId} {rows1 rows2:List (List AV)} (hlsz:l.sz=sz) (hb:l.blk=some β) (hh:mF h β cs e) (htot:cs.size=l.tot)
  (hlen:rows1.length=len) (h1:∀(q:Nat) (r:List AV),rows1[q]?=some r→r.length=sz) (h2:∀(q:Nat) (r:List AV),rows2[q]?=some r→r.length=sz) (hle:(len+rows2.length) * sz≤l.tot)
  (hone:∀(j:Nat) v,j < (len+rows2.length) * sz→cs[j]?=some v→v.oneCell'=true)
  (hr1:∀(q:Nat) (r:List AV) (j:Nat) c v,rows1[q]?=some r→r[j]?=some c→cs[q * sz+j]?=some v→Rep M J c v)
  (hr2:∀(q:Nat) (r:List AV) (j:Nat) c v,rows2[q]?=some r→r[j]?=some c→cs[len * sz+(q * sz+j)]?=some v→Rep M J c v):eQ M J l h (.cells sz (rows1++rows2)):=by
 refine⟨hlsz,fun q r hq=>?_,?_⟩
 ·rw[List.getElem?_append] at hq
  split at hq
  ·exact h1 q r hq
  ·exact h2 _ r hq
 ·rw[hb]
  refine⟨cs,e,hh,htot,by rw[lAp,hlen]; exact hle,by rw[lAp,hlen]; exact hone,fun q r j c v hq hc hv=>?_⟩;rw[List.getElem?_append] at hq;split at hq
  ·exact hr1 q r j c v hq hc hv
  ·rename_i hge
   rw[hlen] at hq hge;refine hr2 _ r j c v hq hc ?_;rw[← Nat.add_assoc,← Nat.add_mul,show len+(q - len)=q by omega];exact hv
theorem oM (t ty e:TypeId) (inf:TypeInfo) (zv:Value) (ht:P.underlying t=some (.slice e)) (hi:P.info? e=some inf) (hz:inf.zero=some zv)
  (base:Option Addr) (sLen sCap:Nat) (olds:List Value) (ho:∀ w':World,w'.heap=w.heap→(Builtin.firstCells inf.size sLen (.slice base sLen sCap)).run P w'=.ok olds.toArray w')
  (b:Option Addr) (n c:Nat) (news:List Value) (hn:∀ w':World,w'.heap=w.heap→(Builtin.firstCells inf.size n (.slice b n c)).run P w'=.ok news.toArray w')
  (hg:sCap < sLen+n) (h63:((sLen+n:Nat):Int)≤9223372036854775807) (hfit:Builtin.nextslicecap (sLen+n) sCap * inf.bytes≤281474976710656):
  (Builtin.append_ #[t,t] ty #[.slice base sLen sCap,.slice b n c]).run P w =
   .ok (.slice (some ⟨w.heap.size,0,none⟩) (sLen+n) (grownCap w (sLen+n) sCap e))
    (w.drew.alloc (.cells (olds.toArray++news.toArray++Builtin.zeroCells zv.cells (grownCap w (sLen+n) sCap e - (sLen+n))) e)):=by
 have hn':¬ (sLen+n≤sCap):=by omega
 have h63':¬ (9223372036854775807 < ((sLen:Int)+(n:Int))):=by omega
 have h48':¬ (281474976710656 < Builtin.nextslicecap (sLen+n) sCap * inf.bytes):=by omega
 have hf:=hn w.drew rfl;have hfo:=ho w.drew rfl;simp[Builtin.append_,run_underlying ht,sizeOf,typeInfo,zeroValue,hi,hz,Builtin.lenOf,hn',h63',h48',Question.forced,hf,hfo,newRow,grownCap];congr 2;apply Array.ext';simp
theorem fU {rows1 rows2:List (List AV)} {st n q:Nat} (h1:st+n≤rows1.length) (h2:n≤rows2.length):(rows1.take st++(rows2.take n++rows1.drop (st+n)))[q]?=if q < st then rows1[q]? else if q < st+n then rows2[q - st]? else rows1[q]?:=by
 have e1:(rows1.take st).length=st:=by rw[List.length_take]; omega
 have e2:(rows2.take n).length=n:=by rw[List.length_take]; omega
 rw[List.getElem?_append,e1];split
 ·rename_i h
  rw[List.getElem?_take_of_lt h]
 ·rw[List.getElem?_append,e2]
  split
  ·rename_i h
   rw[if_pos (by omega),List.getElem?_take_of_lt h]
  ·rw[if_neg (by omega),List.getElem?_drop]
   congr 1;omega
theorem FF (hF:aU N M J fr tmps) (hH:aN M J H w.heap) (hM:a8 M w.heap) (hn:hok H g i) (hJ:J g i=none) {t e:TypeId} {inf:TypeInfo} {z:List (Nat×Value)} {s x:Operand} {args:Array Operand} {ts:Array TypeId}
  (ha:args.toList=[s,x]) (hts:ts.toList=[t,t]) (ht:P.underlying t=some (.slice e)) (hi:P.info? e=some inf) (hz:zOf P e=some z) (_hsz:0 < inf.size) (h:o.op=.call ⟨.builtin .append,args,ts⟩)
  (hs:aD g i (.append inf.size inf.bytes s x) fr H=some (v,H')):bE P M J H w g i (execOp (Act.eval ⟨tmps,ds⟩) o) v H':=by
 have hx:=aH (ds:=ds) hF x;have hsv:=aH (ds:=ds) hF s
 have ha':args=#[s,x]:=by cases args; simp_all
 have ht':ts=#[t,t]:=by cases ts; simp_all
 subst ha'; subst ht';obtain⟨inf',zv,hi',hz0,hsize,hone,hun⟩:=gY hz;rw[hi] at hi'
 injection hi' with hi'
 subst hi';simp only[aD] at hs;split at hs
 ·rename_i s2 rows2 hrows
  split at hs
  ·rename_i hb2
   have:s2=inf.size:=nEb hb2;subst this;split at hs
   ·rename_i g' i' len ea
    rw[ea] at hsv;split at hs
    ·rename_i s1 rows1 hg
     split at hs
     ·rename_i hb1
      simp only[bAe] at hb1;have hs1:s1=inf.size:=nEb hb1.1;have hlen1:rows1.length=len:=nEb hb1.2.1;have hbound:(len+rows2.length) * (inf.bytes+1)≤70368744177664:=nlB hb1.2.2;subst hs1;split at hs
      ·cases hs
      ·rename_i hne
       simp only[oIn,pIn] at hs;obtain⟨rfl,rfl⟩:=hs
       have hne':¬ (g=g'∧i=i'):=by
        rintro⟨rfl,rfl⟩;simp at hne
       have hn':hok (aK H g' i' .dead) g i:=by
        have hgx:=aL H g' i' .dead g i (.inl (by rw[hg]; rfl))
        rcases hn with hn | hn
        ·left; rw[hgx,if_neg hne']; exact hn
        ·right
         refine⟨?_,hn.2⟩;rw[hn.1];exact(kY H g' i' .dead (by rw[hg]; rfl)).symm
       obtain⟨b,m,c,hxv,hm,hrl2,news,hnl,hnone,hnrep,hnrun⟩:=gU (P:=P) hH hM hx hrows;generalize hcx:Act.eval ⟨tmps,ds⟩ x=xv at hxv hnrun;generalize hcs:Act.eval ⟨tmps,ds⟩ s=sv at hsv;subst hxv
       have hbytes:(len+m) * inf.bytes≤70368744177664:=by
        rw[hm]; exact Nat.le_trans (Nat.mul_le_mul_left _ (by omega)) hbound
       have hcount:len+m≤70368744177664:=by
        rw[hm];have h1:(len+rows2.length) * 1≤(len+rows2.length) * (inf.bytes+1):=Nat.mul_le_mul_left _ (by omega);omega
       obtain⟨l0,p1,p2,p3,p4⟩:=hH.cells hg;subst hm
       have hsuf:∀ r w1,(Builtin.append_ #[t,t] o.type #[sv,.slice b rows2.length c]).run P w=.ok r w1→(execOp (Act.eval ⟨tmps,ds⟩) o).run P w=.ok (.value r) w1:=by
        intro r w1 hr;simp[execOp,h,resolve,invoke,builtin,hcx,hcs,hr]
       have hgrow:∀(base:Option Addr) (sCap:Nat) (olds:List Value),sv=.slice base len sCap→sCap < len+rows2.length→olds.length=len * inf.size→(∀ v∈olds,v.oneCell'=true) →
         (∀ w':World,w'.heap=w.heap→(Builtin.firstCells inf.size len sv).run P w'=.ok olds.toArray w') →
         (∀(q:Nat) (r:List AV) (j:Nat) c v,rows1[q]?=some r→r[j]?=some c→olds[q * inf.size+j]?=some v→Rep M J c v) →
         bE P M J H w g i (execOp (Act.eval ⟨tmps,ds⟩) o) (.hsl g i 0 (len+rows2.length)) (aK (aK H g' i' .dead) g i (.cells inf.size (rows1++rows2))):=by
        intro base sCap olds hsv' hcap hol hoone horun horep;subst hsv';have hrun:=oM (P:=P) (w:=w) t o.type e inf zv ht hi hz0 base len sCap olds horun b rows2.length c news hnrun hcap (by omega) (growslice_fits hcap (by omega));have hge:len+rows2.length≤grownCap w (len+rows2.length) sCap e:=grownCap_ge w _ _ _;generalize grownCap w (len+rows2.length) sCap e=cap' at hrun hge
        have hstep0:=fun k=>aS.kill k hH hM g' i' (by rw[hg]; rfl)
        have hzl:(Builtin.zeroCells zv.cells (cap' - (len+rows2.length))).size=(cap' - (len+rows2.length)) * inf.size:=by rw[size_zeroCells,hsize]
        have hsz3:(olds.toArray++news.toArray++Builtin.zeroCells zv.cells (cap' - (len+rows2.length))).size=cap' * inf.size:=by
         simp only[Array.size_append,List.size_toArray,hol,hnl,hzl];rw[← Nat.add_mul,← Nat.add_mul];congr 1;omega
        have hmul:(len+rows2.length) * inf.size=len * inf.size+rows2.length * inf.size:=Nat.add_mul _ _ _;have hmul2:(len+rows2.length) * inf.size≤cap' * inf.size:=Nat.mul_le_mul_right _ hge
        have hget:∀(j:Nat) v,(olds.toArray++news.toArray++Builtin.zeroCells zv.cells (cap' - (len+rows2.length)))[j]?=some v →
          (j < len * inf.size→olds[j]?=some v)∧(len * inf.size≤j→j < (len+rows2.length) * inf.size→news[j - len * inf.size]?=some v):=by
         intro j v hv;refine⟨fun hj=>?_,fun hj hj'=>?_⟩
         ·rw[Array.getElem?_append_left (by simp; omega),Array.getElem?_append_left (by simp; omega)] at hv
          simpa using hv
         ·rw[Array.getElem?_append_left (by simp; omega),Array.getElem?_append_right (by simp; omega)] at hv
          simpa[hol] using hv
        have hB:eQ M J ⟨some w.heap.size,inf.size,cap' * inf.size⟩ (w.heap.push (.cells (olds.toArray++news.toArray++Builtin.zeroCells zv.cells (cap' - (len+rows2.length))) e)) (.cells inf.size (rows1++rows2)):=by
         refine eQ.append rfl rfl (.of (eD _ _)) hsz3 hlen1 p3 hrl2 hmul2 (fun j v hj hv=>?_) (fun q r j c v hq hc hv=>?_) (fun q r j c v hq hc hv=>?_)
         ·by_cases hlt:j < len * inf.size
          ·exact hoone _ (mOg ((hget j v hv).1 hlt))
          ·exact hnone _ (mOg ((hget j v hv).2 (by omega) hj))
         ·have h1:=cM (sz:=inf.size) (gEs.1 hq).1
          have h2:=(gEs.1 hc).1;rw[p3 q r hq] at h2;rw[hlen1] at h1;exact horep q r j c v hq hc ((hget _ v hv).1 (by omega))
         ·have h1:=cM (sz:=inf.size) (gEs.1 hq).1
          have h2:=(gEs.1 hc).1;rw[hrl2 q r hq] at h2;have h3:=(hget _ v hv).2 (by omega) (by omega);rw[show len * inf.size+(q * inf.size+j) - len * inf.size=q * inf.size+j by omega] at h3;exact hnrep q r j c v hq hc h3
        refine⟨_,_,J.set g i ⟨some w.heap.size,inf.size,cap' * inf.size⟩,.inl (hsuf _ _ hrun),?_,Inj.set_ext _ hJ M,fun k=>?_,fun a b hab=>by simp only[Inj.set,if_neg hab]⟩
        ·have:=Rep.hsl (M:=M) (J:=J.set g i ⟨some w.heap.size,inf.size,cap' * inf.size⟩) g i 0 (len+rows2.length) cap' w.heap.size _ (Inj.set_self _) rfl (by simp) hge
         rwa[Nat.zero_mul] at this
        ·exact(hstep0 k).trans (aS.alloc k (hstep0 k).hrep (hstep0 k).mrep g i hn' hJ (some (.cells (olds.toArray++news.toArray++Builtin.zeroCells zv.cells (cap' - (len+rows2.length))) e)) _ _ rfl hB rfl rfl rfl rfl)
       cases hsv with
       | hslNil _ _ a0 l hJ' hb'=>
        rw[hJ'] at p1
        injection p1 with p1
        subst p1
        have hr0:rows1=[]:=by simpa using hlen1
        subst hr0
        by_cases hm0:rows2.length=0
        ·have hr2:rows2=[]:=by simpa using hm0
         subst hr2
         have hstep0:=fun k=>aS.kill k hH hM g' i' (by rw[hg]; rfl)
         have hn0:news=[]:=by simpa using hnl
         subst hn0
         have hrun:(Builtin.append_ #[t,t] o.type #[.slice a0 0 0,.slice b 0 c]).run P w=.ok (.slice a0 0 0) w:=by
          have:=hnrun w rfl;simp at this
          cases a0 with
          | none=>simp[Builtin.append_,run_underlying ht,sizeOf,typeInfo,hi,Builtin.lenOf,this]
          | some a=>simp[Builtin.append_,run_underlying ht,sizeOf,typeInfo,hi,Builtin.lenOf,this,storeCells]
         refine⟨_,w,J.set g i ⟨none,inf.size,0⟩,.inl (hsuf _ _ hrun),.hslNil g i _ _ (Inj.set_self _) rfl,Inj.set_ext _ hJ M,fun k=>?_,fun a b hab=>by simp only[Inj.set,if_neg hab]⟩;exact(hstep0 k).trans (aS.alloc k (hstep0 k).hrep (hstep0 k).mrep g i hn' hJ none _ _ rfl ⟨rfl,fun q r hq=>by simp at hq,rfl⟩ rfl rfl rfl rfl)
        ·exact hgrow a0 0 [] rfl (by omega) (by simp) (fun v hv=>by cases hv) (fun w' _=>by cases a0<;>simp[Builtin.firstCells,loadCells,loadCellsFrom]) (fun q r j c v hq=>by simp at hq)
       | hsl _ _ _ _ cap β l hJ' hb' hc' hlc=>
        rw[hJ'] at p1
        injection p1 with p1
        subst p1;obtain⟨cs,e',⟨ff,q1,hff⟩,q2,q3,q4,q5⟩:=p4 β hb';rw[Nat.zero_add] at hc';rw[Nat.zero_mul] at hgrow hsuf hcs;rw[p2] at hc'
        by_cases hroom:len+rows2.length≤cap
        ·have hmul:(len+rows2.length) * inf.size=len * inf.size+rows2.length * inf.size:=Nat.add_mul _ _ _
         have hmul2:(len+rows2.length) * inf.size≤cap * inf.size:=Nat.mul_le_mul_right _ hroom;have hst:=eC P β (len * inf.size) e' news w cs 0 q1 hff (by rw[hnl]; omega) hnone;rw[Nat.add_zero] at hst
         have hrun:(Builtin.append_ #[t,t] o.type #[.slice (some ⟨β,0,none⟩) len cap,.slice b rows2.length c]).run P w=.ok (.slice (some ⟨β,0,none⟩) (len+rows2.length) cap) (iA w β (.cells (splice cs (len * inf.size) news) e' ff)):=by
          have:=hnrun w rfl;simp[Builtin.append_,run_underlying ht,sizeOf,typeInfo,hi,Builtin.lenOf,hroom,this,cC,hst]
         have hblt:=bX q1;refine⟨_,_,J.set g i l,.inl (hsuf _ _ hrun),?_,Inj.set_ext _ hJ M,fun k=>?_,fun a b hab=>by simp only[Inj.set,if_neg hab]⟩
         ·have:=Rep.hsl (M:=M) (J:=J.set g i l) g i 0 (len+rows2.length) cap β _ (Inj.set_self _) hb' (by rw[Nat.zero_add,p2]; exact hc') hroom
          rwa[Nat.zero_mul] at this
         ·refine aS.rebind k hH hM g' i' l β _ hg rfl hJ' hb' g i hn' hJ (.cells (splice cs (len * inf.size) news) e' ff) _ ?_ rfl rfl rfl rfl
          refine eQ.append p2 hb' ⟨ff,cS _ _ _ hblt,by simpa using hff⟩ (by simp[q2]) hlen1 p3 hrl2 (by omega) (fun j v hj hv=>?_) (fun q r j c v hq hc hv=>?_) (fun q r j c v hq hc hv=>?_)
          ·rw[bW] at hv
           split at hv
           ·exact hnone _ (mOg hv)
           ·exact q4 j v (by rw[hlen1]; omega) hv
          ·have h1:=cM (sz:=inf.size) (gEs.1 hq).1
           have h2:=(gEs.1 hc).1;rw[p3 q r hq] at h2;rw[hlen1] at h1;rw[bW,if_neg (by omega)] at hv;exact q5 q r j c v hq hc hv
          ·have h1:=cM (sz:=inf.size) (gEs.1 hq).1
           have h2:=(gEs.1 hc).1;rw[hrl2 q r hq] at h2;rw[bW,if_pos (by rw[hnl]; omega)] at hv;rw[show len * inf.size+(q * inf.size+j) - len * inf.size=q * inf.size+j by omega] at hv;exact hnrep q r j c v hq hc hv
        ·have hle0:0+len * inf.size≤cs.size:=by
          have:len * inf.size≤cap * inf.size:=Nat.mul_le_mul_right _ hlc;omega
         have hget:∀ j v,(cs.extract 0 (0+len * inf.size)).toList[j]?=some v→j < len * inf.size∧cs[j]?=some v:=by
          intro j v hv;rw[Array.getElem?_toList,Array.getElem?_extract] at hv;split at hv
          ·rw[Nat.zero_add] at hv
           exact⟨by omega,hv⟩
          ·cases hv
         refine hgrow (some ⟨β,0,none⟩) cap (cs.extract 0 (0+len * inf.size)).toList rfl (by omega) (by simp; omega) (fun v hv=>?_) (fun w' hw'=>?_) (fun q r j c v hq hc hv=>q5 q r j c v hq hc (hget _ v hv).2)
         ·obtain⟨j,hj⟩:=List.getElem?_of_mem hv
          have:=hget j v hj;exact q4 j v (by rw[hlen1]; exact this.1) this.2
         ·rw[Array.toArray_toList]
          exact eS P (by rw[hw']; exact q1) hle0
     ·split at hs
      ·rename_i hb1
       simp only[bAe] at hb1;obtain⟨hs1,hsz0,hlt1,hle1⟩:=hb1;have hs1:s1=inf.size:=nEb hs1;have hlt1:len < rows1.length:=nlB hlt1;have hle1:len+rows2.length≤rows1.length:=nlB hle1;subst hs1;split at hs
       ·cases hs
       ·rename_i hne
        simp only[oIn,pIn] at hs;obtain⟨rfl,rfl⟩:=hs
        have hne':¬ (g=g'∧i=i'):=by
         rintro⟨rfl,rfl⟩;simp at hne
        have hn':hok (aK H g' i' .dead) g i:=by
         have hgx:=aL H g' i' .dead g i (.inl (by rw[hg]; rfl))
         rcases hn with hn | hn
         ·left; rw[hgx,if_neg hne']; exact hn
         ·right
          refine⟨?_,hn.2⟩;rw[hn.1];exact(kY H g' i' .dead (by rw[hg]; rfl)).symm
        obtain⟨b,m,c,hxv,hm,hrl2,news,hnl,hnone,hnrep,hnrun⟩:=gU (P:=P) hH hM hx hrows;generalize hcx:Act.eval ⟨tmps,ds⟩ x=xv at hxv hnrun;generalize hcs:Act.eval ⟨tmps,ds⟩ s=sv at hsv;subst hxv;obtain⟨l0,p1,p2,p3,p4⟩:=hH.cells hg;obtain⟨l1,p1',_,_,pn⟩:=hH.blk g' i' _ hg rfl;subst hm
        have hsuf:∀ r w1,(Builtin.append_ #[t,t] o.type #[sv,.slice b rows2.length c]).run P w=.ok r w1→(execOp (Act.eval ⟨tmps,ds⟩) o).run P w=.ok (.value r) w1:=by
         intro r w1 hr;simp[execOp,h,resolve,invoke,builtin,hcx,hcs,hr]
        cases hsv with
        | hslNil _ _ a0 l hJ' hb'=>
         rw[hJ'] at p1'
         injection p1' with p1'
         subst p1';rw[hb'] at pn;simp only at pn;subst pn;simp at hlt1
        | hsl _ _ _ _ cap β l hJ' hb' hc' hlc=>
         rw[hJ'] at p1
         injection p1 with p1
         subst p1;obtain⟨cs,e',⟨ff,q1,hff⟩,q2,q3,q4,q5⟩:=p4 β hb';rw[Nat.zero_add] at hc';rw[Nat.zero_mul] at hsuf hcs;rw[p2] at hc';have hsp:0 < inf.size:=_hsz
         have hcap:rows1.length≤cap:=by
          rw[← hc'] at q3;exact Nat.le_of_mul_le_mul_right q3 hsp
         have hroom:len+rows2.length≤cap:=by omega
         have hmul:(len+rows2.length) * inf.size=len * inf.size+rows2.length * inf.size:=Nat.add_mul _ _ _;have hmul2:(len+rows2.length) * inf.size≤cap * inf.size:=Nat.mul_le_mul_right _ hroom;have hst:=eC P β (len * inf.size) e' news w cs 0 q1 hff (by rw[hnl]; omega) hnone;rw[Nat.add_zero] at hst
         have hrun:(Builtin.append_ #[t,t] o.type #[.slice (some ⟨β,0,none⟩) len cap,.slice b rows2.length c]).run P w=.ok (.slice (some ⟨β,0,none⟩) (len+rows2.length) cap) (iA w β (.cells (splice cs (len * inf.size) news) e' ff)):=by
          have:=hnrun w rfl;simp[Builtin.append_,run_underlying ht,sizeOf,typeInfo,hi,Builtin.lenOf,hroom,this,cC,hst]
         have hblt:=bX q1
         have hcg:∀ q,(rows1.take len++(rows2++rows1.drop (len+rows2.length)))[q]?=if q < len then rows1[q]? else if q < len+rows2.length then rows2[q - len]? else rows1[q]?:=fun q=>by
          have:=fU (q:=q) hle1 (Nat.le_refl rows2.length)
          rwa[List.take_length] at this
         have hlen':(rows1.take len++(rows2++rows1.drop (len+rows2.length))).length=rows1.length:=by
          rw[lAp,lAp,List.length_take,List.length_drop]; omega
         refine⟨_,_,J.set g i l,.inl (hsuf _ _ hrun),?_,Inj.set_ext _ hJ M,fun k=>?_,fun a b hab=>by simp only[Inj.set,if_neg hab]⟩
         ·have:=Rep.hsl (M:=M) (J:=J.set g i l) g i 0 (len+rows2.length) cap β _ (Inj.set_self _) hb' (by rw[Nat.zero_add,p2]; exact hc') hroom
          rwa[Nat.zero_mul] at this
         ·refine aS.rebind k hH hM g' i' l β _ hg rfl hJ' hb' g i hn' hJ (.cells (splice cs (len * inf.size) news) e' ff) _ ⟨p2,fun q r hq=>?_,?_⟩ rfl rfl rfl rfl
          ·rw[hcg] at hq
           split at hq
           ·exact p3 q r hq
           ·split at hq
            ·exact hrl2 _ r hq
            ·exact p3 q r hq
          ·rw[hb']
           refine⟨_,e',⟨_,cS _ _ _ hblt,by simpa using hff⟩,by rw[← q2]; simp,by rw[hlen']; exact q3,fun j v hj hv=>?_,fun q r j c v hq hc hv=>?_⟩
           ·rw[bW] at hv
            split at hv
            ·exact hnone _ (mOg hv)
            ·exact q4 j v (by rw[hlen'] at hj; exact hj) hv
           ·rw[hcg] at hq
            rw[bW,hnl] at hv;split at hq
            ·rename_i hlt
             have hj:=(gEs.1 hc).1;rw[p3 q r hq] at hj;have h1:=cM (sz:=inf.size) hlt;rw[if_neg (by omega)] at hv;exact q5 q r j c v hq hc hv
            ·rename_i hge
             split at hq
             ·rename_i hlt
              have hj:=(gEs.1 hc).1;rw[hrl2 _ r hq] at hj
              obtain⟨p,rfl⟩:∃ p,q=len+p:=⟨q - len,by omega⟩
              have h1:=cM (sz:=inf.size) (show p < rows2.length by omega);have h2:(len+p) * inf.size=len * inf.size+p * inf.size:=Nat.add_mul _ _ _;have h3:(len+p) * inf.size+inf.size≤rows1.length * inf.size:=cM (by omega);rw[if_pos (by omega)] at hv;rw[show(len+p) * inf.size+j - len * inf.size=p * inf.size+j by omega] at hv;rw[show len+p - len=p by omega] at hq;exact hnrep p r j c v hq hc hv
             ·rename_i hge2
              have h2:(len+rows2.length) * inf.size≤q * inf.size:=Nat.mul_le_mul_right _ (by omega);rw[if_neg (by omega)] at hv;exact q5 q r j c v hq hc hv
      ·cases hs
    ·cases hs
   ·rename_i ea
    rw[ea] at hsv;split at hs
    ·rename_i hbb
     have hbound:rows2.length * (inf.bytes+1)≤70368744177664:=nlB hbb;simp only[oIn,pIn] at hs;obtain⟨rfl,rfl⟩:=hs;obtain⟨b,m,c,hxv,hm,hrl2,news,hnl,hnone,hnrep,hnrun⟩:=gU (P:=P) hH hM hx hrows;generalize hcx:Act.eval ⟨tmps,ds⟩ x=xv at hxv hnrun;have hcs:=hsv.sc_inv;subst hxv
     have hbytes:m * inf.bytes≤70368744177664:=by
      rw[hm]; exact Nat.le_trans (Nat.mul_le_mul_left _ (by omega)) hbound
     have hcount:m≤70368744177664:=by
      rw[hm];have h1:rows2.length * 1≤rows2.length * (inf.bytes+1):=Nat.mul_le_mul_left _ (by omega);omega
     have hsuf:∀ r w1,(Builtin.append_ #[t,t] o.type #[.slice none 0 0,.slice b m c]).run P w=.ok r w1→(execOp (Act.eval ⟨tmps,ds⟩) o).run P w=.ok (.value r) w1:=by
      intro r w1 hr;simp[execOp,h,resolve,invoke,builtin,hcx,hcs,hr]
     by_cases hm0:m=0
     ·have hr2:rows2=[]:=by
       have:rows2.length=0:=by omega
       simpa using this
      subst hr2;subst hm0
      have hn0:news=[]:=by simpa using hnl
      subst hn0
      have hrun:(Builtin.append_ #[t,t] o.type #[.slice none 0 0,.slice b 0 c]).run P w=.ok (.slice none 0 0) w:=by
       have:=hnrun w rfl;simp[Builtin.append_,run_underlying ht,sizeOf,typeInfo,hi,Builtin.lenOf,this]
      refine⟨_,w,J.set g i ⟨none,inf.size,0⟩,.inl (hsuf _ _ hrun),.hslNil g i _ _ (Inj.set_self _) rfl,Inj.set_ext _ hJ M,fun k=>?_,fun a b hab=>by simp only[Inj.set,if_neg hab]⟩;exact aS.alloc k hH hM g i hn hJ none _ _ rfl ⟨rfl,fun q r hq=>by simp at hq,rfl⟩ rfl rfl rfl rfl
     ·have hcap:0 < 0+m:=by omega
      have hrun:=oM (P:=P) (w:=w) t o.type e inf zv ht hi hz0 none 0 0 [] (fun w' _=>by simp[Builtin.firstCells]) b m c news hnrun hcap (by omega) (growslice_fits hcap (by rw[Nat.zero_add]; omega));rw[Nat.zero_add] at hrun;have hge:m≤grownCap w m 0 e:=grownCap_ge w _ _ _;generalize grownCap w m 0 e=cap' at hrun hge
      have hzl:(Builtin.zeroCells zv.cells (cap' - m)).size=(cap' - m) * inf.size:=by rw[size_zeroCells,hsize]
      have hsz3:((#[]:Array Value)++news.toArray++Builtin.zeroCells zv.cells (cap' - m)).size=cap' * inf.size:=by
       simp only[Array.size_append,List.size_toArray,hnl,hzl];rw[List.length_nil,Nat.zero_add,← Nat.add_mul];congr 1;omega
      have hmul2:m * inf.size≤cap' * inf.size:=Nat.mul_le_mul_right _ hge
      have hget:∀(j:Nat) v,((#[]:Array Value)++news.toArray++Builtin.zeroCells zv.cells (cap' - m))[j]?=some v→j < m * inf.size→news[j]?=some v:=by
       intro j v hv hj;rw[Array.getElem?_append_left (by simp; omega),Array.getElem?_append_right (by simp)] at hv
       simpa using hv
      have hB:eQ M J ⟨some w.heap.size,inf.size,cap' * inf.size⟩ (w.heap.push (.cells ((#[]:Array Value)++news.toArray++Builtin.zeroCells zv.cells (cap' - m)) e)) (.cells inf.size rows2):=by
       have:=eQ.append (M:=M) (J:=J) (l:=⟨some w.heap.size,inf.size,cap' * inf.size⟩) (rows1:=[]) (rows2:=rows2) (len:=0) rfl rfl (.of (eD w.heap (.cells ((#[]:Array Value)++news.toArray++Builtin.zeroCells zv.cells (cap' - m)) e))) hsz3 rfl (fun q r hq=>by simp at hq) hrl2 (by rw[Nat.zero_add,← hm]; exact hmul2)
        (fun j v hj hv=>hnone _ (mOg (hget j v hv (by rw[hm]; simpa using hj)))) (fun q r j c v hq=>by simp at hq) (fun q r j c v hq hc hv=>by
         rw[Nat.zero_mul,Nat.zero_add] at hv;have h1:=cM (sz:=inf.size) (gEs.1 hq).1;have h2:=(gEs.1 hc).1;rw[hrl2 q r hq] at h2
         exact hnrep q r j c v hq hc (hget _ v hv (by rw[hm]; omega)))
       simpa using this
      refine⟨_,_,J.set g i ⟨some w.heap.size,inf.size,cap' * inf.size⟩,.inl (hsuf _ _ hrun),?_,Inj.set_ext _ hJ M,fun k=>?_,fun a b hab=>by simp only[Inj.set,if_neg hab]⟩
      ·have:=Rep.hsl (M:=M) (J:=J.set g i ⟨some w.heap.size,inf.size,cap' * inf.size⟩) g i 0 m cap' w.heap.size _ (Inj.set_self _) rfl (by simp) hge
       rw[Nat.zero_mul] at this;rw[← hm];exact this
      ·exact aS.alloc k hH hM g i hn hJ (some (.cells ((#[]:Array Value)++news.toArray++Builtin.zeroCells zv.cells (cap' - m)) e)) _ _ rfl hB rfl rfl rfl rfl
    ·cases hs
   ·cases hs
  ·cases hs
 ·cases hs
end
end Go.Av
namespace Go.Av
open Go.MapKept
section
variable {P:Program} {M:Mem} {J:Inj} {H:Heap} {w:World} {g i:Nat}
variable {N:Nat} {fr:Fr} {tmps:Array Value} {ds:List Deferred} {o:Oper} {v:AV} {H':Heap}
theorem kD (k k0:IntKind) (n:Int):∀(es:List (Value×AV)) (cl:List MapEntry) (res:Option AV) (q:Nat),es.length=cl.length→(∀(j:Nat) x y,es[j]?=some x→cl[j]?=some y→x.1=y.key) →
  dM k n es=some res →
  (res=none∧Instr.findNow (.int k0) (.int k n) cl q=some none) ∨
  ∃ x j c,res=some x∧es[j]?=some (.int k n,x)∧cl[j]?=some c∧c.key=.int k n∧Instr.findNow (.int k0) (.int k n) cl q=some (some (q+j,c.val))∧∀ y,rL n y es=es.set j (.int k n,y)
 | [],cl,res,q,hl,_,h=>by
  simp[dM] at h;subst h
  cases cl with
  | nil=>exact .inl ⟨rfl,rfl⟩
  | cons _ _=>simp at hl
 | (key,x)::es,cl,res,q,hl,hk,h=>by
  cases cl with
  | nil=>simp at hl
  | cons c cl=>
   have hkey:key=c.key:=hk 0 _ _ rfl rfl
   cases key with
   | int k' m=>
    simp only[dM] at h;split at h
    ·rename_i e1
     have e1:k=k':=of_decide_eq_true e1;subst e1;split at h
     ·rename_i e2
      have e2:n=m:=of_decide_eq_true e2;subst e2
      injection h with h
      subst h;exact .inr ⟨x,0,c,rfl,rfl,rfl,hkey.symm,by simp[Instr.findNow,← hkey,Instr.sameNow],fun y=>by simp[rL]⟩
     ·rename_i e2
      have e2:¬ n=m:=of_decide_eq_false e2
      have hs:Instr.sameNow (.int k0) (.int k n) c.key=some false:=by
       rw[← hkey];simp[Instr.sameNow,e2]
      rcases kD k k0 n es cl res (q+1) (by simpa using hl) (fun j x y a b=>hk (j+1) x y a b) h with⟨h1,h2⟩ | ⟨x',j,c',h1,h2,h3,h4,h5,h6⟩
      ·exact .inl ⟨h1,by simp[Instr.findNow,hs,h2]⟩
      ·exact .inr ⟨x',j+1,c',h1,by simpa using h2,by simpa using h3,h4,by simp[Instr.findNow,hs,h5]; omega,fun y=>by simp[rL,e2,h6 y]⟩
    ·cases h
   | _=>simp[dM] at h
theorem aN.maps {H:Heap} {h:Array Obj} (hH:aN M J H h) {g i:Nat} {es:List (Value×AV)} (hg:hget H g i=some (.map es)):
  ∃ l β ces clock,J g i=some l∧l.blk=some β∧h[β]?=some (.map ces clock)∧es.length=ces.size ∧
   (∀(j:Nat) x y,es[j]?=some x→ces[j]?=some y→x.1=y.key)∧(∀(j:Nat) x y,es[j]?=some x→ces[j]?=some y→Rep M J x.2 y.val)∧MWF ces clock:=by
 obtain⟨l,h1,β,ces,clock,h2,h3,h4,h5,h6,h7⟩:=hH.blk g i _ hg rfl;exact⟨l,β,ces,clock,h1,h2,h3,h4,h5,h6,h7⟩
theorem zO {t:TypeId} {a:AV} (h:GQ P t=some a) (w:World):∃ zv,(zeroValue t).run P w=.ok zv w∧Rep M J a zv:=by
 unfold GQ at h;split at h
 ·rename_i inf hi
  split at h
  ·rename_i cs hz
   injection h with h
   subst h;refine⟨_,dU hi hz w,.agg _ _ (by rw[fC,pZ]; simp) fun j c v hc hv=>?_⟩;rw[fC,pZ,List.getElem?_map,Array.getElem?_toList,hv] at hc;simp at hc;subst hc;exact .sc v
  ·rename_i zv _ hz
   injection h with h
   subst h;exact⟨zv,dU hi hz w,.sc zv⟩
  ·cases h
 ·cases h
theorem F4 (hF:aU N M J fr tmps) (hH:aN M J H w.heap) (hM:a8 M w.heap) {t kt e:TypeId} {z:AV} {k:IntKind} {x ix:Operand} {ok:Bool} (ht:P.underlying t=some (.map kt e)) (hkt:P.underlying kt=some (.int k))
  (hz:GQ P e=some z) (h:o.op=.lookup t x ix ok) (hs:aD g i (.lookup z k x ix ok) fr H=some (v,H')):bE P M J H w g i (execOp (Act.eval ⟨tmps,ds⟩) o) v H':=by
 have hx:=aH (ds:=ds) hF x;have hix:=aH (ds:=ds) hF ix;obtain⟨zv,hzrun,hzrep⟩:=zO (M:=M) (J:=J) hz w;simp only[aD] at hs;split at hs
 ·rename_i k' n ei
  rw[ei] at hix;have hixv:=hix.sc_inv;split at hs
  ·rename_i hk
   have hk:k=k':=of_decide_eq_true hk;subst hk;generalize hcv:Act.eval ⟨tmps,ds⟩ x=cv at hx;have hkey:IsKey (.int k) (.int k n):=rfl
   -- what the search finds,and that the operation gives it
   have key:∀(res:Option AV),(∃(ces:Array MapEntry) (found:Option (Nat×Value)),((cv=.map none∧ces=#[])∨∃ r clock,cv=.map (some r)∧w.heap[r]?=some (.map ces clock)) ∧
      Instr.findNow (.int k) (.int k n) ces.toList 0=some found ∧
      (match res,found with | none,none=>True | some y,some (_,u)=>Rep M J y u | _,_=>False)) →
     lM z ok H (some res)=some (v,H')→bE P M J H w g i (execOp (Act.eval ⟨tmps,ds⟩) o) v H':=by
    rintro res ⟨ces,found,h1,h2,h3⟩ hs
    have hck:∀ b,(Instr.checkKey b 10000 kt (.int k n)).run P w=.ok () w:=fun b=>run_checkKey hkt hkey b 9999
    have hfk:=run_findKey (P:=P) (w:=w) hkt h2
    have pair:∀(a:AV) (u:Value) (b:Bool),Rep M J a u→Rep M J (.tup [a,.sc (.bool b)]) (.tuple #[u,.bool b]):=by
     intro a u b hr
     refine .tup _ _ rfl fun j c y hc hy=>?_
     cases j with
     | zero=>simp at hc hy; subst hc; subst hy; exact hr
     | succ j=>
      cases j with
      | zero=>simp at hc hy; subst hc; subst hy; exact .sc _
      | succ j=>simp at hc
    have hexec:∀ u b,(match found with | some (_,v)=>u=v∧b=true | none=>u=zv∧b=false) →
      (execOp (Act.eval ⟨tmps,ds⟩) o).run P w=.ok (.value (if ok then .tuple #[u,.bool b] else u)) w:=by
     intro u b hub
     rcases h1 with⟨rfl,rfl⟩ | ⟨r,clock,rfl,hr⟩
     ·simp only[execOp,h,hixv,hcv,Instr.lookup,Sem.run_bind,run_underlying ht,Result.andThen_ok,Sem.run_pure,hck,hfk]
      cases found with
      | none=>obtain⟨rfl,rfl⟩:=hub; simp[hzrun]
      | some p=>obtain⟨rfl,rfl⟩:=hub; simp
     ·simp only[execOp,h,hixv,hcv,Instr.lookup,Sem.run_bind,run_underlying ht,Result.andThen_ok,Sem.run_pure,MapKept.run_getObj_map hr,hck,hfk]
      cases found with
      | none=>obtain⟨rfl,rfl⟩:=hub; simp[hzrun]
      | some p=>obtain⟨rfl,rfl⟩:=hub; simp
    cases res with
    | none=>
     cases found with
     | some p=>exact h3.elim
     | none=>
      have hr:=hexec zv false ⟨rfl,rfl⟩
      cases ok with
      | true=>
       simp only[lM,oIn,pIn] at hs;obtain⟨rfl,rfl⟩:=hs;exact .quiet hH hM hr (pair z zv false hzrep)
      | false=>
       simp only[lM,oIn,pIn] at hs;obtain⟨rfl,rfl⟩:=hs;exact .quiet hH hM hr hzrep
    | some y=>
     cases found with
     | none=>exact h3.elim
     | some p=>
      have hr:=hexec p.2 true ⟨rfl,rfl⟩
      cases ok with
      | true=>
       simp only[lM,oIn,pIn] at hs;obtain⟨rfl,rfl⟩:=hs;exact .quiet hH hM hr (pair y p.2 true h3)
      | false=>
       simp only[lM,oIn,pIn] at hs;obtain⟨rfl,rfl⟩:=hs;exact .quiet hH hM hr h3
   have found:∀(es:List (Value×AV)) (ces:Array MapEntry) (res:Option AV),es.length=ces.size→(∀(j:Nat) x y,es[j]?=some x→ces[j]?=some y→x.1=y.key) →
     (∀(j:Nat) x y,es[j]?=some x→ces[j]?=some y→Rep M J x.2 y.val)→dM k n es=some res →
     ∃ found,Instr.findNow (.int k) (.int k n) ces.toList 0=some found∧(match res,found with | none,none=>True | some y,some (_,u)=>Rep M J y u | _,_=>False):=by
    intro es ces res h1 h2 h3 h4
    rcases kD k k n es ces.toList res 0 (by simpa using h1) (fun j x y a b=>h2 j x y a (by simpa using b)) h4 with⟨e1,e2⟩ | ⟨y,j,c,e1,e2,e3,e4,e5,_⟩
    ·subst e1; exact⟨none,e2,trivial⟩
    ·subst e1
     exact⟨_,e5,h3 j _ c e2 (by simpa using e3)⟩
   cases hfd:l7 H k n (ev fr x) with
   | none=>rw[hfd] at hs; cases hs
   | some res=>
    rw[hfd] at hs;refine key res ?_ hs;unfold l7 at hfd;split at hfd
    ·rename_i es ea
     rw[ea] at hx
     cases hx with
     | tmap _ β clock ces hMb _ hl hk' hr=>
      obtain⟨f,hf1,hf2⟩:=found es ces res hl hk' hr hfd;exact⟨ces,f,.inr ⟨_,_,rfl,hM _ _ hMb⟩,hf1,hf2⟩
    ·rename_i g' i' ea
     rw[ea] at hx;split at hfd
     ·rename_i es hg
      cases hx with
      | mref _ _ β l hJ hb=>
       obtain⟨l',β',ces,clock,p1,p2,p3,p4,p5,p6,_⟩:=hH.maps hg;rw[hJ] at p1
       injection p1 with p1
       subst p1;rw[hb] at p2
       injection p2 with p2
       subst p2;obtain⟨f,hf1,hf2⟩:=found es ces res p4 p5 p6 hfd;exact⟨ces,f,.inr ⟨_,_,rfl,p3⟩,hf1,hf2⟩
     ·cases hfd
    ·rename_i ea
     rw[ea] at hx
     cases hx
     injection hfd with hfd
     subst hfd;exact⟨#[],none,.inl ⟨rfl,rfl⟩,rfl,trivial⟩
    ·cases hfd
  ·cases hs
 ·cases hs
theorem oK (hF:aU N M J fr tmps) (hH:aN M J H w.heap) (hM:a8 M w.heap) {t kt e:TypeId} {k:IntKind} {m ix x:Operand} (ht:P.underlying t=some (.map kt e)) (hkt:P.underlying kt=some (.int k))
  (h:o.op=.mapUpdate t m ix x) (hs:aD g i (.mapUpdate k m ix x) fr H=some (v,H')):bE P M J H w g i (execOp (Act.eval ⟨tmps,ds⟩) o) v H':=by
 have hx:=aH (ds:=ds) hF x;have hm:=aH (ds:=ds) hF m;have hix:=aH (ds:=ds) hF ix;simp only[aD] at hs;split at hs
 ·rename_i g' i' k' n em ei
  rw[ei] at hix;rw[em] at hm;have hixv:=hix.sc_inv;split at hs
  ·rename_i hk
   have hk:k=k':=of_decide_eq_true hk;subst hk;have hkey:IsKey (.int k) (.int k n):=rfl;generalize hcv:Act.eval ⟨tmps,ds⟩ m=cv at hm;generalize hxv:Act.eval ⟨tmps,ds⟩ x=xv at hx;split at hs
   ·rename_i es hg
    obtain⟨l',β,ces,clock,p1,p2,p3,p4,p5,p6,p7⟩:=hH.maps hg
    cases hm with
    | mref _ _ β' l hJ hb=>
     rw[hJ] at p1
     injection p1 with p1
     subst p1;rw[hb] at p2
     injection p2 with p2
     subst p2
     have hck:∀ b,(Instr.checkKey b 10000 kt (.int k n)).run P w=.ok () w:=fun b=>run_checkKey hkt hkey b 9999
     have hblt:=bX p3
     have fin:∀(o':Obj) (es':List (Value×AV)) (ces':Array MapEntry) (clock':Nat),o'=.map ces' clock'→(execOp (Act.eval ⟨tmps,ds⟩) o).run P w=.ok .skip { w with heap:=w.heap.setIfInBounds β' o' } →
       es'.length=ces'.size→(∀(j:Nat) x y,es'[j]?=some x→ces'[j]?=some y→x.1=y.key)→(∀(j:Nat) x y,es'[j]?=some x→ces'[j]?=some y→Rep M J x.2 y.val)→MWF ces' clock' →
       bE P M J H w g i (execOp (Act.eval ⟨tmps,ds⟩) o) .undef (aK H g' i' (.map es')):=by
      intro o' es' ces' clock' ho hrun q1 q2 q3 q4;subst ho;refine⟨Go.undef,_,J,.inr ⟨hrun,rfl⟩,.undef _,.refl _ _,fun k=>?_,fun _ _ _=>rfl⟩;exact aS.write k hH hM g' i' l β' _ hg rfl hJ hb (.map ces' clock') _ (fun _=>⟨β',ces',clock',hb,by simp[hblt],q1,q2,q3,q4⟩) rfl rfl rfl rfl
     have hpreN:Instr.findNow (.int k) (.int k n) ces.toList 0=some none →
       (execOp (Act.eval ⟨tmps,ds⟩) o).run P w=.ok .skip { w with heap:=w.heap.setIfInBounds β' (.map (ces.push { key:=.int k n,val:=xv,born:=clock }) (clock+1)) }:=by
      intro hf;have hfk:=run_findKey (P:=P) (w:=w) hkt hf;simp only[execOp,h,hixv,hcv,hxv,Instr.mapUpdate,Sem.run_bind,run_underlying ht,Result.andThen_ok,MapKept.run_getObj_map p3,hck,hfk,MapKept.run_setObj_map _ p3,Sem.run_pure]
     have hpreS:∀(j:Nat) (u:Value) (c:MapEntry),Instr.findNow (.int k) (.int k n) ces.toList 0=some (some (j,u))→ces[j]?=some c→c.key=.int k n →
       (execOp (Act.eval ⟨tmps,ds⟩) o).run P w=.ok .skip { w with heap:=w.heap.setIfInBounds β' (.map (ces.modify j fun e=>{ e with key:=.int k n,val:=xv }) clock) }:=by
      intro j u c hf hcj hck';have hfk:=run_findKey (P:=P) (w:=w) hkt hf
      have hkeep:(Instr.keyThatStays (.int k n) (.int k n)).run P w=.ok (.int k n) w:=by simp[Instr.keyThatStays,Instr.sameBits]
      simp only[execOp,h,hixv,hcv,hxv,Instr.mapUpdate,Sem.run_bind,run_underlying ht,Result.andThen_ok,MapKept.run_getObj_map p3,hck,hfk,hcj,Option.map_some,Option.getD_some,hck',hkeep,MapKept.run_setObj_map _ p3,Sem.run_pure]
     split at hs
     ·rename_i hmf
      simp only[oIn,pIn] at hs;obtain⟨rfl,rfl⟩:=hs
      rcases kD k k n es ces.toList none 0 (by simpa using p4) (fun j x y a b=>p5 j x y a (by simpa using b)) hmf with⟨_,e2⟩ | ⟨y,j,c,e1,_⟩
      ·refine fin _ _ _ _ rfl (hpreN e2) (by simp[p4]) (fun j a b ha hb=>?_) (fun j a b ha hb=>?_) (p7.push _ _)
       ·rw[List.getElem?_append] at ha
        rw[Array.getElem?_push] at hb
        by_cases hj:j=ces.size
        ·rw[if_pos hj] at hb
         rw[if_neg (by omega)] at ha
         injection hb with hb
         subst hb;rw[show j - es.length=0 by omega] at ha;simp at ha;subst ha;exact hixv.symm▸rfl
        ·rw[if_neg hj] at hb
         have:=(Array.getElem?_eq_some_iff.1 hb).1;rw[if_pos (by omega)] at ha;exact p5 j a b ha hb
       ·rw[List.getElem?_append] at ha
        rw[Array.getElem?_push] at hb
        by_cases hj:j=ces.size
        ·rw[if_pos hj] at hb
         rw[if_neg (by omega)] at ha
         injection hb with hb
         subst hb;rw[show j - es.length=0 by omega] at ha;simp at ha;subst ha;exact hx
        ·rw[if_neg hj] at hb
         have:=(Array.getElem?_eq_some_iff.1 hb).1;rw[if_pos (by omega)] at ha;exact p6 j a b ha hb
      ·cases e1
     ·rename_i y0 hmf
      simp only[oIn,pIn] at hs;obtain⟨rfl,rfl⟩:=hs
      rcases kD k k n es ces.toList (some y0) 0 (by simpa using p4) (fun j x y a b=>p5 j x y a (by simpa using b)) hmf with⟨e1,_⟩ | ⟨y,j,c,e1,e2,e3,e4,e5,e6⟩
      ·cases e1
      ·have hcj:ces[j]?=some c:=by simpa using e3
       have hjlt:=(Array.getElem?_eq_some_iff.1 hcj).1;rw[e6];rw[Nat.zero_add] at e5;refine fin _ _ (ces.modify j fun e=>{ e with key:=.int k n,val:=xv }) clock rfl (hpreS j _ c e5 hcj e4) (by simp[p4]) (fun j' a b ha hb=>?_) (fun j' a b ha hb=>?_) (p7.modify _ _ _)
       ·rw[List.getElem?_set] at ha
        rw[Array.getElem?_modify] at hb;split at ha
        ·rename_i hjj
         rw[if_pos hjj,← hjj,hcj] at hb;simp at hb;subst hb;split at ha
         ·injection ha with ha; subst ha; rfl
         ·cases ha
        ·rename_i hjj
         rw[if_neg hjj] at hb;exact p5 j' a b ha hb
       ·rw[List.getElem?_set] at ha
        rw[Array.getElem?_modify] at hb;split at ha
        ·rename_i hjj
         rw[if_pos hjj,← hjj,hcj] at hb;simp at hb;subst hb;split at ha
         ·injection ha with ha; subst ha; exact hx
         ·cases ha
        ·rename_i hjj
         rw[if_neg hjj] at hb;exact p6 j' a b ha hb
     ·cases hs
   ·cases hs
  ·cases hs
 ·cases hs
theorem F3 (hF:aU N M J fr tmps) (hH:aN M J H w.heap) (hM:a8 M w.heap) {t kt e:TypeId} {k:IntKind} {m ix x:Operand} (ht:P.underlying t=some (.map kt e)) (hkt:P.underlying kt=some (.int k))
  (h:o.op=.insert t m ix x) (hs:aD g i (.mapUpdate k m ix x) fr H=some (v,H')):bE P M J H w g i (execOp (Act.eval ⟨tmps,ds⟩) o) v H':=by
 have he:execOp (Act.eval ⟨tmps,ds⟩) o=execOp (Act.eval ⟨tmps,ds⟩) { o with op:=.mapUpdate t m ix x }:=by simp only[execOp,h]
 rw[he];exact oK (o:={ o with op:=.mapUpdate t m ix x }) hF hH hM ht hkt rfl hs
theorem MN (hF:aU N M J fr tmps) (hH:aN M J H w.heap) (hM:a8 M w.heap) {x:Operand} {t k e:TypeId} {args:Array Operand} {ts:Array TypeId} (ha:args.toList=[x]) (ht:ts.toList=[t]) (hu:P.underlying t=some (.map k e))
  (h:o.op=.call ⟨.builtin .len,args,ts⟩) (hs:aD g i (.lenM x) fr H=some (v,H')):bE P M J H w g i (execOp (Act.eval ⟨tmps,ds⟩) o) v H':=by
 have hx:=aH (ds:=ds) hF x
 have ha':args=#[x]:=by cases args; simp_all
 have ht':ts=#[t]:=by cases ts; simp_all
 subst ha'; subst ht'
 have key:∀ β (ces:Array MapEntry) clock,Act.eval ⟨tmps,ds⟩ x=.map (some β)→w.heap[β]?=some (.map ces clock)→(execOp (Act.eval ⟨tmps,ds⟩) o).run P w=.ok (.value (.int .i64 ces.size)) w:=by
  intro β ces clock hp hb;simp[execOp,h,resolve,invoke,builtin,Builtin.len_,run_underlying hu,hp,goInt,MapKept.run_getObj_map hb]
 have key0:Act.eval ⟨tmps,ds⟩ x=.map none→(execOp (Act.eval ⟨tmps,ds⟩) o).run P w=.ok (.value (.int .i64 (0:Nat))) w:=by
  intro hp;simp[execOp,h,resolve,invoke,builtin,Builtin.len_,run_underlying hu,hp,goInt]
 simp only[aD] at hs;generalize hcv:Act.eval ⟨tmps,ds⟩ x=cv at hx key key0;split at hs
 ·rename_i ea
  rw[ea] at hx;simp only[oIn,pIn] at hs;obtain⟨rfl,rfl⟩:=hs
  cases hx with
  | tmap es β clock ces hMb _ hl hk _=>
   have:=key β ces clock rfl (hM _ _ hMb);rw[← hl] at this;exact .quiet hH hM this (.sc _)
 ·rename_i ea
  rw[ea] at hx;split at hs
  ·rename_i es hg
   simp only[oIn,pIn] at hs;obtain⟨rfl,rfl⟩:=hs
   cases hx with
   | mref _ _ β l hJ hb=>
    obtain⟨l',p1,p2⟩:=hH.blk _ _ _ hg rfl;rw[hJ] at p1
    injection p1 with p1
    subst p1;obtain⟨β',ces,clock,q1,q2,q3,q4,q5⟩:=p2;rw[hb] at q1
    injection q1 with q1
    subst q1;have:=key β ces clock rfl q2;rw[← q3] at this;exact .quiet hH hM this (.sc _)
  ·cases hs
 ·rename_i ea
  rw[ea] at hx;simp only[oIn,pIn] at hs;obtain⟨rfl,rfl⟩:=hs
  cases hx
  exact .quiet hH hM (key0 rfl) (.sc _)
 ·cases hs
theorem wO (hF:aU N M J fr tmps) (hH:aN M J H w.heap) (hM:a8 M w.heap) {neg:Bool} {t u k e:TypeId} {x:Operand} (ht:P.underlying t=some (.map k e))
  (h:o.op=.binOp (if neg then .neq else .eql) t x (.const (.map none)) u) (hs:aD g i (.eqNilM neg x) fr H=some (v,H')):bE P M J H w g i (execOp (Act.eval ⟨tmps,ds⟩) o) v H':=by
 have hx:=aH (ds:=ds) hF x
 have key:∀(p:Option Nat),Act.eval ⟨tmps,ds⟩ x=.map p→(execOp (Act.eval ⟨tmps,ds⟩) o).run P w=.ok (.value (.bool (if neg then !p.isNone else p.isNone))) w:=by
  intro p hp
  have hq0:∀ d,(Op.equalIn (d+1) t (.map p) (.map none)).run P w=.ok p.isNone w:=fun d=>by
   cases p<;>simp[Op.equalIn,run_underlying ht]
  have hq:(Op.equal t (.map p) (.map none)).run P w=.ok p.isNone w:=hq0 9999;have hc:Act.eval ⟨tmps,ds⟩ (.const (.map none))=.map none:=rfl
  cases neg<;>simp[execOp,h,hp,hc,eqGuard,binOp,hq]
 simp only[aD] at hs;generalize hcv:Act.eval ⟨tmps,ds⟩ x=cv at hx key;split at hs
 ·rename_i ea
  rw[ea] at hx;simp only[oIn,pIn] at hs;obtain⟨rfl,rfl⟩:=hs
  cases hx with
  | mref=>
   refine .quiet hH hM (key _ rfl) ?_
   cases neg<;>exact .sc _
 ·rename_i ea
  rw[ea] at hx;simp only[oIn,pIn] at hs;obtain⟨rfl,rfl⟩:=hs
  cases hx with
  | tmap=>
   refine .quiet hH hM (key _ rfl) ?_
   cases neg<;>exact .sc _
 ·rename_i ea
  rw[ea] at hx;simp only[oIn,pIn] at hs;obtain⟨rfl,rfl⟩:=hs
  cases hx
  refine .quiet hH hM (key _ rfl) ?_
  cases neg<;>exact .sc _
 ·cases hs
theorem wH (hF:aU N M J fr tmps) (hH:aN M J H w.heap) (hM:a8 M w.heap) {neg:Bool} {t u e:TypeId} {x:Operand} (ht:P.underlying t=some (.slice e))
  (h:o.op=.binOp (if neg then .neq else .eql) t x (.const (.slice none 0 0)) u) (hs:aD g i (.eqNilS neg x) fr H=some (v,H')):bE P M J H w g i (execOp (Act.eval ⟨tmps,ds⟩) o) v H':=by
 have hx:=aH (ds:=ds) hF x
 have key:∀(p:Option Addr) (n c:Nat),Act.eval ⟨tmps,ds⟩ x=.slice p n c→(execOp (Act.eval ⟨tmps,ds⟩) o).run P w=.ok (.value (.bool (if neg then !p.isNone else p.isNone))) w:=by
  intro p n c hp
  have hq0:∀ d,(Op.equalIn (d+1) t (.slice p n c) (.slice none 0 0)).run P w=.ok p.isNone w:=fun d=>by
   cases p<;>simp[Op.equalIn,run_underlying ht]
  have hq:(Op.equal t (.slice p n c) (.slice none 0 0)).run P w=.ok p.isNone w:=hq0 9999;have hc:Act.eval ⟨tmps,ds⟩ (.const (.slice none 0 0))=.slice none 0 0:=rfl
  cases neg<;>simp[execOp,h,hp,hc,eqGuard,binOp,hq]
 simp only[aD] at hs;generalize hcv:Act.eval ⟨tmps,ds⟩ x=cv at hx key;split at hs
 ·rename_i ea
  rw[ea] at hx;simp only[oIn,pIn] at hs;obtain⟨rfl,rfl⟩:=hs
  cases hx with
  | list=>
   refine .quiet hH hM (key _ _ _ rfl) ?_
   cases neg<;>exact .sc _
 ·rename_i g' i' st len ea
  rw[ea] at hx
  cases len with
  | succ n=>
   simp only[oIn,pIn] at hs;obtain⟨rfl,rfl⟩:=hs
   cases hx with
   | hsl=>
    refine .quiet hH hM (key _ _ _ rfl) ?_
    cases neg<;>exact .sc _
  | zero=>
   simp only at hs;split at hs
   ·rename_i s r rs hg
    simp only[oIn,pIn] at hs;obtain⟨rfl,rfl⟩:=hs
    cases hx with
    | hsl=>
     refine .quiet hH hM (key _ _ _ rfl) ?_
     cases neg<;>exact .sc _
    | hslNil _ _ a0 l hJ hb=>
     obtain⟨l',p1,p2,p3,p4⟩:=hH.blk _ _ _ hg rfl;rw[hJ] at p1
     injection p1 with p1
     subst p1;rw[hb] at p4
     cases p4
   ·cases hs
 ·rename_i ea
  rw[ea] at hx;simp only[oIn,pIn] at hs;obtain⟨rfl,rfl⟩:=hs
  cases hx with
  | asl=>
   refine .quiet hH hM (key _ _ _ rfl) ?_
   cases neg<;>exact .sc _
 ·rename_i ea
  rw[ea] at hx;simp only[oIn,pIn] at hs;obtain⟨rfl,rfl⟩:=hs
  cases hx
  refine .quiet hH hM (key _ _ _ rfl) ?_
  cases neg<;>exact .sc _
 ·cases hs
end
end Go.Av
