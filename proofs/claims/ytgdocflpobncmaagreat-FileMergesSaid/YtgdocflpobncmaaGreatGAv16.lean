import Derived.Test.YtgdocflpobncmaaGreatGAv13
namespace Go.Av
inductive kH where
 | tmp (t:Nat)
 | cell (a:Nat) (sz:Nat) (agg:Bool)
def wU (P:Program):ResultVar→Option kH
 | .tmp t=>some (.tmp t)
 | .cell a t=>(mV P t).map fun p=>.cell a p.1 p.2
def lQ (P:Program):List ResultVar→Option (List kH)
 | []=>some []
 | r::l=>match wU P r,lQ P l with
  | some x,some xs=>some (x::xs)
  | _,_=>none
structure IFun where
 n:Nat
 code:bL
 res:List kH
def bG (P:Program) (f:FuncId):Option IFun:=
 match P.funcs[f]? with
 | some fn=>match fn.body,lQ P fn.results.toList with
  | some b,some rs=>match bM P fn.ntmps b with
   | some c => match fn.name == "runtime.NumGoroutine" with
    | true=>none
    | false=>some ⟨fn.ntmps,c,rs⟩
   | none=>none
  | _,_=>none
 | none=>none
def nF (fr:Fr) (H:Heap):kH→Option AV
 | .tmp t=>match fz (fr.get t) [] with
  | some (v,_)=>some v
  | none=>none
 | .cell a sz agg=>match fr.get a with
  | .ptr g i row off=>match hget H g i with
   | some (.cells _ rows)=>match rows[row]? with
    | some r=>iW sz agg (r.drop off)
    | none=>none
   | _=>none
  | _=>none
def lF (fr:Fr) (H:Heap):List kH→Option (List AV)
 | []=>some []
 | r::l=>match nF fr H r,lF fr H l with
  | some x,some xs=>some (x::xs)
  | _,_=>none
def l5 (fr:Fr) (H:Heap) (rs:List kH):Option AV:=
 match lF fr H rs with
 | some [x]=>some x
 | some xs=>some (.tup xs)
 | none=>none
def fE:Nat→List AV→Fr
 | _,[]=>[]
 | i,a::r=>(i,a)::fE (i+1) r
def eO (k:Nat) (H:Heap) (res:AV) (H':Heap) (res':AV):Prop:=
 ∀ M J v (w:World),Rep M J res v→aN M J H w.heap→a8 M w.heap→∃ M' J',aS k M J H w M' J' H' w∧Rep M' J' res' v
theorem eO.refl (k:Nat) (H:Heap) (res:AV):eO k H res H res:=fun _ _ _ _ hv hH hM=>⟨_,_,.refl k hH hM,hv⟩
theorem eO.trans {k:Nat} {H H' H'':Heap} {a b c:AV} (h1:eO k H a H' b) (h2:eO k H' b H'' c):eO k H a H'' c:=by
 intro M J v w hv hH hM;obtain⟨M1,J1,s1,r1⟩:=h1 M J v w hv hH hM;obtain⟨M2,J2,s2,r2⟩:=h2 M1 J1 v w r1 s1.hrep s1.mrep;exact⟨M2,J2,s1.trans s2,r2⟩
theorem eO.ren {k:Nat} {H H':Heap} {a b:AV} (ρ:Nat→Nat→Option (Nat×Nat)) (hn:uT ρ k H H') (h:Ren ρ a b):eO k H a H' b:=
 fun M J _ _ hv hH hM=>⟨M,J.via ρ,(aS.refl k hH hM).ren hn,hv.ren h⟩
theorem eO.le {k:Nat} {H:Heap} {a b:AV} (h:Le a b):eO k H a H b:=fun M J v _ hv hH hM=>⟨M,J,.refl k hH hM,h M J v hv⟩
section
variable {P:Program} {N k:Nat} {fr:Fr} {H:Heap}
theorem nG:∀(args:List AV) (i t:Nat),Fr.get (fE i args) t=if i≤t∧t < i+args.length then(args[t - i]?).getD .undef else .undef
 | [],i,t=>by simp only[fE,Fr.get,List.length_nil]; rw[if_neg (by omega)]
 | a::r,i,t=>by
  simp only[fE,Fr.get];split
  ·rename_i e
   have:i=t:=nEb e;subst this;rw[if_pos ⟨Nat.le_refl _,by simp⟩];simp
  ·rename_i e
   have hne:i≠t:=fun h=>by subst h; simp at e
   rw[nG r (i+1) t];simp only[List.length_cons]
   by_cases h:i+1≤t∧t < i+1+r.length
   ·rw[if_pos h,if_pos (by omega),show t - i=(t - (i+1))+1 by omega]
    rfl
   ·rw[if_neg h,if_neg (by omega)]
def uC (tmps:Array Value):ResultVar→Sem Value
 | .tmp t=>pure (tmps.getD t Go.undef)
 | .cell a t=>do loadVar t (← asAddr (tmps.getD a Go.undef))
theorem tH (fn:Func) (tmps:Array Value):results fn tmps=(do
  let vs ← fn.results.mapM (uC tmps)
  pure (if h:vs.size=1 then vs[0] else .tuple vs)):=rfl
theorem CX {M J} {w:World} {tmps:Array Value} (hF:aU N M J fr tmps) (hH:aN M J H w.heap) {r:ResultVar} {x:kH} (hx:wU P r=some x) {v:AV} (h:nF fr H x=some v):
  ∃ cv,(uC tmps r).run P w=.ok cv w∧Rep M J v cv:=by
 cases r with
 | tmp t=>
  injection hx with hx
  subst hx;simp only[nF,gT,oIn] at h;subst h;exact⟨_,rfl,hF.2 t⟩
 | cell a t=>
  simp only[wU,Option.map_eq_some_iff] at hx;obtain⟨⟨sz,agg⟩,hv,rfl⟩:=hx;have ha:=hF.2 a;simp only[nF] at h;split at h
  ·rename_i g i row off e
   rw[e] at ha;split at h
   ·rename_i s rows hg
    split at h
    ·rename_i r hrow
     generalize hcv:tmps.getD a Go.undef=cv at ha
     cases ha with
     | ptr _ _ _ _ β l hJ hb=>
      obtain⟨l',h1,h2,h3,h4⟩:=hH.cells hg;rw[hJ] at h1
      injection h1 with h1
      subst h1;obtain⟨cs,t',⟨ff,h5,hff⟩,h6,h7,_,h8⟩:=h4 β hb;have hrl:=(gEs.1 hrow).1;have:=cM (sz:=s) hrl;have hlen:=h3 row r hrow
      obtain⟨x,hx,hrx⟩:=jC (P:=P) (off:=row * l.sz+off) (cells:=r.drop off) hv h5 h (by
       rw[List.length_drop,h2]
       rcases Nat.lt_or_ge off r.length with hlt | hge
       ·right; omega
       ·left; exact List.drop_eq_nil_of_le hge) (fun j c y hc hy=>by
       rw[List.getElem?_drop] at hc
       exact h8 row r (off+j) c y hrow hc (by rw[← h2,← Nat.add_assoc]; exact hy))
      exact⟨x,by simp only[uC,hcv,asAddr,Sem.run_bind,Sem.run_pure,Result.andThen_ok,hx],hrx⟩
    ·cases h
   ·cases h
  ·cases h
theorem sY {M J} {w:World} {tmps:Array Value} (hF:aU N M J fr tmps) (hH:aN M J H w.heap):∀(rs:List ResultVar) (xs:List kH),lQ P rs=some xs→∀ vs,lF fr H xs=some vs →
  ∃ cvs:List Value,(rs.mapM (uC tmps)).run P w=.ok cvs w∧vs.length=cvs.length ∧
   ∀(j:Nat) c v,vs[j]?=some c→cvs[j]?=some v→Rep M J c v
 | [],xs,hx,vs,h=>by
  simp[lQ] at hx;subst hx;simp[lF] at h;subst h;exact⟨[],by simp,rfl,fun j c v hc=>by simp at hc⟩
 | r::rs,xs,hx,vs,h=>by
  simp only[lQ] at hx;split at hx
  ·rename_i x xs' h1 h2
   injection hx with hx
   subst hx;simp only[lF] at h;split at h
   ·rename_i a as h3 h4
    injection h with h
    subst h;obtain⟨cv,hr,hrep⟩:=CX (P:=P) hF hH h1 h3;obtain⟨cvs,hrs,hlen,hreps⟩:=sY hF hH rs xs' h2 as h4;refine⟨cv::cvs,?_,by simp[hlen],fun j c v hc hv=>?_⟩
    ·rw[List.mapM_cons]
     simp only[Sem.run_bind];rw[hr];simp only[Result.andThen_ok];rw[hrs];rfl
    ·cases j with
     | zero=>simp at hc hv; subst hc; subst hv; exact hrep
     | succ j=>exact hreps j c v (by simpa using hc) (by simpa using hv)
   ·cases h
  ·cases hx
theorem aS.shut {k M J H w M' J' H' w'} (s:aS k M J H w M' J' H' w') {D:Nat} (hD:w.heap.size≤D) (hM:M' D=none) (hn:∀ g i l,aQ H' g i→J' g i=some l→l.blk≠some D) (o:Obj):
  aS k M J H w M' J' H' (w'.putObj D o):=by
 have hother:∀ β:Nat,β≠D→(w'.putObj D o).heap[β]?=w'.heap[β]?:=fun β hβ=>World.putObj_heap_other hβ
 refine⟨s.m,s.j,⟨fun g i x hx hl=>?_,s.hrep.inj,s.hrep.out,fun g i l hJ=>?_⟩,fun β o' hm=>?_,s.os,s.tape,s.output,by rw[World.putObj_size]; exact s.size,fun β o' ho hn'=>?_,s.fresh,s.live,fun β r hr=>?_⟩
 ·obtain⟨l,h1,h2⟩:=s.hrep.blk g i x hx hl
  refine⟨l,h1,h2.ext (.refl _ _) fun β hβ=>hother β ?_⟩;rintro rfl;exact hn g i l ⟨x,hx,hl⟩ h1 hβ
 ·have:=s.hrep.dom g i l hJ
  exact⟨this.1,fun β hβ=>by rw[World.putObj_size]; exact this.2 β hβ⟩
 ·rw[hother β]
  ·exact s.mrep β o' hm
  ·rintro rfl
   rw[hM] at hm; cases hm
 ·have:=bN ho
  rw[hother β (by omega)];exact s.frame β o' ho hn'
 ·have:=bN hr
  rw[hother β (by omega)];exact s.bk β r hr
theorem nW {k M J H w M' J' H'} {fn:Func} {tmps:Array Value} {R:Ending→World→Prop} {ro:Option Nat} {n:Nat} (hfin:∀ w',aS k M J H w M' J' H' w'→∃ v,(results fn tmps).run P w'=.ok v w'∧R (.returned v) w'):
  ∀(Ds:List Nat) (w':World),aS k M J H w M' J' H' w'→Cx.ok ⟨none,w.heap.size,Ds⟩ M' J' H' w'→LeavesInM (FW ro) n P fn tmps R (Ds.map E5) .returning w'
 | [],w',s,_=>hfin w' s
 | D::Ds,w',s,hx=>by
  obtain⟨h1,h2,h3,h4⟩:=hx.dfr D (List.mem_cons_self ..);have s':=s.shut h1 h3 h4 (.deferred none);refine⟨by simp,.inl ⟨D,_,rfl,run_takeDeferred h2,nW hfin Ds _ s' ⟨fun l hl=>(by cases hl),s'.size,(List.nodup_cons.1 hx.nd).2,fun E hE=>?_⟩⟩⟩;obtain⟨e1,e2,e3,e4⟩:=hx.dfr E (mCm _ hE);refine⟨e1,?_,e3,e4⟩
  have hne:E≠D:=by rintro rfl; exact(List.nodup_cons.1 hx.nd).1 hE
  exact(World.putObj_heap_other hne).trans e2
theorem aE.of {f:FuncId} {F:IFun} (hf:bG P f=some F) {args:List AV} {R:AV→Heap→Prop}
  (h:AWP P F.n H.length F.code (fun e fr' H'=>(e=.normal∨e=.ret)∧∃ res res' H2,l5 fr' H' F.res=some res∧eO H.length H' res H2 res'∧R res' H2) (fE 0 args) H) (hn:args.length≤F.n):
  aE P f args H R:=by
 unfold bG at hf;split at hf
 ·rename_i fn hfn
  split at hf
  ·rename_i b rs hb hrs
   split at hf
   ·rename_i c hc
    split at hf
    ·cases hf
    ·rename_i hname
     injection hf with hf
     subst hf;refine⟨⟨fn,hfn,hname,by rw[hb]; rfl⟩,fun M J w cargs hlen hargs hH hM=>?_⟩;refine m5.1 (callsIn_of_wp_marks (F:=FW none) (n:=0) hfn hb trivial ?_)
     have hF:aU fn.ntmps M J (fE 0 args) (cargs++Array.replicate (fn.ntmps - cargs.size) Go.undef):=by
      refine⟨by simp only[Array.size_append,Array.size_replicate]; simp only at hn; omega,fun t=>?_⟩;rw[nG,Nat.zero_add]
      by_cases ht:t < args.length
      ·rw[if_pos ⟨nZl _,ht⟩,Nat.sub_zero,gEg ht,Option.getD_some]
       rw[Array.getD_eq_getD_getElem?,Array.getElem?_append_left (by omega),Array.getElem?_eq_getElem (by omega),Option.getD_some];exact hargs t _ _ (gEg ht) (Array.getElem?_eq_getElem (by omega))
      ·rw[if_neg (by omega)]
       exact .undef _
     refine wpIn_mono (h b hc ⟨none,w.heap.size,[]⟩ M J _ w ⟨fun l hl=>(by cases hl),Nat.le_refl _,.nil,fun D hD=>by simp at hD⟩ hF hH hM) fun e a' w0 hp=>?_
     obtain⟨M1,J1,fr1,H1,Ds,q0,q2,q3,qx,hexit,res,res',H2,hres,hsub,hR⟩:=hp
     have hfin:∀ w',aS H.length M J H w M1 J1 H1 w'→∃ v,(results fn a'.tmps).run P w'=.ok v w'∧∃ v0 M' J' res H',Ending.returned v=.returned v0∧aS H.length M J H w M' J' H' w'∧Rep M' J' res v0∧R res H':=by
      intro w' q1
      have hmany:∀ vs,lF fr1 H1 rs=some vs→∃ cvs:List Value,(fn.results.mapM (uC a'.tmps)).run P w'=.ok cvs.toArray w' ∧
        vs.length=cvs.length∧∀(j:Nat) c v,vs[j]?=some c→cvs[j]?=some v→Rep M1 J1 c v:=by
       intro vs hvs;obtain⟨cvs,h1,h2,h3⟩:=sY (P:=P) q2 q1.hrep fn.results.toList rs hrs vs hvs;refine⟨cvs,?_,h2,h3⟩;rw[Array.mapM_eq_mapM_toList];simp only[Sem.run_map];rw[h1];rfl
      unfold l5 at hres;split at hres
      ·rename_i x hvs
       injection hres with hres
       subst hres;obtain⟨cvs,h1,h2,h3⟩:=hmany _ hvs
       cases cvs with
       | nil=>simp at h2
       | cons cv r=>
        have:r=[]:=by simpa using h2.symm
        subst this;obtain⟨M2,J2,s2,r2⟩:=hsub M1 J1 cv w' (h3 0 x cv rfl rfl) q1.hrep q1.mrep;refine⟨cv,?_,cv,M2,J2,res',H2,rfl,q1.trans s2,r2,hR⟩;rw[tH];simp only[Sem.run_bind,h1,Result.andThen_ok];rfl
      ·rename_i vs hne hvs
       injection hres with hres
       subst hres;obtain⟨cvs,h1,h2,h3⟩:=hmany _ hvs
       have hne1:cvs.length≠1:=by
        intro e;rw[e] at h2;obtain⟨x,hx⟩:=List.length_eq_one_iff.1 h2;exact hne x hx
       obtain⟨M2,J2,s2,r2⟩:=hsub M1 J1 (.tuple cvs.toArray) w' (.tup vs cvs.toArray (by simpa using h2) (fun j c v a b=>h3 j c v a (by simpa using b))) q1.hrep q1.mrep;refine⟨.tuple cvs.toArray,?_,_,M2,J2,res',H2,rfl,q1.trans s2,r2,hR⟩;rw[tH];simp only[Sem.run_bind,h1]
       have:¬ (cvs.toArray.size=1):=by simpa using hne1
       simp only[Result.andThen_ok,dif_neg this,Sem.run_pure]
      ·cases hres
     have hl:=nW (P:=P) (ro:=none) (n:=0) (R:=fun e w'=>∃ v M' J' res H',e=.returned v∧aS H.length M J H w M' J' H' w'∧Rep M' J' res v∧R res H') hfin Ds w0 q0 qx;rw[← q3] at hl
     rcases hexit with rfl | rfl
     ·exact hl
     ·exact hl
   ·cases hf
  ·cases hf
 ·cases hf
end
end Go.Av
namespace Go.Av
def bB:AV→List (Nat×Nat)
 | .ptr g i _ _=>[(g,i)]
 | .hsl g i _ _=>[(g,i)]
 | .mref g i=>[(g,i)]
 | .asl g i _ _ _=>[(g,i)]
 | _=>[]
def IOp.opds:IOp→List Operand
 | .move x=>[x]
 | .pick c a b=>[c,a,b]
 | .alloc _=>[]
 | .box x=>[x]
 | .build _ parts=>parts.map (·.2.2)
 | .buildSlice _ _ _ parts=>parts.map (·.2)
 | .load _ _ a=>[a]
 | .store _ a x=>[a,x]
 | .nilCheck x=>[x]
 | .bin _ _ x y=>[x,y]
 | .eqBool _ x y=>[x,y]
 | .eqNil _ x=>[x]
 | .eqNilM _ x=>[x]
 | .eqNilS _ x=>[x]
 | .eqArr _ _ x y=>[x,y]
 | .un _ x=>[x]
 | .conv _ x=>[x]
 | .makeFunc _ a b=>a++b
 | .makeMap=>[]
 | .makeSlice _ _ _ l=>[l]
 | .slice _ x lo hi mx=>x::(lo.toList++(hi.toList++mx.toList))
 | .fieldAddr _ x=>[x]
 | .field _ _ _ x=>[x]
 | .idxSl _ x i=>[x,i]
 | .idxArr _ _ x i=>[x,i]
 | .idxVal _ _ _ x i=>[x,i]
 | .lookup _ _ x i _=>[x,i]
 | .mapUpdate _ m i x=>[m,i,x]
 | .extract x _=>[x]
 | .len x=>[x]
 | .lenM x=>[x]
 | .append _ _ s x=>[s,x]
 | .max args=>args
 | .min args=>args
 | .xop _ xs=>xs
 | .insF _ m i x=>[m,i,x]
 | .mop _ xs=>xs
def drd (fr:Fr):IOp→List (Nat×Nat)
 | .load _ _ a=>bB (ev fr a)
 | .store _ a _=>bB (ev fr a)
 | .idxSl _ x _=>bB (ev fr x)
 | .slice _ x _ _ _=>bB (ev fr x)
 | .lenM x=>bB (ev fr x)
 | .eqNilS _ x=>bB (ev fr x)
 | .lookup _ _ x _ _=>bB (ev fr x)
 | .mapUpdate _ m _ _=>bB (ev fr m)
 | .append _ _ s x=>bB (ev fr s)++bB (ev fr x)
 | .xop _ xs=>(avals fr xs).flatMap bB
 | .insF _ m _ _=>bB (ev fr m)
 | .mop _ xs=>(avals fr xs).flatMap bB
 | _=>[]
def mwr (g i:Nat) (e:MOp) (as:List AV):List (Nat×Nat):=
 match e with
 | .range=>[(g,i)]
 | .slice0 _=>[(g,i)]
 | .sliceA _=>[]
 | .del _=>match as with
  | a::_=>bB a
  | []=>[]
 | .copy _=>match as with
  | a::_=>bB a
  | []=>[]
 | .next=>[]
 | .entry=>[]
 | .stop=>[]
 | .appN _ _=>[(g,i)]
 | .clear _=>match as with
  | [.hsl _ _ _ 0]=>[]
  | a::_=>bB a
  | []=>[]
 | .cap=>[]
 | .iface _=>[]
 | .sliceP _ _ _=>[]
 | .s2a _=>[]
 | .strB=>[(g,i)]
 | .markS=>match as with
  | a::_=>bB a
  | []=>[]
 | .nilM _=>[]
 | .clearM=>match as with
  | a::_=>bB a
  | []=>[]
def CZ:MOp→Bool
 | .sliceA _=>true
 | .sliceP _ _ _=>true
 | .s2a _=>true
 | .iface _=>true
 | .nilM _=>true
 | _=>false
theorem vP {e:MOp} (h:CZ e=true) (g i:Nat) (as:List AV):mwr g i e as=[]:=by cases e<;>first | rfl | cases h
def dwr (g i:Nat) (fr:Fr):IOp→List (Nat×Nat)
 | .alloc _=>[(g,i)]
 | .box _=>[(g,i)]
 | .buildSlice _ _ _ _=>[(g,i)]
 | .makeMap=>[(g,i)]
 | .makeSlice _ _ _ _=>[(g,i)]
 | .store _ a _=>bB (ev fr a)
 | .mapUpdate _ m _ _=>bB (ev fr m)
 | .insF _ m _ _=>bB (ev fr m)
 | .append _ _ s _=>(g,i)::bB (ev fr s)
 | .mop e xs=>mwr g i e (avals fr xs)
 | _=>[]
theorem jD {g i:Nat} {o:IOp} {fr fr2:Fr} {H:Heap} (h:∀ x∈o.opds,ev fr2 x=ev fr x):aD g i o fr2 H=aD g i o fr H:=by
 have hav:∀ l:List Operand,(∀ x∈l,ev fr2 x=ev fr x)→avals fr2 l=avals fr l:=fun l hl=>List.map_congr_left hl
 cases o with
 | build z parts=>
  have:parts.map (fun p=>(p.1,p.2.1,ev fr2 p.2.2))=parts.map (fun p=>(p.1,p.2.1,ev fr p.2.2)):=
   List.map_congr_left fun p hp=>by rw[h p.2.2 (List.mem_map.2 ⟨p,hp,rfl⟩)]
  simp only[aD,this]
 | buildSlice sz z n parts=>
  have:parts.map (fun p=>(p.1,ev fr2 p.2))=parts.map (fun p=>(p.1,ev fr p.2)):=
   List.map_congr_left fun p hp=>by rw[h p.2 (List.mem_map.2 ⟨p,hp,rfl⟩)]
  simp only[aD,this]
 | makeFunc fn a b=>simp only[aD,hav a fun x hx=>h x (List.mem_append_left _ hx),hav b fun x hx=>h x (List.mem_append_right _ hx)]
 | max args=>simp only[aD,hav args h]
 | min args=>simp only[aD,hav args h]
 | alloc z=>rfl
 | makeMap=>rfl
 | slice sz x lo hi mx=>
  have hb:∀(d:Nat) (y:Option Operand),(∀ z∈y.toList,ev fr2 z=ev fr z)→pI fr2 d y=pI fr d y:=by
   intro d y hy
   cases y with
   | none=>rfl
   | some z=>simp only[pI,hy z (by simp)]
  have h1:=fun d=>hb d lo fun z hz=>h z (by simp only[IOp.opds]; exact mCm _ (List.mem_append_left _ hz))
  have h2:=fun d=>hb d hi fun z hz=>h z (by simp only[IOp.opds]; exact mCm _ (List.mem_append_right _ (List.mem_append_left _ hz)))
  have h3:=fun d=>hb d mx fun z hz=>h z (by simp only[IOp.opds]; exact mCm _ (List.mem_append_right _ (List.mem_append_right _ hz)))
  have h4:∀ d,eF fr2 d lo hi mx=eF fr d lo hi mx:=fun d=>by simp only[eF,h1,h2,h3]
  simp only[aD,h x (by simp[IOp.opds]),h4]
 | move x=>simp only[aD,h x (by simp[IOp.opds])]
 | box x=>simp only[aD,h x (by simp[IOp.opds])]
 | load sz agg a=>simp only[aD,h a (by simp[IOp.opds])]
 | nilCheck x=>simp only[aD,h x (by simp[IOp.opds])]
 | eqNil neg x=>simp only[aD,h x (by simp[IOp.opds])]
 | eqNilM neg x=>simp only[aD,h x (by simp[IOp.opds])]
 | eqNilS neg x=>simp only[aD,h x (by simp[IOp.opds])]
 | un op x=>simp only[aD,h x (by simp[IOp.opds])]
 | conv k x=>simp only[aD,h x (by simp[IOp.opds])]
 | makeSlice sz bytes z l=>simp only[aD,h l (by simp[IOp.opds])]
 | fieldAddr off x=>simp only[aD,h x (by simp[IOp.opds])]
 | field off sz agg x=>simp only[aD,h x (by simp[IOp.opds])]
 | extract x i=>simp only[aD,h x (by simp[IOp.opds])]
 | len x=>simp only[aD,h x (by simp[IOp.opds])]
 | lenM x=>simp only[aD,h x (by simp[IOp.opds])]
 | pick c a b=>simp only[aD,h a (by simp[IOp.opds]),h b (by simp[IOp.opds]),h c (by simp[IOp.opds])]
 | store sz a x=>simp only[aD,h a (by simp[IOp.opds]),h x (by simp[IOp.opds])]
 | bin op t x y=>simp only[aD,h x (by simp[IOp.opds]),h y (by simp[IOp.opds])]
 | eqBool neg x y=>simp only[aD,h x (by simp[IOp.opds]),h y (by simp[IOp.opds])]
 | eqArr neg n x y=>simp only[aD,h x (by simp[IOp.opds]),h y (by simp[IOp.opds])]
 | idxSl sz x y=>simp only[aD,h x (by simp[IOp.opds]),h y (by simp[IOp.opds])]
 | idxArr n sz x y=>simp only[aD,h x (by simp[IOp.opds]),h y (by simp[IOp.opds])]
 | idxVal n sz agg x y=>simp only[aD,h x (by simp[IOp.opds]),h y (by simp[IOp.opds])]
 | lookup z k x y ok=>simp only[aD,h x (by simp[IOp.opds]),h y (by simp[IOp.opds])]
 | append sz bytes x y=>simp only[aD,h x (by simp[IOp.opds]),h y (by simp[IOp.opds])]
 | mapUpdate k x y z=>simp only[aD,h x (by simp[IOp.opds]),h y (by simp[IOp.opds]),h z (by simp[IOp.opds])]
 | xop e xs=>simp only[aD,hav xs h]
 | mop e xs=>simp only[aD,hav xs h]
 | insF ks x y z=>simp only[aD,h x (by simp[IOp.opds]),h y (by simp[IOp.opds]),h z (by simp[IOp.opds])]
def vA (g i:Nat) (fr:Fr) (o:IOp) (H H' H2:Heap) (r:Option (AV×Heap)) (v:AV):Prop:=
 ∃ H2',r=some (v,H2')∧(∀ a b,(a,b)∈dwr g i fr o→hget H2' a b=hget H' a b)∧(∀ a b,(a,b)∉dwr g i fr o→hget H2' a b=hget H2 a b)∧(∀ a b,(a,b)∉dwr g i fr o→hget H' a b=hget H a b) ∧
  ∀ a b,(a,b)∈dwr g i fr o→(hget H' a b).isSome
theorem vA.set {g i:Nat} {fr:Fr} {o:IOp} {H H2:Heap} {v:AV} {a b:Nat} {x:Blk} (h1:hok H a b) (h2:hok H2 a b) (hd:dwr g i fr o=[(a,b)]):vA g i fr o H (aK H a b x) H2 (some (v,aK H2 a b x)) v:=by
 refine⟨_,rfl,fun c d hc=>?_,fun c d hc=>?_,fun c d hc=>?_,fun c d hc=>?_⟩
 ·rw[hd] at hc
  simp at hc;obtain⟨rfl,rfl⟩:=hc;rw[aL _ _ _ _ _ _ h1,aL _ _ _ _ _ _ h2];simp
 ·rw[hd] at hc
  rw[aL _ _ _ _ _ _ h2,if_neg (by simpa using hc)]
 ·rw[hd] at hc
  rw[aL _ _ _ _ _ _ h1,if_neg (by simpa using hc)]
 ·rw[hd] at hc
  rw[aL _ _ _ _ _ _ h1,if_pos (by simpa using hc)];rfl
theorem vA.quiet {g i:Nat} {fr:Fr} {o:IOp} {H H2:Heap} {v:AV} (hd:dwr g i fr o=[]):vA g i fr o H H H2 (some (v,H2)) v:=
 ⟨H2,rfl,(fun a b h=>by rw[hd] at h; cases h),fun _ _ _=>rfl,fun _ _ _=>rfl,fun a b h=>by rw[hd] at h; cases h⟩
theorem wY {H H2:Heap} {a:AV} (h:∀ p∈bB a,hget H2 p.1 p.2=hget H p.1 p.2):cY H2 a=cY H a:=by
 cases a with
 | hsl g i s l=>simp only[cY,h (g,i) (by simp[bB])]
 | asl g i r s l=>simp only[cY,h (g,i) (by simp[bB])]
 | _=>rfl
theorem lT {H H2:Heap} {a:AV} {s0:Nat} (h:∀ p∈bB a,hget H2 p.1 p.2=hget H p.1 p.2):d9 s0 H2 a=d9 s0 H a:=by
 unfold d9;split
 ·rfl
 ·exact wY h
theorem yK {H H2:Heap} {a:AV} {k:IntKind} {n:Int} (h:∀ p∈bB a,hget H2 p.1 p.2=hget H p.1 p.2):l7 H2 k n a=l7 H k n a:=by
 cases a with
 | mref g i=>simp only[l7,h (g,i) (by simp[bB])]
 | sc v=>cases v<;>first | rfl | (rename_i r; cases r<;>rfl)
 | _=>rfl
theorem w6 {H H2:Heap} {a:AV} {ks:List LK} {k:List Value} (h:∀ p∈bB a,hget H2 p.1 p.2=hget H p.1 p.2):qE H2 ks k a=qE H ks k a:=by
 cases a with
 | mref g i=>simp only[qE,h (g,i) (by simp[bB])]
 | sc v=>cases v<;>first | rfl | (rename_i r; cases r<;>rfl)
 | _=>rfl
theorem y7 {H H2:Heap} {e:XOp} {as:List AV} (h:∀ p∈as.flatMap bB,hget H2 p.1 p.2=hget H p.1 p.2):mS H2 e as=mS H e as:=by
 cases e with
 | bstr=>
  match as with
  | []=>rfl
  | [a]=>simp only[mS,lT (H:=H) (H2:=H2) (a:=a) fun p hp=>h p (by simpa using hp)]
  | _::_::_=>rfl
 | lookF ks z ok=>
  match as with
  | []=>rfl
  | [_]=>rfl
  | [m,k]=>
   have:=fun(l:List Value)=>w6 (H:=H) (H2:=H2) (a:=m) (ks:=ks) (k:=l) fun p hp=>h p (by simp[hp])
   simp only[mS,this]
  | _::_::_::_=>rfl
 | _=>rfl
theorem v8 {n a b:Nat} {x v:AV} {H H' H2:Heap} (h:slA n H a b x=some (v,H')):slA n H2 a b x=some (v,H2)∧H'=H:=by
 cases x with
 | ptr g i row off=>
  simp only[slA] at h;split at h
  ·rename_i hb
   simp only[oIn,pIn] at h;obtain⟨rfl,rfl⟩:=h;exact⟨by simp only[slA,hb],rfl⟩
  ·cases h
 | cptr cells=>
  simp only[slA] at h;split at h
  ·rename_i hb
   simp only[oIn,pIn] at h;obtain⟨rfl,rfl⟩:=h;exact⟨by simp only[slA,hb],rfl⟩
  ·cases h
 | _=>cases h
theorem AB {g i:Nat} {e:MOp} {xs:List Operand} {fr:Fr} {H H2 H':Heap} {v:AV} (hs:dG g i H e (avals fr xs)=some (v,H')) (h1:(g,i)∈mwr g i e (avals fr xs)→(hget H g i).isSome)
  (h2:(g,i)∈mwr g i e (avals fr xs)→(hget H2 g i).isSome) (hh:∀ p∈(avals fr xs).flatMap bB,hget H2 p.1 p.2=hget H p.1 p.2):vA g i fr (.mop e xs) H H' H2 (dG g i H2 e (avals fr xs)) v:=by
 have hd:dwr g i fr (.mop e xs)=mwr g i e (avals fr xs):=rfl;generalize avals fr xs=as at *;unfold dG at hs ⊢
 cases e with
 | range=>
  simp only at hs ⊢;split at hs
  ·simp only[oIn,pIn] at hs; obtain⟨rfl,rfl⟩:=hs
   exact .set (.inl (h1 (by simp[mwr]))) (.inl (h2 (by simp[mwr]))) hd
  ·simp only[oIn,pIn] at hs; obtain⟨rfl,rfl⟩:=hs
   exact .set (.inl (h1 (by simp[mwr]))) (.inl (h2 (by simp[mwr]))) hd
  ·cases hs
 | next=>
  simp only at hs ⊢;split at hs
  ·rename_i g' i'
   have hg:=hh (g',i') (by simp[bB]);simp only at hg;simp only[hg];split at hs
   ·simp only[oIn,pIn] at hs; obtain⟨rfl,rfl⟩:=hs
    exact .quiet hd
   ·cases hs
  ·cases hs
 | entry=>
  simp only at hs ⊢;split at hs
  ·rename_i g' i'
   have hg:=hh (g',i') (by simp[bB]);simp only at hg;simp only[hg];split at hs
   ·simp only[oIn,pIn] at hs; obtain⟨rfl,rfl⟩:=hs
    exact .quiet hd
   ·cases hs
  ·cases hs
 | del k=>
  simp only at hs ⊢;split at hs
  ·rename_i g' i' k' n
   have hg:=hh (g',i') (by simp[bB]);simp only at hg;simp only[hg];split at hs
   ·rename_i hk
    try simp only[hk]
    split at hs
    ·rename_i es hget0
     split at hs
     ·rename_i hm
      simp only[oIn,pIn] at hs; obtain⟨rfl,rfl⟩:=hs
      try simp only[hm]
      exact .set (.inl (by rw[hget0]; rfl)) (.inl (by rw[hg,hget0]; rfl)) (by rw[hd]; simp[mwr,bB])
     ·cases hs
    ·cases hs
   ·cases hs
  ·cases hs
 | slice0 sz=>
  simp only at hs ⊢;split at hs
  ·simp only[oIn,pIn] at hs; obtain⟨rfl,rfl⟩:=hs
   exact .set (.inl (h1 (by simp[mwr]))) (.inl (h2 (by simp[mwr]))) hd
  ·simp only[oIn,pIn] at hs; obtain⟨rfl,rfl⟩:=hs
   exact .set (.inl (h1 (by simp[mwr]))) (.inl (h2 (by simp[mwr]))) hd
  ·simp only[oIn,pIn] at hs; obtain⟨rfl,rfl⟩:=hs
   exact .set (.inl (h1 (by simp[mwr]))) (.inl (h2 (by simp[mwr]))) hd
  ·simp only[oIn,pIn] at hs; obtain⟨rfl,rfl⟩:=hs
   exact .set (.inl (h1 (by simp[mwr]))) (.inl (h2 (by simp[mwr]))) hd
  ·cases hs
 | sliceA n=>
  simp only at hs ⊢;split at hs
  ·split at hs
   ·rename_i hb
    simp only[oIn,pIn] at hs; obtain⟨rfl,rfl⟩:=hs
    try simp only[hb]
    exact .quiet hd
   ·cases hs
  ·cases hs
 | cap=>
  simp only at hs ⊢;split at hs
  ·simp only[oIn,pIn] at hs; obtain⟨rfl,rfl⟩:=hs
   exact .quiet hd
  ·cases hs
 | stop=>cases hs
 | iface t=>
  simp only at hs ⊢;split at hs
  ·simp only[gT,oIn,pIn] at hs ⊢; obtain⟨rfl,rfl⟩:=hs
   exact .quiet hd
  ·cases hs
 | sliceP n lo hi=>
  simp only at hs ⊢
  split at hs<;>first | (cases hs; done) | (obtain⟨h3,rfl⟩:=v8 (H2:=H2) hs; simp only[h3]; exact .quiet hd)
 | s2a n=>
  simp only at hs ⊢;split at hs
  ·split at hs
   ·rename_i hb
    simp only[oIn,pIn] at hs; obtain⟨rfl,rfl⟩:=hs
    try simp only[hb]
    exact .quiet hd
   ·cases hs
  ·rename_i g' i' st len
   have hg:=hh (g',i') (by simp[bB]);simp only at hg;split at hs
   ·rename_i hb
    split at hs
    ·rename_i rows hget0
     simp only[oIn,pIn] at hs; obtain⟨rfl,rfl⟩:=hs;simp only[hg,hget0]
     try simp only[hb]
     exact .quiet hd
    ·cases hs
   ·cases hs
  ·split at hs
   ·rename_i hb
    simp only[oIn,pIn] at hs; obtain⟨rfl,rfl⟩:=hs
    try simp only[hb]
    exact .quiet hd
   ·cases hs
  ·cases hs
 | strB=>
  simp only at hs ⊢;split at hs
  ·simp only[oIn,pIn] at hs; obtain⟨rfl,rfl⟩:=hs
   exact .set (.inl (h1 (by simp[mwr]))) (.inl (h2 (by simp[mwr]))) hd
  ·cases hs
 | markS=>
  simp only at hs ⊢;split at hs
  ·rename_i g' i' st len
   have hg:=hh (g',i') (by simp[bB]);simp only at hg;split at hs
   ·rename_i s rows hget0
    simp only[oIn,pIn] at hs; obtain⟨rfl,rfl⟩:=hs;simp only[hg,hget0];exact .set (.inl (by rw[hget0]; rfl)) (.inl (by rw[hg,hget0]; rfl)) (by rw[hd]; simp[mwr,bB])
   ·cases hs
  ·cases hs
 | nilM T=>
  simp only at hs ⊢;split at hs
  ·simp only[oIn,pIn] at hs; obtain⟨rfl,rfl⟩:=hs
   exact .quiet hd
  ·simp only[oIn,pIn] at hs; obtain⟨rfl,rfl⟩:=hs
   exact .quiet hd
  ·simp only[oIn,pIn] at hs; obtain⟨rfl,rfl⟩:=hs
   exact .quiet hd
  ·split at hs
   ·rename_i hb
    simp only[oIn,pIn] at hs; obtain⟨rfl,rfl⟩:=hs
    try simp only[hb]
    exact .quiet hd
   ·cases hs
  ·cases hs
 | clearM=>
  simp only at hs ⊢;split at hs
  ·rename_i g' i'
   have hg:=hh (g',i') (by simp[bB]);simp only at hg;split at hs
   ·rename_i es hget0
    simp only[oIn,pIn] at hs; obtain⟨rfl,rfl⟩:=hs;simp only[hg,hget0];exact .set (.inl (by rw[hget0]; rfl)) (.inl (by rw[hg,hget0]; rfl)) (by rw[hd]; simp[mwr,bB])
   ·cases hs
  ·cases hs
 | appN bytes z=>
  simp only at hs ⊢;split at hs
  ·split at hs
   ·rename_i hb
    simp only[oIn,pIn] at hs; obtain⟨rfl,rfl⟩:=hs
    try simp only[hb]
    exact .set (.inl (h1 (by simp[mwr]))) (.inl (h2 (by simp[mwr]))) hd
   ·cases hs
  ·cases hs
 | clear z=>
  simp only at hs ⊢;split at hs
  ·rename_i g' i' st
   simp only[oIn,pIn] at hs; obtain⟨rfl,rfl⟩:=hs;exact .quiet hd
  ·rename_i g' i' st len
   have hg:=hh (g',i') (by simp[bB]);simp only at hg;simp only[hg];split at hs
   ·rename_i s1 rows1 hget0
    split at hs
    ·rename_i hb
     simp only[oIn,pIn] at hs; obtain⟨rfl,rfl⟩:=hs
     try simp only[hb]
     exact .set (.inl (by rw[hget0]; rfl)) (.inl (by rw[hg,hget0]; rfl)) (by rw[hd]; simp[mwr,bB])
    ·cases hs
   ·cases hs
  ·cases hs
 | copy sz=>
  simp only at hs ⊢;split at hs
  ·rename_i g' i' st len s
   have hg:=hh (g',i') (by simp[bB]);simp only at hg
   have hr:=lT (H:=H) (H2:=H2) (a:=s) (s0:=sz) fun p hp=>hh p (by simp only[List.flatMap_cons,List.mem_append]; exact .inr (.inl hp))
   simp only[hg,hr];split at hs
   ·rename_i s2 rows2 hr2
    try simp only[hr2]
    split at hs
    ·rename_i s1 rows1 hget0
     split at hs
     ·rename_i hb
      simp only[oIn,pIn] at hs; obtain⟨rfl,rfl⟩:=hs
      try simp only[hb]
      exact .set (.inl (by rw[hget0]; rfl)) (.inl (by rw[hg,hget0]; rfl)) (by rw[hd]; simp[mwr,bB])
     ·cases hs
    ·cases hs
   ·cases hs
  ·cases hs
theorem sG {g i:Nat} {o:IOp} {fr:Fr} {H H2 H':Heap} {v:AV} (hs:aD g i o fr H=some (v,H')) (h1:(g,i)∈dwr g i fr o→(hget H g i).isSome) (h2:(g,i)∈dwr g i fr o→(hget H2 g i).isSome)
  (hh:∀ p∈drd fr o,hget H2 p.1 p.2=hget H p.1 p.2):vA g i fr o H H' H2 (aD g i o fr H2) v:=by
 cases o with
 | alloc z=>simp only[aD,oIn,pIn] at hs; obtain⟨rfl,rfl⟩:=hs; exact .set (.inl (h1 (by simp[dwr]))) (.inl (h2 (by simp[dwr]))) rfl
 | makeMap=>simp only[aD,oIn,pIn] at hs; obtain⟨rfl,rfl⟩:=hs; exact .set (.inl (h1 (by simp[dwr]))) (.inl (h2 (by simp[dwr]))) rfl
 | box x=>
  simp only[aD] at hs ⊢;split at hs
  ·split at hs
   ·rename_i hall
    simp only[oIn,pIn] at hs; obtain⟨rfl,rfl⟩:=hs
    try simp only[hall]
    exact .set (.inl (h1 (by simp[dwr]))) (.inl (h2 (by simp[dwr]))) rfl
   ·cases hs
  ·cases hs
 | buildSlice sz z n parts=>
  simp only[aD] at hs ⊢;split at hs
  ·simp only[oIn,pIn] at hs; obtain⟨rfl,rfl⟩:=hs
   exact .set (.inl (h1 (by simp[dwr]))) (.inl (h2 (by simp[dwr]))) rfl
  ·cases hs
 | makeSlice sz bytes z l=>
  simp only[aD] at hs ⊢;split at hs
  ·split at hs
   ·rename_i hb
    simp only[oIn,pIn] at hs; obtain⟨rfl,rfl⟩:=hs
    try simp only[hb]
    exact .set (.inl (h1 (by simp[dwr]))) (.inl (h2 (by simp[dwr]))) rfl
   ·cases hs
  ·cases hs
 | store sz a x=>
  simp only[aD] at hs ⊢;split at hs
  ·rename_i g' i' row off e
   have hg:=hh (g',i') (by simp[drd,e,bB])
   try simp only[e]
   split at hs
   ·rename_i cs hcs
    simp only at hg
    try simp only[hg]
    split at hs
    ·rename_i s rows hget0
     split at hs
     ·rename_i r hrow
      split at hs
      ·rename_i hb
       simp only[oIn,pIn] at hs; obtain⟨rfl,rfl⟩:=hs
       try simp only[hrow,hb]
       exact .set (.inl (by rw[hget0]; rfl)) (.inl (by rw[hg,hget0]; rfl)) (by simp[dwr,e,bB])
      ·cases hs
     ·cases hs
    ·cases hs
   ·cases hs
  ·cases hs
 | mapUpdate k m ix x=>
  simp only[aD] at hs ⊢;split at hs
  ·rename_i g' i' k' n em ei
   have hg:=hh (g',i') (by simp[drd,em,bB]);simp only at hg;split at hs
   ·rename_i hk
    try simp only[hg]
    split at hs
    ·rename_i es hget0
     split at hs
     ·rename_i hf
      simp only[oIn,pIn] at hs; obtain⟨rfl,rfl⟩:=hs
      try simp only[hf]
      exact .set (.inl (by rw[hget0]; rfl)) (.inl (by rw[hg,hget0]; rfl)) (by simp[dwr,em,bB])
     ·rename_i hf
      simp only[oIn,pIn] at hs; obtain⟨rfl,rfl⟩:=hs
      try simp only[hf]
      exact .set (.inl (by rw[hget0]; rfl)) (.inl (by rw[hg,hget0]; rfl)) (by simp[dwr,em,bB])
     ·cases hs
    ·cases hs
   ·cases hs
  ·cases hs
 | xop e xs=>
  simp only[aD] at hs ⊢;rw[y7 (H:=H) fun p hp=>hh p hp];split at hs
  ·simp only[oIn,pIn] at hs; obtain⟨rfl,rfl⟩:=hs
   exact .quiet rfl
  ·cases hs
 | mop e xs=>exact AB hs h1 h2 hh
 | insF ks m ix x=>
  simp only[aD] at hs ⊢;split at hs
  ·rename_i g' i' k em ei
   have hg:=hh (g',i') (by simp[drd,em,bB]);simp only at hg;split at hs
   ·rename_i hk
    try simp only[hg]
    split at hs
    ·rename_i hget0
     split at hs
     ·rename_i c hu
      simp only[oIn,pIn] at hs; obtain⟨rfl,rfl⟩:=hs;exact .set (.inl (by rw[hget0]; rfl)) (.inl (by rw[hg,hget0]; rfl)) (by simp[dwr,em,bB])
     ·cases hs
    ·rename_i n es hget0
     split at hs
     ·rename_i c hu
      split at hs
      ·rename_i hn hf
       simp only[oIn,pIn] at hs; obtain⟨rfl,rfl⟩:=hs
       try simp only[hn,hf]
       exact .set (.inl (by rw[hget0]; rfl)) (.inl (by rw[hg,hget0]; rfl)) (by simp[dwr,em,bB])
      ·cases hs
     ·cases hs
    ·cases hs
   ·cases hs
  ·cases hs
 | append sz bytes s x=>
  simp only[aD] at hs ⊢;rw[lT (H:=H) fun p hp=>hh p (by simp only[drd]; exact List.mem_append_right _ hp)];split at hs
  ·rename_i s2 rows2 hr2
   split at hs
   ·rename_i hb2
    try simp only[hb2]
    split at hs
    ·rename_i g' i' len e
     have hg:=hh (g',i') (by simp[drd,e,bB]);simp only at hg
     try simp only[hg]
     split at hs
     ·rename_i s1 rows1 hget0
      split at hs
      ·rename_i hb1
       try simp only[hb1]
       split at hs
       ·cases hs
       ·rename_i hne
        simp only[oIn,pIn] at hs; obtain⟨rfl,rfl⟩:=hs
        try simp only[hne]
        have hne':¬ (g=g'∧i=i'):=by
         rintro⟨rfl,rfl⟩;simp at hne
        have ok1:hok H g' i':=.inl (by rw[hget0]; rfl);have ok2:hok H2 g' i':=.inl (by rw[hg,hget0]; rfl);have k1:hok (aK H g' i' .dead) g i:=.inl (by rw[aL _ _ _ _ _ _ ok1,if_neg hne']; exact h1 (by simp[dwr]));have k2:hok (aK H2 g' i' .dead) g i:=.inl (by rw[aL _ _ _ _ _ _ ok2,if_neg hne']; exact h2 (by simp[dwr]));refine⟨_,rfl,fun c d hc=>?_,fun c d hc=>?_,fun c d hc=>?_,fun c d hc=>?_⟩
        ·simp only[dwr,e,bB,List.mem_cons,pIn,List.not_mem_nil,or_false] at hc
         rw[aL _ _ _ _ _ _ k1,aL _ _ _ _ _ _ k2]
         rcases hc with hc | hc
         ·rw[if_pos hc,if_pos hc]
         ·split
          ·rfl
          ·rw[aL _ _ _ _ _ _ ok1,aL _ _ _ _ _ _ ok2,if_pos hc,if_pos hc]
        ·simp only[dwr,e,bB,List.mem_cons,pIn,List.not_mem_nil,or_false,not_or] at hc
         rw[aL _ _ _ _ _ _ k2,if_neg hc.1,aL _ _ _ _ _ _ ok2,if_neg hc.2]
        ·simp only[dwr,e,bB,List.mem_cons,pIn,List.not_mem_nil,or_false,not_or] at hc
         rw[aL _ _ _ _ _ _ k1,if_neg hc.1,aL _ _ _ _ _ _ ok1,if_neg hc.2]
        ·simp only[dwr,e,bB,List.mem_cons,pIn,List.not_mem_nil,or_false] at hc
         rw[aL _ _ _ _ _ _ k1]
         rcases hc with hc | hc
         ·rw[if_pos hc]; rfl
         ·split
          ·rfl
          ·rw[aL _ _ _ _ _ _ ok1,if_pos hc]; rfl
      ·rename_i hbf
       try simp only[hbf]
       split at hs
       ·rename_i hb1
        try simp only[hb1]
        split at hs
        ·cases hs
        ·rename_i hne
         simp only[oIn,pIn] at hs; obtain⟨rfl,rfl⟩:=hs
         try simp only[hne]
         have hne':¬ (g=g'∧i=i'):=by
          rintro⟨rfl,rfl⟩;simp at hne
         have ok1:hok H g' i':=.inl (by rw[hget0]; rfl);have ok2:hok H2 g' i':=.inl (by rw[hg,hget0]; rfl);have k1:hok (aK H g' i' .dead) g i:=.inl (by rw[aL _ _ _ _ _ _ ok1,if_neg hne']; exact h1 (by simp[dwr]));have k2:hok (aK H2 g' i' .dead) g i:=.inl (by rw[aL _ _ _ _ _ _ ok2,if_neg hne']; exact h2 (by simp[dwr]));refine⟨_,rfl,fun c d hc=>?_,fun c d hc=>?_,fun c d hc=>?_,fun c d hc=>?_⟩
         ·simp only[dwr,e,bB,List.mem_cons,pIn,List.not_mem_nil,or_false] at hc
          rw[aL _ _ _ _ _ _ k1,aL _ _ _ _ _ _ k2]
          rcases hc with hc | hc
          ·rw[if_pos hc,if_pos hc]
          ·split
           ·rfl
           ·rw[aL _ _ _ _ _ _ ok1,aL _ _ _ _ _ _ ok2,if_pos hc,if_pos hc]
         ·simp only[dwr,e,bB,List.mem_cons,pIn,List.not_mem_nil,or_false,not_or] at hc
          rw[aL _ _ _ _ _ _ k2,if_neg hc.1,aL _ _ _ _ _ _ ok2,if_neg hc.2]
         ·simp only[dwr,e,bB,List.mem_cons,pIn,List.not_mem_nil,or_false,not_or] at hc
          rw[aL _ _ _ _ _ _ k1,if_neg hc.1,aL _ _ _ _ _ _ ok1,if_neg hc.2]
         ·simp only[dwr,e,bB,List.mem_cons,pIn,List.not_mem_nil,or_false] at hc
          rw[aL _ _ _ _ _ _ k1]
          rcases hc with hc | hc
          ·rw[if_pos hc]; rfl
          ·split
           ·rfl
           ·rw[aL _ _ _ _ _ _ ok1,if_pos hc]; rfl
       ·cases hs
     ·cases hs
    ·rename_i e
     split at hs
     ·rename_i hb1
      simp only[oIn,pIn] at hs; obtain⟨rfl,rfl⟩:=hs
      try simp only[hb1]
      exact .set (.inl (h1 (by simp[dwr]))) (.inl (h2 (by simp[dwr]))) (by simp[dwr,e,bB])
     ·cases hs
    ·cases hs
   ·cases hs
  ·cases hs
 | lookup z k x ix ok=>
  simp only[aD] at hs ⊢;split at hs
  ·split at hs
   ·rename_i hk
    try simp only[hk]
    rw[yK (H:=H) fun p hp=>hh p hp];generalize l7 H _ _ _=r at hs
    cases r with
    | none=>cases hs
    | some r=>
     cases r<;>cases ok<;>simp only[lM,oIn,pIn] at hs<;>obtain⟨rfl,rfl⟩:=hs<;>exact .quiet rfl
   ·cases hs
  ·cases hs
 | load sz agg a=>
  simp only[aD] at hs ⊢;split at hs
  ·split at hs
   ·rename_i hl
    simp only[oIn,pIn] at hs; obtain⟨rfl,rfl⟩:=hs
    try simp only[hl]
    exact .quiet rfl
   ·cases hs
  ·rename_i g' i' row off e
   have hg:=hh (g',i') (by simp[drd,e,bB]);simp only at hg
   try simp only[hg]
   split at hs
   ·split at hs
    ·split at hs
     ·rename_i h3 _ h4 _ h5
      simp only[oIn,pIn] at hs; obtain⟨rfl,rfl⟩:=hs
      try simp only[*]
      exact .quiet rfl
     ·split at hs
      ·split at hs
       ·simp only[oIn,pIn] at hs; obtain⟨rfl,rfl⟩:=hs
        try simp only[*]
        exact .quiet rfl
       ·cases hs
      ·cases hs
    ·cases hs
   ·cases hs
  ·cases hs
 | idxSl sz x ix=>
  simp only[aD] at hs ⊢;split at hs
  ·split at hs
   ·split at hs
    ·rename_i h3 h4
     simp only[oIn,pIn] at hs; obtain⟨rfl,rfl⟩:=hs
     try simp only[h3,h4]
     exact .quiet rfl
    ·cases hs
   ·rename_i g' i' start len e
    have hg:=hh (g',i') (by simp[drd,e,bB]);simp only at hg
    try simp only[hg]
    split at hs
    ·split at hs
     ·split at hs
      ·rename_i hb
       simp only[oIn,pIn] at hs; obtain⟨rfl,rfl⟩:=hs
       try simp only[hb]
       exact .quiet rfl
      ·cases hs
     ·cases hs
    ·cases hs
   ·split at hs
    ·split at hs
     ·rename_i hb
      simp only[oIn,pIn] at hs; obtain⟨rfl,rfl⟩:=hs
      try simp only[hb]
      exact .quiet rfl
     ·cases hs
    ·cases hs
   ·cases hs
  ·cases hs
 | eqNilS neg x=>
  simp only[aD] at hs ⊢;split at hs
  ·simp only[oIn,pIn] at hs; obtain⟨rfl,rfl⟩:=hs
   exact .quiet rfl
  ·rename_i g' i' st len e
   have hg:=hh (g',i') (by simp[drd,e,bB]);simp only at hg
   cases len with
   | succ n=>
    simp only[oIn,pIn] at hs; obtain⟨rfl,rfl⟩:=hs;exact .quiet rfl
   | zero=>
    simp only at hs ⊢;rw[hg];split at hs
    ·simp only[oIn,pIn] at hs; obtain⟨rfl,rfl⟩:=hs
     exact .quiet rfl
    ·cases hs
  ·simp only[oIn,pIn] at hs; obtain⟨rfl,rfl⟩:=hs
   exact .quiet rfl
  ·simp only[oIn,pIn] at hs; obtain⟨rfl,rfl⟩:=hs
   exact .quiet rfl
  ·cases hs
 | lenM x=>
  simp only[aD] at hs ⊢;split at hs
  ·simp only[oIn,pIn] at hs; obtain⟨rfl,rfl⟩:=hs
   exact .quiet rfl
  ·rename_i g' i' e
   have hg:=hh (g',i') (by simp[drd,e,bB]);simp only at hg
   try simp only[hg]
   split at hs
   ·simp only[oIn,pIn] at hs; obtain⟨rfl,rfl⟩:=hs
    exact .quiet rfl
   ·cases hs
  ·simp only[oIn,pIn] at hs; obtain⟨rfl,rfl⟩:=hs
   exact .quiet rfl
  ·cases hs
 | slice sz x lo hi mx=>
  simp only[aD] at hs ⊢;split at hs
  ·split at hs
   ·rename_i h3
    split at hs
    ·rename_i h4
     simp only[oIn,pIn] at hs; obtain⟨rfl,rfl⟩:=hs
     try simp only[h3,h4]
     exact .quiet rfl
    ·cases hs
   ·cases hs
  ·rename_i g' i' start len e
   have hg:=hh (g',i') (by simp[drd,e,bB]);simp only at hg
   try simp only[hg]
   (repeat' split at hs)<;>(try (cases hs; done))<;>(simp only[oIn,pIn] at hs; obtain⟨rfl,rfl⟩:=hs; (try simp only[*]); exact .quiet rfl)
  ·split at hs
   ·rename_i h4
    simp only[oIn,pIn] at hs; obtain⟨rfl,rfl⟩:=hs
    try simp only[h4]
    exact .quiet rfl
   ·cases hs
  ·cases hs
 | move x=>simp only[aD,gT,oIn,pIn] at hs; obtain⟨rfl,rfl⟩:=hs; simp only[aD,gT]; exact .quiet rfl
 | makeFunc fn a b=>simp only[aD,wZ,oIn,pIn] at hs; obtain⟨rfl,rfl⟩:=hs; simp only[aD,wZ]; exact .quiet rfl
 | _=>
  simp only[aD] at hs ⊢
  try simp only[gT] at hs ⊢
  (repeat' split at hs)<;>(try (cases hs; done))<;>(simp only[oIn,pIn] at hs; obtain⟨rfl,rfl⟩:=hs; (try simp only[*]); exact .quiet rfl)
end Go.Av
namespace Go.Av
def aC (P:Program) (f:FuncId) (args:List AV) (v:AV):Prop:=
 Callable P f∧∀ M J w (cargs:Array Value),args.length=cargs.size→(∀(j:Nat) c x,args[j]?=some c→cargs[j]?=some x→Rep M J c x)→a8 M w.heap →
  Calls P f cargs w fun e w'=>∃ cv M',e=.returned cv∧(∀ β o,M β=some o→M' β=some o)∧a8 M' w'.heap∧w'.os=w.os∧oG w w'∧w'.output=w.output∧w.heap.size≤w'.heap.size ∧
   (∀(β:Nat) o,w.heap[β]?=some o→w'.heap[β]?=some o)∧(∀ β o,M' β=some o→M β=some o∨w.heap.size≤β)∧∀ J',Rep M' J' v cv
theorem Rep.anyJ {M J} {a:AV} {v:Value} (h:Rep M J a v) (hp:aZ a) (J':Inj):Rep M J' a v:=
 (h.ren (ρ:=fun _ _=>none) (.pure hp)).ext ⟨fun _ _ h=>h,fun g i l h=>by simp[Inj.via] at h⟩
theorem aC.of {P:Program} {f:FuncId} {args:List AV} {v:AV} (ha:∀ a∈args,aZ a) (hv:aZ v) (h:aE P f args [] fun res _=>res=v):aC P f args v:=by
 refine⟨h.1,fun M J w cargs hl hr hM=>?_⟩
 have hH:aN M (fun _ _=>none) [] w.heap:=
  ⟨fun g i x hx=>(by simp[hget] at hx),fun g i g' i' l l' β _ _ hJ=>(by cases hJ),fun g i l β _ hJ=>(by cases hJ),fun g i l hJ=>(by cases hJ)⟩
 refine(h.2 M (fun _ _=>none) w cargs hl (fun j c x hc hx=>(hr j c x hc hx).anyJ (ha c (mOg hc)) _) hH hM).mono ?_;rintro e w' ⟨cv,M',J',res,H',rfl,hs,hrep,rfl⟩
 have hno:∀ g i,¬ aQ [] g i:=by
  rintro g i ⟨x,hx,_⟩;simp[hget] at hx
 refine⟨cv,M',rfl,hs.m,hs.mrep,hs.os,hs.tape,hs.output,hs.size,fun β o ho=>hs.frame β o ho fun g i l hl _=>absurd hl (hno g i),fun β o ho=>?_,fun J''=>hrep.anyJ hv J''⟩
 rcases hs.fresh β o ho with h1 | h1 | ⟨g,i,l,hl,_⟩
 ·exact .inl h1
 ·exact .inr h1
 ·exact absurd hl (hno g i)
theorem aC.step {M J H} {w w':World} (k:Nat) (hH:aN M J H w.heap) {M':Mem} (h1:∀ β o,M β=some o→M' β=some o) (h2:a8 M' w'.heap) (h3:w'.os=w.os) (h4:oG w w') (h5:w'.output=w.output)
  (h6:w.heap.size≤w'.heap.size) (h7:∀(β:Nat) o,w.heap[β]?=some o→w'.heap[β]?=some o) (h8:∀ β o,M' β=some o→M β=some o∨w.heap.size≤β):aS k M J H w M' J H w':=by
 have hx:Ext M J M' J:=⟨h1,fun _ _ _ h=>h⟩
 refine⟨h1,fun _ _ _ _ h=>h,⟨?_,hH.inj,?_,?_⟩,h2,h3,h4,h5,h6,fun β o ho _=>h7 β o ho,fun β o ho=>?_,fun g i l β a b c=>.inl ⟨g,i,l,a,b,c⟩,fun β r hr=>⟨r,h7 β _ hr,rfl⟩⟩
 ·intro g i x hg hl
  obtain⟨l,p,q⟩:=hH.blk g i x hg hl;refine⟨l,p,q.ext hx fun β hβ=>?_⟩;have hlt:=(hH.dom g i l p).2 β hβ;rw[Array.getElem?_eq_getElem hlt];exact h7 β _ (Array.getElem?_eq_getElem hlt)
 ·intro g i l β a b c
  cases e:M' β with
  | none=>rfl
  | some o=>
   rcases h8 β o e with h | h
   ·rw[hH.out g i l β a b c] at h; cases h
   ·have:=(hH.dom g i l b).2 β c; omega
 ·intro g i l a
  have:=hH.dom g i l a;exact⟨this.1,fun β hβ=>Nat.lt_of_lt_of_le (this.2 β hβ) h6⟩
 ·rcases h8 β o ho with h | h
  ·exact .inl h
  ·exact .inr (.inl h)
theorem aE.ofPure {P:Program} {f:FuncId} {args:List AV} {v:AV} (h:aC P f args v) (H:Heap) {R:AV→Heap→Prop} (hR:R v H):aE P f args H R:=by
 refine⟨h.1,fun M J w cargs hl hr hH hM=>(h.2 M J w cargs hl hr hM).mono ?_⟩;rintro e w' ⟨cv,M',rfl,h1,h2,h3,h4,h5,h6,h7,h8,h9⟩;exact⟨cv,M',J,v,H,rfl,aC.step _ hH h1 h2 h3 h4 h5 h6 h7 h8,h9 J,hR⟩
structure bD where
 x:IOper
 id:Nat×Nat
 v:AV
 rd:List (Nat×Nat)
 wr:List (Nat×Nat)
def l9:List Operand→List Nat
 | []=>[]
 | .tmp t::r=>t::l9 r
 | _::r=>l9 r
def IAct.opds:IAct→List Operand
 | .op o=>o.opds
 | .call _ args=>args
 | .callV f args=>f.opd::args
def IOper.tmps (x:IOper):List Nat:=
 match x.guard with
 | some (t,_)=>t::l9 x.act.opds
 | none=>l9 x.act.opds
abbrev S:=Fr×Heap
def Eqv (s t:S):Prop:=(∀ a,s.1.get a=t.1.get a)∧∀ a b,hget s.2 a b=hget t.2 a b
def N2 (P:Program) (fr:Fr) (a:IAct) (v:AV):Prop:=
 (∃ f args,a=.call f args∧aC P f (avals fr args) v)∨(∃ f args g fs cs,a=.callV f args∧evC P fr f=.clo (.func g) fs cs∧aC P g (fs++avals fr args++cs) v)
def jX (P:Program) (r:bD) (s t:S):Prop:=
 t.1=s.1.put r.x.dst r.v ∧
 ((gok s.1 r.x.guard=some true∧∃ o,r.x.act=.op o∧aD r.id.1 r.id.2 o s.1 s.2=some (r.v,t.2)∧drd s.1 o=r.rd∧dwr r.id.1 r.id.2 s.1 o=r.wr) ∨
  (gok s.1 r.x.guard=some true∧r.rd=[]∧r.wr=[]∧(∀ a b,hget t.2 a b=hget s.2 a b)∧N2 P s.1 r.x.act r.v) ∨
  (gok s.1 r.x.guard=some false∧r.rd=[]∧r.wr=[]∧r.v=.sc Go.undef∧(∀ a b,hget t.2 a b=hget s.2 a b)))
theorem AL {l:List Operand} {t:Nat} (h:.tmp t∈l):t∈l9 l:=by
 induction l with
 | nil=>cases h
 | cons a l ih=>
  cases h with
  | head=>exact List.mem_cons_self ..
  | tail _ h=>cases a<;>first | exact mCm _ (ih h) | exact ih h
theorem C9 {l:List Operand} {fr fr2:Fr} (h:∀ t∈l9 l,fr2.get t=fr.get t):∀ x∈l,ev fr2 x=ev fr x:=by
 intro x hx
 cases x with
 | tmp t=>exact h t (AL hx)
 | _=>rfl
theorem iO {x:IOper} {fr fr2:Fr} (h:∀ t∈x.tmps,fr2.get t=fr.get t):(∀ o∈x.act.opds,ev fr2 o=ev fr o)∧gok fr2 x.guard=gok fr x.guard:=by
 unfold IOper.tmps at h;split at h
 ·rename_i t b e
  refine⟨C9 fun u hu=>h u (mCm _ hu),?_⟩;rw[e];simp only[gok,h t (List.mem_cons_self ..)]
 ·rename_i e
  exact⟨C9 h,by rw[e]; rfl⟩
theorem jX.ext {P:Program} {r:bD} {s s1 s2:S} (h:jX P r s s1) (ht:∀ t∈r.x.tmps,s2.1.get t=s.1.get t) (hr:∀ p∈r.rd,hget s2.2 p.1 p.2=hget s.2 p.1 p.2)
  (hi:r.id∈r.wr→(hget s.2 r.id.1 r.id.2).isSome∧(hget s2.2 r.id.1 r.id.2).isSome):
  ∃ s3,jX P r s2 s3∧s3.1=s2.1.put r.x.dst r.v∧(∀ a b,(a,b)∈r.wr→hget s3.2 a b=hget s1.2 a b)∧(∀ a b,(a,b)∉r.wr→hget s3.2 a b=hget s2.2 a b) ∧
   (∀ a b,(a,b)∉r.wr→hget s1.2 a b=hget s.2 a b)∧(∀ a b,(a,b)∈r.wr→(hget s1.2 a b).isSome):=by
 obtain⟨ha,hg⟩:=iO ht;obtain⟨hf,h⟩:=h
 rcases h with⟨h1,o,h2,h3,h4,h5⟩ | ⟨h1,h2,h3,h4,hcall⟩ | ⟨h1,h2,h3,h4,h5⟩
 ·have ho:∀ x∈o.opds,ev s2.1 x=ev s.1 x:=fun x hx=>ha x (by rw[h2]; exact hx)
  have e4:drd s2.1 o=drd s.1 o:=by
   cases o with
   | xop e xs=>simp only[drd,show avals s2.1 xs=avals s.1 xs from List.map_congr_left ho]
   | mop e xs=>simp only[drd,show avals s2.1 xs=avals s.1 xs from List.map_congr_left ho]
   | _=>simp only[drd]<;>simp only[IOp.opds,List.mem_cons,List.not_mem_nil,or_false,forall_eq_or_imp,forall_eq] at ho<;>simp[ho]
  have e5:dwr r.id.1 r.id.2 s2.1 o=dwr r.id.1 r.id.2 s.1 o:=by
   cases o with
   | mop e xs=>simp only[dwr,show avals s2.1 xs=avals s.1 xs from List.map_congr_left ho]
   | _=>simp only[dwr]<;>simp only[IOp.opds,List.mem_cons,List.not_mem_nil,or_false,forall_eq_or_imp,forall_eq] at ho<;>simp[ho]
  have hd:=jD (g:=r.id.1) (i:=r.id.2) (H:=s2.2) ho;obtain⟨H2',q1,q2,q3,q4,q5⟩:=sG (H2:=s2.2) h3 (fun hm=>(hi (by rw[← h5]; exact hm)).1) (fun hm=>(hi (by rw[← h5]; exact hm)).2) (fun p hp=>hr p (by rw[← h4]; exact hp));rw[h5] at q2 q3 q4 q5;exact⟨(s2.1.put r.x.dst r.v,H2'),⟨rfl,.inl ⟨by rw[hg,h1],o,h2,by rw[hd]; exact q1,by rw[e4,h4],by rw[e5,h5]⟩⟩,rfl,q2,q3,q4,q5⟩
 ·have hcall2:N2 P s2.1 r.x.act r.v:=by
   rcases hcall with⟨f,args,h5,h6⟩ | ⟨f,args,g,fs,cs,h5,h6,h7⟩
   ·have hav:avals s2.1 args=avals s.1 args:=List.map_congr_left fun x hx=>ha x (by rw[h5]; exact hx)
    exact .inl ⟨f,args,h5,by rw[hav]; exact h6⟩
   ·have hav:avals s2.1 args=avals s.1 args:=List.map_congr_left fun x hx=>ha x (by rw[h5]; exact mCm _ hx)
    exact .inr ⟨f,args,g,fs,cs,h5,by unfold evC; rw[ha f.opd (by rw[h5]; exact List.mem_cons_self ..)]; exact h6,by rw[hav]; exact h7⟩
  refine⟨(s2.1.put r.x.dst r.v,s2.2),⟨rfl,.inr (.inl ⟨by rw[hg,h1],h2,h3,fun _ _=>rfl,hcall2⟩)⟩,rfl,fun a b hm=>?_,fun _ _ _=>rfl,fun a b _=>h4 a b,fun a b hm=>?_⟩
  ·rw[h3] at hm; cases hm
  ·rw[h3] at hm; cases hm
 ·refine⟨(s2.1.put r.x.dst r.v,s2.2),⟨rfl,.inr (.inr ⟨by rw[hg,h1],h2,h3,h4,fun _ _=>rfl⟩)⟩,rfl,fun a b hm=>?_,fun _ _ _=>rfl,fun a b _=>h5 a b,fun a b hm=>?_⟩
  ·rw[h3] at hm; cases hm
  ·rw[h3] at hm; cases hm
def CJ (a b:List (Nat×Nat)):Bool:=a.all fun p=>b.all fun q=>!(Nat.beq p.1 q.1 && Nat.beq p.2 q.2)
def lX (d:Option Nat) (l:List Nat):Bool:=
 match d with
 | some d=>l.all fun t=>!Nat.beq d t
 | none=>true
def kO:Option Nat→Option Nat→Bool
 | some a,some b=>!Nat.beq a b
 | _,_=>true
def xL (a b:bD):Bool:=
 match a.x.dst,b.x.dst,a.x.act,b.x.act with
 | none,none,.op (.insF ..),.op (.insF ..)=>match a.wr,b.wr with
  | [p],[q]=>Nat.beq p.1 q.1 && Nat.beq p.2 q.2
  | _,_=>false
 | _,_,_,_=>false
def fA (a b:bD):Bool:=
 lX a.x.dst b.x.tmps && (lX b.x.dst a.x.tmps && (kO a.x.dst b.x.dst && (CJ a.wr (b.rd++b.wr) && CJ b.wr a.rd))) || xL a b
theorem qL:∀ l:List Int,gZ l l=false
 | []=>rfl
 | a::l=>by simp[gZ,qL l]
theorem nN:∀ {l m:List Int},l≠m→gZ l m=false→gZ m l=true
 | [],[],h,_=>absurd rfl h
 | [],_::_,_,h=>by cases h
 | _::_,[],_,_=>rfl
 | a::l,b::m,h,h2=>by
  unfold gZ at h2 ⊢
  by_cases h3:a < b
  ·simp[h3] at h2
  ·by_cases h4:b < a
   ·simp[h4]
   ·have e:a=b:=by omega
    subst e;simp only[Int.lt_irrefl,decide_false] at h2 ⊢;exact nN (fun q=>h (by rw[q])) h2
theorem kW:∀ {l m k:List Int},gZ l m=true→gZ m k=true→gZ l k=true
 | [],[],_,h,_=>by cases h
 | [],_::_,[],_,h=>by cases h
 | [],_::_,_::_,_,_=>rfl
 | _::_,[],_,h,_=>by cases h
 | _::_,_::_,[],_,h=>by cases h
 | a::l,b::m,c::k,h1,h2=>by
  unfold gZ at h1 h2 ⊢
  by_cases e1:a < b
  ·by_cases e2:b < c
   ·simp[show a < c by omega]
   ·by_cases e3:c < b
    ·simp[e2,e3] at h2
    ·simp[show a < c by omega]
  ·by_cases e2:b < a
   ·simp[e1,e2] at h1
   ·have:a=b:=by omega
    subst this;simp only[Int.lt_irrefl,decide_false] at h1
    by_cases e3:a < c
    ·simp[e3]
    ·by_cases e4:c < a
     ·simp[e3,e4] at h2
     ·simp only[dFa e3,dFa e4] at h2 ⊢
      exact kW h1 h2
theorem t6 {l m:List Int} (h:gZ l m=true):gZ m l=false:=by
 cases e:gZ m l with
 | false=>rfl
 | true=>have:=kW h e; rw[qL] at this; cases this
theorem wG {c d:List Int} (x y:AV) (h:c≠d):∀ es:List (List Int×AV),eU c x (eU d y es)=eU d y (eU c x es)
 | []=>by
  simp only[eU]
  cases e:gZ c d with
  | true=>simp only[t6 e]
  | false=>simp only[nN h e]
 | (k,z)::es=>by
  have ih:=wG x y h es
  cases e1:gZ c k with
  | true=>
   cases e2:gZ d k with
   | true=>
    cases e:gZ c d with
    | true=>simp only[eU,e1,e2,e,t6 e]
    | false=>simp only[eU,e1,e2,e,nN h e]
   | false=>
    have e3:gZ d c=false:=by
     cases q:gZ d c with
     | false=>rfl
     | true=>rw[kW q e1] at e2; cases e2
    simp only[eU,e1,e2,e3]
  | false=>
   cases e2:gZ d k with
   | true=>
    have e3:gZ c d=false:=by
     cases q:gZ c d with
     | false=>rfl
     | true=>rw[kW q e2] at e1; cases e1
    simp only[eU,e1,e2,e3]
   | false=>simp only[eU,e1,e2,ih]
theorem nB {c d:List Int} (x:AV) (h:d≠c):∀ es:List (List Int×AV),dN c (eU d x es)=dN c es
 | []=>by simp[eU,dN,h]
 | (k,z)::es=>by
  simp only[eU]
  cases gZ d k with
  | true=>simp[dN,h]
  | false=>simp only[dN,nB x h es]
theorem y8 {g i:Nat} {ks:List LK} {m ix x:Operand} {fr:Fr} {H H':Heap} {v:AV} (h:aD g i (.insF ks m ix x) fr H=some (v,H')):
  ∃ g' i' k c n es r,ev fr m=.mref g' i'∧jO (ev fr ix)=some k∧cF ks k k=some r∧rK k=some c∧c.length=n∧dN c es=none∧((hget H g' i'=some (.map [])∧es=[])∨hget H g' i'=some (.umap n es))∧v=.undef∧H'=aK H g' i' (.umap n (eU c (ev fr x) es)):=by
 simp only[aD] at h;split at h
 ·rename_i g' i' k em ek
  split at h
  ·rename_i r hr
   split at h
   ·rename_i hg
    split at h
    ·rename_i c hu
     simp only[oIn,pIn] at h;obtain⟨rfl,rfl⟩:=h;exact⟨g',i',k,c,_,[],r,em,ek,hr,hu,rfl,rfl,.inl ⟨hg,rfl⟩,rfl,rfl⟩
    ·cases h
   ·rename_i n es hg
    split at h
    ·rename_i c hu
     split at h
     ·rename_i hn hf
      simp only[oIn,pIn] at h;obtain⟨rfl,rfl⟩:=h;exact⟨g',i',k,c,n,es,r,em,ek,hr,hu,nEb hn,hf,.inr hg,rfl,rfl⟩
     ·cases h
    ·cases h
   ·cases h
  ·cases h
 ·cases h
theorem D4 {g i g' i' n:Nat} {ks:List LK} {m ix x:Operand} {fr:Fr} {H:Heap} {k:List Value} {c:List Int} {es:List (List Int×AV)} {r:Bool} (em:ev fr m=.mref g' i') (ek:jO (ev fr ix)=some k) (hr:cF ks k k=some r) (hu:rK k=some c)
  (hn:c.length=n) (hf:dN c es=none) (hg:(hget H g' i'=some (.map [])∧es=[])∨hget H g' i'=some (.umap n es)):aD g i (.insF ks m ix x) fr H=some (.undef,aK H g' i' (.umap n (eU c (ev fr x) es))):=by
 subst hn
 rcases hg with⟨hg,rfl⟩ | hg
 ·simp only[aD,em,ek,hr,hg,hu]
  rfl
 ·have e:Nat.beq c.length c.length=true:=by simp
  simp only[aD,em,ek,hr,hg,hu,e,hf]
theorem wV {a b:bD} (h:xL a b=true):a.x.dst=none∧b.x.dst=none∧(∃ ks m i x,a.x.act=.op (.insF ks m i x))∧(∃ ks m i x,b.x.act=.op (.insF ks m i x))∧∃ p,a.wr=[p]∧b.wr=[p]:=by
 unfold xL at h;split at h
 ·rename_i h1 h2 h3 h4
  split at h
  ·rename_i p q h5 h6
   simp only[bAe] at h;refine⟨h1,h2,⟨_,_,_,_,h3⟩,⟨_,_,_,_,h4⟩,p,h5,?_⟩;rw[h6];congr 1;exact Prod.ext (nEb h.1).symm (nEb h.2).symm
  ·cases h
 ·cases h
theorem jU {a b:List (Nat×Nat)} (h:CJ a b=true) {p:Nat×Nat} (h1:p∈a):p∉b:=by
 intro h2;have:=List.all_eq_true.1 (List.all_eq_true.1 h p h1) p h2;simp at this
theorem mT {fr:Fr} {d:Option Nat} {v:AV} {l:List Nat} (h:lX d l=true) {t:Nat} (ht:t∈l):(fr.put d v).get t=fr.get t:=by
 cases d with
 | none=>rfl
 | some d=>
  have:=List.all_eq_true.1 h t ht;simp only[Bool.not_eq_true'] at this;show(match Nat.beq d t with | true=>v | false=>Fr.get fr t)=_;rw[this]
theorem gO (fr:Fr) (d:Option Nat) (v:AV) (t:Nat):(fr.put d v).get t=if d=some t then v else fr.get t:=by
 cases d with
 | none=>rfl
 | some d=>
  show(match Nat.beq d t with | true=>v | false=>Fr.get fr t)=_;split
  ·rename_i e
   rw[if_pos (by rw[nEb e])]
  ·rename_i e
   rw[if_neg];intro h
   injection h with h
   subst h;simp at e
theorem JZ {fr:Fr} {a b:Option Nat} {u v:AV} (h:kO a b=true) (t:Nat):((fr.put a u).put b v).get t=((fr.put b v).put a u).get t:=by
 simp only[gO]
 by_cases h1:a=some t
 ·by_cases h2:b=some t
  ·subst h1; subst h2
   simp[kO] at h
  ·rw[if_neg h2,if_pos h1,if_pos h1]
 ·rw[if_neg h1,if_neg h1]
theorem jX.swap {P:Program} {a b:bD} {s s1 s2:S} (ha:jX P a s s1) (hb:jX P b s1 s2) (hi:fA a b=true)
  (ia:a.id∈a.wr→(hget s.2 a.id.1 a.id.2).isSome) (ib:b.id∈b.wr→(hget s.2 b.id.1 b.id.2).isSome):∃ t s2',jX P b s t∧jX P a t s2'∧Eqv s2' s2:=by
 simp only[fA,Bool.or_eq_true,bAe] at hi
 rcases hi with hi | hi
 case inr=>
  obtain⟨d1,d2,⟨ka,ma,ia',xa,hac⟩,⟨kb,mb,ib',xb,hbc⟩,p,w1,w2⟩:=wV hi;obtain⟨f1,h1⟩:=ha;obtain⟨f2,h2⟩:=hb;rw[d1] at f1;rw[d2] at f2
  change s1.1=s.1 at f1
  change s2.1=s1.1 at f2
  rcases h1 with⟨g1,o1,q1,st1,rd1,wr1⟩ | ⟨_,_,q,_⟩ | ⟨_,_,q,_⟩
  ·rcases h2 with⟨g2,o2,q2,st2,rd2,wr2⟩ | ⟨_,_,q,_⟩ | ⟨_,_,q,_⟩
   ·rw[hac] at q1
    injection q1 with q1
    subst q1;rw[hbc] at q2
    injection q2 with q2
    subst q2;rw[f1] at st2 wr2 rd2 g2;obtain⟨ga,ja,k1,c1,n1,es1,r1,em1,ek1,hr1,hu1,hn1,hf1,hg1,hv1,hh1⟩:=y8 st1;obtain⟨gb,jb,k2,c2,n2,es2,r2,em2,ek2,hr2,hu2,hn2,hf2,hg2,hv2,hh2⟩:=y8 st2
    have e1:p=(ga,ja):=by
     simp only[dwr,em1,bB] at wr1;rw[w1] at wr1
     injection wr1 with e; exact e.symm
    have e2:p=(gb,jb):=by
     simp only[dwr,em2,bB] at wr2;rw[w2] at wr2
     injection wr2 with e; exact e.symm
    rw[e1] at e2
    injection e2 with e2 e3
    subst e2; subst e3;have hokH:hok s.2 ga ja:=.inl (by rcases hg1 with⟨h,_⟩ | h<;>(rw[h]; rfl))
    have hs1:hget s1.2 ga ja=some (.umap n1 (eU c1 (ev s.1 xa) es1)):=by rw[hh1,aL _ _ _ _ _ _ hokH,if_pos ⟨rfl,rfl⟩]
    rcases hg2 with⟨h,_⟩ | hg2
    ·rw[hs1] at h; cases h
    rw[hs1] at hg2
    injection hg2 with hg2
    injection hg2 with hn12 hes
    subst hes
    have hne:c1≠c2:=by
     intro q;subst q;exact kM hf2 (((j4 c1 (ev s.1 xa) es1).map (·.1)).mem_iff.2 (by simp))
    have hf2':dN c2 es1=none:=by rw[← hf2,nB _ hne]
    have sb:aD b.id.1 b.id.2 (.insF kb mb ib' xb) s.1 s.2=some (.undef,aK s.2 ga ja (.umap n1 (eU c2 (ev s.1 xb) es1))):=D4 em2 ek2 hr2 hu2 (by rw[hn2,hn12]) hf2' hg1;have hokT:hok (aK s.2 ga ja (.umap n1 (eU c2 (ev s.1 xb) es1))) ga ja:=.inl (by rw[aL _ _ _ _ _ _ hokH,if_pos ⟨rfl,rfl⟩]; rfl)
    have sa:aD a.id.1 a.id.2 (.insF ka ma ia' xa) s.1 (aK s.2 ga ja (.umap n1 (eU c2 (ev s.1 xb) es1)))=some (.undef,aK (aK s.2 ga ja (.umap n1 (eU c2 (ev s.1 xb) es1))) ga ja (.umap n1 (eU c1 (ev s.1 xa) (eU c2 (ev s.1 xb) es1)))):=
     D4 em1 ek1 hr1 hu1 hn1 (by rw[nB _ (fun q=>hne q.symm)]; exact hf1) (.inr (by rw[aL _ _ _ _ _ _ hokH,if_pos ⟨rfl,rfl⟩]))
    refine⟨(s.1,aK s.2 ga ja (.umap n1 (eU c2 (ev s.1 xb) es1))),(s.1,aK (aK s.2 ga ja (.umap n1 (eU c2 (ev s.1 xb) es1))) ga ja (.umap n1 (eU c1 (ev s.1 xa) (eU c2 (ev s.1 xb) es1)))),
     ⟨by rw[d2]; rfl,.inl ⟨g2,_,hbc,by rw[hv2]; exact sb,rd2,wr2⟩⟩,⟨by rw[d1]; rfl,.inl ⟨g1,_,hac,by rw[hv1]; exact sa,rd1,wr1⟩⟩,fun u=>?_,fun x y=>?_⟩
    ·rw[f2,f1]
    ·have hok1:hok s1.2 ga ja:=.inl (by rw[hs1]; rfl)
     rw[hh2,aL _ _ _ _ _ _ hok1,aL _ _ _ _ _ _ hokT,aL _ _ _ _ _ _ hokH,hh1,aL _ _ _ _ _ _ hokH,wG _ _ hne,← hn12]
     split<;>rfl
   ·rw[w2] at q; cases q
   ·rw[w2] at q; cases q
  ·rw[w1] at q; cases q
  ·rw[w1] at q; cases q
 obtain⟨i1,i2,i3,i4,i5⟩:=hi;obtain⟨_,_,_,_,_,a4,a5⟩:=jX.ext (s2:=s) ha (fun _ _=>rfl) (fun _ _=>rfl) (fun h=>⟨ia h,ia h⟩);have hs1:s1.1=s.1.put a.x.dst a.v:=ha.1;have hs2:s2.1=s1.1.put b.x.dst b.v:=hb.1
 have ib1:b.id∈b.wr→(hget s1.2 b.id.1 b.id.2).isSome:=fun h=>by
  rw[a4 _ _ fun hm=>jU i4 hm (List.mem_append_right _ h)];exact ib h
 obtain⟨t,b1,b2,b3,b4,b5,b6⟩:=hb.ext (s2:=s) (fun u hu=>by rw[hs1,mT i1 hu]) (fun p hp=>(a4 _ _ fun hm=>jU i4 hm (List.mem_append_left _ hp)).symm) (fun h=>⟨ib1 h,ib h⟩)
 have ia1:a.id∈a.wr→(hget t.2 a.id.1 a.id.2).isSome:=fun h=>by
  rw[b4 _ _ fun hm=>jU i4 h (List.mem_append_right _ hm)];exact ia h
 obtain⟨s2',c1,c2,c3,c4,_,_⟩:=ha.ext (s2:=t) (fun u hu=>by rw[b2,mT i2 hu]) (fun p hp=>b4 _ _ fun hm=>jU i5 hm hp) (fun h=>⟨ia h,ia1 h⟩);refine⟨t,s2',b1,c1,fun u=>?_,fun x y=>?_⟩
 ·rw[c2,b2,hs2,hs1]
  exact(JZ i3 u).symm
 ·by_cases h1:(x,y)∈a.wr
  ·rw[c3 x y h1,b5 x y fun hm=>jU i4 h1 (List.mem_append_right _ hm)]
  ·rw[c4 x y h1]
   by_cases h2:(x,y)∈b.wr
   ·rw[b3 x y h2]
   ·rw[b4 x y h2,b5 x y h2,a4 x y h1]
def Run (P:Program):List bD→S→S→Prop
 | [],s,t=>Eqv s t
 | r::l,s,t=>∃ s1,jX P r s s1∧Run P l s1 t
theorem Eqv.refl (s:S):Eqv s s:=⟨fun _=>rfl,fun _ _=>rfl⟩
theorem Eqv.symm {s t:S} (h:Eqv s t):Eqv t s:=⟨fun a=>(h.1 a).symm,fun a b=>(h.2 a b).symm⟩
theorem Eqv.trans {s t u:S} (h:Eqv s t) (h':Eqv t u):Eqv s u:=⟨fun a=>(h.1 a).trans (h'.1 a),fun a b=>(h.2 a b).trans (h'.2 a b)⟩
def GH (l:List bD) (H:Heap):Prop:=∀ r∈l,r.id∈r.wr→(hget H r.id.1 r.id.2).isSome
theorem jX.have {P:Program} {r:bD} {s t:S} (h:jX P r s t) {l:List bD} (hr:r.id∈r.wr→(hget s.2 r.id.1 r.id.2).isSome) (hl:GH l s.2):GH l t.2:=by
 obtain⟨_,_,_,_,_,a4,a5⟩:=h.ext (s2:=s) (fun _ _=>rfl) (fun _ _=>rfl) (fun h=>⟨hr h,hr h⟩);intro q hq hm
 by_cases hw:(q.id.1,q.id.2)∈r.wr
 ·exact a5 _ _ hw
 ·rw[a4 _ _ hw]
  exact hl q hq hm
theorem Run.ext {P:Program}:∀ {l:List bD} {s s2 t:S},Run P l s t→Eqv s s2→GH l s.2→Run P l s2 t
 | [],s,s2,t,h,he,_=>he.symm.trans h
 | r::l,s,s2,t,⟨s1,h1,h2⟩,he,hh=>by
  have hr:=hh r (List.mem_cons_self ..);obtain⟨s3,q1,q2,q3,q4,q5,q6⟩:=h1.ext (s2:=s2) (fun u _=>(he.1 u).symm) (fun p _=>(he.2 _ _).symm) (fun h=>⟨hr h,by rw[← he.2]; exact hr h⟩);refine⟨s3,q1,Run.ext h2 ⟨fun u=>?_,fun a b=>?_⟩ (h1.have hr fun q hq=>hh q (mCm _ hq))⟩
  ·rw[h1.1,q2,gO,gO,he.1]
  ·by_cases hw:(a,b)∈r.wr
   ·rw[q3 a b hw]
   ·rw[q4 a b hw,q5 a b hw,he.2]
theorem Run.bubble {P:Program} {r:bD} {B:List bD}:∀ {A:List bD} {s t:S},Run P (A++r::B) s t→(∀ a∈A,fA a r=true)→GH (A++r::B) s.2→∃ s1,jX P r s s1∧Run P (A++B) s1 t
 | [],s,t,h,_,_=>h
 | a::A,s,t,⟨s1,h1,h2⟩,hi,hh=>by
  have ha:=hh a (List.mem_cons_self ..);have hrr:=hh r (by simp)
  have h1':GH (A++r::B) s1.2:=h1.have ha fun q hq=>hh q (mCm _ hq)
  obtain⟨s2,q1,q2⟩:=Run.bubble h2 (fun x hx=>hi x (mCm _ hx)) h1';obtain⟨u,s2',p1,p2,p3⟩:=h1.swap q1 (hi a (List.mem_cons_self ..)) ha hrr;refine⟨u,p1,s2',p2,Run.ext q2 p3.symm ?_⟩
  exact q1.have (h1' r (by simp)) fun q hq=>h1' q ((List.mem_append.1 hq).elim (fun h=>List.mem_append_left _ h) fun h=>List.mem_append_right _ (mCm _ h))
end Go.Av
