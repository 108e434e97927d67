import Derived.Test.YtgdocflpobncmaaGreatGAv10z
import Derived.Test.YtgdocflpobncmaaGreatGAv10v
import Derived.RangeFuncRecord
namespace Go.Av
open Go.MapKept
section
variable {P:Program} {M:Mem} {J:Inj} {H:Heap} {w:World} {g i:Nat}
variable {N:Nat} {fr:Fr} {tmps:Array Value} {ds:List Deferred} {o:Oper} {v:AV} {H':Heap}
theorem IV (hF:aU N M J fr tmps) (sz:Nat):∀(parts:List (Nat×Operand)) (xs ys:List AV) (cs:Array Value),
  lay xs (parts.map fun p=>(p.1 * sz,sz,ev fr p.2))=some ys→kN M J xs cs →
  ∃ cs',Instr.fill (fun i=>some (i * sz,sz)) cs (parts.map fun p=>(p.1,Act.eval ⟨tmps,ds⟩ p.2))=some cs'∧kN M J ys cs':=by
 intro parts
 induction parts with
 | nil=>
  intro xs ys cs hl hr;simp[lay] at hl;subst hl;exact⟨cs,rfl,hr⟩
 | cons p parts ih=>
  obtain⟨k,x⟩:=p;intro xs ys cs hl hr;simp only[List.map_cons,lay] at hl;split at hl
  ·rename_i c hc
   split at hl
   ·rename_i hb
    simp only[bAe] at hb;have hcn:c.length=sz:=nEb hb.1;have hle:k * sz+sz≤xs.length:=nlB hb.2;obtain⟨h1,h2⟩:=(aH (ds:=ds) hF x).cs hc;obtain⟨cs',h3,h4⟩:=ih _ ys (splice cs (k * sz) (Act.eval ⟨tmps,ds⟩ x).cells.toList) hl (hr.splice (by simpa using h1) (fun j c v a b=>h2 j c v a (by simpa using b)) (k * sz));refine⟨cs',?_,h4⟩;have hr1:=hr.1;simp only[List.map_cons,Instr.fill]
    rw[if_neg (by
     simp only[Bool.or_eq_true,decide_eq_true_eq,not_or]
     omega)]
    rw[jS];exact h3
   ·cases hl
  ·cases hl
theorem zA (hF:aU N M J fr tmps) (hH:aN M J H w.heap) (hM:a8 M w.heap) {t e:TypeId} {n sz:Nat} {z:List (Nat×Value)} {parts:Array (Nat×Operand)}
  (ht:P.underlying t=some (.array n e)) (hz:zOf P t=some z) (hsz:bH P e=some sz) (h:o.op=.build t parts)
  (hs:aD g i (.build z (parts.toList.map fun p=>(p.1 * sz,sz,p.2))) fr H=some (v,H')):bE P M J H w g i (execOp (Act.eval ⟨tmps,ds⟩) o) v H':=by
 obtain⟨inf,zv,hi,hz0,hsize,hone,hun⟩:=gY hz;simp only[aD,List.map_map] at hs;split at hs
 ·rename_i ys hl
  simp only[oIn,pIn] at hs;obtain⟨rfl,rfl⟩:=hs
  have hz1:kN M J (d5 z) zv.cells:=⟨by rw[fC,hun]; simp,fun j c v hc hv=>by rw[j9 hun hc hv]; exact .sc v⟩
  obtain⟨cs',h1,h2⟩:=IV (ds:=ds) hF sz parts.toList _ ys zv.cells hl hz1;refine .quiet hH hM (cv:=.agg cs') ?_ (.agg _ _ h2.1 h2.2)
  have hfill:Instr.fill (fun i=>some (i * sz,sz)) zv.cells (parts.map fun p=>(p.1,Act.eval ⟨tmps,ds⟩ p.2)).toList=some cs':=by
   rw[Array.toList_map]; exact h1
  simp only[execOp,h,Instr.build,Sem.run_bind,dU hi hz0,Result.andThen_ok,run_underlying ht,run_sizeOf hsz,hfill,Sem.run_pure]
 ·cases hs
def G5 (P:Program):Op→Option IOp
 | .binOp .eql t x y _=>match P.underlying t with
  | some (.struct _)=>match hV P t,P.eqGuardType P.depth t with | some ks,false=>some (.xop (.eqAgg false ks) [x,y]) | _,_=>none
  | some (.array _ e)=>match P.underlying e with
   | some .bool=>none
   | _=>match hV P t,P.eqGuardType P.depth t with | some ks,false=>some (.xop (.eqAgg false ks) [x,y]) | _,_=>none
  | some (.func _ _ _)=>match y with | .const .nilFunc=>some (.xop (.eqFn false) [x]) | _=>none
  | some (.interface _)=>match y with | .const .nilIface=>some (.xop (.eqIfc false) [x]) | _=>none
  | _=>none
 | .binOp .neq t x y _=>match P.underlying t with
  | some (.struct _)=>match hV P t,P.eqGuardType P.depth t with | some ks,false=>some (.xop (.eqAgg true ks) [x,y]) | _,_=>none
  | some (.array _ e)=>match P.underlying e with
   | some .bool=>none
   | _=>match hV P t,P.eqGuardType P.depth t with | some ks,false=>some (.xop (.eqAgg true ks) [x,y]) | _,_=>none
  | some (.func _ _ _)=>match y with | .const .nilFunc=>some (.xop (.eqFn true) [x]) | _=>none
  | some (.interface _)=>match y with | .const .nilIface=>some (.xop (.eqIfc true) [x]) | _=>none
  | _=>none
 | .convert src dst x=>match P.underlying src,P.underlying dst with
  | some (.slice e),some .string=>match P.underlying e with | some (.int .u8)=>some (.xop .bstr [x]) | _=>none
  | some (.int _),some (.float k)=>some (.xop (.i2f k) [x])
  | _,_=>none
 | .index t x i=>match P.underlying t with | some .string=>some (.xop .idxStr [x,i]) | _=>none
 | .lookup t x ix ok=>match P.underlying t with
  | some (.map kt e)=>match hV P kt,GQ P e with | some ks,some z=>some (.xop (.lookF ks z ok) [x,ix]) | _,_=>none
  | _=>none
 | .mapUpdate t m i x=>match P.underlying t with | some (.map kt _)=>(hV P kt).map fun ks=>.insF ks m i x | _=>none
 | .insert t m i x=>match P.underlying t with | some (.map kt _)=>(hV P kt).map fun ks=>.insF ks m i x | _=>none
 | .build t parts=>match P.underlying t with
  | some (.array _ e)=>match zOf P t,bH P e with | some z,some sz=>some (.build z (parts.toList.map fun p=>(p.1 * sz,sz,p.2))) | _,_=>none
  | _=>none
 | .call ⟨.builtin .len,args,ts⟩=>match args.toList,ts.toList with
  | [x],[t]=>match P.underlying t with | some .string=>some (.xop .lenStr [x]) | _=>none
  | _,_=>none
 | .call ⟨.value (.func f),args,_⟩=>(PF P f).map fun e=>.xop e args.toList
 | _=>none
theorem BT {io:IOp} (hc:G5 P o.op=some io) (hF:aU N M J fr tmps) (hH:aN M J H w.heap) (hM:a8 M w.heap)
  (hs:aD g i io fr H=some (v,H')):bE P M J H w g i (execOp (Act.eval ⟨tmps,ds⟩) o) v H':=by
 unfold G5 at hc;split at hc
 ·rename_i t x y u h
  split at hc
  ·split at hc
   ·rename_i ks h1 h2
    injection hc with hc; subst hc
    exact oP hF hH hM (neg:=false) h1 h2 h hs
   ·cases hc
  ·split at hc
   ·cases hc
   ·split at hc
    ·rename_i ks h1 h2
     injection hc with hc; subst hc
     exact oP hF hH hM (neg:=false) h1 h2 h hs
    ·cases hc
  ·rename_i h1
   split at hc
   ·injection hc with hc; subst hc
    exact E0 hF hH hM (neg:=false) h1 h hs
   ·cases hc
  ·rename_i h1
   split at hc
   ·injection hc with hc; subst hc
    exact zP hF hH hM (neg:=false) h1 h hs
   ·cases hc
  ·cases hc
 ·rename_i t x y u h
  split at hc
  ·split at hc
   ·rename_i ks h1 h2
    injection hc with hc; subst hc
    exact oP hF hH hM (neg:=true) h1 h2 h hs
   ·cases hc
  ·split at hc
   ·cases hc
   ·split at hc
    ·rename_i ks h1 h2
     injection hc with hc; subst hc
     exact oP hF hH hM (neg:=true) h1 h2 h hs
    ·cases hc
  ·rename_i h1
   split at hc
   ·injection hc with hc; subst hc
    exact E0 hF hH hM (neg:=true) h1 h hs
   ·cases hc
  ·rename_i h1
   split at hc
   ·injection hc with hc; subst hc
    exact zP hF hH hM (neg:=true) h1 h hs
   ·cases hc
  ·cases hc
 ·rename_i src dst x h
  split at hc
  ·rename_i e h1 h2
   split at hc
   ·rename_i h3
    injection hc with hc; subst hc
    exact LA hF hH hM h1 h2 h3 h hs
   ·cases hc
  ·rename_i k0 k h1 h2
   injection hc with hc; subst hc
   exact QM hF hH hM h1 h2 h hs
  ·cases hc
 ·rename_i t x ix h
  split at hc
  ·rename_i h1
   injection hc with hc; subst hc
   exact GM hF hH hM h1 h hs
  ·cases hc
 ·rename_i t x ix ok h
  split at hc
  ·rename_i kt e h1
   split at hc
   ·rename_i ks z h2 h3
    injection hc with hc; subst hc
    exact I1 hF hH hM h1 h2 h3 h hs
   ·cases hc
  ·cases hc
 ·rename_i t m ix x h
  split at hc
  ·rename_i kt e h1
   simp only[Option.map_eq_some_iff] at hc;obtain⟨ks,h2,rfl⟩:=hc;exact D6 hF hH hM h1 h2 (.inl h) hs
  ·cases hc
 ·rename_i t m ix x h
  split at hc
  ·rename_i kt e h1
   simp only[Option.map_eq_some_iff] at hc;obtain⟨ks,h2,rfl⟩:=hc;exact D6 hF hH hM h1 h2 (.inr h) hs
  ·cases hc
 ·rename_i t parts h
  split at hc
  ·rename_i n e h1
   split at hc
   ·rename_i z sz h2 h3
    injection hc with hc; subst hc
    exact zA hF hH hM h1 h2 h3 h hs
   ·cases hc
  ·cases hc
 ·rename_i args ts h
  split at hc
  ·rename_i x t ha ht
   split at hc
   ·rename_i h1
    injection hc with hc; subst hc
    exact F2 hF hH hM ha ht h1 h hs
   ·cases hc
  ·cases hc
 ·rename_i f args ts h
  simp only[Option.map_eq_some_iff] at hc;obtain⟨e,h1,rfl⟩:=hc;exact PG hF hH hM h1 h hs
 ·cases hc
end
end Go.Av
namespace Go.Av
section
variable {P:Program} {M:Mem} {J:Inj} {H:Heap} {w:World} {g i:Nat}
variable {N:Nat} {fr:Fr} {tmps:Array Value} {ds:List Deferred} {o:Oper} {v:AV} {H':Heap}
theorem GN {io:IOp} (hc:cop P o.op=some io) (hF:aU N M J fr tmps) (hH:aN M J H w.heap) (hM:a8 M w.heap) (hn:hok H g i) (hJ:J g i=none)
  (hs:aD g i io fr H=some (v,H')):bE P M J H w g i (execOp (Act.eval ⟨tmps,ds⟩) o) v H':=by
 cases h:o.op with
 | move x=>rw[h] at hc; injection hc with hc; subst hc; exact DH hF hH hM (.inl h) hs
 | assign x=>rw[h] at hc; injection hc with hc; subst hc; exact DH hF hH hM (.inr h) hs
 | pick c a b=>rw[h] at hc; injection hc with hc; subst hc; exact LI hF hH hM h hs
 | alloc t=>
  rw[h] at hc;simp only[cop,Option.map_eq_some_iff] at hc;obtain⟨z,hz,rfl⟩:=hc;exact JS hH hM hn hJ hz h hs
 | box t x=>rw[h] at hc; injection hc with hc; subst hc; exact PE hF hH hM hn hJ h hs
 | build t parts=>
  rw[h] at hc;simp only[cop] at hc;split at hc
  ·rename_i fs z h1 h2
   split at hc
   ·rename_i hall
    simp only[Option.map_eq_some_iff] at hc;obtain⟨lp,hlp,rfl⟩:=hc;exact KJ hF hH hM h1 h2 hall hlp h hs
   ·cases hc
  ·cases hc
 | buildSlice t n parts=>
  rw[h] at hc;simp only[cop] at hc;split at hc
  ·rename_i e h1
   split at hc
   ·rename_i sz z h2 h3
    split at hc
    ·rename_i hb
     simp only[bAe] at hb
     injection hc with hc
     subst hc;exact uR hF hH hM hn hJ h1 h2 h3 (nlB hb.1) (nlB hb.2) h hs
    ·cases hc
   ·cases hc
  ·cases hc
 | load t a=>
  rw[h] at hc;simp only[cop,Option.map_eq_some_iff] at hc;obtain⟨⟨sz,agg⟩,hv,rfl⟩:=hc;exact M7 hF hH hM hv h hs
 | store t a x=>
  rw[h] at hc;simp only[cop,Option.map_eq_some_iff] at hc;obtain⟨n,hv,rfl⟩:=hc;exact I6 hF hH hM hv h hs
 | nilCheck x=>rw[h] at hc; injection hc with hc; subst hc; exact y9 hF hH hM h hs
 | binOp op t x y u=>
  rw[h] at hc;simp only[cop] at hc;split at hc
  ·rename_i h1
   injection hc with hc
   subst hc;exact wM hF hH hM (neg:=false) h1 h hs
  ·rename_i h1
   injection hc with hc
   subst hc;exact wM hF hH hM (neg:=true) h1 h hs
  ·rename_i e h1
   split at hc
   ·injection hc with hc
    subst hc;exact yM hF hH hM (neg:=false) h1 h hs
   ·cases hc
  ·rename_i e h1
   split at hc
   ·injection hc with hc
    subst hc;exact yM hF hH hM (neg:=true) h1 h hs
   ·cases hc
  ·rename_i k e h1
   split at hc
   ·injection hc with hc
    subst hc;exact wO hF hH hM (neg:=false) h1 h hs
   ·cases hc
  ·rename_i k e h1
   split at hc
   ·injection hc with hc
    subst hc;exact wO hF hH hM (neg:=true) h1 h hs
   ·cases hc
  ·rename_i e h1
   split at hc
   ·injection hc with hc
    subst hc;exact wH hF hH hM (neg:=false) h1 h hs
   ·cases hc
  ·rename_i e h1
   split at hc
   ·injection hc with hc
    subst hc;exact wH hF hH hM (neg:=true) h1 h hs
   ·cases hc
  ·rename_i n e h1
   split at hc
   ·rename_i h2 h3 h4
    injection hc with hc
    subst hc;exact zZ hF hH hM (neg:=false) h1 h2 h3 h4 h hs
   ·cases hc
  ·rename_i n e h1
   split at hc
   ·rename_i h2 h3 h4
    injection hc with hc
    subst hc;exact zZ hF hH hM (neg:=true) h1 h2 h3 h4 h hs
   ·cases hc
  ·injection hc with hc
   subst hc;exact PS hF hH hM h hs
 | unOp op t x=>rw[h] at hc; injection hc with hc; subst hc; exact ok_un hF hH hM h hs
 | convert src dst x=>
  rw[h] at hc;simp only[cop] at hc;split at hc
  ·rename_i h1 h2
   injection hc with hc
   subst hc;exact K8 hF hH hM h1 h2 h hs
  ·cases hc
 | makeFunc fn a b=>rw[h] at hc; injection hc with hc; subst hc; exact zJ hF hH hM h hs
 | makeMap t r=>
  rw[h] at hc
  cases r with
  | some r=>cases hc
  | none=>injection hc with hc; subst hc; exact CR hH hM hn hJ h hs
 | makeSlice t l c=>
  rw[h] at hc;simp only[cop] at hc;split at hc
  ·rename_i e h1
   split at hc
   ·rename_i inf z h2 h3
    split at hc
    ·rename_i a b
     split at hc
     ·rename_i hb
      simp only[bAe] at hb;have hab:a=b:=nEb hb.1;subst hab
      injection hc with hc
      subst hc;exact oN hF hH hM hn hJ h1 h2 h3 (nlB hb.2) h hs
     ·cases hc
    ·rename_i a b
     split at hc
     ·rename_i hb
      simp only[bAe] at hb;have hab:a=b:=of_decide_eq_true hb.1;subst hab
      injection hc with hc
      subst hc;exact oN hF hH hM hn hJ h1 h2 h3 (nlB hb.2) h hs
     ·cases hc
    ·cases hc
   ·cases hc
  ·cases hc
 | slice t x lo hi mx=>
  rw[h] at hc;simp only[cop] at hc;split at hc
  ·rename_i e h1
   simp only[Option.map_eq_some_iff] at hc;obtain⟨n,hv,rfl⟩:=hc;exact JA hF hH hM h1 hv h hs
  ·cases hc
 | fieldAddr t x f=>
  rw[h] at hc;simp only[cop] at hc;split at hc
  ·rename_i fs h1
   split at hc
   ·rename_i fd h2
    split at hc
    ·rename_i n h3
     injection hc with hc
     subst hc;exact xG hF hH hM h1 h2 h3 h hs
    ·cases hc
   ·cases hc
  ·cases hc
 | field t x f=>
  rw[h] at hc;simp only[cop] at hc;split at hc
  ·rename_i fs h1
   split at hc
   ·rename_i fd h2
    simp only[Option.map_eq_some_iff] at hc;obtain⟨⟨sz,agg⟩,hv,rfl⟩:=hc;exact KO hF hH hM h1 h2 hv h hs
   ·cases hc
  ·cases hc
 | indexAddr t x ix=>
  rw[h] at hc;simp only[cop] at hc;split at hc
  ·rename_i e h1
   simp only[Option.map_eq_some_iff] at hc;obtain⟨n,hv,rfl⟩:=hc;exact JW hF hH hM h1 hv h hs
  ·rename_i n e h1
   simp only[Option.map_eq_some_iff] at hc;obtain⟨sz,hv,rfl⟩:=hc;exact GC hF hH hM h1 hv h hs
  ·cases hc
 | index t x ix=>
  rw[h] at hc;simp only[cop] at hc;split at hc
  ·rename_i n e h1
   simp only[Option.map_eq_some_iff] at hc;obtain⟨⟨sz,agg⟩,hv,rfl⟩:=hc;exact GB hF hH hM h1 hv h hs
  ·cases hc
 | lookup t x ix ok=>
  rw[h] at hc;simp only[cop] at hc;split at hc
  ·rename_i kt e h1
   split at hc
   ·rename_i k z h2 h3
    injection hc with hc
    subst hc;exact F4 hF hH hM h1 h2 h3 h hs
   ·cases hc
  ·cases hc
 | mapUpdate t m ix x=>
  rw[h] at hc;simp only[cop] at hc;split at hc
  ·rename_i kt e h1
   split at hc
   ·rename_i k h2
    injection hc with hc
    subst hc;exact oK hF hH hM h1 h2 h hs
   ·cases hc
  ·cases hc
 | insert t m ix x=>
  rw[h] at hc;simp only[cop] at hc;split at hc
  ·rename_i kt e h1
   split at hc
   ·rename_i k h2
    injection hc with hc
    subst hc;exact F3 hF hH hM h1 h2 h hs
   ·cases hc
  ·cases hc
 | extract x ix=>rw[h] at hc; injection hc with hc; subst hc; exact A6 hF hH hM h hs
 | call c=>
  rw[h] at hc;obtain⟨callee,args,ts⟩:=c
  cases callee with
  | builtin b=>
   cases b<;>try (cases hc; done)
   case len=>
    simp only[cop] at hc;split at hc
    ·rename_i x t ha ht
     split at hc
     ·rename_i e h1
      injection hc with hc
      subst hc;exact QV hF hH hM ha ht h1 h hs
     ·rename_i k e h1
      injection hc with hc
      subst hc;exact MN hF hH hM ha ht h1 h hs
     ·cases hc
    ·cases hc
   case append=>
    simp only[cop] at hc;split at hc
    ·rename_i s x t u ha ht
     split at hc
     ·rename_i e h1
      split at hc
      ·rename_i inf z h2 h3
       split at hc
       ·rename_i hb
        simp only[bAe] at hb;have htu:t=u:=of_decide_eq_true hb.1;subst htu
        injection hc with hc
        subst hc;exact FF hF hH hM hn hJ ha ht h1 h2 h3 (nlB hb.2) h hs
       ·cases hc
      ·cases hc
     ·cases hc
    ·cases hc
   case max=>injection hc with hc; subst hc; exact QJ hF hH hM h hs
   case min=>injection hc with hc; subst hc; exact QE hF hH hM h hs
  | value f=>cases hc
  | invoke r n=>cases hc
 | _=>rw[h] at hc; cases hc
end
inductive Cal where
 | tmp (t:Nat)
 | meth (r:Operand) (name:String) (tbl:List (Nat×FuncId))
inductive IAct where
 | op (o:IOp)
 | call (f:FuncId) (args:List Operand)
 | callV (f:Cal) (args:List Operand)
structure IOper where
 dst:Option Nat
 guard:Option (Nat×Bool)
 act:IAct
def n9 (P:Program) (t:TypeId) (name:String):Option FuncId:=
 match P.info? t with
 | some i=>match i.methods.find? (·.name == name) with
  | some m=>match m.path.toList,m.func with
   | [],some (f,ptr)=>match P.underlying t,ptr with
    | some (.pointer _),true=>some f
    | some (.pointer _),false=>none
    | some _,false=>some f
    | _,_=>none
   | _,_=>none
  | none=>none
 | none=>none
def sE (P:Program) (name:String):List Nat→List (Nat×FuncId)
 | []=>[]
 | t::r=>match n9 P t name with
  | some f=>(t,f)::sE P name r
  | none=>sE P name r
def AH (t:Nat):List (Nat×FuncId)→Option FuncId
 | []=>none
 | (u,f)::r=>match Nat.beq u t with
  | true=>some f
  | false=>AH t r
def rM (P:Program):AV→AV
 | .clo (.method name) [.ifc t a] _=>match n9 P t name with
  | some f=>.clo (.func f) [a] []
  | none=>.undef
 | .sc (.func (.func f) ⟨[]⟩ ⟨[]⟩)=>.clo (.func f) [] []
 | a=>a
def Cal.opd:Cal→Operand
 | .tmp t=>.tmp t
 | .meth r _ _=>r
def Cal.res (P:Program):Cal→AV→AV
 | .tmp _,a=>rM P a
 | .meth _ _ tbl,.ifc t a=>match AH t tbl with
  | some f=>.clo (.func f) [a] []
  | none=>.undef
 | .meth _ _ _,_=>.undef
def evC (P:Program) (fr:Fr) (c:Cal):AV:=c.res P (ev fr c.opd)
def AE (P:Program):Op→Option IAct
 | .call ⟨.value (.func f),args,_⟩=>some (.call f args.toList)
 | .call ⟨.value (.tmp t),args,_⟩=>some (.callV (.tmp t) args.toList)
 | .call ⟨.invoke r name,args,_⟩=>some (.callV (.meth r name (sE P name (List.range P.types.size))) args.toList)
 | op=>(cop P op).map .op
def uD (P:Program) (op:Op):Option IAct:=
 match HQ P op with
 | some io=>some (.op io)
 | none=>match G5 P op with
  | some io=>some (.op io)
  | none=>AE P op
theorem vB {P:Program} {op:Op} {f:FuncId} {args:List Operand} (h:uD P op=some (.call f args)):∃ args' ts,op=.call ⟨.value (.func f),args',ts⟩∧args=args'.toList:=by
 unfold uD at h;split at h
 ·cases h
 split at h
 ·cases h
 ·unfold AE at h
  split at h
  ·simp only[oIn,IAct.call.injEq] at h
   obtain⟨rfl,rfl⟩:=h;exact⟨_,_,rfl,rfl⟩
  ·cases h
  ·cases h
  ·simp only[Option.map_eq_some_iff] at h
   obtain⟨a,_,ha⟩:=h
   cases ha
theorem nH {P:Program} {op:Op} {x:Cal} {args:List Operand} (h:uD P op=some (.callV x args)):∃ args' ts,args=args'.toList ∧
  ((∃ t,op=.call ⟨.value (.tmp t),args',ts⟩∧x=.tmp t)∨(∃ r name,op=.call ⟨.invoke r name,args',ts⟩∧x=.meth r name (sE P name (List.range P.types.size)))):=by
 unfold uD at h;split at h
 ·cases h
 split at h
 ·cases h
 ·unfold AE at h
  split at h
  ·cases h
  ·simp only[oIn,IAct.callV.injEq] at h
   obtain⟨rfl,rfl⟩:=h;exact⟨_,_,rfl,.inl ⟨_,rfl,rfl⟩⟩
  ·simp only[oIn,IAct.callV.injEq] at h
   obtain⟨rfl,rfl⟩:=h;exact⟨_,_,rfl,.inr ⟨_,_,rfl,rfl⟩⟩
  ·simp only[Option.map_eq_some_iff] at h
   obtain⟨a,_,ha⟩:=h
   cases ha
theorem vO {P:Program} {M:Mem} {J:Inj} {H:Heap} {w:World} {g i N:Nat} {fr:Fr} {tmps:Array Value} {ds:List Deferred} {o:Oper} {v:AV} {H':Heap} {io:IOp} (hc:uD P o.op=some (.op io)) (hF:aU N M J fr tmps) (hH:aN M J H w.heap) (hM:a8 M w.heap) (hn:hok H g i) (hJ:J g i=none)
  (hs:aD g i io fr H=some (v,H')):bE P M J H w g i (execOp (Act.eval ⟨tmps,ds⟩) o) v H':=by
 unfold uD at hc;split at hc
 ·rename_i io' hx
  simp only[oIn,IAct.op.injEq] at hc;subst hc;exact B8 hx hF hH hM hn hJ hs
 split at hc
 ·rename_i io' hx
  simp only[oIn,IAct.op.injEq] at hc;subst hc;exact BT hx hF hH hM hs
 ·have hcop:cop P o.op=some io:=by
   unfold AE at hc;split at hc
   ·cases hc
   ·cases hc
   ·cases hc
   ·simp only[Option.map_eq_some_iff,IAct.op.injEq] at hc
    obtain⟨a,ha,rfl⟩:=hc;exact ha
  exact GN hcop hF hH hM hn hJ hs
def II (N:Nat):Option Nat→Option (Option Nat)
 | none=>some none
 | some d=>match Nat.blt d N with
  | true=>some (some d)
  | false=>none
def xY (ops:Array Oper):Option (Nat×Bool)→Option (Option (Nat×Bool))
 | none=>some none
 | some (j,b)=>match ops[j]? with
  | some o=>match o.dst with
   | some t=>some (some (t,b))
   | none=>none
  | none=>none
def jG (P:Program) (N:Nat) (ops:Array Oper) (o:Oper):Option IOper:=
 match II N o.dst,xY ops o.guard,uD P o.op with
 | some d,some gd,some a=>some ⟨d,gd,a⟩
 | _,_,_=>none
def gok (fr:Fr):Option (Nat×Bool)→Option Bool
 | none=>some true
 | some (t,b)=>match fr.get t with
  | .sc (.bool c)=>match b with
   | true=>some c
   | false=>some (!c)
  | .sc (.tuple _)=>some false
  | _=>none
theorem dW {N M J} {fr:Fr} {tmps:Array Value} (hF:aU N M J fr tmps) {ops:Array Oper} {o:Oper} {gd:Option (Nat×Bool)} (hg:xY ops o.guard=some gd) {r:Bool} (h:gok fr gd=some r):
  Region.wanted o (yielded ops tmps)=r:=by
 unfold xY at hg;split at hg
 ·rename_i e
  injection hg with hg
  subst hg;simp only[gok,oIn] at h;subst h;simp[Region.wanted,e]
 ·rename_i j b e
  split at hg
  ·rename_i oj hoj
   split at hg
   ·rename_i t ht
    injection hg with hg
    subst hg;have hrep:=hF.2 t;simp only[gok] at h
    have hy:∀ cv,tmps.getD t Go.undef=cv→yielded ops tmps j=match cv with | .bool b=>some b | _=>none:=by
     intro cv hcv;unfold yielded;rw[hoj];simp only[Option.bind_some,ht]
     by_cases hlt:t < tmps.size
     ·simp only[Array.getD,hlt,dif_pos] at hcv
      rw[Array.getElem?_eq_getElem hlt];simp only[Array.getInternal_eq_getElem] at hcv;rw[hcv]
      cases cv<;>rfl
     ·simp only[Array.getD,hlt,dif_neg,not_false_eq_true] at hcv
      rw[Array.getElem?_eq_none (Nat.le_of_not_lt hlt)];subst hcv;rfl
    simp only[Region.wanted,e];split at h
    ·rename_i c ec
     rw[ec] at hrep;rw[hy _ hrep.sc_inv]
     cases b<;>cases c<;>simp_all
    ·rename_i q ec
     rw[ec] at hrep;rw[hy _ hrep.sc_inv]
     simp_all
    ·cases h
   ·cases hg
  ·cases hg
end Go.Av
namespace Go.Av
def B9 (k N:Nat) (M:Mem) (J:Inj) (H:Heap) (w:World) (K:Fr→Heap→Prop) (a':Act) (w':World):Prop:=
 ∃ M' J' fr' H',aS k M J H w M' J' H' w'∧aU N M' J' fr' a'.tmps∧a'.defers=[]∧K fr' H'
def Callable (P : Program) (f : FuncId) : Prop := ∃ fn, P.funcs[f]? = some fn ∧ (fn.name == "runtime.NumGoroutine") = false ∧ fn.body.isSome = true
def aE (P:Program) (f:FuncId) (args:List AV) (H:Heap) (R:AV→Heap→Prop):Prop:=
 Callable P f∧∀ M J w (cargs:Array Value),args.length=cargs.size→(∀(j:Nat) c v,args[j]?=some c→cargs[j]?=some v→Rep M J c v)→aN M J H w.heap→a8 M w.heap →
  Calls P f cargs w fun e w'=>∃ v M' J' res H',e=.returned v∧aS H.length M J H w M' J' H' w'∧Rep M' J' res v∧R res H'
theorem aE.mono {P f args H R R'} (h:aE P f args H R) (hr:∀ res H',R res H'→R' res H'):aE P f args H R':=
 ⟨h.1,fun M J w cargs a b c d=>(h.2 M J w cargs a b c d).mono fun _ _ ⟨v,M',J',res,H',h1,h2,h3,h4⟩=>⟨v,M',J',res,H',h1,h2,h3,hr _ _ h4⟩⟩
def fP (P:Program) (N:Nat) (ops:Array Oper):List Nat→List IOper→Prop
 | [],[]=>True
 | i::l,x::xs=>(∃ o,ops[i]?=some o∧jG P N ops o=some x)∧fP P N ops l xs
 | _,_=>False
def Reg (P:Program) (N k:Nat) (xs:List IOper) (fr:Fr) (H:Heap) (K:Fr→Heap→Prop):Prop:=
 ∀ ops l,fP P N ops l xs→∀ M J tmps w,aU N M J fr tmps→aN M J H w.heap→a8 M w.heap →
  ∀ Q,(∀ a' w',B9 k N M J H w K a' w'→Q Exit.normal a' w')→wpOps P ops Q l ⟨tmps,[]⟩ w
section
variable {P:Program} {N k:Nat} {xs:List IOper} {x:IOper} {fr:Fr} {H:Heap} {K:Fr→Heap→Prop}
theorem Reg.nil (h:K fr H):Reg P N k [] fr H K:=by
 intro ops l hm M J tmps w hF hH hM Q hQ
 cases l with
 | nil=>exact hQ _ _ ⟨M,J,fr,H,.refl k hH hM,hF,rfl,h⟩
 | cons i l=>exact hm.elim
theorem d7 {ops:Array Oper} {o:Oper} (h:jG P N ops o=some x):II N o.dst=some x.dst∧xY ops o.guard=some x.guard∧uD P o.op=some x.act:=by
 unfold jG at h;split at h
 ·rename_i d gd a h1 h2 h3
  injection h with h
  subst h;exact⟨h1,h2,h3⟩
 ·cases h
theorem aU.put {M J tmps} (hF:aU N M J fr tmps) {d d':Option Nat} (hd:II N d=some d') {v:AV} {cv:Value} (hv:Rep M J v cv):aU N M J (fr.put d' v) (Act.put ⟨tmps,[]⟩ d cv).tmps:=by
 cases d with
 | none=>
  injection hd with hd
  subst hd;exact hF
 | some d=>
  simp only[II] at hd;split at hd
  ·rename_i hb
   injection hd with hd
   subst hd;have hlt:d < N:=nlB hb;refine⟨by simp[Act.put,hF.1],fun t=>?_⟩;show Rep M J (match Nat.beq d t with | true=>v | false=>Fr.get fr t) _;split
   ·rename_i e
    have:d=t:=nEb e;subst this;show Rep M J v ((tmps.setIfInBounds d cv).getD d Go.undef);rw[Array.getD_eq_getD_getElem?,Array.getElem?_setIfInBounds,if_pos rfl,if_pos (by rw[hF.1]; exact hlt)];exact hv
   ·rename_i e
    have hne:d≠t:=fun h=>by subst h; simp at e
    have:=hF.2 t;show Rep M J (Fr.get fr t) ((tmps.setIfInBounds d cv).getD t Go.undef);rw[Array.getD_eq_getD_getElem?,Array.getElem?_setIfInBounds,if_neg hne,← Array.getD_eq_getD_getElem?];exact this
  ·cases hd
theorem dP (tmps:Array Value) (d:Option Nat) (cv:Value):(Act.put ⟨tmps,[]⟩ d cv)=⟨(Act.put ⟨tmps,[]⟩ d cv).tmps,[]⟩:=by cases d<;>rfl
theorem aN.fresh {M J} {h:Array Obj} (hH:aN M J H h):J H.length 0=none:=by
 cases e:J H.length 0 with
 | none=>rfl
 | some l=>
  have:=(hH.dom _ _ l e).1;simp[hget] at this
theorem aU.ext {M J M' J' tmps} (hx:Ext M J M' J') (hF:aU N M J fr tmps):aU N M' J' fr tmps:=⟨hF.1,fun t=>(hF.2 t).ext hx⟩
theorem Reg.op {o:IOp} {v:AV} {H':Heap} (hg:gok fr x.guard=some true) (hx:x.act=.op o) (hs:aD H.length 0 o fr H=some (v,H')) (h:Reg P N k xs (fr.put x.dst v) H' K):Reg P N k (x::xs) fr H K:=by
 intro ops l hm M J tmps w hF hH hM Q hQ
 cases l with
 | nil=>exact hm.elim
 | cons i l=>
  obtain⟨⟨o0,ho,hc⟩,hm'⟩:=hm;obtain⟨c1,c2,c3⟩:=d7 hc;have hw:=dW hF c2 hg;rw[hx] at c3;obtain⟨cv,w',J',hrun,hrep,hext,hstep,_⟩:=vO (ds:=[]) c3 hF hH hM (.inr ⟨rfl,rfl⟩) hH.fresh hs;simp only[wpOps,ho,hw,if_true];left
  have hnext:wpOps P ops Q l (Act.put ⟨tmps,[]⟩ o0.dst cv) w':=by
   rw[dP]
   refine h ops l hm' M J' _ w' ((hF.ext hext).put c1 hrep) (hstep k).hrep (hstep k).mrep Q fun a' w'' hp=>hQ a' w'' ?_
   obtain⟨M2,J2,fr2,H2,q1,q2,q3,q4⟩:=hp;exact⟨M2,J2,fr2,H2,(hstep k).trans q1,q2,q3,q4⟩
  rcases hrun with hrun | ⟨hrun,rfl⟩
  ·simp only[Oper.wp,hrun,Oper.upon]
   exact hnext
  ·simp only[Oper.wp,hrun,Oper.upon]
   exact hnext
theorem Reg.o {d:Nat} {gd:Option (Nat×Bool)} {o:IOp} {v:AV} {H':Heap} (hg:gok fr gd=some true) (hs:aD H.length 0 o fr H=some (v,H')) (h:Reg P N k xs ((d,v)::fr) H' K):Reg P N k (⟨some d,gd,.op o⟩::xs) fr H K:=
 Reg.op (x:=⟨some d,gd,.op o⟩) hg rfl hs h
theorem Reg.on {gd:Option (Nat×Bool)} {o:IOp} {v:AV} {H':Heap} (hg:gok fr gd=some true) (hs:aD H.length 0 o fr H=some (v,H')) (h:Reg P N k xs fr H' K):Reg P N k (⟨none,gd,.op o⟩::xs) fr H K:=
 Reg.op (x:=⟨none,gd,.op o⟩) hg rfl hs h
theorem Reg.skip (hg:gok fr x.guard=some false) (h:Reg P N k xs (fr.put x.dst (.sc Go.undef)) H K):Reg P N k (x::xs) fr H K:=by
 intro ops l hm M J tmps w hF hH hM Q hQ
 cases l with
 | nil=>exact hm.elim
 | cons i l=>
  obtain⟨⟨o0,ho,hc⟩,hm'⟩:=hm;obtain⟨c1,c2,c3⟩:=d7 hc;have hw:=dW hF c2 hg;simp only[wpOps,ho,hw,Bool.false_eq_true,if_false];rw[dP];exact h ops l hm' M J _ w (hF.put c1 (.sc _)) hH hM Q hQ
theorem Reg.s {d:Nat} {gd:Option (Nat×Bool)} {a:IAct} (hg:gok fr gd=some false) (h:Reg P N k xs ((d,.sc Go.undef)::fr) H K):Reg P N k (⟨some d,gd,a⟩::xs) fr H K:=
 Reg.skip (x:=⟨some d,gd,a⟩) hg h
theorem eM {f:FuncId} (hf:Callable P f) (args:Array Value) (w:World):(callFunc f args).run P w=.ok (.enter f args) w:=by
 obtain⟨fn,h1,h2,h3⟩:=hf
 have h4:fn.body.isNone=false:=by cases e:fn.body<;>simp_all
 simp only[callFunc,Sem.run_bind,run_program,Result.andThen_ok,h1,h2,h4,Bool.false_eq_true,if_false,Sem.run_pure]
theorem vU {f:FuncId} {cargs:Array Value} {args:List AV} {ops:Array Oper} {l:List Nat} {M J tmps} {w:World} {o0:Oper} (hF:aU N M J fr tmps) (hH:aN M J H w.heap) (hM:a8 M w.heap)
  (hk:k≤H.length) (c1:II N o0.dst=some x.dst) (hlen:args.length=cargs.size) (hargs:∀(j:Nat) c v,args[j]?=some c→cargs[j]?=some v→Rep M J c v)
  (h:aE P f args H fun res H'=>Reg P N k xs (fr.put x.dst res) H' K) (hm':fP P N ops l xs) {Q:Exit→Act→World→Prop} (hQ:∀ a' w',B9 k N M J H w K a' w'→Q Exit.normal a' w')
  (hrun:(execOp (Act.eval ⟨tmps,[]⟩) o0).run P w=.ok (.enter f cargs) w):o0.wp P ⟨tmps,[]⟩ w (wpOps P ops Q l) Q:=by
 simp only[Oper.wp,hrun,Oper.upon];refine(h.2 M J w cargs hlen hargs hH hM).mono ?_;rintro e w' ⟨v,M',J',res,H',rfl,hst,hrep,hreg⟩;simp only
 have hext:Ext M J M' J':=⟨hst.m,fun g i l hJ=>hst.j g i l (by
  have:=(hH.dom g i l hJ).1;unfold hget at this;split at this
  ·rename_i f hf; exact(gEs.1 hf).1
  ·cases this) hJ⟩
 rw[dP]
 refine hreg ops l hm' M' J' _ w' ((hF.ext hext).put c1 hrep) hst.hrep hst.mrep Q fun a' w'' hp=>hQ a' w'' ?_
 obtain⟨M2,J2,fr2,H2,q1,q2,q3,q4⟩:=hp;exact⟨M2,J2,fr2,H2,(hst.mono hk).trans q1,q2,q3,q4⟩
theorem Reg.call {f:FuncId} {args:List Operand} (hk:k≤H.length) (hg:gok fr x.guard=some true) (hx:x.act=.call f args) (h:aE P f (avals fr args) H fun res H'=>Reg P N k xs (fr.put x.dst res) H' K):
  Reg P N k (x::xs) fr H K:=by
 intro ops l hm M J tmps w hF hH hM Q hQ
 cases l with
 | nil=>exact hm.elim
 | cons i l=>
  obtain⟨⟨o0,ho,hc⟩,hm'⟩:=hm;obtain⟨c1,c2,c3⟩:=d7 hc;have hw:=dW hF c2 hg;simp only[wpOps,ho,hw,if_true];left;rw[hx] at c3;obtain⟨args',ts,hop,rfl⟩:=vB c3;obtain⟨h1,h2⟩:=dV (ds:=[]) hF args'.toList _ rfl args' rfl;refine vU hF hH hM hk c1 h1 h2 h hm' hQ ?_;have he:Act.eval ⟨tmps,[]⟩ (.func f)=.func (.func f) #[] #[]:=rfl;simp only[execOp,hop,resolve,he,Deferred.ofValue,Sem.run_bind,Sem.run_pure,Result.andThen_ok,invoke];rw[show #[]++args'.map (Act.eval ⟨tmps,[]⟩)++#[]=args'.map (Act.eval ⟨tmps,[]⟩) by simp];exact eM h.1 _ _
theorem Reg.c {d:Nat} {gd:Option (Nat×Bool)} {f:FuncId} {args:List Operand} (hk:k≤H.length) (hg:gok fr gd=some true) (h:aE P f (avals fr args) H fun res H'=>Reg P N k xs ((d,res)::fr) H' K):
  Reg P N k (⟨some d,gd,.call f args⟩::xs) fr H K:=Reg.call (x:=⟨some d,gd,.call f args⟩) hk hg rfl h
theorem vW (x:Value) (l:Array Value):(#[x]++l)[0]?=some x:=by
 rw[Array.getElem?_append_left (by simp)];rfl
theorem qY (x:Value) (l:Array Value):(#[x]++l).extract 1 (#[x]++l).size=l:=by
 apply Array.ext_getElem?;intro i;rw[Array.getElem?_extract,Array.size_append];split
 ·rw[Array.getElem?_append_right (by simp)]
  simp
 ·rw[Array.getElem?_eq_none (by simp at *; omega)]
theorem E6 {t:TypeId} {name:String} {f:FuncId} (h:n9 P t name=some f) (fuel:Nat) (v:Value) (w:World):(method (fuel+1) t v name).run P w=.ok (f,v) w:=by
 unfold n9 at h;split at h
 ·rename_i i hi
  split at h
  ·rename_i m hm
   split at h
   ·rename_i g ptr hp hf
    have key:P.underlying t=some (.pointer (match P.underlying t with | some (.pointer e)=>e | _=>0))∧ptr=true∧g=f∨(∃ d,P.underlying t=some d∧(∀ e,d≠.pointer e)∧ptr=false∧g=f):=by
     split at h
     ·rename_i hu
      injection h with h
      exact .inl ⟨by rw[hu],rfl,h⟩
     ·cases h
     ·rename_i d hne hu
      injection h with h
      exact .inr ⟨_,hu,fun e he=>hne e he,rfl,h⟩
     ·cases h
    have hti:∀ w:World,(typeInfo t).run P w=.ok i w:=fun w=>by simp[typeInfo,hi]
    simp only[method,Sem.run_bind,hti,Result.andThen_ok,hm,hp,follow,Sem.run_pure,hf]
    rcases key with⟨hu,rfl,rfl⟩ | ⟨d,hu,hd,rfl,rfl⟩
    ·simp only[receiverAt,Sem.run_bind,run_underlying hu,Result.andThen_ok,Place.get,Sem.run_pure]
    ·simp only[receiverAt,Sem.run_bind,run_underlying hu,Result.andThen_ok]
     cases d<;>first | exact absurd rfl (hd _) | simp only[Place.get,Sem.run_pure,Result.andThen_ok]
   ·cases h
  ·cases h
 ·cases h
theorem nK {name:String} {t:Nat} {f:FuncId}:∀ {l:List Nat},AH t (sE P name l)=some f→n9 P t name=some f
 | [],h=>by cases h
 | u::l,h=>by
  simp only[sE] at h;split at h
  ·rename_i g e
   simp only[AH] at h;split at h
   ·rename_i e2
    have:=nEb e2;subst this
    injection h with h
    subst h;exact e
   ·exact nK h
  ·exact nK h
theorem uL {t:TypeId} {name:String} {g:FuncId} (h:n9 P t name=some g) (hg:Callable P g) (v:Value) (args:Array Value) (w:World):(callMethod (.iface t v) name args).run P w=.ok (.enter g (#[v]++args)) w:=by
 simp only[callMethod,Sem.run_bind,run_program,Result.andThen_ok]
 have:∃ n,P.types.size+Made.depth=n+1:=⟨P.types.size+99,rfl⟩
 obtain⟨n,hn⟩:=this;rw[hn,E6 h];simp only[Result.andThen_ok];exact eM hg _ _
theorem rB {M J tmps} {ds:List Deferred} {w:World} {o0:Oper} (hF:aU N M J fr tmps) {f:Cal} {args:List Operand} (c3:uD P o0.op=some (.callV f args)) {g:FuncId} {fs cs:List AV} (hf:evC P fr f=.clo (.func g) fs cs) (hg:Callable P g):
  ∃ cargs:Array Value,(fs++avals fr args++cs).length=cargs.size∧(∀(j:Nat) c v,(fs++avals fr args++cs)[j]?=some c→cargs[j]?=some v→Rep M J c v)∧(execOp (Act.eval ⟨tmps,ds⟩) o0).run P w=.ok (.enter g cargs) w:=by
 obtain⟨args',ts,rfl,hx⟩:=nH c3;obtain⟨h1,h2⟩:=dV (ds:=ds) hF args'.toList _ rfl args' rfl
 have three:∀ {cfs ccs:Array Value},fs.length=cfs.size→cs.length=ccs.size→(∀(j:Nat) c v,fs[j]?=some c→cfs[j]?=some v→Rep M J c v)→(∀(j:Nat) c v,cs[j]?=some c→ccs[j]?=some v→Rep M J c v) →
   (fs++avals fr args'.toList++cs).length=(cfs++args'.map (Act.eval ⟨tmps,ds⟩)++ccs).size∧(∀(j:Nat) c v,(fs++avals fr args'.toList++cs)[j]?=some c→(cfs++args'.map (Act.eval ⟨tmps,ds⟩)++ccs)[j]?=some v→Rep M J c v):=by
  intro cfs ccs r1 r2 r3 r4;refine⟨by simp only[lAp,Array.size_append]; omega,fun j c v hc' hv'=>?_⟩;rw[List.getElem?_append] at hc';rw[Array.getElem?_append] at hv';simp only[lAp,Array.size_append] at hc' hv';rw[h1,r1] at hc';split at hc'
  ·rename_i hj
   rw[if_pos hj] at hv';rw[List.getElem?_append] at hc';rw[Array.getElem?_append] at hv';rw[r1] at hc';split at hc'
   ·rename_i hj2
    rw[if_pos hj2] at hv';exact r3 j c v hc' hv'
   ·rename_i hj2
    rw[if_neg hj2] at hv';exact h2 _ c v hc' hv'
  ·rename_i hj
   rw[if_neg hj] at hv';exact r4 _ c v hc' hv'
 have one:∀ {a:AV} {v:Value},Rep M J a v→∀(j:Nat) c x,[a][j]?=some c→(#[v]:Array Value)[j]?=some x→Rep M J c x:=by
  intro a v h j c x hc hx
  cases j with
  | zero=>simp at hc hx; subst hc; subst hx; exact h
  | succ j=>simp at hc
 rcases hx with⟨t,hop,rfl⟩ | ⟨r,name,hop,rfl⟩
 ·have hfv:=aH (ds:=ds) hF (.tmp t)
  generalize hfe:Act.eval ⟨tmps,ds⟩ (.tmp t)=fv at hfv;replace hf:rM P (ev fr (.tmp t))=.clo (.func g) fs cs:=hf;unfold rM at hf;split at hf
  ·rename_i name ty a cs0 e
   split at hf
   ·rename_i f0 hm
    injection hf with hf1 hf2 hf3
    injection hf1 with hf1
    subst hf1; subst hf2; subst hf3;rw[e] at hfv
    cases hfv with
    | clo _ _ _ cfs ccs r1 r2 r3 r4=>
     have hs:cfs.size=1:=by simpa using r1.symm
     obtain⟨x,rfl⟩:∃ x,cfs=#[x]:=by
      match cfs,hs with
      | ⟨[x]⟩,_=>exact⟨x,rfl⟩
     have hx:=r3 0 _ x rfl rfl
     cases hx with
     | ifc _ _ v hv=>
      obtain⟨q1,q2⟩:=three (cfs:=#[v]) (ccs:=#[]) rfl rfl (one hv) (fun j c v hc=>by simp at hc);refine⟨_,q1,q2,?_⟩;simp only[execOp,hop,resolve,hfe,Deferred.ofValue,Sem.run_bind,Sem.run_pure,Result.andThen_ok,invoke];simp only[vW,qY];rw[uL hm hg,Array.append_empty]
   ·cases hf
  ·rename_i f0 e
   injection hf with hf1 hf2 hf3
   injection hf1 with hf1
   subst hf1; subst hf2; subst hf3;rw[e] at hfv;have hv:=hfv.sc_inv;subst hv;obtain⟨q1,q2⟩:=three (cfs:=#[]) (ccs:=#[]) rfl rfl (fun j c v hc=>by simp at hc) (fun j c v hc=>by simp at hc);refine⟨_,q1,q2,?_⟩;simp only[execOp,hop,resolve,hfe,Deferred.ofValue,Sem.run_bind,Sem.run_pure,Result.andThen_ok,invoke];exact eM hg _ _
  ·rename_i hne
   rw[hf] at hfv
   cases hfv with
   | clo _ _ _ cfs ccs r1 r2 r3 r4=>
    obtain⟨q1,q2⟩:=three r1 r2 r3 r4;refine⟨_,q1,q2,?_⟩;simp only[execOp,hop,resolve,hfe,Deferred.ofValue,Sem.run_bind,Sem.run_pure,Result.andThen_ok,invoke];exact eM hg _ _
 ·have hfv:=aH (ds:=ds) hF r
  generalize hfe:Act.eval ⟨tmps,ds⟩ r=fv at hfv;replace hf:Cal.res P (.meth r name (sE P name (List.range P.types.size))) (ev fr r)=.clo (.func g) fs cs:=hf;generalize ev fr r=av at hf hfv
  cases hfv with
  | ifc ty a v hv=>
   simp only[Cal.res] at hf;split at hf
   ·rename_i f0 hl
    injection hf with hf1 hf2 hf3
    injection hf1 with hf1
    subst hf1; subst hf2; subst hf3;have hm:=nK hl;obtain⟨q1,q2⟩:=three (cfs:=#[v]) (ccs:=#[]) rfl rfl (one hv) (fun j c v hc=>by simp at hc);refine⟨_,q1,q2,?_⟩;simp only[execOp,hop,resolve,hfe,Sem.run_bind,Sem.run_pure,Result.andThen_ok,invoke];simp only[vW,qY];rw[uL hm hg,Array.append_empty]
   ·cases hf
  | _=>simp only[Cal.res] at hf; cases hf
theorem Reg.callV {f:Cal} {g:FuncId} {fs cs:List AV} {args:List Operand} (hk:k≤H.length) (hg:gok fr x.guard=some true) (hx:x.act=.callV f args) (hf:evC P fr f=.clo (.func g) fs cs)
  (h:aE P g (fs++avals fr args++cs) H fun res H'=>Reg P N k xs (fr.put x.dst res) H' K):Reg P N k (x::xs) fr H K:=by
 intro ops l hm M J tmps w hF hH hM Q hQ
 cases l with
 | nil=>exact hm.elim
 | cons i l=>
  obtain⟨⟨o0,ho,hc⟩,hm'⟩:=hm;obtain⟨c1,c2,c3⟩:=d7 hc;have hw:=dW hF c2 hg;simp only[wpOps,ho,hw,if_true];left;rw[hx] at c3;obtain⟨cargs,h1,h2,hrun⟩:=rB (ds:=[]) (w:=w) hF c3 hf h.1;exact vU hF hH hM hk c1 h1 h2 h hm' hQ hrun
def Sub (k N:Nat) (fr:Fr) (H:Heap) (fr':Fr) (H':Heap):Prop:=
 ∀ M J tmps (w:World),aU N M J fr tmps→aN M J H w.heap→a8 M w.heap→∃ M' J',aS k M J H w M' J' H' w∧aU N M' J' fr' tmps
theorem Sub.refl (k N:Nat) (fr:Fr) (H:Heap):Sub k N fr H fr H:=fun _ _ _ _ hF hH hM=>⟨_,_,.refl k hH hM,hF⟩
theorem Sub.trans {k N:Nat} {fr fr' fr'':Fr} {H H' H'':Heap} (a:Sub k N fr H fr' H') (b:Sub k N fr' H' fr'' H''):Sub k N fr H fr'' H'':=by
 intro M J tmps w hF hH hM;obtain⟨M1,J1,s1,f1⟩:=a M J tmps w hF hH hM;obtain⟨M2,J2,s2,f2⟩:=b M1 J1 tmps w f1 s1.hrep s1.mrep;exact⟨M2,J2,s1.trans s2,f2⟩
theorem Reg.sub {fr':Fr} {H':Heap} (hs:Sub k N fr H fr' H') (h:Reg P N k xs fr' H' K):Reg P N k xs fr H K:=by
 intro ops l hm M J tmps w hF hH hM Q hQ;obtain⟨M1,J1,s1,f1⟩:=hs M J tmps w hF hH hM
 refine h ops l hm M1 J1 tmps w f1 s1.hrep s1.mrep Q fun a' w' hp=>hQ a' w' ?_
 obtain⟨M2,J2,fr2,H2,q1,q2,q3,q4⟩:=hp;exact⟨M2,J2,fr2,H2,s1.trans q1,q2,q3,q4⟩
theorem Reg.mono {K':Fr→Heap→Prop} (h:Reg P N k xs fr H K) (hk:∀ fr H,K fr H→K' fr H):Reg P N k xs fr H K':=by
 intro ops l hm M J tmps w hF hH hM Q hQ
 exact h ops l hm M J tmps w hF hH hM Q fun a' w' ⟨M2,J2,fr2,H2,q1,q2,q3,q4⟩=>hQ a' w' ⟨M2,J2,fr2,H2,q1,q2,q3,hk _ _ q4⟩
theorem Sub.le {fr':Fr} (h:∀ x∈fr',Le (fr.get x.1) x.2):Sub k N fr H fr' H:=by
 intro M J tmps w hF hH hM;refine⟨M,J,.refl k hH hM,hF.1,fun t=>?_⟩
 have key:Le (fr.get t) (Fr.get fr' t):=by
  clear hF
  induction fr' with
  | nil=>exact .undef _
  | cons p fr' ih=>
   obtain⟨d,v⟩:=p;show Le (fr.get t) (match Nat.beq d t with | true=>v | false=>Fr.get fr' t);split
   ·rename_i e
    have:d=t:=nEb e;subst this;exact h (d,v) (List.mem_cons_self ..)
   ·exact ih fun x hx=>h x (mCm _ hx)
 exact key M J _ (hF.2 t)
theorem Sub.ren {fr':Fr} {H':Heap} (ρ:Nat→Nat→Option (Nat×Nat)) (hn:uT ρ k H H') (h:∀ x∈fr',Ren ρ (fr.get x.1) x.2):Sub k N fr H fr' H':=by
 intro M J tmps w hF hH hM;exact⟨M,J.via ρ,(aS.refl k hH hM).ren hn,hF.ren h⟩
end
end Go.Av
namespace Go.Av
def FW (ro:Option Nat):Fence:={ Fence.wide with round:=ro }
theorem BN {P:Program} {ro:Option Nat} {m m':Machine}:StepsIn (Machine.fenced P (FW ro)) P m m'↔Steps P m m':=stepsIn_wide
theorem m5 {ro:Option Nat} {n:Nat} {P:Program} {f:FuncId} {args:Array Value} {w:World} {R:Ending→World→Prop}:CallsIn (FW ro) n P f args w R↔Calls P f args w R:=callsIn_wide (n:=n)
def E5 (D:Nat):Deferred:={ target:=.collected D,args:=#[] }
structure Cx where
 ro:Option Nat
 b:Nat
 Ds:List Nat
def Cx.ds (x:Cx):List Deferred:=x.Ds.map E5
structure Cx.ok (x:Cx) (M:Mem) (J:Inj) (H:Heap) (w:World):Prop where
 rnd:∀ l,x.ro=some l→∃ r,w.heap[l]?=some (.loop r)
 base:x.b≤w.heap.size
 nd:x.Ds.Nodup
 dfr:∀ D∈x.Ds,x.b≤D∧w.heap[D]?=some (.deferred (some []))∧M D=none∧∀ g i l,aQ H g i→J g i=some l→l.blk≠some D
theorem Cx.ok.step {x:Cx} {k M J H w M' J' H' w'} (h:x.ok M J H w) (s:aS k M J H w M' J' H' w'):x.ok M' J' H' w' where
 rnd l hl:=by
  obtain⟨r,hr⟩:=h.rnd l hl;obtain⟨r',h',_⟩:=s.bk l r hr;exact⟨r',h'⟩
 base:=Nat.le_trans h.base s.size
 nd:=h.nd
 dfr D hD:=by
  obtain⟨h1,h2,h3,h4⟩:=h.dfr D hD;refine⟨h1,s.frame D _ h2 h4,?_,fun g i l a b c=>?_⟩
  ·cases e:M' D with
   | none=>rfl
   | some o=>
    rcases s.fresh D o e with h5 | h5 | ⟨g,i,l,a,b,c⟩
    ·rw[h3] at h5; cases h5
    ·have:=bN h2; omega
    ·exact absurd c (h4 g i l a b)
  ·rcases s.live g i l D a b c with⟨g0,i0,l0,h5,h6,h7⟩ | h5
   ·exact h4 g0 i0 l0 h5 h6 h7
   ·have:=bN h2; omega
def zK (x:Cx) (k N:Nat) (M:Mem) (J:Inj) (H:Heap) (w:World) (K:Fr→Heap→Prop) (a':Act) (w':World):Prop:=
 ∃ M' J' fr' H' Ds,aS k M J H w M' J' H' w'∧aU N M' J' fr' a'.tmps∧a'.defers=Ds.map E5∧Cx.ok ⟨x.ro,x.b,Ds⟩ M' J' H' w'∧K fr' H'
section
variable {P:Program} {ops:Array Oper}
theorem fD {ro:Option Nat} {ρ:Operand→Value} {o:Oper} (h:∀ c,o.op≠.defer c):Oper.semAt ro ρ o=execOp ρ o:=by
 unfold Oper.semAt;split
 ·rename_i e
  exact absurd e (h _)
 ·rfl
theorem gB (ro:Option Nat) (ds:List Deferred) (R:Array Value→World→Prop) (l2:List Nat) (Q:Exit→Act→World→Prop) (hR:∀ t w,R t w→wpOpsIn (FW ro) 0 P ops Q l2 ⟨t,ds⟩ w)
  (Q0:Exit→Act→World→Prop) (hQ0:∀ e a w,Q0 e a w→e=.normal∧a.defers=[]∧R a.tmps w):
  ∀(l:List Nat) (tmps:Array Value) (dl:List Deferred) (w:World),wpOps P ops Q0 l ⟨tmps,dl⟩ w →
   dl=[]∧wpOpsIn (FW ro) 0 P ops Q (l++l2) ⟨tmps,ds⟩ w
 | [],tmps,dl,w,h=>⟨(hQ0 _ _ _ h).2.1,hR _ _ (hQ0 _ _ _ h).2.2⟩
 | i::l,tmps,dl,w,h=>by
  simp only[wpOps] at h;simp only[List.cons_append,wpOpsIn]
  cases ho:ops[i]? with
  | none=>
   simp only[ho] at h ⊢;exact gB ro ds R l2 Q hR Q0 hQ0 l tmps dl w h
  | some o=>
   simp only[ho] at h ⊢
   by_cases hw:Region.wanted o (yielded ops tmps)=true
   ·simp only[hw,if_true] at h ⊢
    have h:=h.resolve_right fun⟨_,a0,w0,h⟩=>absurd (hQ0 _ _ _ h).1 (by simp)
    have ih:=gB ro ds R l2 Q hR Q0 hQ0 l
    have hput:∀ d v,(Act.put ⟨tmps,dl⟩ d v)=⟨(Act.put ⟨tmps,ds⟩ d v).tmps,dl⟩∧(Act.put ⟨tmps,ds⟩ d v)=⟨(Act.put ⟨tmps,ds⟩ d v).tmps,ds⟩:=by
     intro d v; cases d<;>exact⟨rfl,rfl⟩
    have hlets:¬ LetsOut Q0:=fun⟨a0,w0,h⟩=>absurd (hQ0 _ _ _ h).1 (by simp)
    have hev:Act.eval ⟨tmps,dl⟩=Act.eval ⟨tmps,ds⟩:=rfl;simp only[Oper.wp,hev] at h
    have hnd:∀ c,o.op≠.defer c:=by
     intro c hc
     have hx:execOp (Act.eval ⟨tmps,ds⟩) o=(do let d ← resolve (Act.eval ⟨tmps,ds⟩) c o.type; pure (.defer d)):=by simp only[execOp,hc]
     rw[hx] at h;simp only[Sem.run_bind] at h
     cases hr:(resolve (Act.eval ⟨tmps,ds⟩) c o.type).run P w with
     | ok d w1=>
      rw[hr] at h;simp only[Result.andThen_ok,Sem.run_pure,Oper.upon] at h;rw[show({ ({ tmps:=tmps,defers:=dl }:Act) with defers:=d::dl }:Act).put o.dst undef=⟨(Act.put ⟨tmps,ds⟩ o.dst undef).tmps,d::dl⟩ by cases o.dst<;>rfl] at h;exact absurd (ih _ _ _ h).1 (by simp)
     | halt s w1=>
      rw[hr] at h
      cases s<;>first | (exact h.elim) | exact absurd (hQ0 _ _ _ h).1 (by simp)
    simp only[Oper.wpIn,fD hnd]
    have hdl:dl=[]∧o.uponIn (FW ro) 0 P ⟨tmps,ds⟩ (wpOpsIn (FW ro) 0 P ops Q (l++l2)) Q ((execOp (Act.eval ⟨tmps,ds⟩) o).run P w):=by
     cases hr:(execOp (Act.eval ⟨tmps,ds⟩) o).run P w with
     | halt s w1=>rw[hr] at h; cases s<;>first | (exact h.elim) | exact absurd (hQ0 _ _ _ h).1 (by simp)
     | ok nx w1=>
      rw[hr] at h
      cases nx with
      | value v=>
       simp only[Oper.upon,(hput _ _).1] at h;simp only[Oper.uponIn];rw[(hput _ _).2];exact ih _ _ _ h
      | skip=>
       simp only[Oper.upon,(hput _ _).1] at h;simp only[Oper.uponIn];rw[(hput _ _).2];exact ih _ _ _ h
      | defer d=>
       simp only[Oper.upon] at h;rw[show({ ({ tmps:=tmps,defers:=dl }:Act) with defers:=d::dl }:Act).put o.dst undef=⟨(Act.put ⟨tmps,ds⟩ o.dst undef).tmps,d::dl⟩ by cases o.dst<;>rfl] at h;exact absurd (ih _ _ _ h).1 (by simp)
      | enter f args=>
       simp only[Oper.upon] at h;simp only[Oper.uponIn];refine⟨?_,fun hd=>by simp[FW,Fence.wide] at hd,m5.2 (h.mono ?_)⟩
       ·obtain⟨e,w',fr,hR',_⟩:=h []
        cases e with
        | returned v=>simp only[(hput _ _).1] at hR'; exact(ih _ _ _ hR').1
        | panicked ch=>exact absurd (hQ0 _ _ _ hR').1 (by simp)
        | outgrown=>exact absurd hR' hlets
       ·intro e w' hR'
        cases e with
        | returned v=>simp only[(hput _ _).1] at hR'; simp only; rw[(hput _ _).2]; exact(ih _ _ _ hR').2
        | panicked ch=>exact absurd (hQ0 _ _ _ hR').1 (by simp)
        | outgrown=>exact absurd hR' hlets
      | row row args=>
       simp only[Oper.upon] at h;simp only[Oper.uponIn];refine⟨?_,fun hd=>by simp[FW,Fence.wide] at hd,fun c cs _=>?_⟩
       ·obtain⟨v,w',hR',_⟩:=h default []
        rw[(hput _ _).1] at hR';exact(ih _ _ _ hR').1
       ·obtain⟨v,w',hR',hs⟩:=h c cs
        rw[(hput _ _).1] at hR';exact⟨v,w',by show wpOpsIn (FW ro) 0 P ops Q (l++l2) _ w'; rw[(hput _ _).2]; exact(ih _ _ _ hR').2,BN.2 hs⟩
      | _=>exact h.elim
    exact⟨hdl.1,fun _ _=>trivial,hdl.2⟩
   ·simp only[hw,if_false,Bool.false_eq_true] at h ⊢
    have hput:(Act.put ⟨tmps,dl⟩ o.dst undef)=⟨(Act.put ⟨tmps,ds⟩ o.dst undef).tmps,dl⟩∧(Act.put ⟨tmps,ds⟩ o.dst undef)=⟨(Act.put ⟨tmps,ds⟩ o.dst undef).tmps,ds⟩:=by
     cases o.dst<;>exact⟨rfl,rfl⟩
    rw[hput.1] at h;rw[hput.2];have:=gB ro ds R l2 Q hR Q0 hQ0 l _ _ _ h;exact⟨this.1,fun _ _=>trivial,this.2⟩
theorem iC {x:Cx} {k N:Nat} {M:Mem} {J:Inj} {H:Heap} {w:World} {Q:Exit→Fr→Heap→Prop} (hx:x.ok M J H w) {tmps:Array Value} {w1:World} {l:List Nat}
  (h:wpOps P ops (fun e a' w'=>e=.normal∧B9 k N M J H w (Q .normal) a' w') l ⟨tmps,[]⟩ w1):
  wpOpsIn (FW x.ro) 0 P ops (fun e a' w'=>zK x k N M J H w (Q e) a' w') l ⟨tmps,x.ds⟩ w1:=by
 have:=(gB (P:=P) (ops:=ops) x.ro x.ds (fun t w'=>∃ M' J' fr' H',aS k M J H w M' J' H' w'∧aU N M' J' fr' t∧Q .normal fr' H') [] (fun e a' w'=>zK x k N M J H w (Q e) a' w')
  (fun t w' ⟨M',J',fr',H',a,b,c⟩=>⟨M',J',fr',H',x.Ds,a,b,rfl,hx.step a,c⟩) _
  (fun e a' w' ⟨he,M',J',fr',H',q1,q2,q3,q4⟩=>⟨he,q3,M',J',fr',H',q1,q2,q4⟩) l tmps [] w1 h).2
 rwa[List.append_nil] at this
end
end Go.Av
namespace Go.Av
inductive bL where
 | skip
 | region (xs:List IOper)
 | draw (xs:List IOper) (after:List (List Nat))
 | seq (a b:bL)
 | cond (c:Operand) (thn els:bL)
 | block (id:Nat) (body:bL)
 | loop (body:bL)
 | rangeF (f:Operand) (ps:List Nat) (asg body:bL) (qs:Array Tmp) (ra rb:Code)
 | exit (id:Nat)
 | ret
 | bad
def n6:Code→List (Array Tmp×Code×Code)
 | .seq a b=>n6 a++n6 b
 | .cond _ a b=>n6 a++n6 b
 | .block _ a=>n6 a
 | .loop a=>n6 a
 | .rangeFunc _ ps a b=>(ps,a,b)::(n6 a++n6 b)
 | _=>[]
def PU (P:Program) (f k:Nat):Array Tmp×Code×Code:=
 match P.funcs[f]? with
 | some fn=>match fn.body with
  | some b=>match (n6 b)[k]? with
   | some x=>x
   | none=>(#[],.ret,.ret)
  | none=>(#[],.ret,.ret)
 | none=>(#[],.ret,.ret)
def lN (P:Program) (N:Nat) (ops:Array Oper):List Oper→Option (List IOper)
 | []=>some []
 | o::r=>match jG P N ops o,lN P N ops r with
  | some x,some xs=>some (x::xs)
  | _,_=>none
def dY (o:Oper):List Nat:=(o.after.toList.filter (Region.binds .any)).map (·.on)
def bM (P:Program) (N:Nat):Code→Option bL
 | .skip=>some .skip
 | .region _ ops draw=>match lN P N ops ops.toList with
  | some xs=>match draw with
   | false=>some (.region xs)
   | true=>some (.draw xs (ops.toList.map dY))
  | none=>some .bad
 | .seq a b=>match bM P N a,bM P N b with
  | some x,some y=>some (.seq x y)
  | _,_=>none
 | .cond c a b=>match bM P N a,bM P N b with
  | some x,some y=>some (.cond c x y)
  | _,_=>none
 | .block id b=>(bM P N b).map (.block id)
 | .loop b=>(bM P N b).map .loop
 | .rangeFunc f ps a b=>match bM P N a,bM P N b with
  | some x,some y=>some (.rangeF f ps.toList x y ps a b)
  | _,_=>none
 | .exit id=>some (.exit id)
 | .ret=>some .ret
 | _=>some .bad
def AWP (P:Program) (N k:Nat) (c:bL) (Q:Exit→Fr→Heap→Prop) (fr:Fr) (H:Heap):Prop:=
 ∀ c0,bM P N c0=some c→∀(x:Cx) M J tmps w,x.ok M J H w→aU N M J fr tmps→aN M J H w.heap→a8 M w.heap→c0.wpIn (FW x.ro) 0 P (fun e a' w'=>zK x k N M J H w (Q e) a' w') ⟨tmps,x.ds⟩ w
section
variable {P:Program} {N k:Nat} {fr:Fr} {H:Heap} {Q:Exit→Fr→Heap→Prop}
theorem iL {ops:Array Oper}:∀(l:List Oper) (n:Nat) (xs:List IOper),lN P N ops l=some xs→(∀(j:Nat) o,l[j]?=some o→ops[n+j]?=some o)→fP P N ops (List.range' n l.length) xs
 | [],n,xs,h,_=>by
  simp[lN] at h;subst h;trivial
 | o::l,n,xs,h,hg=>by
  simp only[lN] at h;split at h
  ·rename_i x ys h1 h2
   injection h with h
   subst h;rw[List.length_cons,List.range'_succ];exact⟨⟨o,hg 0 o rfl,h1⟩,iL l (n+1) ys h2 fun j o' hj=>by rw[Nat.add_assoc,Nat.add_comm 1 j]; exact hg (j+1) o' hj⟩
  ·cases h
theorem AWP.region {xs:List IOper} (h:Reg P N k xs fr H (Q .normal)):AWP P N k (.region xs) Q fr H:=by
 intro c0 hc x M J tmps w hx hF hH hM
 cases c0 with
 | region id ops draw=>
  simp only[bM] at hc;split at hc
  ·rename_i ys hys
   cases draw with
   | true=>cases hc
   | false=>
    injection hc with hc
    injection hc with hc
    subst hc;refine wpIn_region (iC hx ?_)
    have hm:=iL ops.toList 0 ys hys fun j o hj=>by rw[Nat.zero_add,← Array.getElem?_toList]; exact hj
    rw[← List.range_eq_range'] at hm
    exact h ops _ (by simpa using hm) M J tmps w hF hH hM _ fun a' w' hp=>⟨rfl,hp⟩
  ·cases hc
 | _=>simp only[bM] at hc; (try split at hc)<;>(try cases hc)<;>(try simp at hc)
theorem AWP.skip (h:Q .normal fr H):AWP P N k .skip Q fr H:=by
 intro c0 hc x M J tmps w hx hF hH hM
 cases c0 with
 | skip=>exact wpIn_skip ⟨M,J,fr,H,x.Ds,.refl k hH hM,hF,rfl,hx,h⟩
 | region id ops draw=>simp only[bM] at hc; split at hc<;>(try cases hc); split at hc<;>cases hc
 | _=>simp only[bM] at hc; (try split at hc)<;>(try cases hc)<;>(try simp at hc)
theorem AWP.ret (h:Q .ret fr H):AWP P N k .ret Q fr H:=by
 intro c0 hc x M J tmps w hx hF hH hM
 cases c0 with
 | ret=>exact wpIn_ret ⟨M,J,fr,H,x.Ds,.refl k hH hM,hF,rfl,hx,h⟩
 | region id ops draw=>simp only[bM] at hc; split at hc<;>(try cases hc); split at hc<;>cases hc
 | _=>simp only[bM] at hc; (try split at hc)<;>(try cases hc)<;>(try simp at hc)
theorem AWP.exit {id:Nat} (h:Q (.exit id) fr H):AWP P N k (.exit id) Q fr H:=by
 intro c0 hc x M J tmps w hx hF hH hM
 cases c0 with
 | exit id'=>
  injection hc with hc
  injection hc with hc
  subst hc;exact wpIn_exit ⟨M,J,fr,H,x.Ds,.refl k hH hM,hF,rfl,hx,h⟩
 | region id ops draw=>simp only[bM] at hc; split at hc<;>(try cases hc); split at hc<;>cases hc
 | _=>simp only[bM] at hc; (try split at hc)<;>(try cases hc)<;>(try simp at hc)
def AG (R:Fr→Heap→Prop) (Q:Exit→Fr→Heap→Prop):Exit→Fr→Heap→Prop
 | .normal=>R
 | e=>Q e
theorem AWP.seq {a b:bL} (h:AWP P N k a (AG (AWP P N k b Q) Q) fr H):AWP P N k (.seq a b) Q fr H:=by
 intro c0 hc x M J tmps w hx hF hH hM
 cases c0 with
 | seq p y=>
  simp only[bM] at hc;split at hc
  ·rename_i p' y' hp0 hy
   injection hc with hc
   injection hc with hc1 hc2
   subst hc1; subst hc2;refine wpIn_seq (wpIn_mono (h p hp0 x M J tmps w hx hF hH hM) fun e a1 w1 hp=>?_);obtain⟨M1,J1,fr1,H1,Ds1,q1,q2,q3,q0,q4⟩:=hp
   cases e with
   | normal=>
    obtain⟨t1,d1⟩:=a1
    cases q3
    refine wpIn_mono (q4 y hy ⟨x.ro,x.b,Ds1⟩ M1 J1 t1 w1 q0 q2 q1.hrep q1.mrep) fun e a2 w2 hp=>?_
    obtain⟨M2,J2,fr2,H2,Ds2,r1,r2,r3,r0,r4⟩:=hp;exact⟨M2,J2,fr2,H2,Ds2,q1.trans r1,r2,r3,r0,r4⟩
   | _=>exact⟨M1,J1,fr1,H1,Ds1,q1,q2,q3,q0,q4⟩
  ·cases hc
 | region id ops draw=>simp only[bM] at hc; split at hc<;>(try cases hc); split at hc<;>cases hc
 | _=>simp only[bM] at hc; (try split at hc)<;>(try cases hc)<;>(try simp at hc)
theorem AWP.cond {c:Operand} {p y:bL} {b:Bool} (hb:ev fr c=.sc (.bool b)) (h1:b=true→AWP P N k p Q fr H) (h2:b=false→AWP P N k y Q fr H):AWP P N k (.cond c p y) Q fr H:=by
 intro c0 hc x M J tmps w hx hF hH hM
 cases c0 with
 | cond c' p0 y0=>
  simp only[bM] at hc;split at hc
  ·rename_i p' y' hp hy
   injection hc with hc
   injection hc with hc0 hc1 hc2
   subst hc0; subst hc1; subst hc2;have hv:=aH (ds:=x.ds) hF c';rw[hb] at hv;exact wpIn_cond_split hv.sc_inv (fun e=>h1 e p0 hp x M J tmps w hx hF hH hM) (fun e=>h2 e y0 hy x M J tmps w hx hF hH hM)
  ·cases hc
 | region id ops draw=>simp only[bM] at hc; split at hc<;>(try cases hc); split at hc<;>cases hc
 | _=>simp only[bM] at hc; (try split at hc)<;>(try cases hc)<;>(try simp at hc)
def KG (id:Nat) (Q:Exit→Fr→Heap→Prop):Exit→Fr→Heap→Prop
 | .exit id'=>match Nat.beq id' id with
  | true=>Q .normal
  | false=>Q (.exit id')
 | e=>Q e
theorem AWP.block {id:Nat} {p:bL} (h:AWP P N k p (KG id Q) fr H):AWP P N k (.block id p) Q fr H:=by
 intro c0 hc x M J tmps w hx hF hH hM
 cases c0 with
 | block id' p0=>
  simp only[bM,Option.map_eq_some_iff,bL.block.injEq] at hc;obtain⟨p',hp0,rfl,rfl⟩:=hc;refine wpIn_block (wpIn_mono (h p0 hp0 x M J tmps w hx hF hH hM) fun e a1 w1 hp=>?_)
  cases e with
  | exit id1=>
   simp only[Exit.inBlock];simp only[KG] at hp
   by_cases e:id1=id'
   ·subst e
    rw[if_pos rfl]
    simpa using hp
   ·rw[if_neg e]
    have:Nat.beq id1 id'=false:=by
     cases hb:Nat.beq id1 id' with
     | true=>exact absurd (nEb hb) e
     | false=>rfl
    rw[this] at hp;exact hp
  | _=>exact hp
 | region id ops draw=>simp only[bM] at hc; split at hc<;>(try cases hc); split at hc<;>cases hc
 | _=>simp only[bM] at hc; (try split at hc)<;>(try cases hc)<;>(try simp at hc)
theorem AWP.sub {c:bL} {fr':Fr} {H':Heap} (hs:Sub k N fr H fr' H') (h:AWP P N k c Q fr' H'):AWP P N k c Q fr H:=by
 intro c0 hc x M J tmps w hx hF hH hM;obtain⟨M1,J1,s1,f1⟩:=hs M J tmps w hF hH hM
 refine wpIn_mono (h c0 hc x M1 J1 tmps w (hx.step s1) f1 s1.hrep s1.mrep) fun e a1 w1 hp=>?_
 obtain⟨M2,J2,fr2,H2,Ds,r1,r2,r3,r0,r4⟩:=hp;exact⟨M2,J2,fr2,H2,Ds,s1.trans r1,r2,r3,r0,r4⟩
theorem AWP.mono {c:bL} {Q':Exit→Fr→Heap→Prop} (h:AWP P N k c Q fr H) (hq:∀ e fr H,Q e fr H→Q' e fr H):AWP P N k c Q' fr H:=by
 intro c0 hc x M J tmps w hx hF hH hM
 exact wpIn_mono (h c0 hc x M J tmps w hx hF hH hM) fun e a1 w1 ⟨M2,J2,fr2,H2,Ds,r1,r2,r3,r0,r4⟩=>⟨M2,J2,fr2,H2,Ds,r1,r2,r3,r0,hq _ _ _ r4⟩
theorem AWP.loop {σ:Type} (F:σ→Fr) (G:σ→Heap) (I:σ→Prop) (μ:σ→Nat) {p:bL} (s0:σ) (h0:I s0) (hs:Sub k N fr H (F s0) (G s0))
  (round:∀ s,I s→AWP P N k p (AG (fun fr' H'=>∃ s',I s'∧μ s' < μ s∧Sub k N fr' H' (F s') (G s')) Q) (F s) (G s)):AWP P N k (.loop p) Q fr H:=by
 intro c0 hc x M J tmps w hx hF hH hM
 cases c0 with
 | loop p0=>
  simp only[bM,Option.map_eq_some_iff,bL.loop.injEq] at hc;obtain⟨p',hp0,rfl⟩:=hc
  let Inv:Nat→Act→World→Prop:=fun n a w'=>∃ s,I s∧μ s=n∧∃ M1 J1 Ds,a.defers=Ds.map E5∧Cx.ok ⟨x.ro,x.b,Ds⟩ M1 J1 (G s) w'∧aS k M J H w M1 J1 (G s) w'∧aU N M1 J1 (F s) a.tmps
  refine wpIn_mono (Q:=fun e a' w'=>zK x k N M J H w (Q e) a' w') ?_ fun e a w h=>h
  have key:∀ n a w',Inv n a w'→(Code.loop p0).wpIn (FW x.ro) 0 P (fun e a' w'=>zK x k N M J H w (Q e) a' w') a w':=by
   intro n a w' hinv
   classical
   refine wpIn_loop (fun a w'=>∃ n,Inv n a w') (fun a w'=>if h:∃ n,Inv n a w' then Classical.choose (show ∃ n,Inv n a w'∧∀ m,Inv m a w'→n≤m from by
    have:=h;obtain⟨n,hn⟩:=this
    induction n using Nat.strongRecOn with
    | _ n ih=>
     by_cases hx:∃ m,m < n∧Inv m a w'
     ·obtain⟨m,hm,hi⟩:=hx
      exact ih m hm hi
     ·exact⟨n,hn,fun m hm=>Nat.le_of_not_lt fun hlt=>hx ⟨m,hlt,hm⟩⟩) else 0) ⟨n,hinv⟩ ?_
   intro a w' hI
   have hmin:=Classical.choose_spec (show ∃ n,Inv n a w'∧∀ m,Inv m a w'→n≤m from by
    have:=hI;obtain⟨n,hn⟩:=this
    induction n using Nat.strongRecOn with
    | _ n ih=>
     by_cases hx:∃ m,m < n∧Inv m a w'
     ·obtain⟨m,hm,hi⟩:=hx
      exact ih m hm hi
     ·exact⟨n,hn,fun m hm=>Nat.le_of_not_lt fun hlt=>hx ⟨m,hlt,hm⟩⟩)
   simp only[dif_pos hI];generalize Classical.choose _=n0 at hmin;obtain⟨⟨s,hs1,hs2,M1,J1,Ds1,hs3,hs0,hs4,hs5⟩,_⟩:=hmin;obtain⟨t1,d1⟩:=a
   cases hs3
   refine wpIn_mono (round s hs1 p0 hp0 ⟨x.ro,x.b,Ds1⟩ M1 J1 t1 w' hs0 hs5 hs4.hrep hs4.mrep) fun e a2 w2 hp=>?_
   obtain⟨M2,J2,fr2,H2,Ds2,r1,r2,r3,r0,r4⟩:=hp
   cases e with
   | normal=>
    obtain⟨s',h1,h2,h3⟩:=r4;obtain⟨M3,J3,q1,q2⟩:=h3 M2 J2 a2.tmps w2 r2 r1.hrep r1.mrep
    have hinv':Inv (μ s') a2 w2:=⟨s',h1,rfl,M3,J3,Ds2,r3,Cx.ok.step r0 q1,(hs4.trans r1).trans q1,q2⟩
    refine⟨⟨_,hinv'⟩,?_⟩
    have hex:∃ n,Inv n a2 w2:=⟨_,hinv'⟩
    simp only[dif_pos hex]
    have hmin2:=Classical.choose_spec (show ∃ n,Inv n a2 w2∧∀ m,Inv m a2 w2→n≤m from by
     have:=hex;obtain⟨n,hn⟩:=this
     induction n using Nat.strongRecOn with
     | _ n ih=>
      by_cases hx:∃ m,m < n∧Inv m a2 w2
      ·obtain⟨m,hm,hi⟩:=hx
       exact ih m hm hi
      ·exact⟨n,hn,fun m hm=>Nat.le_of_not_lt fun hlt=>hx ⟨m,hlt,hm⟩⟩)
    have:=hmin2.2 _ hinv';omega
   | _=>exact⟨M2,J2,fr2,H2,Ds2,hs4.trans r1,r2,r3,r0,r4⟩
  obtain⟨M1,J1,q1,q2⟩:=hs M J tmps w hF hH hM;exact key (μ s0) ⟨tmps,x.ds⟩ w ⟨s0,h0,rfl,M1,J1,x.Ds,rfl,hx.step q1,q1,q2⟩
 | region id ops draw=>simp only[bM] at hc; split at hc<;>(try cases hc); split at hc<;>cases hc
 | _=>simp only[bM] at hc; (try split at hc)<;>(try cases hc)<;>(try simp at hc)
end
end Go.Av
