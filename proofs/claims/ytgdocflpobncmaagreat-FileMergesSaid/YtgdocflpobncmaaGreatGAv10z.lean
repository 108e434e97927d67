import Derived.Test.YtgdocflpobncmaaGreatGAv10
import Derived.DeepKeys3
import Derived.Laws.Externs
import Derived.KernelRfl
namespace Go.Av
section
variable {P:Program}
def lC (P:Program):Nat→TypeId→Nat→Option (List (Nat×LK))
 | 0,_,_=>none
 | d+1,t,b=>match P.underlying t with
  | some .bool=>match Nat.beq (P.cellsOf t) 1 with | true=>some [(b,.b)] | false=>none
  | some (.int _)=>match Nat.beq (P.cellsOf t) 1 with | true=>some [(b,.i)] | false=>none
  | some .string=>match Nat.beq (P.cellsOf t) 1 with | true=>some [(b,.s)] | false=>none
  | some (.array n e)=>match (P.info? e).isSome && Nat.ble (n * P.cellsOf e) (P.cellsOf t) with
   | true=>((List.range n).mapM fun j=>lC P d e (b+j * P.cellsOf e)).map List.flatten
   | false=>none
  | some (.struct fs)=>match P.stoodInHeld t with
   | true=>none
   | false => (fs.toList.mapM fun (f : Field) => match f.name != "_" && ((P.info? f.type).isSome && Nat.ble (f.offset + P.cellsOf f.type) (P.cellsOf t)) with
    | true=>lC P d f.type (b+f.offset)
    | false=>none).map List.flatten
  | _=>none
def fG (xs ys:List Value):List (Nat×LK)→Option Bool
 | []=>some true
 | (p,k)::ps=>match xs[p]?,ys[p]? with
  | some a,some b=>match kT k a b,fG xs ys ps with
   | some x,some y=>some (x && y)
   | _,_=>none
  | _,_=>none
theorem fQ {xs ys:List Value}:∀ {l m:List (Nat×LK)} {r:Bool},fG xs ys (l++m)=some r→∃ r1 r2,fG xs ys l=some r1∧fG xs ys m=some r2∧r=(r1 && r2)
 | [],m,r,h=>⟨true,r,rfl,h,by simp⟩
 | (p,k)::l,m,r,h=>by
  simp only[List.cons_append,fG] at h ⊢;split at h
  ·rename_i a b h1 h2
   split at h
   ·rename_i x y h3 h4
    obtain⟨r1,r2,h5,h6,rfl⟩:=fQ h4
    injection h with h
    subst h;exact⟨x && r1,r2,by simp[h3,h5],h6,by simp[Bool.and_assoc]⟩
   ·cases h
  ·cases h
theorem pD {xs ys:List Value} {p:Nat} {k:LK} {r:Bool} (h:fG xs ys [(p,k)]=some r):∃ a b,xs[p]?=some a∧ys[p]?=some b∧kT k a b=some r:=by
 simp only[fG] at h;split at h
 ·rename_i a b h1 h2
  split at h
  ·rename_i x y h3 h4
   injection h4 with h4
   subst h4
   injection h with h
   subst h;exact⟨a,b,h1,h2,by simp[h3]⟩
  ·cases h
 ·cases h
def uW:TypeDesc→Bool
 | .struct _=>true
 | .array _ _=>true
 | _=>false
def At (P:Program) (t:TypeId) (v:Value) (xs:List Value) (b:Nat):Prop:=
 ∃ kd,P.underlying t=some kd∧(uW kd=true→∃ A:Array Value,v=.agg A∧A.size=P.cellsOf t∧∀ j,j < P.cellsOf t→A[j]?=xs[b+j]?)∧(uW kd=false→xs[b]?=some v)
theorem At.agg {t:TypeId} {kd:TypeDesc} {v:Value} {xs:List Value} {b:Nat} (h:At P t v xs b) (hu:P.underlying t=some kd) (hk:uW kd=true):∃ A:Array Value,v=.agg A∧A.size=P.cellsOf t∧∀ j,j < P.cellsOf t→A[j]?=xs[b+j]?:=by
 obtain⟨kd',h1,h2,_⟩:=h
 rw[hu] at h1; injection h1 with h1; subst h1
 exact h2 hk
theorem At.leaf {t:TypeId} {kd:TypeDesc} {v:Value} {xs:List Value} {b:Nat} (h:At P t v xs b) (hu:P.underlying t=some kd) (hk:uW kd=false):xs[b]?=some v:=by
 obtain⟨kd',h1,_,h2⟩:=h
 rw[hu] at h1; injection h1 with h1; subst h1
 exact h2 hk
theorem mD {w:World} {t e:TypeId} {A:Array Value} {xs:List Value} {b off:Nat} {i:TypeInfo} (hi:P.info? e=some i) (hA:A.size=P.cellsOf t) (hx:∀ j,j < P.cellsOf t→A[j]?=xs[b+j]?)
  (hle:off+P.cellsOf e≤P.cellsOf t) {kd:TypeDesc} (hu:P.underlying e=some kd) (h1:uW kd=false→P.cellsOf e=1):
  ∃ a,(part e A off).run P w=.ok a w∧At P e a xs (b+off):=by
 cases hk:uW kd with
 | true=>
  refine⟨.agg (A.extract off (off+P.cellsOf e)),?_,kd,hu,fun _=>⟨_,rfl,by simp; omega,fun j hj=>?_⟩,fun h=>by rw[hk] at h; cases h⟩
  ·cases kd<;>first | (cases hk; done) | (simp[part,isAgg,run_underlying hu,Go.run_sizeOf w hi]; done)
  ·rw[Array.getElem?_extract,if_pos (by omega),hx _ (by omega),Nat.add_assoc]
 | false=>
  have hlt:off < A.size:=by have:=h1 hk; omega
  refine⟨A[off],?_,kd,hu,fun h=>(by rw[hk] at h; cases h),fun _=>?_⟩
  ·cases kd<;>first | (cases hk; done) | (simp[part,isAgg,run_underlying hu,hlt]; done)
  ·rw[← hx off (by omega),Array.getElem?_eq_getElem hlt]
theorem mE {m:Nat} {t:TypeId} {b:Nat} {ps:List (Nat×LK)} (h:lC P m t b=some ps):∃ kd,P.underlying t=some kd∧(uW kd=false→P.cellsOf t=1):=by
 cases m with
 | zero=>cases h
 | succ m=>
  simp only[lC] at h
  cases hu:P.underlying t with
  | none=>rw[hu] at h; cases h
  | some kd=>
   refine⟨kd,rfl,fun hk=>?_⟩;rw[hu] at h
   cases kd<;>first
    | (cases hk; done)
    | (simp only at h
       split at h
       ·rename_i e; exact nEb e
       ·cases h)
    | cases h
theorem AF {d:Nat} {t e:TypeId} {A B:Array Value} {xs ys:List Value} {b m:Nat} {i:TypeInfo} (w:World) (hi:P.info? e=some i) (hA:A.size=P.cellsOf t) (hx:∀ j,j < P.cellsOf t→A[j]?=xs[b+j]?)
  (hB:B.size=P.cellsOf t) (hy:∀ j,j < P.cellsOf t→B[j]?=ys[b+j]?)
  (IH:∀(b:Nat) (ps:List (Nat×LK)),lC P m e b=some ps→∀ r,fG xs ys ps=some r→∀ a a',At P e a xs b→At P e a' ys b→(Op.equalIn d e a a').run P w=.ok r w):
  ∀(is:List Nat) (l:List (List (Nat×LK))),(∀ j∈is,j * P.cellsOf e+P.cellsOf e≤P.cellsOf t)→(is.mapM fun j=>lC P m e (b+j * P.cellsOf e))=some l→∀ r,fG xs ys l.flatten=some r →
   (Op.eqItems d e (P.cellsOf e) A B is).run P w=.ok r w
 | [],l,_,hl,r,h=>by
  simp at hl;subst hl
  injection h with h
  subst h;simp[Op.eqItems]
 | j::is,l,hle,hl,r,h=>by
  rw[List.mapM_cons] at hl;simp only[bind,Option.bind_eq_some_iff,pure,oIn] at hl;obtain⟨l1,h1,l2,h2,rfl⟩:=hl;rw[List.flatten_cons] at h;obtain⟨r1,r2,h3,h4,rfl⟩:=fQ h;obtain⟨kd,hu,hk⟩:=mE h1;obtain⟨a,p1,q1⟩:=mD (P:=P) (w:=w) (off:=j * P.cellsOf e) hi hA hx (hle j (List.mem_cons_self ..)) hu hk;obtain⟨a',p2,q2⟩:=mD (P:=P) (w:=w) (off:=j * P.cellsOf e) hi hB hy (hle j (List.mem_cons_self ..)) hu hk;have p3:=IH _ _ h1 r1 h3 a a' q1 q2;have p4:=AF w hi hA hx hB hy IH is l2 (fun j hj=>hle j (mCm _ hj)) h2 r2 h4;simp only[Op.eqItems,Sem.run_bind,p1,p2,p3,Result.andThen_ok]
  cases r1
  ·simp
  ·simpa using p4
theorem wN {d:Nat} {t:TypeId} {A B:Array Value} {xs ys:List Value} {b m:Nat} (w:World) (hA:A.size=P.cellsOf t) (hx:∀ j,j < P.cellsOf t→A[j]?=xs[b+j]?)
  (hB:B.size=P.cellsOf t) (hy:∀ j,j < P.cellsOf t→B[j]?=ys[b+j]?)
  (IH:∀(e:TypeId) (b:Nat) (ps:List (Nat×LK)),lC P m e b=some ps→∀ r,fG xs ys ps=some r→∀ a a',At P e a xs b→At P e a' ys b→(Op.equalIn d e a a').run P w=.ok r w):
  ∀(fs:List Field) (l:List (List (Nat×LK))),
   (fs.mapM fun (f : Field) => match f.name != "_" && ((P.info? f.type).isSome && Nat.ble (f.offset + P.cellsOf f.type) (P.cellsOf t)) with
    | true=>lC P m f.type (b+f.offset)
    | false=>none)=some l→∀ r,fG xs ys l.flatten=some r→(Op.eqFields d A B fs).run P w=.ok r w
 | [],l,hl,r,h=>by
  simp at hl;subst hl
  injection h with h
  subst h;simp[Op.eqFields]
 | f::fs,l,hl,r,h=>by
  rw[List.mapM_cons] at hl;simp only[bind,Option.bind_eq_some_iff,pure,oIn] at hl;obtain⟨l1,h1,l2,h2,rfl⟩:=hl;split at h1
  ·rename_i hc
   simp only[bAe,bne_iff_ne,ne_eq] at hc;obtain⟨hn,hi,hle⟩:=hc;obtain⟨i,hi⟩:=Option.isSome_iff_exists.1 hi;have hle:=nlB hle;rw[List.flatten_cons] at h;obtain⟨r1,r2,h3,h4,rfl⟩:=fQ h;obtain⟨kd,hu,hk⟩:=mE h1;obtain⟨a,p1,q1⟩:=mD (P:=P) (w:=w) (off:=f.offset) hi hA hx hle hu hk;obtain⟨a',p2,q2⟩:=mD (P:=P) (w:=w) (off:=f.offset) hi hB hy hle hu hk;have p3:=IH _ _ _ h1 r1 h3 a a' q1 q2;have p4:=wN w hA hx hB hy IH fs l2 h2 r2 h4;simp only[Op.eqFields,hn,ne_eq,not_false_eq_true,if_true,Sem.run_bind,p1,p2,p3,Result.andThen_ok]
   cases r1
   ·simp
   ·simpa using p4
  ·cases h1
theorem BR (w:World):∀(m:Nat) (t:TypeId) (b:Nat) (ps:List (Nat×LK)),lC P m t b=some ps→∀(d:Nat) (xs ys:List Value) (r:Bool),fG xs ys ps=some r→∀ a a',At P t a xs b→At P t a' ys b →
  (Op.equalIn (d+m) t a a').run P w=.ok r w
 | 0,_,_,_,h=>by cases h
 | m+1,t,b,ps,h=>by
  intro d xs ys r hr a a' ha ha';simp only[lC] at h;rw[show d+(m+1)=(d+m)+1 from rfl]
  cases hu:P.underlying t with
  | none=>rw[hu] at h; cases h
  | some kd=>
   rw[hu] at h
   cases kd with
   | bool=>
    simp only at h;split at h
    ·injection h with h
     subst h;obtain⟨u,v,h1,h2,h3⟩:=pD hr;rw[ha.leaf hu rfl] at h1;rw[ha'.leaf hu rfl] at h2
     injection h1 with h1; injection h2 with h2
     subst h1; subst h2
     cases a<;>cases a'<;>simp only[kT,oIn,reduceCtorEq] at h3
     subst h3;exact run_equalIn_bool w _ t _ _ hu
    ·cases h
   | int q=>
    simp only at h;split at h
    ·injection h with h
     subst h;obtain⟨u,v,h1,h2,h3⟩:=pD hr;rw[ha.leaf hu rfl] at h1;rw[ha'.leaf hu rfl] at h2
     injection h1 with h1; injection h2 with h2
     subst h1; subst h2
     cases a<;>cases a'<;>simp only[kT,reduceCtorEq] at h3
     split at h3
     ·rename_i e
      have e:=of_decide_eq_true e;subst e
      injection h3 with h3
      subst h3;exact run_equalIn_int w _ t _ _ _ _ hu
     ·cases h3
    ·cases h
   | string=>
    simp only at h;split at h
    ·injection h with h
     subst h;obtain⟨u,v,h1,h2,h3⟩:=pD hr;rw[ha.leaf hu rfl] at h1;rw[ha'.leaf hu rfl] at h2
     injection h1 with h1; injection h2 with h2
     subst h1; subst h2
     cases a<;>cases a'<;>simp only[kT,oIn,reduceCtorEq] at h3
     subst h3;simp[Op.equalIn,run_underlying hu]
    ·cases h
   | array n e=>
    simp only at h;split at h
    ·rename_i hc
     simp only[bAe] at hc;obtain⟨i,hi⟩:=Option.isSome_iff_exists.1 hc.1;have hle:=nlB hc.2;simp only[Option.map_eq_some_iff] at h;obtain⟨l,hl,rfl⟩:=h;obtain⟨A,rfl,hA,hx⟩:=ha.agg hu rfl;obtain⟨B,rfl,hB,hy⟩:=ha'.agg hu rfl;rw[run_equalIn_array w (d+m) A B hu hi];refine AF w hi hA hx hB hy (fun b ps h r hr a a' h1 h2=>BR w m e b ps h d xs ys r hr a a' h1 h2) (List.range n) l (fun j hj=>?_) hl r hr;have hj:=List.mem_range.1 hj;have:(j+1) * P.cellsOf e≤n * P.cellsOf e:=Nat.mul_le_mul_right _ hj;rw[Nat.add_mul,Nat.one_mul] at this;omega
    ·cases h
   | struct fs=>
    simp only at h;split at h
    ·cases h
    ·rename_i hst
     simp only[Option.map_eq_some_iff] at h;obtain⟨l,hl,rfl⟩:=h;obtain⟨A,rfl,hA,hx⟩:=ha.agg hu rfl;obtain⟨B,rfl,hB,hy⟩:=ha'.agg hu rfl
     have hfs:P.fieldsOf t=fs:=by simp[Program.fieldsOf,hu]
     rw[run_equalIn_struct w (d+m) t A B (by rw[hfs]; exact hu) hst,hfs];exact wN w hA hx hB hy (fun e b ps h r hr a a' h1 h2=>BR w m e b ps h d xs ys r hr a a' h1 h2) fs.toList l hl r hr
   | _=>cases h
theorem qV {d:Nat} {em:Bool} {t e:TypeId} {A:Array Value} {xs ys:List Value} {b m:Nat} {i:TypeInfo} (w:World) (hi:P.info? e=some i) (hA:A.size=P.cellsOf t) (hx:∀ j,j < P.cellsOf t→A[j]?=xs[b+j]?)
  (IH:∀(b:Nat) (ps:List (Nat×LK)),lC P m e b=some ps→∀ r,fG xs ys ps=some r→∀ a,At P e a xs b→(Instr.checkKey em d e a).run P w=.ok () w):
  ∀(is:List Nat) (l:List (List (Nat×LK))),(∀ j∈is,j * P.cellsOf e+P.cellsOf e≤P.cellsOf t)→(is.mapM fun j=>lC P m e (b+j * P.cellsOf e))=some l→∀ r,fG xs ys l.flatten=some r →
   ∀ j∈is,∃ a,(part e A (j * P.cellsOf e)).run P w=.ok a w∧(Instr.checkKey em d e a).run P w=.ok () w
 | [],l,_,hl,r,h=>fun j hj=>by cases hj
 | k::is,l,hle,hl,r,h=>by
  rw[List.mapM_cons] at hl;simp only[bind,Option.bind_eq_some_iff,pure,oIn] at hl;obtain⟨l1,h1,l2,h2,rfl⟩:=hl;rw[List.flatten_cons] at h;obtain⟨r1,r2,h3,h4,rfl⟩:=fQ h;obtain⟨kd,hu,hk⟩:=mE h1;intro j hj
  rcases List.mem_cons.1 hj with rfl | hj
  ·obtain⟨a,p1,q1⟩:=mD (P:=P) (w:=w) (off:=j * P.cellsOf e) hi hA hx (hle j (List.mem_cons_self ..)) hu hk
   exact⟨a,p1,IH _ _ h1 r1 h3 a q1⟩
  ·exact qV w hi hA hx IH is l2 (fun j hj=>hle j (mCm _ hj)) h2 r2 h4 j hj
theorem oT {d:Nat} {em:Bool} {t:TypeId} {A:Array Value} {xs ys:List Value} {b m:Nat} (w:World) (hA:A.size=P.cellsOf t) (hx:∀ j,j < P.cellsOf t→A[j]?=xs[b+j]?)
  (IH:∀(e:TypeId) (b:Nat) (ps:List (Nat×LK)),lC P m e b=some ps→∀ r,fG xs ys ps=some r→∀ a,At P e a xs b→(Instr.checkKey em d e a).run P w=.ok () w):
  ∀(fs:List Field) (l:List (List (Nat×LK))),
   (fs.mapM fun (f : Field) => match f.name != "_" && ((P.info? f.type).isSome && Nat.ble (f.offset + P.cellsOf f.type) (P.cellsOf t)) with
    | true=>lC P m f.type (b+f.offset)
    | false=>none)=some l→∀ r,fG xs ys l.flatten=some r →
   ∀ f ∈ fs, f.name ≠ "_" ∧ ∃ a, (part f.type A f.offset).run P w = .ok a w ∧ (Instr.checkKey em d f.type a).run P w = .ok () w
 | [],l,hl,r,h=>fun j hj=>by cases hj
 | f::fs,l,hl,r,h=>by
  rw[List.mapM_cons] at hl;simp only[bind,Option.bind_eq_some_iff,pure,oIn] at hl;obtain⟨l1,h1,l2,h2,rfl⟩:=hl;split at h1
  ·rename_i hc
   simp only[bAe,bne_iff_ne,ne_eq] at hc;obtain⟨hn,hi,hle⟩:=hc;obtain⟨i,hi⟩:=Option.isSome_iff_exists.1 hi;have hle:=nlB hle;rw[List.flatten_cons] at h;obtain⟨r1,r2,h3,h4,rfl⟩:=fQ h;obtain⟨kd,hu,hk⟩:=mE h1;intro g hg
   rcases List.mem_cons.1 hg with rfl | hg
   ·obtain⟨a,p1,q1⟩:=mD (P:=P) (w:=w) hi hA hx hle hu hk
    exact⟨hn,a,p1,IH _ _ _ h1 r1 h3 a q1⟩
   ·exact oT w hA hx IH fs l2 h2 r2 h4 g hg
  ·cases h1
theorem pG (w:World) (em:Bool):∀(m:Nat) (t:TypeId) (b:Nat) (ps:List (Nat×LK)),lC P m t b=some ps→∀(d:Nat) (xs ys:List Value) (r:Bool),fG xs ys ps=some r→∀ a,At P t a xs b →
  (Instr.checkKey em (d+m) t a).run P w=.ok () w
 | 0,_,_,_,h=>by cases h
 | m+1,t,b,ps,h=>by
  intro d xs ys r hr a ha;simp only[lC] at h;rw[show d+(m+1)=(d+m)+1 from rfl]
  cases hu:P.underlying t with
  | none=>rw[hu] at h; cases h
  | some kd=>
   rw[hu] at h
   cases kd with
   | bool=>simp[Instr.checkKey,run_underlying hu]
   | int q=>simp[Instr.checkKey,run_underlying hu]
   | string=>simp[Instr.checkKey,run_underlying hu]
   | array n e=>
    simp only at h;split at h
    ·rename_i hc
     simp only[bAe] at hc;obtain⟨i,hi⟩:=Option.isSome_iff_exists.1 hc.1;have hle:=nlB hc.2;simp only[Option.map_eq_some_iff] at h;obtain⟨l,hl,rfl⟩:=h;obtain⟨A,rfl,hA,hx⟩:=ha.agg hu rfl
     have hall:=qV (em:=em) (d:=d+m) w hi hA hx (fun b ps h r hr a h1=>pG w em m e b ps h d xs ys r hr a h1) (List.range n) l (fun j hj=>by
      have hj:=List.mem_range.1 hj;have:(j+1) * P.cellsOf e≤n * P.cellsOf e:=Nat.mul_le_mul_right _ hj;rw[Nat.add_mul,Nat.one_mul] at this
      omega) hl r hr
     rw[Instr.checkKey];simp only[Sem.run_bind,run_underlying hu,Result.andThen_ok];simp only[Std.Legacy.Range.forIn_eq_forIn_range',Std.Legacy.Range.size,Nat.sub_zero,Nat.add_one_sub_one,Nat.div_one];rw[List.range_eq_range'] at hall;clear hl;generalize List.range' 0 n=is at hall
     induction is with
     | nil=>simp
     | cons j is ih=>
      obtain⟨a,p1,p2⟩:=hall j (by simp);simp only[List.forIn_cons,Sem.run_bind,Go.run_sizeOf w hi,Result.andThen_ok,p1,p2,Sem.run_pure];exact ih (fun y hy=>hall y (by simp[hy]))
    ·cases h
   | struct fs=>
    simp only at h;split at h
    ·cases h
    ·simp only[Option.map_eq_some_iff] at h
     obtain⟨l,hl,rfl⟩:=h;obtain⟨A,rfl,hA,hx⟩:=ha.agg hu rfl;have hall:=oT (em:=em) (d:=d+m) w hA hx (fun e b ps h r hr a h1=>pG w em m e b ps h d xs ys r hr a h1) fs.toList l hl r hr;rw[Instr.checkKey];simp only[Sem.run_bind,run_underlying hu,Result.andThen_ok];rw[← Array.forIn_toList];clear hl;generalize fs.toList=L at hall
     induction L with
     | nil=>simp
     | cons f L ih=>
      obtain⟨hn,a,p1,p2⟩:=hall f (by simp);simp only[List.forIn_cons,Sem.run_bind,hn,ne_eq,not_false_eq_true,if_true,Result.andThen_ok,p1,p2,Sem.run_pure];exact ih (fun y hy=>hall y (by simp[hy]))
   | _=>cases h
def BW:Nat→List LK→List (Nat×LK)
 | _,[]=>[]
 | o,k::ks=>(o,k)::BW (o+1) ks
def DW:Nat→List (Nat×LK)→Bool
 | _,[]=>true
 | o,p::ps=>Nat.beq p.1 o && DW (o+1) ps
theorem yO:∀(o:Nat) (ps:List (Nat×LK)),DW o ps=true→ps=BW o (ps.map (·.2))
 | _,[],_=>rfl
 | o,(p,k)::ps,h=>by
  simp only[DW,bAe] at h;have:p=o:=nEb h.1;subst this;simp only[List.map_cons,BW];rw[← yO (p+1) ps h.2]
def hV (P:Program) (t:TypeId):Option (List LK):=
 match P.underlying t with
 | some kd=>match uW kd,lC P 20 t 0 with
  | true,some ps=>match DW 0 ps && Nat.beq ps.length (P.cellsOf t) with
   | true=>some (ps.map (·.2))
   | false=>none
  | _,_=>none
 | none=>none
theorem gS:∀ {ks:List LK} {xs ys:List Value} {r:Bool},cF ks xs ys=some r→xs.length=ks.length∧ys.length=ks.length
 | [],[],[],_,_=>⟨rfl,rfl⟩
 | [],[],_::_,_,h=>by cases h
 | [],_::_,_,_,h=>by cases h
 | _::_,[],_,_,h=>by cases h
 | _::_,_::_,[],_,h=>by cases h
 | k::ks,a::xs,b::ys,r,h=>by
  simp only[cF] at h;split at h
  ·rename_i x y h1 h2
   obtain⟨h3,h4⟩:=gS h2;exact⟨by simp[h3],by simp[h4]⟩
  ·cases h
theorem lS:∀ {ks:List LK} {xs ys:List Value} {o:Nat} {r:Bool},cF ks (xs.drop o) (ys.drop o)=some r→fG xs ys (BW o ks)=some r
 | [],xs,ys,o,r,h=>by
  simp only[BW,fG];obtain⟨h1,h2⟩:=gS h;have e1:=List.eq_nil_of_length_eq_zero h1;have e2:=List.eq_nil_of_length_eq_zero h2;rw[e1,e2] at h;exact h
 | k::ks,xs,ys,o,r,h=>by
  obtain⟨h1,h2⟩:=gS h;simp only[List.length_drop,List.length_cons] at h1 h2;rw[List.drop_eq_getElem_cons (by omega:o < xs.length),List.drop_eq_getElem_cons (by omega:o < ys.length)] at h;simp only[cF] at h;split at h
  ·rename_i x y h3 h4
   injection h with h
   subst h;have:=lS h4;simp only[BW,fG,gEg (by omega:o < xs.length),gEg (by omega:o < ys.length),h3,this]
  ·cases h
theorem mZ {t:TypeId} {ks:List LK} (h:hV P t=some ks):∃ kd,P.underlying t=some kd∧uW kd=true∧lC P 20 t 0=some (BW 0 ks)∧ks.length=P.cellsOf t:=by
 unfold hV at h;split at h
 ·rename_i kd hu
  split at h
  ·rename_i ps hk hp
   split at h
   ·rename_i hc
    simp only[bAe] at hc
    injection h with h
    subst h;refine⟨kd,hu,hk,?_,by rw[List.length_map]; exact nEb hc.2⟩;rw[hp];congr 1;exact yO 0 ps hc.1
   ·cases h
  ·cases h
 ·cases h
theorem yC {t:TypeId} {kd:TypeDesc} {A:Array Value} (hu:P.underlying t=some kd) (hk:uW kd=true) (hl:A.size=P.cellsOf t):At P t (.agg A) A.toList 0:=
 ⟨kd,hu,fun _=>⟨A,rfl,hl,fun j _=>by rw[Nat.zero_add,Array.getElem?_toList]⟩,fun h=>by rw[hk] at h; cases h⟩
theorem iU (w:World) {t:TypeId} {ks:List LK} (h:hV P t=some ks) {A B:Array Value} {r:Bool} (hr:cF ks A.toList B.toList=some r):(Op.equal t (.agg A) (.agg B)).run P w=.ok r w:=by
 obtain⟨kd,hu,hk,hp,hl⟩:=mZ h;obtain⟨h1,h2⟩:=gS hr;exact BR w 20 t 0 _ hp 9980 A.toList B.toList r (lS (o:=0) (by simpa using hr)) _ _ (yC hu hk (by rw[← hl,← h1]; simp)) (yC hu hk (by rw[← hl,← h2]; simp))
theorem jA (w:World) (em:Bool) {t:TypeId} {ks:List LK} (h:hV P t=some ks) {A B:Array Value} {r:Bool} (hr:cF ks A.toList B.toList=some r):(Instr.checkKey em 10000 t (.agg A)).run P w=.ok () w:=by
 obtain⟨kd,hu,hk,hp,hl⟩:=mZ h;obtain⟨h1,h2⟩:=gS hr;exact pG w em 20 t 0 _ hp 9980 A.toList B.toList r (lS (o:=0) (by simpa using hr)) _ (yC hu hk (by rw[← hl,← h1]; simp))
end
end Go.Av
namespace Go.Av
open Go.MapKept
section
variable {P:Program} {M:Mem} {J:Inj} {H:Heap} {w:World} {g i:Nat}
variable {N:Nat} {fr:Fr} {tmps:Array Value} {ds:List Deferred} {o:Oper} {v:AV} {H':Heap}
theorem Rep.flat {a:AV} {v:Value} {l:List Value} (h:Rep M J a v) (hl:jO a=some l):v=.agg l.toArray:=by
 unfold jO at hl;split at hl
 ·rename_i cs
  cases h with
  | agg _ cvs hlen hr=>
   have:=wR hl cvs.toList (by simpa using hlen) fun j c v a b=>hr j c v a (by simpa using b)
   rw[← this]
 ·injection hl with hl
  subst hl
  cases h
  simp
 ·cases hl
theorem lU (w:World) {kt:TypeId} {ks:List LK} (hkt:hV P kt=some ks) (k:List Value):∀(es:List (Value×AV)) (cl:List MapEntry) (res:Option AV) (q:Nat),es.length=cl.length →
  (∀(j:Nat) x y,es[j]?=some x→cl[j]?=some y→x.1=y.key)→hG ks k es=some res →
  (res=none∧(Instr.findAsking kt (.agg k.toArray) cl q).run P w=.ok none w) ∨
  ∃ x j c k',res=some x∧es[j]?=some (.agg k',x)∧cl[j]?=some c∧c.key=.agg k'∧cF ks k k'.toList=some true∧(Instr.findAsking kt (.agg k.toArray) cl q).run P w=.ok (some (q+j,c.val)) w ∧
   ∀ y,yP ks k y es=es.set j (.agg k.toArray,y)
 | [],cl,res,q,hl,_,h=>by
  simp[hG] at h;subst h
  cases cl with
  | nil=>exact .inl ⟨rfl,by simp[Instr.findAsking]⟩
  | cons _ _=>simp at hl
 | (key,x)::es,cl,res,q,hl,hk,h=>by
  cases cl with
  | nil=>simp at hl
  | cons c cl=>
   have hkey:key=c.key:=hk 0 _ _ rfl rfl
   cases key with
   | agg k'=>
    simp only[hG] at h;split at h
    ·rename_i e
     injection h with h
     subst h;have heq:=iU w hkt (A:=k.toArray) (B:=k') (by simpa using e);exact .inr ⟨x,0,c,k',rfl,rfl,rfl,hkey.symm,e,by simp[Instr.findAsking,← hkey,heq],fun y=>by simp[yP,e]⟩
    ·rename_i e
     have heq:=iU w hkt (A:=k.toArray) (B:=k') (by simpa using e)
     rcases lU w hkt k es cl res (q+1) (by simpa using hl) (fun j x y a b=>hk (j+1) x y a b) h with⟨h1,h2⟩ | ⟨x',j,c',k2,h1,h2,h3,h4,h5,h6,h7⟩
     ·exact .inl ⟨h1,by simp[Instr.findAsking,← hkey,heq,h2]⟩
     ·exact .inr ⟨x',j+1,c',k2,h1,by simpa using h2,by simpa using h3,h4,h5,by simp[Instr.findAsking,← hkey,heq,h6]; omega,fun y=>by simp[yP,e,h7 y]⟩
    ·cases h
   | _=>simp[hG] at h
theorem kA (w:World) {kt:TypeId} {ks:List LK} (hkt:hV P kt=some ks) (k:List Value) {cl:List MapEntry} {a:Option (Nat×Value)} (h:(Instr.findAsking kt (.agg k.toArray) cl 0).run P w=.ok a w):
  (Instr.findKey kt (.agg k.toArray) cl).run P w=.ok a w:=by
 obtain⟨kd,hu,hk,_⟩:=mZ hkt
 cases cl with
 | nil=>
  simp only[Instr.findAsking,Sem.run_pure,Result.ok.injEq,and_true] at h;subst h;simp[Instr.findKey,run_underlying hu,Instr.findNow]
 | cons e es=>
  have:Instr.findNow kd (.agg k.toArray) (e::es) 0=none:=by
   simp only[Instr.findNow]
   cases kd<;>first | (cases hk; done) | rfl
  simp only[Instr.findKey,Sem.run_bind,run_underlying hu,Result.andThen_ok,this];exact h
theorem xP:∀ {k:List Value} {c:List Int},rK k=some c→k=c.map fun n=>Value.int .i64 n
 | [],c,h=>by
  simp only[rK,oIn] at h;subst h; rfl
 | v::r,c,h=>by
  unfold rK at h;split at h
  ·rename_i e; cases e
  ·rename_i n r' e
   injection e with e1 e2
   subst e1; subst e2;split at h
   ·rename_i c' hc
    injection h with h
    subst h;rw[xP hc]; rfl
   ·cases h
  ·cases h
theorem u9:∀ {ks:List LK} {c d:List Int} {r:Bool},cF ks (c.map fun n=>Value.int .i64 n) (c.map fun n=>Value.int .i64 n)=some r→c.length=d.length →
  cF ks (c.map fun n=>Value.int .i64 n) (d.map fun n=>Value.int .i64 n)=some (decide (d=c))
 | [],[],[],_,_,_=>rfl
 | [],_::_,_,_,h,_=>by cases h
 | _::_,[],_,_,h,_=>by cases h
 | [],[],_::_,_,_,hl=>by cases hl
 | _::_,_::_,[],_,_,hl=>by cases hl
 | k::ks,a::c,b::d,r,h,hl=>by
  simp only[List.map_cons,cF] at h ⊢;split at h
  ·rename_i x y h1 h2
   cases k with
   | i=>
    rw[u9 h2 (by simpa using hl)];simp only[kT,decide_true];congr 1;rw[Bool.eq_iff_iff];simp only[bAe,decide_eq_true_eq,List.cons.injEq];constructor
    ·rintro⟨rfl,rfl⟩; exact⟨rfl,rfl⟩
    ·rintro⟨rfl,rfl⟩; exact⟨rfl,rfl⟩
   | b=>simp[kT] at h1
   | s=>simp[kT] at h1
  ·cases h
theorem uA {ks:List LK} {c:List Int} {r:Bool} (hc:cF ks (c.map fun n=>Value.int .i64 n) (c.map fun n=>Value.int .i64 n)=some r):∀ {es:List (List Int×AV)},(∀ x∈es,x.1.length=c.length) →
  hG ks (c.map fun n=>Value.int .i64 n) (es.map fun p=>(oW p.1,p.2))=some (dN c es)
 | [],_=>rfl
 | (d,y)::es,h=>by
  have e:=u9 hc (h (d,y) (List.mem_cons_self ..)).symm;simp only[List.map_cons,oW,hG,e,dN]
  cases decide (d=c) with
  | true=>rfl
  | false=>exact uA hc fun x hx=>h x (mCm _ hx)
theorem vE {c:List Int}:∀ {es:List (List Int×AV)} {x:AV},dN c es=some x→(c,x)∈es
 | [],_,h=>by cases h
 | (d,y)::es,x,h=>by
  simp only[dN] at h
  by_cases e:d=c
  ·simp only[e,decide_true] at h
   injection h with h
   subst h; subst e;exact List.mem_cons_self ..
  ·simp only[dFa e] at h
   exact mCm _ (vE h)
theorem kM {c:List Int}:∀ {es:List (List Int×AV)},dN c es=none→c∉es.map (·.1)
 | [],_=>by simp
 | (d,y)::es,h=>by
  simp only[dN] at h
  by_cases e:d=c
  ·simp only[e,decide_true] at h; cases h
  ·simp only[dFa e] at h
   have:=kM h;simp only[List.map_cons,List.mem_cons,not_or];exact⟨fun q=>e q.symm,this⟩
theorem sH {c:List Int} {x:AV}:∀ {es:List (List Int×AV)},(es.map (·.1)).Nodup→(c,x)∈es→dN c es=some x
 | [],_,h=>by cases h
 | (d,y)::es,hn,h=>by
  simp only[List.map_cons,List.nodup_cons] at hn;simp only[dN]
  rcases List.mem_cons.1 h with e | e
  ·injection e with e1 e2
   subst e1; subst e2;simp
  ·have:d≠c:=fun q=>hn.1 (by subst q; exact List.mem_map.2 ⟨_,e,rfl⟩)
   simp only[dFa this];exact sH hn.2 e
theorem qM {c:List Int}:∀ {es:List (List Int×AV)},c∉es.map (·.1)→dN c es=none
 | [],_=>rfl
 | (d,y)::es,h=>by
  simp only[List.map_cons,List.mem_cons,not_or] at h;simp only[dN,dFa (fun q:d=c=>h.1 q.symm)];exact qM h.2
theorem tN {c:List Int} {es es':List (List Int×AV)} (hp:es'.Perm es) (hn:(es.map (·.1)).Nodup):dN c es'=dN c es:=by
 cases h:dN c es with
 | none=>exact qM fun hm=>kM h ((hp.map (·.1)).mem_iff.1 hm)
 | some x=>exact sH ((hp.map (·.1)).nodup_iff.2 hn) (hp.mem_iff.2 (vE h))
theorem j4 (c:List Int) (x:AV):∀ es:List (List Int×AV),(eU c x es).Perm ((c,x)::es)
 | []=>.refl _
 | (d,y)::es=>by
  simp only[eU]
  cases gZ c d with
  | true=>exact .refl _
  | false=>exact((j4 c x es).cons _).trans (.swap ..)
theorem aN.umaps {H:Heap} {h:Array Obj} (hH:aN M J H h) {g i n:Nat} {es:List (List Int×AV)} (hg:hget H g i=some (.umap n es)):
  ∃(l:Loc) (β:Nat) (ces:Array MapEntry) (clock:Nat) (es':List (List Int×AV)),J g i=some l∧l.blk=some β∧h[β]?=some (.map ces clock)∧es'.Perm es∧(es.map (·.1)).Nodup∧(∀ x∈es,x.1.length=n)∧es'.length=ces.size ∧
   (∀(j:Nat) x y,es'[j]?=some x→ces[j]?=some y→oW x.1=y.key)∧(∀(j:Nat) x y,es'[j]?=some x→ces[j]?=some y→Rep M J x.2 y.val):=by
 obtain⟨l,h1,β,ces,clock,es',h2,h3,h4,h5,h6,h7,h8,h9⟩:=hH.blk g i _ hg rfl;exact⟨l,β,ces,clock,es',h1,h2,h3,h4,h5,h6,h7,h8,h9⟩
theorem D6 (hF:aU N M J fr tmps) (hH:aN M J H w.heap) (hM:a8 M w.heap) {t kt e:TypeId} {ks:List LK} {m ix x:Operand} (ht:P.underlying t=some (.map kt e)) (hkt:hV P kt=some ks)
  (h:o.op=.mapUpdate t m ix x∨o.op=.insert t m ix x) (hs:aD g i (.insF ks m ix x) fr H=some (v,H')):bE P M J H w g i (execOp (Act.eval ⟨tmps,ds⟩) o) v H':=by
 have hx:=aH (ds:=ds) hF x;have hm:=aH (ds:=ds) hF m;have hix:=aH (ds:=ds) hF ix;simp only[aD] at hs;split at hs
 ·rename_i g' i' k em ek
  rw[em] at hm;have hixv:=hix.flat ek;split at hs
  ·rename_i r0 hself
   generalize hcv:Act.eval ⟨tmps,ds⟩ m=cv at hm;generalize hxv:Act.eval ⟨tmps,ds⟩ x=xv at hx
   -- the block,and how it is found
   have go:∀(c:List Int) (n:Nat) (es es':List (List Int×AV)) (l':Loc) (β:Nat) (ces:Array MapEntry) (clock:Nat),rK k=some c→c.length=n→dN c es=none →
     J g' i'=some l'→l'.blk=some β→w.heap[β]?=some (.map ces clock)→es'.Perm es→(es.map (·.1)).Nodup→(∀ x∈es,x.1.length=n)→es'.length=ces.size →
     (∀(j:Nat) x y,es'[j]?=some x→ces[j]?=some y→oW x.1=y.key)→(∀(j:Nat) x y,es'[j]?=some x→ces[j]?=some y→Rep M J x.2 y.val)→(∃ b0,hget H g' i'=some b0∧b0.live=true∧b0.plain=true) →
     bE P M J H w g i (execOp (Act.eval ⟨tmps,ds⟩) o) .undef (aK H g' i' (.umap n (eU c (ev fr x) es))):=by
    intro c n es es' l' β ces clock hu hn hf p1 p2 p3 hp hnd hlen p4 p5 p6 ⟨b0,hb0,hl0,hpl⟩
    cases hm with
    | mref _ _ β' l hJ hb=>
     rw[hJ] at p1
     injection p1 with p1
     subst p1;rw[hb] at p2
     injection p2 with p2
     subst p2;have hk:=xP hu
     have hexec:∀ r,(Instr.mapUpdate t (.map (some β')) (.agg k.toArray) xv).run P w=.ok () r→(execOp (Act.eval ⟨tmps,ds⟩) o).run P w=.ok .skip r:=by
      intro r hr
      rcases h with h | h<;>simp only[execOp,h,hixv,hcv,hxv,Sem.run_bind,hr,Result.andThen_ok,Sem.run_pure]
     have hck:∀ b,(Instr.checkKey b 10000 kt (.agg k.toArray)).run P w=.ok () w:=fun b=>jA w b hkt (A:=k.toArray) (B:=k.toArray) (by simpa using hself)
     have hblt:=bX p3
     have hmf:hG ks k (es'.map fun p=>(oW p.1,p.2))=some none:=by
      have:=uA (ks:=ks) (c:=c) (r:=r0) (by rw[← hk]; exact hself) (es:=es') fun x hx=>by rw[hn]; exact hlen x (hp.mem_iff.1 hx)
      rw[← hk,tN hp hnd,hf] at this;exact this
     have hfa:(Instr.findAsking kt (.agg k.toArray) ces.toList 0).run P w=.ok none w:=by
      rcases lU w hkt k (es'.map fun p=>(oW p.1,p.2)) ces.toList none 0 (by simpa using p4) (fun j x y a b=>by
        rw[List.getElem?_map,Option.map_eq_some_iff] at a;obtain⟨x',a,rfl⟩:=a
        exact p5 j x' y a (by simpa using b)) hmf with⟨_,e2⟩ | ⟨y,j,c,k',e1,_⟩
      ·exact e2
      ·cases e1
     have hrun:(execOp (Act.eval ⟨tmps,ds⟩) o).run P w=.ok .skip { w with heap:=w.heap.setIfInBounds β' (.map (ces.push { key:=.agg k.toArray,val:=xv,born:=clock }) (clock+1)) }:=by
      have hfk:=kA w hkt k hfa;refine hexec _ ?_;simp only[Instr.mapUpdate,Sem.run_bind,run_underlying ht,Result.andThen_ok,MapKept.run_getObj_map p3,hck,hfk,MapKept.run_setObj_map _ p3]
     refine⟨Go.undef,_,J,.inr ⟨hrun,rfl⟩,.undef _,.refl _ _,fun k'=>?_,fun _ _ _=>rfl⟩;refine aS.write k' hH hM g' i' l β' _ hb0 hl0 hJ hb (.map (ces.push { key:=.agg k.toArray,val:=xv,born:=clock }) (clock+1)) _ (fun _=>⟨β',_,_,es'++[(c,ev fr x)],hb,by simp[hblt]; exact⟨rfl,rfl⟩,?_,?_,?_,by simp[p4],?_,?_⟩) ?_ rfl rfl rfl (.inl hpl)
     ·exact(List.perm_append_comm (l₁:=es') (l₂:=[(c,ev fr x)])).trans (((hp.cons (c,ev fr x))).trans (j4 c (ev fr x) es).symm)
     ·refine((j4 c (ev fr x) es).map (·.1)).nodup_iff.2 ?_
      rw[List.map_cons,List.nodup_cons];exact⟨kM hf,hnd⟩
     ·intro y hy
      rcases List.mem_cons.1 ((j4 c (ev fr x) es).mem_iff.1 hy) with rfl | hy
      ·exact hn
      ·exact hlen y hy
     ·intro j a b ha hb'
      rw[List.getElem?_append] at ha;rw[Array.getElem?_push] at hb'
      by_cases hj:j=ces.size
      ·rw[if_pos hj] at hb'
       rw[if_neg (by omega)] at ha
       injection hb' with hb'
       subst hb';rw[show j - es'.length=0 by omega] at ha;simp at ha;subst ha;rw[hk]; rfl
      ·rw[if_neg hj] at hb'
       have:=(Array.getElem?_eq_some_iff.1 hb').1;rw[if_pos (by omega)] at ha;exact p5 j a b ha hb'
     ·intro j a b ha hb'
      rw[List.getElem?_append] at ha;rw[Array.getElem?_push] at hb'
      by_cases hj:j=ces.size
      ·rw[if_pos hj] at hb'
       rw[if_neg (by omega)] at ha
       injection hb' with hb'
       subst hb';rw[show j - es'.length=0 by omega] at ha;simp at ha;subst ha;exact hx
      ·rw[if_neg hj] at hb'
       have:=(Array.getElem?_eq_some_iff.1 hb').1;rw[if_pos (by omega)] at ha;exact p6 j a b ha hb'
     ·rfl
   split at hs
   ·rename_i hg
    split at hs
    ·rename_i c hu
     simp only[oIn,pIn] at hs;obtain⟨rfl,rfl⟩:=hs;obtain⟨l',β,ces,clock,p1,p2,p3,p4,_⟩:=hH.maps hg;have hz:ces=#[]:=Array.eq_empty_of_size_eq_zero (by simpa using p4.symm);subst hz;exact go c c.length [] [] l' β #[] clock hu rfl rfl p1 p2 p3 (.refl _) (by simp) (fun x hx=>by cases hx) rfl (fun j x y a b=>by simp at a) (fun j x y a b=>by simp at a) ⟨_,hg,rfl,rfl⟩
    ·cases hs
   ·rename_i n es hg
    split at hs
    ·rename_i c hu
     split at hs
     ·rename_i hn hf
      simp only[oIn,pIn] at hs;obtain⟨rfl,rfl⟩:=hs;obtain⟨l',β,ces,clock,es',p1,p2,p3,p4,p5,p6,p7,p8,p9⟩:=hH.umaps hg;exact go c n es es' l' β ces clock hu (nEb hn) hf p1 p2 p3 p4 p5 p6 p7 p8 p9 ⟨_,hg,rfl,rfl⟩
     ·cases hs
    ·cases hs
   ·cases hs
  ·cases hs
 ·cases hs
end
end Go.Av
namespace Go.Av
open Go.MapKept
section
variable {P:Program} {M:Mem} {J:Inj} {H:Heap} {w:World} {g i:Nat}
variable {N:Nat} {fr:Fr} {tmps:Array Value} {ds:List Deferred} {o:Oper} {v:AV} {H':Heap}
theorem oP (hF:aU N M J fr tmps) (hH:aN M J H w.heap) (hM:a8 M w.heap) {t u:TypeId} {ks:List LK} {neg:Bool} {x y:Operand} (ht:hV P t=some ks) (hg:P.eqGuardType P.depth t=false)
  (h:o.op=.binOp (if neg then .neq else .eql) t x y u) (hs:aD g i (.xop (.eqAgg neg ks) [x,y]) fr H=some (v,H')):bE P M J H w g i (execOp (Act.eval ⟨tmps,ds⟩) o) v H':=by
 have hx:=aH (ds:=ds) hF x;have hy:=aH (ds:=ds) hF y;simp only[aD,avals,List.map_cons,List.map_nil,mS,dS] at hs;split at hs
 ·rename_i v0 hv
  simp only[oIn,pIn] at hs;obtain⟨rfl,rfl⟩:=hs;split at hv
  ·rename_i xs ys ex ey
   split at hv
   ·rename_i r hr
    injection hv with hv
    subst hv;have hxv:=hx.flat ex;have hyv:=hy.flat ey;have hq:(Op.equalIn 10000 t (.agg xs.toArray) (.agg ys.toArray)).run P w=.ok r w:=iU w ht (by simpa using hr);refine .quiet hH hM (cv:=.bool (neg != r)) ?_ (.sc _)
    cases neg with
    | true=>
     have hgd:=fun x y=>run_eqGuard_agg (P:=P) w .neq t x y xs.toArray ys.toArray hg
     simp only[execOp,h,hxv,hyv,if_true,Sem.run_bind,hgd,Result.andThen_ok,run_neq_struct,hq]
     cases r<;>rfl
    | false=>
     have hgd:=fun x y=>run_eqGuard_agg (P:=P) w .eql t x y xs.toArray ys.toArray hg
     simp only[execOp,h,hxv,hyv,Bool.false_eq_true,if_false,Sem.run_bind,hgd,Result.andThen_ok,run_eql_struct,hq]
     cases r<;>rfl
   ·cases hv
  ·cases hv
 ·cases hs
theorem E0 (hF:aU N M J fr tmps) (hH:aN M J H w.heap) (hM:a8 M w.heap) {neg:Bool} {t u:TypeId} {a b:Array TypeId} {c:Bool} {x:Operand} (ht:P.underlying t=some (.func a b c))
  (h:o.op=.binOp (if neg then .neq else .eql) t x (.const .nilFunc) u) (hs:aD g i (.xop (.eqFn neg) [x]) fr H=some (v,H')):bE P M J H w g i (execOp (Act.eval ⟨tmps,ds⟩) o) v H':=by
 have hx:=aH (ds:=ds) hF x;have hc:Act.eval ⟨tmps,ds⟩ (.const .nilFunc)=.nilFunc:=rfl
 have key1:∀ fn p q,Act.eval ⟨tmps,ds⟩ x=.func fn p q→(execOp (Act.eval ⟨tmps,ds⟩) o).run P w=.ok (.value (.bool neg)) w:=by
  intro fn p q hp
  have hq0:∀ d,(Op.equalIn (d+1) t (.func fn p q) .nilFunc).run P w=.ok false w:=fun d=>by simp[Op.equalIn,run_underlying ht]
  have hq:(Op.equal t (.func fn p q) .nilFunc).run P w=.ok false w:=hq0 9999
  cases neg<;>simp[execOp,h,hp,hc,eqGuard,binOp,hq]
 have key2:Act.eval ⟨tmps,ds⟩ x=.nilFunc→(execOp (Act.eval ⟨tmps,ds⟩) o).run P w=.ok (.value (.bool (!neg))) w:=by
  intro hp
  have hq0:∀ d,(Op.equalIn (d+1) t .nilFunc .nilFunc).run P w=.ok true w:=fun d=>by simp[Op.equalIn,run_underlying ht]
  have hq:(Op.equal t .nilFunc .nilFunc).run P w=.ok true w:=hq0 9999
  cases neg<;>simp[execOp,h,hp,hc,eqGuard,binOp,hq]
 simp only[aD,avals,List.map_cons,List.map_nil] at hs;generalize hcv:Act.eval ⟨tmps,ds⟩ x=cv at hx key1 key2;generalize ev fr x=a0 at hx hs;split at hs
 ·rename_i v0 hv
  simp only[oIn,pIn] at hs;obtain⟨rfl,rfl⟩:=hs
  replace hv:=(show dS _ _=some _ from hv)
  cases hx with
  | clo=>
   simp only[dS,oIn] at hv;subst hv;exact .quiet hH hM (key1 _ _ _ rfl) (.sc _)
  | sc=>
   cases cv<;>first | (simp[dS] at hv; done) | skip
   ·simp only[dS,oIn] at hv
    subst hv;exact .quiet hH hM (key1 _ _ _ rfl) (.sc _)
   ·simp only[dS,oIn] at hv
    subst hv;exact .quiet hH hM (key2 rfl) (.sc _)
  | _=>simp[dS] at hv
 ·cases hs
theorem zP (hF:aU N M J fr tmps) (hH:aN M J H w.heap) (hM:a8 M w.heap) {neg:Bool} {t u:TypeId} {ms:Array (String×TypeId)} {x:Operand} (ht:P.underlying t=some (.interface ms))
  (h:o.op=.binOp (if neg then .neq else .eql) t x (.const .nilIface) u) (hs:aD g i (.xop (.eqIfc neg) [x]) fr H=some (v,H')):bE P M J H w g i (execOp (Act.eval ⟨tmps,ds⟩) o) v H':=by
 have hx:=aH (ds:=ds) hF x;have hc:Act.eval ⟨tmps,ds⟩ (.const .nilIface)=.nilIface:=rfl
 have key1:∀ ty q,Act.eval ⟨tmps,ds⟩ x=.iface ty q→(execOp (Act.eval ⟨tmps,ds⟩) o).run P w=.ok (.value (.bool neg)) w:=by
  intro ty q hp
  have hq0:∀ d,(Op.equalIn (d+1) t (.iface ty q) .nilIface).run P w=.ok false w:=fun d=>by simp[Op.equalIn,run_underlying ht]
  have hq:(Op.equal t (.iface ty q) .nilIface).run P w=.ok false w:=hq0 9999
  cases neg<;>simp[execOp,h,hp,hc,eqGuard,binOp,hq]
 have key2:Act.eval ⟨tmps,ds⟩ x=.nilIface→(execOp (Act.eval ⟨tmps,ds⟩) o).run P w=.ok (.value (.bool (!neg))) w:=by
  intro hp
  have hq0:∀ d,(Op.equalIn (d+1) t .nilIface .nilIface).run P w=.ok true w:=fun d=>by simp[Op.equalIn,run_underlying ht]
  have hq:(Op.equal t .nilIface .nilIface).run P w=.ok true w:=hq0 9999
  cases neg<;>simp[execOp,h,hp,hc,eqGuard,binOp,hq]
 simp only[aD,avals,List.map_cons,List.map_nil] at hs;generalize hcv:Act.eval ⟨tmps,ds⟩ x=cv at hx key1 key2;generalize ev fr x=a0 at hx hs;split at hs
 ·rename_i v0 hv
  simp only[oIn,pIn] at hs;obtain⟨rfl,rfl⟩:=hs
  replace hv:=(show dS _ _=some _ from hv)
  cases hx with
  | ifc=>
   simp only[dS,oIn] at hv;subst hv;exact .quiet hH hM (key1 _ _ rfl) (.sc _)
  | sc=>
   cases cv<;>first | (simp[dS] at hv; done) | skip
   simp only[dS,oIn] at hv;subst hv;exact .quiet hH hM (key2 rfl) (.sc _)
  | _=>simp[dS] at hv
 ·cases hs
theorem QM (hF:aU N M J fr tmps) (hH:aN M J H w.heap) (hM:a8 M w.heap) {src dst:TypeId} {k0:IntKind} {k:FloatKind} {x:Operand} (h1:P.underlying src=some (.int k0)) (h2:P.underlying dst=some (.float k)) (h:o.op=.convert src dst x)
  (hs:aD g i (.xop (.i2f k) [x]) fr H=some (v,H')):bE P M J H w g i (execOp (Act.eval ⟨tmps,ds⟩) o) v H':=by
 have hx:=aH (ds:=ds) hF x;simp only[aD,avals,List.map_cons,List.map_nil] at hs;split at hs
 ·rename_i v0 hv
  simp only[oIn,pIn] at hs;obtain⟨rfl,rfl⟩:=hs
  replace hv:=(show dS _ _=some _ from hv)
  unfold dS at hv
  split at hv<;>first | (cases hv; done) | skip
  all_goals (rename_i e1 e2; first | (cases e1; done) | skip)
  rename_i k1 k2 n
  cases e1
  injection e2 with e2 _
  rw[e2] at hx
  injection hv with hv
  subst hv;refine .quiet hH hM (cv:=.float k (k.nearest n)) ?_ (.sc _);simp[execOp,h,hx.sc_inv,convert,run_underlying h1,run_underlying h2,Conv.intToFloat]
 ·cases hs
theorem GM (hF:aU N M J fr tmps) (hH:aN M J H w.heap) (hM:a8 M w.heap) {t:TypeId} {x ix:Operand} (h1:P.underlying t=some .string) (h:o.op=.index t x ix)
  (hs:aD g i (.xop .idxStr [x,ix]) fr H=some (v,H')):bE P M J H w g i (execOp (Act.eval ⟨tmps,ds⟩) o) v H':=by
 have hx:=aH (ds:=ds) hF x;have hix:=aH (ds:=ds) hF ix;simp only[aD,avals,List.map_cons,List.map_nil] at hs;split at hs
 ·rename_i v0 hv
  simp only[oIn,pIn] at hs;obtain⟨rfl,rfl⟩:=hs
  replace hv:=(show dS _ _=some _ from hv)
  unfold dS at hv
  split at hv<;>first | (cases hv; done) | skip
  all_goals (rename_i e1 e2; first | (cases e1; done) | skip)
  rename_i s k n
  injection e2 with e2 e3
  injection e3 with e3 _
  rw[e2] at hx;rw[e3] at hix;split at hv
  ·rename_i b hb
   injection hv with hv
   subst hv;refine .quiet hH hM (cv:=.int .u8 b.toNat) ?_ (.sc _);have h0:(0:Int)≤Int.ofNat n:=Int.natCast_nonneg n;have htn:(Int.ofNat n).toNat=n:=rfl;simp only[execOp,h,hx.sc_inv,hix.sc_inv,Instr.index,asIntOf,Sem.run_bind,Sem.run_pure,Result.andThen_ok,run_underlying h1,h0,if_true,htn,hb]
  ·cases hv
 ·cases hs
theorem F2 (hF:aU N M J fr tmps) (hH:aN M J H w.heap) (hM:a8 M w.heap) {x:Operand} {t:TypeId} {args:Array Operand} {ts:Array TypeId} (ha:args.toList=[x]) (ht:ts.toList=[t]) (hu:P.underlying t=some .string)
  (h:o.op=.call ⟨.builtin .len,args,ts⟩) (hs:aD g i (.xop .lenStr [x]) fr H=some (v,H')):bE P M J H w g i (execOp (Act.eval ⟨tmps,ds⟩) o) v H':=by
 have hx:=aH (ds:=ds) hF x
 have ha':args=#[x]:=by cases args; simp_all
 have ht':ts=#[t]:=by cases ts; simp_all
 subst ha'; subst ht';simp only[aD,avals,List.map_cons,List.map_nil] at hs;split at hs
 ·rename_i v0 hv
  simp only[oIn,pIn] at hs;obtain⟨rfl,rfl⟩:=hs
  replace hv:=(show dS _ _=some _ from hv)
  unfold dS at hv
  split at hv<;>first | (cases hv; done) | skip
  all_goals (rename_i e1 e2; first | (cases e1; done) | skip)
  rename_i s
  injection e2 with e2 _
  rw[e2] at hx
  injection hv with hv
  subst hv;refine .quiet hH hM (cv:=.int .i64 s.size) ?_ (.sc _);simp[execOp,h,resolve,invoke,builtin,Builtin.len_,run_underlying hu,hx.sc_inv,goInt]
 ·cases hs
def PF (P:Program) (f:FuncId):Option XOp:=
 match P.funcs[f]? with
 | some fn=>match fn.body.isNone && (Extern.findNext fn).isNone with
  | true => match fn.name == "math/bits.Add64" with
   | true=>some .add64
   | false => match fn.name == "math.Float64bits" with
    | true=>some .f64bits
    | false => match fn.name == "math.Float64frombits" with
     | true=>some .f64from
     | false=>none
  | false=>none
 | none=>none
theorem find_of {fn:Func} {n:String} {e:Array Value→Sem Value} (h:fn.name=n) (h1:Extern.allGenericRows.lookup n=none) (h2:Extern.allTypedRows.lookup n=none) (h3:Extern.allRows.lookup n=some e):Extern.find fn=some e:=by
 simp[Extern.find,h,h1,h2,h3]
theorem find_add64 {fn : Func} (h : fn.name = "math/bits.Add64") : Extern.find fn = some add64Entry := find_of h (by kernel_rfl) (by kernel_rfl) (by kernel_rfl)
theorem find_f64bits {fn : Func} (h : fn.name = "math.Float64bits") : Extern.find fn = some Extern.MathFloatBits.float64bits := find_of h (by kernel_rfl) (by kernel_rfl) (by kernel_rfl)
theorem find_f64from {fn : Func} (h : fn.name = "math.Float64frombits") : Extern.find fn = some Extern.MathFloatBits.float64frombits := find_of h (by kernel_rfl) (by kernel_rfl) (by kernel_rfl)
theorem PG (hF:aU N M J fr tmps) (hH:aN M J H w.heap) (hM:a8 M w.heap) {f:FuncId} {args:Array Operand} {ts:Array TypeId} {e:XOp} (hf:PF P f=some e) (h:o.op=.call ⟨.value (.func f),args,ts⟩)
  (hs:aD g i (.xop e args.toList) fr H=some (v,H')):bE P M J H w g i (execOp (Act.eval ⟨tmps,ds⟩) o) v H':=by
 obtain⟨h1,h2⟩:=dV (ds:=ds) hF args.toList _ rfl args rfl;unfold PF at hf;split at hf
 ·rename_i fn hfn
  split at hf
  ·rename_i hb
   simp only[bAe] at hb
   have hn:Extern.findNext fn=none:=by simpa using hb.2
   have hexec:∀ r,(callFunc f (args.map (Act.eval ⟨tmps,ds⟩))).run P w=r→(execOp (Act.eval ⟨tmps,ds⟩) o).run P w=r:=by
    intro r hr;have he:Act.eval ⟨tmps,ds⟩ (.func f)=.func (.func f) #[] #[]:=rfl;simp only[execOp,h,resolve,he,Deferred.ofValue,Sem.run_bind,Sem.run_pure,Result.andThen_ok,invoke];rw[show #[]++args.map (Act.eval ⟨tmps,ds⟩)++#[]=args.map (Act.eval ⟨tmps,ds⟩) by simp];exact hr
   simp only[aD] at hs;split at hs
   ·rename_i v0 hv
    simp only[oIn,pIn] at hs;obtain⟨rfl,rfl⟩:=hs;generalize hcargs:args.map (Act.eval ⟨tmps,ds⟩)=cargs at h1 h2 hexec;generalize avals fr args.toList=as at h1 h2 hv;split at hf
    ·rename_i hname
     have hname : fn.name = "math/bits.Add64" := by simpa using hname
     injection hf with hf
     subst hf
     replace hv:=(show dS _ _=some _ from hv)
     unfold dS at hv
     split at hv<;>first | (cases hv; done) | skip
     all_goals (rename_i e1; first | (cases e1; done) | skip)
     rename_i x y c;split at hv
     ·rename_i hc
      injection hv with hv
      subst hv;obtain⟨l⟩:=cargs
      match l,h1,h2,hexec with
      | [a1,a2,a3],h1,h2,hexec=>
       have q1:=(h2 0 _ _ rfl rfl).sc_inv;have q2:=(h2 1 _ _ rfl rfl).sc_inv;have q3:=(h2 2 _ _ rfl rfl).sc_inv;subst q1; subst q2; subst q3;refine .quiet hH hM (cv:=.tuple #[.int .u64 (Int.ofNat ((x+y+c) % 18446744073709551616)),.int .u64 (Int.ofNat ((x+y+c) / 18446744073709551616))]) (hexec _ ?_) ?_
       ·rw[run_callFunc_extern hfn (by rw[hname]; rfl) hb.1 hn (find_add64 hname)]
        have:=run_add64 (P:=P) (Int.ofNat x) (Int.ofNat y) (Int.ofNat c) (Int.natCast_nonneg _) (Int.natCast_nonneg _) (Int.natCast_nonneg _) (by have:=nlB hc; simp; omega) w;rw[this];simp only[Result.andThen];congr 3
       ·refine .tup _ _ rfl fun j c y hc hy=>?_
        cases j with
        | zero=>simp at hc hy; subst hc; subst hy; exact .sc _
        | succ j=>
         cases j with
         | zero=>simp at hc hy; subst hc; subst hy; exact .sc _
         | succ j=>simp at hc
     ·cases hv
    ·split at hf
     ·rename_i hname
      have hname : fn.name = "math.Float64bits" := by simpa using hname
      injection hf with hf
      subst hf
      replace hv:=(show dS _ _=some _ from hv)
      unfold dS at hv
      split at hv<;>first | (cases hv; done) | skip
      all_goals (rename_i e1; first | (cases e1; done) | skip)
      rename_i b
      injection hv with hv
      subst hv;obtain⟨l⟩:=cargs
      match l,h1,h2,hexec with
      | [a1],h1,h2,hexec=>
       have q1:=(h2 0 _ _ rfl rfl).sc_inv;subst q1;refine .quiet hH hM (cv:=.int .u64 b) (hexec _ ?_) (.sc _);rw[run_callFunc_extern hfn (by rw[hname]; rfl) hb.1 hn (find_f64bits hname)];rfl
     ·split at hf
      ·rename_i hname
       have hname : fn.name = "math.Float64frombits" := by simpa using hname
       injection hf with hf
       subst hf
       replace hv:=(show dS _ _=some _ from hv)
       unfold dS at hv
       split at hv<;>first | (cases hv; done) | skip
       all_goals (rename_i e1; first | (cases e1; done) | skip)
       rename_i n
       injection hv with hv
       subst hv;obtain⟨l⟩:=cargs
       match l,h1,h2,hexec with
       | [a1],h1,h2,hexec=>
        have q1:=(h2 0 _ _ rfl rfl).sc_inv;subst q1;refine .quiet hH hM (cv:=.float .f64 n.toNat) (hexec _ ?_) (.sc _);rw[run_callFunc_extern hfn (by rw[hname]; rfl) hb.1 hn (find_f64from hname)];rfl
      ·cases hf
   ·cases hs
  ·cases hf
 ·cases hf
theorem I1 (hF:aU N M J fr tmps) (hH:aN M J H w.heap) (hM:a8 M w.heap) {t kt e:TypeId} {z:AV} {ks:List LK} {x ix:Operand} {ok:Bool} (ht:P.underlying t=some (.map kt e)) (hkt:hV P kt=some ks)
  (hz:GQ P e=some z) (h:o.op=.lookup t x ix ok) (hs:aD g i (.xop (.lookF ks z ok) [x,ix]) fr H=some (v,H')):bE P M J H w g i (execOp (Act.eval ⟨tmps,ds⟩) o) v H':=by
 have hx:=aH (ds:=ds) hF x;have hix:=aH (ds:=ds) hF ix;obtain⟨zv,hzrun,hzrep⟩:=zO (M:=M) (J:=J) hz w;simp only[aD,avals,List.map_cons,List.map_nil,mS] at hs
 cases ek:jO (ev fr ix) with
 | none=>rw[ek] at hs; cases hs
 | some k=>
  simp only[ek] at hs;have hixv:=hix.flat ek
  cases eself:cF ks k k with
  | none=>simp only[eself] at hs; cases hs
  | some r0=>
   simp only[eself] at hs;generalize hcv:Act.eval ⟨tmps,ds⟩ x=cv at hx
   -- what the search finds,and that the operation gives it
   have key:∀(res:Option AV),(∃(ces:Array MapEntry) (found:Option (Nat×Value)),((cv=.map none∧ces=#[])∨∃ r clock,cv=.map (some r)∧w.heap[r]?=some (.map ces clock)) ∧
      (Instr.findAsking kt (.agg k.toArray) ces.toList 0).run P w=.ok found w ∧
      (match res,found with | none,none=>True | some y,some (_,u)=>Rep M J y u | _,_=>False)) →
     lM z ok H (some res)=some (v,H')→bE P M J H w g i (execOp (Act.eval ⟨tmps,ds⟩) o) v H':=by
    rintro res ⟨ces,found,h1,h2,h3⟩ hs
    have hck:∀ b,(Instr.checkKey b 10000 kt (.agg k.toArray)).run P w=.ok () w:=fun b=>jA w b hkt (A:=k.toArray) (B:=k.toArray) (by simpa using eself)
    have hfk:=kA w hkt k h2
    have pair:∀(a:AV) (u:Value) (b:Bool),Rep M J a u→Rep M J (.tup [a,.sc (.bool b)]) (.tuple #[u,.bool b]):=by
     intro a u b hr
     refine .tup _ _ rfl fun j c y hc hy=>?_
     cases j with
     | zero=>simp at hc hy; subst hc; subst hy; exact hr
     | succ j=>
      cases j with
      | zero=>simp at hc hy; subst hc; subst hy; exact .sc _
      | succ j=>simp at hc
    have hexec:∀ u b,(match found with | some (_,v)=>u=v∧b=true | none=>u=zv∧b=false) →
      (execOp (Act.eval ⟨tmps,ds⟩) o).run P w=.ok (.value (if ok then .tuple #[u,.bool b] else u)) w:=by
     intro u b hub
     rcases h1 with⟨rfl,rfl⟩ | ⟨r,clock,rfl,hr⟩
     ·simp only[execOp,h,hixv,hcv,Instr.lookup,Sem.run_bind,run_underlying ht,Result.andThen_ok,Sem.run_pure,hck,hfk]
      cases found with
      | none=>obtain⟨rfl,rfl⟩:=hub; simp[hzrun]
      | some p=>obtain⟨rfl,rfl⟩:=hub; simp
     ·simp only[execOp,h,hixv,hcv,Instr.lookup,Sem.run_bind,run_underlying ht,Result.andThen_ok,Sem.run_pure,MapKept.run_getObj_map hr,hck,hfk]
      cases found with
      | none=>obtain⟨rfl,rfl⟩:=hub; simp[hzrun]
      | some p=>obtain⟨rfl,rfl⟩:=hub; simp
    cases res with
    | none=>
     cases found with
     | some p=>exact h3.elim
     | none=>
      have hr:=hexec zv false ⟨rfl,rfl⟩
      cases ok with
      | true=>
       simp only[lM,oIn,pIn] at hs;obtain⟨rfl,rfl⟩:=hs;exact .quiet hH hM hr (pair z zv false hzrep)
      | false=>
       simp only[lM,oIn,pIn] at hs;obtain⟨rfl,rfl⟩:=hs;exact .quiet hH hM hr hzrep
    | some y=>
     cases found with
     | none=>exact h3.elim
     | some p=>
      have hr:=hexec p.2 true ⟨rfl,rfl⟩
      cases ok with
      | true=>
       simp only[lM,oIn,pIn] at hs;obtain⟨rfl,rfl⟩:=hs;exact .quiet hH hM hr (pair y p.2 true h3)
      | false=>
       simp only[lM,oIn,pIn] at hs;obtain⟨rfl,rfl⟩:=hs;exact .quiet hH hM hr h3
   have found:∀(es:List (Value×AV)) (ces:Array MapEntry) (res:Option AV),es.length=ces.size→(∀(j:Nat) x y,es[j]?=some x→ces[j]?=some y→x.1=y.key) →
     (∀(j:Nat) x y,es[j]?=some x→ces[j]?=some y→Rep M J x.2 y.val)→hG ks k es=some res →
     ∃ found,(Instr.findAsking kt (.agg k.toArray) ces.toList 0).run P w=.ok found w∧(match res,found with | none,none=>True | some y,some (_,u)=>Rep M J y u | _,_=>False):=by
    intro es ces res h1 h2 h3 h4
    rcases lU w hkt k es ces.toList res 0 (by simpa using h1) (fun j x y a b=>h2 j x y a (by simpa using b)) h4 with⟨e1,e2⟩ | ⟨y,j,c,k',e1,e2,e3,e4,_,e5,_⟩
    ·subst e1; exact⟨none,e2,trivial⟩
    ·subst e1
     exact⟨_,e5,h3 j _ c e2 (by simpa using e3)⟩
   cases hfd:qE H ks k (ev fr x) with
   | none=>simp only[hfd] at hs; cases hs
   | some res=>
    rw[hfd] at hs
    have hs:lM z ok H (some res)=some (v,H'):=by
     cases res<;>cases ok<;>exact hs
    refine key res ?_ hs;unfold qE at hfd;split at hfd
    ·rename_i es ea
     rw[ea] at hx
     cases hx with
     | tmap _ β clock ces hMb _ hl hk' hr=>
      obtain⟨f,hf1,hf2⟩:=found es ces res hl hk' hr hfd;exact⟨ces,f,.inr ⟨_,_,rfl,hM _ _ hMb⟩,hf1,hf2⟩
    ·rename_i g' i' ea
     rw[ea] at hx;split at hfd
     ·rename_i es hg
      cases hx with
      | mref _ _ β l hJ hb=>
       obtain⟨l',β',ces,clock,p1,p2,p3,p4,p5,p6,_⟩:=hH.maps hg;rw[hJ] at p1
       injection p1 with p1
       subst p1;rw[hb] at p2
       injection p2 with p2
       subst p2;obtain⟨f,hf1,hf2⟩:=found es ces res p4 p5 p6 hfd;exact⟨ces,f,.inr ⟨_,_,rfl,p3⟩,hf1,hf2⟩
     ·rename_i n es hg
      split at hfd
      ·rename_i c hu
       split at hfd
       ·rename_i hn
        injection hfd with hfd
        cases hx with
        | mref _ _ β l hJ hb=>
         obtain⟨l',β',ces,clock,es',p1,p2,p3,p4,p5,p6,p7,p8,p9⟩:=hH.umaps hg;rw[hJ] at p1
         injection p1 with p1
         subst p1;rw[hb] at p2
         injection p2 with p2
         subst p2;have hkc:=xP hu
         have hmf:hG ks k (es'.map fun p=>(oW p.1,p.2))=some res:=by
          have:=uA (ks:=ks) (c:=c) (r:=r0) (by rw[← hkc]; exact eself) (es:=es') fun x hx=>by rw[nEb hn]; exact p6 x (p4.mem_iff.1 hx)
          rw[← hkc,tN p4 p5,hfd] at this;exact this
         obtain⟨f,hf1,hf2⟩:=found (es'.map fun p=>(oW p.1,p.2)) ces res (by simpa using p7) (fun j x y a b=>by
          rw[List.getElem?_map,Option.map_eq_some_iff] at a;obtain⟨x',a,rfl⟩:=a
          exact p8 j x' y a b) (fun j x y a b=>by
          rw[List.getElem?_map,Option.map_eq_some_iff] at a;obtain⟨x',a,rfl⟩:=a
          exact p9 j x' y a b) hmf
         exact⟨ces,f,.inr ⟨_,_,rfl,p3⟩,hf1,hf2⟩
       ·cases hfd
      ·cases hfd
     ·cases hfd
    ·rename_i ea
     rw[ea] at hx
     cases hx
     injection hfd with hfd
     subst hfd;exact⟨#[],none,.inl ⟨rfl,rfl⟩,by simp[Instr.findAsking],trivial⟩
    ·cases hfd
theorem zN (w:World):∀(l:List Value) (bs:List UInt8) (s:ByteArray),(∀(j:Nat) v,l[j]?=some v→∃ n,v=.int .u8 n∧bs[j]?=some (UInt8.ofNat n.toNat))→l.length=bs.length →
  (do
   let mut s:=s
   for c in l do
    let .int .u8 n := c | stuck "bytesToString: byte expected"
    s:=s.push (UInt8.ofNat n.toNat)
   pure (Value.string s):Sem Value).run P w=.ok (.string (fS s bs)) w
 | [],[],s,_,_=>by simp[fS]
 | [],_::_,_,_,h=>by simp at h
 | _::_,[],_,_,h=>by simp at h
 | v::l,b::bs,s,h,hl=>by
  obtain⟨n,rfl,hb⟩:=h 0 v rfl;simp only[List.getElem?_cons_zero,oIn] at hb;subst hb;have ih:=zN w l bs (s.push (UInt8.ofNat n.toNat)) (fun j v hv=>h (j+1) v (by simpa using hv)) (by simpa using hl);simp only[List.forIn_cons,fS,Sem.run_bind,Sem.run_pure,Result.andThen_ok] at ih ⊢;exact ih
theorem n7:∀ {rows:List (List AV)} {bs:List UInt8},bytesOf rows=some bs→rows.length=bs.length∧∀(j:Nat) r,rows[j]?=some r→∃ n,r=[.sc (.int .u8 n)]∧bs[j]?=some (UInt8.ofNat n.toNat)
 | [],bs,h=>by
  injection h with h
  subst h;exact⟨rfl,fun j r hr=>by simp at hr⟩
 | r::rows,bs,h=>by
  unfold bytesOf at h;split at h
  ·rename_i e
   cases e
  ·rename_i n r' e
   injection e with e1 e2
   subst e1; subst e2;split at h
   ·rename_i l hl
    injection h with h
    subst h;obtain⟨h1,h2⟩:=n7 hl;refine⟨by simp[h1],fun j r hr=>?_⟩
    cases j with
    | zero=>simp at hr; subst hr; exact⟨n,rfl,rfl⟩
    | succ j=>simpa using h2 j r (by simpa using hr)
   ·cases h
  ·cases h
theorem LA (hF:aU N M J fr tmps) (hH:aN M J H w.heap) (hM:a8 M w.heap) {src dst e:TypeId} {x:Operand} (h1:P.underlying src=some (.slice e)) (h2:P.underlying dst=some .string) (h3:P.underlying e=some (.int .u8)) (h:o.op=.convert src dst x)
  (hs:aD g i (.xop .bstr [x]) fr H=some (v,H')):bE P M J H w g i (execOp (Act.eval ⟨tmps,ds⟩) o) v H':=by
 have hx:=aH (ds:=ds) hF x;simp only[aD,avals,List.map_cons,List.map_nil] at hs;split at hs
 ·rename_i v0 hv
  simp only[oIn,pIn] at hs;obtain⟨rfl,rfl⟩:=hs;simp only[mS] at hv;split at hv
  ·rename_i rows hrows
   split at hv
   ·rename_i bs hbs
    injection hv with hv
    subst hv;refine .quiet hH hM (cv:=.string (fS .empty bs)) ?_ (.sc _);generalize hcv:Act.eval ⟨tmps,ds⟩ x=cv at hx
    have hexec:(Conv.bytesToString cv).run P w=.ok (.string (fS .empty bs)) w→(∃ a m c,cv=.slice a m c)→(execOp (Act.eval ⟨tmps,ds⟩) o).run P w=.ok (.value (.string (fS .empty bs))) w:=by
     rintro hr ⟨a,m,c,rfl⟩
     cases a<;>simp[execOp,h,hcv,convert,run_underlying h1,run_underlying h2,run_underlying h3,hr]
    obtain⟨hl,hb⟩:=n7 hbs;unfold d9 at hrows;split at hrows
    ·rename_i ea
     injection hrows with hrows
     injection hrows with _ hrows
     subst hrows;rw[ea] at hx
     cases hx
     have:bs=[]:=List.eq_nil_of_length_eq_zero hl.symm;subst this;exact hexec (by simp[Conv.bytesToString,fS]) ⟨_,_,_,rfl⟩
    ·obtain⟨b,m,c,rfl,hm,hrl,news,hnl,_,hrep,hrun⟩:=oD (P:=P) hH hM hx hrows
     refine hexec ?_ ⟨_,_,_,rfl⟩;have hrun:=hrun w rfl
     have hall:∀(j:Nat) v,news[j]?=some v→∃ n,v=.int .u8 n∧bs[j]?=some (UInt8.ofNat n.toNat):=by
      intro j v hv
      have hj:j < rows.length:=by have:=(gEs.1 hv).1; omega
      obtain⟨n,hr,hbj⟩:=hb j _ (gEg hj);have:=hrep j _ 0 (.sc (.int .u8 n)) v (gEg hj) (by rw[hr]; rfl) (by simpa using hv);exact⟨n,this.sc_inv,hbj⟩
     cases b with
     | none=>
      simp only[Builtin.firstCells,Sem.run_pure,Result.ok.injEq,and_true] at hrun
      have hn:news=[]:=by simpa using hrun.symm
      subst hn;have:bs=[]:=List.eq_nil_of_length_eq_zero (by rw[← hl,← hm]; simpa using hnl.symm);subst this;simp[Conv.bytesToString,fS]
     | some a=>
      simp only[Builtin.firstCells,Nat.mul_one] at hrun;have:=zN (P:=P) w news bs .empty hall (by omega);simp only[Conv.bytesToString,Sem.run_bind,hrun,Result.andThen_ok];rw[← Array.forIn_toList];have t:=this;simp at t ⊢;exact t
   ·cases hv
  ·cases hv
 ·cases hs
end
end Go.Av
