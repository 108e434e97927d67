import Derived.Test.YtgdocflpobncmaaGreatGAvK3
import Derived.Below
import Derived.ChangeSame
import Derived.ProofKit
import Derived.OpenShut
import Derived.ReadAgain
import Derived.JoinedOf
import Derived.ChangeCalls
import Derived.Test.YtgdocflpobncmaaGreatGAvK
namespace Go.Av
open Go.RowKit Go.WideShapes Go.ChangeShapes Go.ChangeAt
inductive Sh where
 | int (k:IntKind)
 | bool
 | str
 | float (k:FloatKind)
 | slice (row:List Sh)
 | any
inductive Fit:Sh→AV→Prop
 | int (k:IntKind) (n:Int) (h:(Lit.int k n).wf=true):Fit (.int k) (.sc (.int k n))
 | bool (b:Bool):Fit .bool (.sc (.bool b))
 | str (s:ByteArray) (h:s.size≤maxLen):Fit .str (.sc (.string s))
 | float (k:FloatKind) (b:Nat) (h:(Lit.float k b).wf=true):Fit (.float k) (.sc (.float k b))
 | slice (row:List Sh) (rows:List (List AV)) (hl:rows.length≤maxLen) (hr:∀ r∈rows,r.length=row.length) (h:∀ r∈rows,∀(j:Nat) s c,row[j]?=some s→r[j]?=some c→Fit s c):Fit (.slice row) (.list row.length rows)
 | any:Fit .any .one
theorem Fit.pure {s:Sh} {a:AV} (h:Fit s a):aZ a:=by
 induction h with
 | int=>exact .sc _
 | bool=>exact .sc _
 | str=>exact .sc _
 | float=>exact .sc _
 | any=>exact .one
 | slice row rows hl hr _ ih=>
  refine .list _ _ fun r hrm c hc=>?_
  obtain⟨j,hj⟩:=List.getElem?_of_mem hc;have hlt:=(gEs.1 hj).1
  have:j < row.length:=by rw[← hr r hrm]; exact hlt
  exact ih r hrm j row[j] c (gEg this) hj
def z8 (r:List Sh):Nat→List Sh
 | 0=>[]
 | n+1=>r++z8 r n
def kX (w:World):Mem:=fun β=>w.heap[β]?
def noJ:Inj:=fun _ _=>none
theorem E9 (w:World):a8 (kX w) w.heap:=fun _ _ h=>h
theorem MD (M:Mem) (h:Array Obj):aN M noJ [] h:=
 ⟨fun g i x hx=>(by simp[hget] at hx),fun g i g' i' l l' β _ _ hJ=>(by cases hJ),fun g i l β _ hJ=>(by cases hJ),fun g i l hJ=>(by cases hJ)⟩
theorem qQ {α:Type} (p:Nat→α→Prop):∀(n:Nat),(∀ i,i < n→∃ a,p i a)→∃ l:List α,l.length=n∧∀(i:Nat) a,l[i]?=some a→p i a
 | 0,_=>⟨[],rfl,fun i a h=>by simp at h⟩
 | n+1,h=>by
  obtain⟨l,h1,h2⟩:=qQ p n fun i hi=>h i (by omega)
  obtain⟨a,ha⟩:=h n (by omega);refine⟨l++[a],by simp[h1],fun i b hb=>?_⟩;rw[List.getElem?_append] at hb;split at hb
  ·exact h2 i b hb
  ·have:i=n:=by
    have:=(gEs.1 hb).1;simp at this;omega
   subst this;rw[h1,Nat.sub_self] at hb;simp at hb;subst hb;exact ha
section
variable {H:Type} {enc:TypeId×Value→H} {P:Program} {w:World}
def gP (w:World) (row:List Sh) (cs:List Value):Prop:=
 cs.length=row.length∧∃ avs:List AV,avs.length=row.length∧(∀(j:Nat) s c,row[j]?=some s→avs[j]?=some c→Fit s c)∧∀(j:Nat) c v,avs[j]?=some c→cs[j]?=some v→Rep (kX w) noJ c v∧v.oneCell'=true
theorem gP.one {s:Sh} {v:Value} {a:AV} (hf:Fit s a) (hr:Rep (kX w) noJ a v) (h1:v.oneCell'=true):gP w [s] [v]:=by
 refine⟨rfl,[a],rfl,fun j s' c h h'=>?_,fun j c u h h'=>?_⟩
 ·cases j with
  | zero=>simp at h h'; subst h; subst h'; exact hf
  | succ j=>simp at h
 ·cases j with
  | zero=>simp at h h'; subst h; subst h'; exact⟨hr,h1⟩
  | succ j=>simp at h
theorem gP.append {r q:List Sh} {a b:List Value} (h1:gP w r a) (h2:gP w q b):gP w (r++q) (a++b):=by
 obtain⟨l1,x,e1,f1,g1⟩:=h1;obtain⟨l2,y,e2,f2,g2⟩:=h2;refine⟨by simp[l1,l2],x++y,by simp[e1,e2],fun j s c h h'=>?_,fun j c v h h'=>?_⟩
 ·rw[List.getElem?_append] at h h'
  rw[e1] at h';split at h
  ·rename_i hj; rw[if_pos hj] at h'; exact f1 j s c h h'
  ·rename_i hj; rw[if_neg hj] at h'; exact f2 _ s c h h'
 ·rw[List.getElem?_append] at h h'
  rw[e1,← l1] at h;split at h
  ·rename_i hj; rw[if_pos hj] at h'; exact g1 j c v h h'
  ·rename_i hj; rw[if_neg hj] at h'; exact g2 _ c v h h'
theorem uN {a:Addr} {v:Value} (h:w.cell? a=some v):∃ cs e fr,w.heap[a.block]?=some (.cells cs e fr)∧a.spot=none∧cs[a.off]?=some v:=by
 unfold World.cell? at h;split at h
 ·rename_i c e fr hb
  split at h
  ·cases h
  ·rename_i hs
   exact⟨c,e,fr,hb,by simpa using hs,h⟩
 ·cases h
theorem gP.rep {r:List Sh}:∀(n off:Nat) (cs:List Value),cs.length=off+n * r.length→(∀ i,i < n→gP w r ((cs.drop (off+i * r.length)).take r.length))→gP w (z8 r n) (cs.drop off)
 | 0,off,cs,hl,_=>⟨by simp at hl ⊢; simp[z8]; omega,[],rfl,fun j s c h=>by simp[z8] at h,fun j c v h=>by simp at h⟩
 | n+1,off,cs,hl,h=>by
  have h0:=h 0 (by omega);rw[Nat.zero_mul,Nat.add_zero] at h0
  have h1:=gP.rep (r:=r) n (off+r.length) cs (by rw[hl,Nat.succ_mul]; omega) fun i hi=>by
   have:=h (i+1) (by omega)
   rwa[Nat.succ_mul,Nat.add_comm (i * r.length) r.length,← Nat.add_assoc] at this
  have:=h0.append h1;rw[← List.drop_drop,List.take_append_drop] at this;exact this
theorem Below.same {W W':World} (h:∀(β:Nat) o,W.heap[β]?=some o→W'.heap[β]?=some o) (ho:W'.os=W.os) (ht:W'.tape=W.tape) (hu:W'.output=W.output) (hz:W.heap.size≤W'.heap.size):Below W.heap.size W W':=
 ⟨ho,ht,hu,hz,fun k hk=>by rw[Array.getElem?_eq_getElem hk]; exact h k _ (Array.getElem?_eq_getElem hk)⟩
end
end Go.Av
namespace Go.Av
open Go.RowKit Go.WideShapes Go.ChangeShapes Go.ChangeAt
section
variable {H:Type} {enc:TypeId×Value→H} {P:Program}
theorem mQ {w w':World}:∀ {ts:List TypeId} {vs:List Value} {ds:List (DataW H)} {ps:List MemPlace},DataW.TrodAll enc P w 0 (fun _=>true) true ts vs ds ps→(∀ p∈ps,w.sameAt w' p)→DataW.TrodAll enc P w' 0 (fun _=>true) true ts vs ds ps
 | [],[],[],_,h,_=>h
 | t::ts,v::vs,d::ds,ps,⟨p,q,⟨fuel,h1⟩,h2,e⟩,hs=>by
  subst e;exact⟨p,q,⟨fuel,DataW.trod_carry fuel t _ _ h1 fun x hx=>hs x (List.mem_append_left _ hx)⟩,mQ h2 fun x hx=>hs x (List.mem_append_right _ hx),rfl⟩
theorem uU {f:Func} {s:ChangeSpec} {W W':World} {args:Array Value} {ds gs:List (DataW H)} {before:List MemPlace} {tb:TypeId}
  (hW:DataW.Whole enc P f.params.toList s.vars false W args.toList ds gs before) (hvars:s.vars=[])
  (hl:laidOutB P=true) (hm:mapsRowed P=true) (hz:∀ t e,t < P.types.size→P.underlying t=some (.slice e)→0 < P.cellsOf e) (hts:∀ t∈f.params.toList,t < P.types.size)
  (hr:f.resultTypes=#[tb]) (htb:P.underlying tb=some .bool) (hres:(s.fn H (ds++gs)).results=[.lit (.bool true)]) (hargs:(s.fn H (ds++gs)).args=ds) (hv:(s.fn H (ds++gs)).vars=[]) (hb:Below W.heap.size W W'):
  s.post enc P f false true false false W args (.bool true) W':=by
 have hlt:∀ p∈before,p.block < W.heap.size:=fun p hp=>hW.lt p hp
 have hold:∀ p∈before,(fun b=>decide (b < W.heap.size)) p.block=true:=fun p hp=>by simpa using hlt p hp
 obtain⟨p,q,h1,h2,e,hzf,hn⟩:=hW
 have hq:gs=[]∧q=[]:=by
  rw[hvars] at h2
  cases gs with
  | nil=>exact⟨rfl,h2⟩
  | cons=>exact h2.elim
 obtain⟨rfl,rfl⟩:=hq;rw[List.append_nil] at e;subst e
 have hsame:∀ p∈before,W.sameAt W' p:=fun p hp=>by
  cases p with
  | cell b off=>exact hb.cell (p:=⟨b,off,none⟩) (hlt _ hp)
  | map b=>exact hb.block b (hlt _ hp)
 have hc:=mQ h1 hsame
 have hcs:∀ sp:Nat→Bool,(∀ p∈before,sp p.block=true)→DataW.TrodAll enc P W' 0 sp true f.params.toList args.toList (s.fn H (ds++[])).args before:=fun sp hsp=>by
  rw[hargs];exact DataW.TrodAll.respare (kids_rows hl hm) hz hts hc hsp
 have hvs:∀ sp:Nat→Bool,DataW.TrodVars enc P W' sp s.vars (s.fn H (ds++[])).vars []:=fun sp=>by
  rw[hvars,hv];rfl
 have hrs:∀(b:Nat) (sp:Nat→Bool) (hd:Bool),DataW.TrodAll enc P W' b sp hd f.resultTypes.toList ((Value.bool true).resultList f.resultTypes.size) (s.fn H (ds++[])).results []:=fun b sp hd=>by
  rw[hres,hr];exact trodAll_mk1 (shut_bool htb true)
 refine⟨ds,[],before,[],before,[],⟨before,[],h1,h2,by simp,hzf,hn⟩,hrs _ _ _,hcs _ hold,hvs _,World.keptBut_mono (fun p hp=>⟨hp,.inr (.inl hp)⟩) (hb.frame (·∈before)),fun _=>?_⟩;refine⟨ok_one hr rfl (okWide_bool_mk htb true),_,_,([]++before)++[],⟨[]++before,[],trodAll_append (hcs _ (fun _ _=>rfl)) (hrs _ _ _),hvs _,rfl,?_,?_⟩,?_⟩
 ·intro b off hp
  have hin:MemPlace.cell b off∈before:=by simpa using hp
  rw[hb.frozen (hlt _ hin)];exact hzf b off hin
 ·intro ha
  cases ha
 ·intro p hp _
  simpa using hp
end
end Go.Av
namespace Go.Av
theorem eA {a:AV} (h:Fit (.int .i64) a):∃ n:Int,a=.sc (.int .i64 n)∧-9223372036854775808≤n∧n≤9223372036854775807:=by
 cases h with
 | int k n h=>
  have e1:IntKind.i64.min=-9223372036854775808:=rfl;have e2:IntKind.i64.max=9223372036854775807:=rfl;simp only[Lit.wf,bAe,decide_eq_true_eq,e1,e2] at h;exact⟨n,rfl,h.1,h.2⟩
theorem C8 {a:AV} (h:Fit (.int .u8) a):∃ n:Nat,a=.sc (.int .u8 n)∧n≤255:=by
 cases h with
 | int k n h=>
  have e1:IntKind.u8.min=0:=rfl;have e2:IntKind.u8.max=255:=rfl;simp only[Lit.wf,bAe,decide_eq_true_eq,e1,e2] at h;obtain⟨m,rfl⟩:=Int.eq_ofNat_of_zero_le h.1;exact⟨m,rfl,by omega⟩
theorem BM {a:AV} (h:Fit .bool a):∃ b:Bool,a=.sc (.bool b):=by
 cases h with
 | bool b=>exact⟨b,rfl⟩
end Go.Av
namespace Go.Av
end Go.Av
namespace Go.Av
theorem Ren.weaken {ρ ρ':Nat→Nat→Option (Nat×Nat)} {a b:AV} (h:Ren ρ a b) (hw:∀ g i p,ρ g i=some p→ρ' g i=some p):Ren ρ' a b:=by
 induction h with
 | undef a=>exact .undef a
 | sc v=>exact .sc v
 | agg xs ys hl _ ih=>exact .agg xs ys hl ih
 | tup xs ys hl _ ih=>exact .tup xs ys hl ih
 | list sz rows rows' hl hr _ ih=>exact .list sz rows rows' hl hr ih
 | cptr xs ys hl _ ih=>exact .cptr xs ys hl ih
 | tmap es es' hl hk _ ih=>exact .tmap es es' hl hk ih
 | ptr g i g' i' row off h=>exact .ptr g i g' i' row off (hw _ _ _ h)
 | hsl g i g' i' start len h=>exact .hsl g i g' i' start len (hw _ _ _ h)
 | mref g i g' i' h=>exact .mref g i g' i' (hw _ _ _ h)
 | clo fn fs cs fs' cs' h1 h2 _ _ ih1 ih2=>exact .clo fn fs cs fs' cs' h1 h2 ih1 ih2
 | yld g i g' i' h=>exact .yld g i g' i' (hw _ _ _ h)
 | asl g i g' i' row off len h=>exact .asl g i g' i' row off len (hw _ _ _ h)
 | ifc t a b _ ih=>exact .ifc t a b ih
 | one=>exact .one
theorem eY.weaken {ρ ρ':Nat→Nat→Option (Nat×Nat)} {x y:Blk} (h:eY ρ x y) (hw:∀ g i p,ρ g i=some p→ρ' g i=some p):eY ρ' x y:=by
 cases h with
 | dead=>exact .dead _
 | cells sz rows rows' hl hr h=>exact .cells sz rows rows' hl hr fun i r r' j x y a b c d=>(h i r r' j x y a b c d).weaken hw
 | map es es' hl hk h=>exact .map es es' hl hk fun j x y a b=>(h j x y a b).weaken hw
 | lp L caps caps' st pe h=>exact .lp L caps caps' st pe fun x hx=>(h x hx).weaken hw
 | it cur es h hc=>exact .it cur es h hc
theorem DK.gs {P:Program} {base j:Nat} {xs:List IOper} {fr:Fr} {H:Heap} {acc:List bD} {K:List bD→Fr→Heap→Prop} {c:Bool} (h1:c=true→DK P base j xs fr H acc K) (h2:c=false→DK P base j xs fr H acc K):DK P base j xs fr H acc K:=by
 cases c with
 | true=>exact h1 rfl
 | false=>exact h2 rfl
theorem Reg.cv {P:Program} {N k:Nat} {xs:List IOper} {fr:Fr} {H:Heap} {K:Fr→Heap→Prop} {d:Nat} {gd:Option (Nat×Bool)} {f:Cal} {args:List Operand} {g:FuncId} {fs cs:List AV} (hk:k≤H.length) (hg:gok fr gd=some true) (hf:evC P fr f=.clo (.func g) fs cs)
  (h:aE P g (fs++avals fr args++cs) H fun res H'=>Reg P N k xs ((d,res)::fr) H' K):Reg P N k (⟨some d,gd,.callV f args⟩::xs) fr H K:=
 Reg.callV (x:=⟨some d,gd,.callV f args⟩) hk hg rfl hf h
def fam (n:Nat) (f:Nat→Blk):List Blk:=(List.range n).map f
def row1 (n:Nat) (f:Nat→AV):List (List AV):=(List.range n).map fun k=>[f k]
theorem IF {n k:Nat} {f:Nat→AV} (h:k < n):(row1 n f)[k]?=some [f k]:=by simp[row1,h]
theorem lJ (n:Nat) (f:Nat→AV):(row1 n f).length=n:=by simp[row1]
theorem fK {n k:Nat} {f:Nat→AV} {r:List AV} (h:(row1 n f)[k]?=some r):k < n∧r=[f k]:=by
 have hk:=(gEs.1 h).1;rw[lJ] at hk;rw[IF hk] at h;exact⟨hk,by injection h with h; exact h.symm⟩
theorem eY.row1 {ρ:Nat→Nat→Option (Nat×Nat)} {n:Nat} {f f':Nat→AV} (h:∀ k,k < n→Ren ρ (f k) (f' k)):eY ρ (.cells 1 (row1 n f)) (.cells 1 (row1 n f')):=by
 refine .cells 1 _ _ (by rw[lJ,lJ]) (fun i r r' a b=>?_) fun i r r' j x y a b c d=>?_
 ·obtain⟨_,rfl⟩:=fK a
  obtain⟨_,rfl⟩:=fK b;rfl
 ·obtain⟨h1,rfl⟩:=fK a
  obtain⟨_,rfl⟩:=fK b
  cases j with
  | zero=>simp at c d; subst c; subst d; exact h i h1
  | succ j=>simp at c
theorem lD.row1 {T:AV→AV→Prop} {n:Nat} {f f':Nat→AV} (h:∀ k,k < n→dR T (f k) (f' k)):lD T (.cells 1 (row1 n f)) (.cells 1 (row1 n f')):=by
 refine .cells 1 _ _ (by rw[lJ,lJ]) (fun i r r' a b=>?_) fun i r r' j x y a b c d=>?_
 ·obtain⟨_,rfl⟩:=fK a
  obtain⟨_,rfl⟩:=fK b;rfl
 ·obtain⟨h1,rfl⟩:=fK a
  obtain⟨_,rfl⟩:=fK b
  cases j with
  | zero=>simp at c d; subst c; subst d; exact h i h1
  | succ j=>simp at c
end Go.Av
namespace Go.Av
def s3 (g _:Nat):Bool:=Nat.ble 3 g
theorem eY.one {ρ:Nat→Nat→Option (Nat×Nat)} {sz:Nat} {xs ys:List AV} (h:mB ρ xs ys):eY ρ (.cells sz [xs]) (.cells sz [ys]):=by
 obtain⟨h1,h2⟩:=h.spec
 refine .cells sz _ _ rfl (fun i r r' a b=>?_) fun i r r' j x y a b c d=>?_
 ·have e1:r=xs:=List.mem_singleton.1 (mOg a)
  have e2:r'=ys:=List.mem_singleton.1 (mOg b);subst e1; subst e2;exact h1
 ·have e1:r=xs:=List.mem_singleton.1 (mOg a)
  have e2:r'=ys:=List.mem_singleton.1 (mOg b);subst e1; subst e2;exact h2 j x y c d
theorem yA {g i:Nat} {fr:Fr} {H:Heap} {k:IntKind} {m ix x:Operand} {g' i':Nat} {n:Int} {es:List (Value×AV)} (hm:ev fr m=.mref g' i') (hi:ev fr ix=.sc (.int k n)) (hh:hget H g' i'=some (.map es)) (hf:dM k n es=some none):
  aD g i (.mapUpdate k m ix x) fr H=some (.undef,aK H g' i' (.map (es++[(.int k n,ev fr x)]))):=by
 simp only[aD,hm,hi,decide_true,hh,hf]
end Go.Av
namespace Go.Av
inductive To (T:AV→AV→Prop) (ρ:Nat→Nat→Option (Nat×Nat)):AV→AV→Prop
 | base {a b c:AV} (h:T a b) (t:To T ρ b c):To T ρ a c
 | undef (a:AV):To T ρ a .undef
 | sc (v:Value):To T ρ (.sc v) (.sc v)
 | agg (xs ys:List AV) (hl:xs.length=ys.length) (h:∀(j:Nat) x y,xs[j]?=some x→ys[j]?=some y→To T ρ x y):To T ρ (.agg xs) (.agg ys)
 | tup (xs ys:List AV) (hl:xs.length=ys.length) (h:∀(j:Nat) x y,xs[j]?=some x→ys[j]?=some y→To T ρ x y):To T ρ (.tup xs) (.tup ys)
 | list (sz:Nat) (rows rows':List (List AV)) (hl:rows.length=rows'.length) (hr:∀(i:Nat) (r r':List AV),rows[i]?=some r→rows'[i]?=some r'→r.length=r'.length)
   (h:∀(i:Nat) (r r':List AV) (j:Nat) x y,rows[i]?=some r→rows'[i]?=some r'→r[j]?=some x→r'[j]?=some y→To T ρ x y):To T ρ (.list sz rows) (.list sz rows')
 | cptr (xs ys:List AV) (hl:xs.length=ys.length) (h:∀(j:Nat) x y,xs[j]?=some x→ys[j]?=some y→To T ρ x y):To T ρ (.cptr xs) (.cptr ys)
 | tmap (es es':List (Value×AV)) (hl:es.length=es'.length) (hk:∀(j:Nat) x y,es[j]?=some x→es'[j]?=some y→x.1=y.1)
   (h:∀(j:Nat) x y,es[j]?=some x→es'[j]?=some y→To T ρ x.2 y.2):To T ρ (.tmap es) (.tmap es')
 | ptr (g i g' i' row off:Nat) (h:ρ g i=some (g',i')):To T ρ (.ptr g' i' row off) (.ptr g i row off)
 | hsl (g i g' i' start len:Nat) (h:ρ g i=some (g',i')):To T ρ (.hsl g' i' start len) (.hsl g i start len)
 | mref (g i g' i':Nat) (h:ρ g i=some (g',i')):To T ρ (.mref g' i') (.mref g i)
 | clo (fn:Fn) (fs cs fs' cs':List AV) (h1:fs.length=fs'.length) (h2:cs.length=cs'.length)
   (h3:∀(j:Nat) x y,fs[j]?=some x→fs'[j]?=some y→To T ρ x y) (h4:∀(j:Nat) x y,cs[j]?=some x→cs'[j]?=some y→To T ρ x y):
   To T ρ (.clo fn fs cs) (.clo fn fs' cs')
 | yld (g i g' i':Nat) (h:ρ g i=some (g',i')):To T ρ (.yld g' i') (.yld g i)
 | asl (g i g' i' row off len:Nat) (h:ρ g i=some (g',i')):To T ρ (.asl g' i' row off len) (.asl g i row off len)
 | ifc (t:TypeId) (a b:AV) (h:To T ρ a b):To T ρ (.ifc t a) (.ifc t b)
 | one:To T ρ .one .one
section
variable {T:AV→AV→Prop} {ρ:Nat→Nat→Option (Nat×Nat)}
theorem To.ren {a b:AV} (h:Ren ρ a b):To T ρ a b:=by
 induction h with
 | undef a=>exact .undef a
 | sc v=>exact .sc v
 | agg xs ys hl _ ih=>exact .agg xs ys hl ih
 | tup xs ys hl _ ih=>exact .tup xs ys hl ih
 | list sz rows rows' hl hr _ ih=>exact .list sz rows rows' hl hr ih
 | cptr xs ys hl _ ih=>exact .cptr xs ys hl ih
 | tmap es es' hl hk _ ih=>exact .tmap es es' hl hk ih
 | ptr g i g' i' row off h=>exact .ptr g i g' i' row off h
 | hsl g i g' i' start len h=>exact .hsl g i g' i' start len h
 | mref g i g' i' h=>exact .mref g i g' i' h
 | clo fn fs cs fs' cs' h1 h2 _ _ ih1 ih2=>exact .clo fn fs cs fs' cs' h1 h2 ih1 ih2
 | yld g i g' i' h=>exact .yld g i g' i' h
 | asl g i g' i' row off len h=>exact .asl g i g' i' row off len h
 | ifc t a b _ ih=>exact .ifc t a b ih
 | one=>exact .one
theorem To.pure {a:AV} (h:aZ a):To T ρ a a:=.ren (.pure h)
theorem To.rep {M J} (hT:∀ a b v,T a b→Rep M J a v→Rep M J b v) {a b:AV} (h:To T ρ a b):∀ {v:Value},Rep M J a v→Rep M (J.via ρ) b v:=by
 induction h with
 | base h _ ih=>exact fun hv=>ih (hT _ _ _ h hv)
 | undef a=>exact fun _=>.undef _
 | sc v=>exact fun hv=>by cases hv; exact .sc v
 | agg xs ys hl _ ih=>
  intro v hv
  cases hv with
  | agg _ cvs hc h=>
   exact .agg ys cvs (by omega) fun j y v' a b=>by
    obtain⟨x,hx'⟩:=aT hl a;exact ih j x y hx' a (h j x v' hx' b)
 | tup xs ys hl _ ih=>
  intro v hv
  cases hv with
  | tup _ cvs hc h=>
   exact .tup ys cvs (by omega) fun j y v' a b=>by
    obtain⟨x,hx'⟩:=aT hl a;exact ih j x y hx' a (h j x v' hx' b)
 | list sz rows rows' hl hlr _ ih=>
  intro v hv
  cases hv with
  | nilList _ a cap=>
   have:rows'=[]:=by cases rows' with | nil=>rfl | cons _ _=>simp at hl
   subst this;exact .nilList sz a cap
  | list _ _ β off cap n cs e fr hn hM hsz hle ho h=>
   refine .list sz rows' β off cap n cs e fr (by omega) hM (fun i r' hr'=>?_) (by rw[← hl]; exact hle) (by rw[← hl]; exact ho) fun i r' j y v' p q s=>?_
   ·obtain⟨r,h'⟩:=aT hl hr'
    rw[← hlr i r r' h' hr'];exact hsz i r h'
   ·obtain⟨r,h'⟩:=aT hl p
    obtain⟨x,hx'⟩:=aT (hlr i r r' h' p) q;exact ih i r r' j x y h' p hx' q (h i r j x v' h' hx' s)
 | cptr xs ys hl _ ih=>
  intro v hv
  cases hv with
  | cptr _ β off cs e fr hM hle h=>
   refine .cptr ys β off cs e fr hM ?_ fun j y v' a b=>?_
   ·rcases hle with rfl | hle
    ·left; cases ys with | nil=>rfl | cons _ _=>simp at hl
    ·right; omega
   ·obtain⟨x,hx'⟩:=aT hl a
    exact ih j x y hx' a (h j x v' hx' b)
 | tmap es es' hl hk _ ih=>
  intro v hv
  cases hv with
  | tmap _ β clock ces hM hw hl' hk' h=>
   refine .tmap es' β clock ces hM hw (by omega) (fun j x y a b=>?_) fun j x y a b=>?_
   ·obtain⟨z,hz⟩:=aT hl a
    rw[← hk j z x hz a];exact hk' j z y hz b
   ·obtain⟨z,hz⟩:=aT hl a
    exact ih j z x hz a (h j z y hz b)
 | ptr g i g' i' row off h=>
  intro v hv
  cases hv with
  | ptr _ _ _ _ β l hJ hb=>exact .ptr g i row off β l (by rw[Inj.via_some h,hJ]) hb
 | hsl g i g' i' start len h=>
  intro v hv
  cases hv with
  | hsl _ _ _ _ cap β l hJ hb hc hlc=>exact .hsl g i start len cap β l (by rw[Inj.via_some h,hJ]) hb hc hlc
  | hslNil _ _ a0 l hJ hb=>exact .hslNil g i a0 l (by rw[Inj.via_some h,hJ]) hb
 | mref g i g' i' h=>
  intro v hv
  cases hv with
  | mref _ _ β l hJ hb=>exact .mref g i β l (by rw[Inj.via_some h,hJ]) hb
 | clo fn fs cs fs' cs' h1 h2 _ _ ih1 ih2=>
  intro v hv
  cases hv with
  | clo _ _ _ cfs ccs hf hc q1 q2=>
   refine .clo fn fs' cs' cfs ccs (by omega) (by omega) (fun j c v a b=>?_) (fun j c v a b=>?_)
   ·obtain⟨x,hx⟩:=aT h1 a
    exact ih1 j x c hx a (q1 j x v hx b)
   ·obtain⟨x,hx⟩:=aT h2 a
    exact ih2 j x c hx a (q2 j x v hx b)
 | yld g i g' i' h=>
  intro v hv
  cases hv with
  | yld _ _ β l hJ hb=>exact .yld g i β l (by rw[Inj.via_some h,hJ]) hb
 | asl g i g' i' row off len h=>
  intro v hv
  cases hv with
  | asl _ _ _ _ _ cap β l hJ hb hlc=>exact .asl g i row off len cap β l (by rw[Inj.via_some h,hJ]) hb hlc
 | ifc t a b _ ih=>
  intro v hv
  cases hv with
  | ifc _ _ v h=>exact .ifc t b v (ih h)
 | one=>
  intro v hv
  cases hv with
  | one _ h=>exact .one v h
inductive ToB (T:AV→AV→Prop) (ρ:Nat→Nat→Option (Nat×Nat)):Blk→Blk→Prop
 | dead (x:Blk):ToB T ρ x .dead
 | cells (sz:Nat) (rows rows':List (List AV)) (hl:rows.length=rows'.length) (hr:∀(i:Nat) (r r':List AV),rows[i]?=some r→rows'[i]?=some r'→r.length=r'.length)
   (h:∀(i:Nat) (r r':List AV) (j:Nat) x y,rows[i]?=some r→rows'[i]?=some r'→r[j]?=some x→r'[j]?=some y→To T ρ x y):ToB T ρ (.cells sz rows) (.cells sz rows')
 | map (es es':List (Value×AV)) (hl:es.length=es'.length) (hk:∀(j:Nat) x y,es[j]?=some x→es'[j]?=some y→x.1=y.1)
   (h:∀(j:Nat) x y,es[j]?=some x→es'[j]?=some y→To T ρ x.2 y.2):ToB T ρ (.map es) (.map es')
 | lp (L:LC) (caps caps':Fr) (st:LoopState) (pe:Option Code) (h:∀ x∈caps',To T ρ (caps.get x.1) x.2):ToB T ρ (.lp L caps st pe) (.lp L caps' st pe)
 | it (cur:Option (Value×AV)) (es:List (Value×AV)) (h:∀ x∈es,aZ x.2) (hc:∀ x,cur=some x→aZ x.2):ToB T ρ (.it cur es) (.it cur es)
 | umap (n:Nat) (es:List (List Int×AV)) (h:∀ x∈es,aZ x.2):ToB T ρ (.umap n es) (.umap n es)
theorem ToB.live {x y:Blk} (h:ToB T ρ x y) (hl:y.live=true):x.live=true:=by
 cases h<;>first | rfl | cases hl
theorem aU.to {N M J fr fr' tmps} (hT:∀ a b v,T a b→Rep M J a v→Rep M J b v) (h:aU N M J fr tmps) (hr:∀ x∈fr',To T ρ (fr.get x.1) x.2):aU N M (J.via ρ) fr' tmps:=by
 refine⟨h.1,fun t=>?_⟩
 have key:To T ρ (fr.get t) (Fr.get fr' t):=by
  clear h
  induction fr' with
  | nil=>exact .undef _
  | cons p fr' ih=>
   obtain⟨d,v⟩:=p;show To T ρ (fr.get t) (match Nat.beq d t with | true=>v | false=>Fr.get fr' t);split
   ·rename_i e
    have:d=t:=nEb e;subst this;exact hr (d,v) (List.mem_cons_self ..)
   ·exact ih fun x hx=>hr x (mCm _ hx)
 exact key.rep hT (h.2 t)
theorem ToB.rep {M J} (hT:∀ a b v,T a b→Rep M J a v→Rep M J b v) {l:Loc} {h:Array Obj} {x x':Blk} (hb:eQ M J l h x) (hr:ToB T ρ x x'):eQ M (J.via ρ) l h x':=by
 cases hr with
 | dead=>trivial
 | cells sz rows rows' hl hlr hr=>
  obtain⟨h1,h2,h3⟩:=hb;refine⟨h1,fun i r' h=>?_,?_⟩
  ·obtain⟨r,h'⟩:=aT hl h
   rw[← hlr i r r' h' h];exact h2 i r h'
  ·cases e:l.blk with
   | none=>
    rw[e] at h3;subst h3
    cases rows' with | nil=>rfl | cons _ _=>simp at hl
   | some β=>
    rw[e] at h3;obtain⟨cs,t,a,b,c,o,d⟩:=h3;refine⟨cs,t,a,b,by rw[← hl]; exact c,by rw[← hl]; exact o,fun i r' j y v p q s=>?_⟩;obtain⟨r,h'⟩:=aT hl p;obtain⟨x,hx'⟩:=aT (hlr i r r' h' p) q;exact To.rep hT (hr i r r' j x y h' p hx' q) (d i r j x v h' hx' s)
 | map es es' hl hk hr=>
  obtain⟨β,ces,clock,h0,h1,h2,h3,h4,h5⟩:=hb;refine⟨β,ces,clock,h0,h1,by omega,fun j x y a b=>?_,fun j x y a b=>?_,h5⟩
  ·obtain⟨z,hz⟩:=aT hl a
   rw[← hk j z x hz a];exact h3 j z y hz b
  ·obtain⟨z,hz⟩:=aT hl a
   exact To.rep hT (hr j z x hz a) (h4 j z y hz b)
 | lp L caps caps' st pe hr=>
  obtain⟨β,r,h0,h1,h3,h4,h5,h6,h7,h8⟩:=hb;exact⟨β,r,h0,h1,h3,h4,h5,h6,h7,h8.to hT hr⟩
 | it cur es hp hc=>
  obtain⟨β,o,h0,h1,h2⟩:=hb;exact⟨β,o,h0,h1,h2.ren hp hc⟩
 | umap n es hp=>
  obtain⟨β,ces,clock,es',h0,h1,h2,h3,h4,h5,h6,h7⟩:=hb;exact⟨β,ces,clock,es',h0,h1,h2,h3,h4,h5,h6,fun j x y a b=>(h7 j x y a b).ren (.pure (hp x (h2.mem_iff.1 (mOg a))))⟩
structure mR (T:AV→AV→Prop) (ρ:Nat→Nat→Option (Nat×Nat)) (k:Nat) (H H':Heap):Prop where
 low:∀ g i,g < k→(hget H g i).isSome→ρ g i=some (g,i)
 inj:∀ g i g' i' p,ρ g i=some p→ρ g' i'=some p→g=g'∧i=i'
 blk:∀ g i x,hget H' g i=some x→x.live=true→∃ g0 i0 y,ρ g i=some (g0,i0)∧hget H g0 i0=some y∧ToB T ρ y x
 dom:∀ g i p,ρ g i=some p→(hget H p.1 p.2).isSome→(hget H' g i).isSome
theorem mR.live {k H H'} (hn:mR T ρ k H H') {J:Inj} {g i:Nat} {l:Loc} (h:aQ H' g i) (hJ:J.via ρ g i=some l):∃ g0 i0,ρ g i=some (g0,i0)∧aQ H g0 i0∧J g0 i0=some l:=by
 obtain⟨x,hx,hxl⟩:=h;obtain⟨g0,i0,y,h1,h2,h3⟩:=hn.blk g i x hx hxl;exact⟨g0,i0,h1,⟨y,h2,h3.live hxl⟩,by rw[← hJ,Inj.via_some h1]⟩
theorem aN.to {M J H} {h:Array Obj} {k H'} (hT:∀ a b v,T a b→Rep M J a v→Rep M J b v) (hr:aN M J H h) (hn:mR T ρ k H H'):aN M (J.via ρ) H' h where
 blk g i x hx hl:=by
  obtain⟨g0,i0,y,h1,h2,h3⟩:=hn.blk g i x hx hl;obtain⟨l,h4,h5⟩:=hr.blk g0 i0 y h2 (h3.live hl);exact⟨l,by rw[Inj.via_some h1,h4],ToB.rep hT h5 h3⟩
 inj g i g' i' l l' β a b c d e f:=by
  obtain⟨g0,i0,p1,p2,p3⟩:=hn.live a c;obtain⟨g1,i1,q1,q2,q3⟩:=hn.live b d;obtain⟨rfl,rfl⟩:=hr.inj g0 i0 g1 i1 l l' β p2 q2 p3 q3 e f;exact hn.inj _ _ _ _ _ p1 q1
 out g i l β a b c:=by
  obtain⟨g0,i0,p1,p2,p3⟩:=hn.live a b;exact hr.out g0 i0 l β p2 p3 c
 dom g i l a:=by
  unfold Inj.via at a;split at a
  ·rename_i g' i' e
   have:=hr.dom g' i' l a;exact⟨hn.dom g i _ e this.1,this.2⟩
  ·cases a
theorem aS.to {k M J H w M' J' H' w' H''} (hT:∀ a b v,T a b→Rep M' J' a v→Rep M' J' b v) (a:aS k M J H w M' J' H' w') (hn:mR T ρ k H' H''):aS k M J H w M' (J'.via ρ) H'' w' where
 m:=a.m
 j g i l hk h:=by
  have h1:=a.j g i l hk h;rw[Inj.via_some (hn.low g i hk (a.hrep.dom g i l h1).1)];exact h1
 hrep:=a.hrep.to hT hn
 mrep:=a.mrep
 os:=a.os
 tape:=a.tape
 output:=a.output
 size:=a.size
 frame:=a.frame
 fresh:=a.fresh
 live g i l β h1 h2 h3:=by
  obtain⟨g0,i0,p1,p2,p3⟩:=hn.live h1 h2;exact a.live g0 i0 l β p2 p3 h3
 bk:=a.bk
end
def bK (R:Blk→Blk→Prop) (H:Heap):List (Nat×Nat)→List Blk→Prop
 | [],[]=>True
 | p::ps,x::xs=>(∃ y,hget H p.1 p.2=some y∧R y x)∧bK R H ps xs
 | _,_=>False
def aI (R:Blk→Blk→Prop) (H:Heap):List (List (Nat×Nat))→Heap→Prop
 | [],[]=>True
 | p::ps,x::xs=>bK R H p x∧aI R H ps xs
 | _,_=>False
theorem gK {R H}:∀ {ps:List (Nat×Nat)} {xs:List Blk},bK R H ps xs→ps.length=xs.length∧∀(i:Nat) p x,ps[i]?=some p→xs[i]?=some x→∃ y,hget H p.1 p.2=some y∧R y x
 | [],[],_=>⟨rfl,fun i p x h=>by simp at h⟩
 | [],_::_,h=>h.elim
 | _::_,[],h=>h.elim
 | p::ps,x::xs,⟨h1,h2⟩=>by
  obtain⟨h3,h4⟩:=gK h2;refine⟨by simp[h3],fun i q y hq hy=>?_⟩
  cases i with
  | zero=>simp at hq hy; subst hq; subst hy; exact h1
  | succ i=>exact h4 i q y (by simpa using hq) (by simpa using hy)
theorem kR {R H}:∀ {ps:List (List (Nat×Nat))} {xs:Heap},aI R H ps xs→ps.length=xs.length∧∀(i:Nat) p x,ps[i]?=some p→xs[i]?=some x→bK R H p x
 | [],[],_=>⟨rfl,fun i p x h=>by simp at h⟩
 | [],_::_,h=>h.elim
 | _::_,[],h=>h.elim
 | p::ps,x::xs,⟨h1,h2⟩=>by
  obtain⟨h3,h4⟩:=kR h2;refine⟨by simp[h3],fun i q y hq hy=>?_⟩
  cases i with
  | zero=>simp at hq hy; subst hq; subst hy; exact h1
  | succ i=>exact h4 i q y (by simpa using hq) (by simpa using hy)
theorem xX {ids:List (List (Nat×Nat))} {g i:Nat} {p:Nat×Nat} (h:rho ids g i=some p):p∈ids.flatten:=by
 unfold rho at h;split at h
 ·rename_i f e
  exact List.mem_flatten.2 ⟨f,mOg e,mOg h⟩
 ·cases h
theorem AZ {p:Nat×Nat} {l:List (Nat×Nat)}:FL p l=true↔p∈l:=by
 unfold FL;rw[List.any_eq_true];constructor
 ·rintro⟨q,hq,h⟩
  simp only[bAe] at h;have:p=q:=Prod.ext (nEb h.1) (nEb h.2);rw[this]; exact hq
 ·intro h
  exact⟨p,h,by simp⟩
theorem mR.list {T:AV→AV→Prop} {k:Nat} {H H2 H':Heap} {ids:List (List (Nat×Nat))} (h1:jK 0 k ids=true) (h2:mN k ids H=true) (h3:nE ids.flatten=true) (h4:aI (ToB T (rho ids)) H ids H')
  (hk:∀ g i,(hget H2 g i).isSome=(hget H g i).isSome) (hs:∀ p∈ids.flatten,hget H2 p.1 p.2=hget H p.1 p.2):mR T (rho ids) k H2 H':=by
 obtain⟨hl,hf⟩:=kR h4;have hnd:=mH h3;refine⟨fun g i hg hi=>?_,fun g i g' i' p hp hp'=>?_,fun g i x hx _=>?_,fun g i p hp _=>?_⟩
 ·rw[hk] at hi
  obtain⟨f,e1,e2⟩:=pN k ids H h2 g hg i hi;have:=nI k 0 ids h1 g f hg e1 i f[i] (gEg e2);simp only[rho,e1,gEg e2,this,Nat.zero_add]
 ·unfold rho at hp hp'
  split at hp
  ·rename_i f e
   split at hp'
   ·rename_i f' e'
    unfold List.Nodup at hnd;rw[List.pairwise_flatten] at hnd
    by_cases hgg:g=g'
    ·subst hgg
     rw[e] at e'
     injection e' with e'
     subst e';refine⟨rfl,?_⟩;have hn:=hnd.1 f (mOg e);have hi:=(gEs.1 hp).1;exact(List.getElem?_inj hi hn).1 (hp.trans hp'.symm)
    ·exfalso
     have hpw:=hnd.2;rw[List.pairwise_iff_getElem] at hpw;have hg1:=(gEs.1 e).1;have hg2:=(gEs.1 e').1;have v1:=(gEs.1 e).2;have v2:=(gEs.1 e').2
     rcases Nat.lt_or_gt_of_ne hgg with hlt | hgt
     ·have:=hpw g g' hg1 hg2 hlt
      rw[v1,v2] at this;exact this p (mOg hp) p (mOg hp') rfl
     ·have:=hpw g' g hg2 hg1 hgt
      rw[v1,v2] at this;exact this p (mOg hp') p (mOg hp) rfl
   ·cases hp'
  ·cases hp
 ·unfold hget at hx
  split at hx
  ·rename_i f e
   have hg:=(gEs.1 e).1;have e':ids[g]?=some ids[g]:=gEg (by omega);obtain⟨q1,q2⟩:=gK (hf g _ _ e' e);have hi:=(gEs.1 hx).1;have e2:ids[g][i]?=some ids[g][i]:=gEg (by omega);obtain⟨y,r1,r2⟩:=q2 i _ x e2 hx
   have hr:rho ids g i=some ids[g][i]:=by simp only[rho,e']; exact e2
   exact⟨ids[g][i].1,ids[g][i].2,y,hr,(hs _ (xX hr)).trans r1,r2⟩
  ·cases hx
 ·unfold rho at hp
  split at hp
  ·rename_i f e
   have hg:=(gEs.1 e).1;have e':H'[g]?=some H'[g]:=gEg (by omega);obtain⟨q1,_⟩:=gK (hf g _ _ e e');have hi:=(gEs.1 hp).1;simp only[hget,e',gEg (show i < H'[g].length by omega)];rfl
  ·cases hp
def gh (szs:List Nat):Heap:=szs.map fun sz=>[.cells sz []]
theorem EM (H:Heap) (szs:List Nat) (g i:Nat):hget (H++gh szs) g i=if g < H.length then hget H g i else match szs[g - H.length]? with
  | some sz=>match i with
   | 0=>some (.cells sz [])
   | _+1=>none
  | none=>none:=by
 unfold hget gh
 by_cases h:g < H.length
 ·rw[if_pos h,List.getElem?_append_left h]
 ·rw[if_neg h,List.getElem?_append_right (by omega),List.getElem?_map]
  cases e:szs[g - H.length]? with
  | none=>rfl
  | some sz=>cases i<;>rfl
theorem fT {H:Heap} {g i:Nat} (h:(hget H g i).isSome):g < H.length:=by
 unfold hget at h;split at h
 ·rename_i f hf; exact(gEs.1 hf).1
 ·cases h
theorem rI.gh (H:Heap) (szs:List Nat):rI H (H++gh szs):=by
 refine⟨fun g i x' hx hl=>?_,fun g i h=>?_⟩
 ·rw[EM] at hx
  split at hx
  ·exact .inl ⟨x',hx,.refl _⟩
  ·rename_i hg
   right;refine⟨?_,?_⟩
   ·cases e:hget H g i with
    | none=>rfl
    | some y=>exact absurd (fT (by rw[e]; rfl)) hg
   ·split at hx
    ·split at hx
     ·injection hx with hx; exact⟨_,hx.symm⟩
     ·cases hx
    ·cases hx
 ·rw[EM,if_pos (fT h)]
  exact h
inductive ToT (H:Heap) (n:Nat) (S:Nat→Nat→Bool):AV→AV→Prop
 | fz {a b:AV} (h:FzT H S a b):ToT H n S a b
 | gh (g sz:Nat) (h:Nat.ble n g=true) (h':hget H g 0=some (.cells sz [])):ToT H n S (.sc (.slice none 0 0)) (.hsl g 0 0 0)
 | nil (sz:Nat):ToT H n S (.sc (.slice none 0 0)) (.list sz [])
def cJ (ids:List (List (Nat×Nat))) (g i:Nat):Bool:=!FL (g,i) ids.flatten
def killS (S:Nat→Nat→Bool) (H:Heap):Heap:=H.mapIdx fun g f=>f.mapIdx fun i x=>match S g i with | true=>.dead | false=>x
theorem gE (S:Nat→Nat→Bool) (H:Heap) (g i:Nat):hget (killS S H) g i=(hget H g i).map fun x=>match S g i with | true=>.dead | false=>x:=by
 unfold hget killS;rw[List.getElem?_mapIdx]
 cases e:H[g]? with
 | none=>rfl
 | some f=>simp[List.getElem?_mapIdx]
theorem kL.killS (S:Nat→Nat→Bool) (H:Heap):kL H S (killS S H):=by
 refine⟨fun g i x' hx hl=>?_,fun g i h=>?_⟩
 ·rw[gE] at hx
  cases e:hget H g i with
  | none=>rw[e] at hx; cases hx
  | some x=>
   rw[e] at hx;simp only[Option.map_some,oIn] at hx
   cases hS:S g i with
   | true=>rw[hS] at hx; subst hx; cases hl
   | false=>rw[hS] at hx; subst hx; exact⟨rfl,x,rfl,.refl _⟩
 ·rw[gE,Option.isSome_map]
  exact h
section
variable {k N:Nat} {fr fr':Fr} {H H':Heap} {ids:List (List (Nat×Nat))} {szs:List Nat}
theorem rS {M J} {w:World} (hH:aN M J H w.heap) (hM:a8 M w.heap) (h1:jK 0 k ids=true) (h2:mN k ids (H++gh szs)=true) (h3:nE ids.flatten=true)
  (h4:aI (ToB (ToT (H++gh szs) H.length (cJ ids)) (rho ids)) (H++gh szs) ids H'):
  ∃ M' J',aS k M J H w M' J' H' w∧∀ a b v,To (ToT (H++gh szs) H.length (cJ ids)) (rho ids) a b→Rep M J a v→Rep M' J' b v:=by
 obtain⟨s1,x1,t1⟩:=aS.ghost (k:=k) hH hM (rI.gh H szs);obtain⟨s2,x2,t2⟩:=aS.frz (k:=k) s1.hrep s1.mrep (kL.killS (cJ ids) (H++gh szs))
 have hT:∀ a b v,ToT (H++gh szs) H.length (cJ ids) a b→Rep (M.freeze (J.ghost H (H++gh szs)) (H++gh szs) (cJ ids) w.heap) (J.ghost H (H++gh szs)) a v →
   Rep (M.freeze (J.ghost H (H++gh szs)) (H++gh szs) (cJ ids) w.heap) (J.ghost H (H++gh szs)) b v:=by
  intro a b v h hv
  cases h with
  | fz h=>
   refine t2 a b v h ?_
   cases h with
   | hsl g i start len sz rows hS h hl=>
    cases hv with
    | hsl _ _ _ _ cap β l hJ hb hc hlc=>exact .hsl _ _ _ _ cap β l hJ hb hc hlc
    | hslNil _ _ a0 l hJ hb=>exact .hslNil _ _ a0 l hJ hb
   | ptr g i row off sz rows r hS h hr=>
    cases hv with
    | ptr _ _ _ _ β l hJ hb=>exact .ptr _ _ _ _ β l hJ hb
   | mref g i es hS h=>
    cases hv with
    | mref _ _ β l hJ hb=>exact .mref _ _ β l hJ hb
  | gh g sz hg h'=>
   cases hv
   refine .hslNil g 0 _ ⟨none,sz,0⟩ ?_ rfl
   have:hget H g 0=none:=by
    cases e:hget H g 0 with
    | none=>rfl
    | some y=>
     have:=fT (by rw[e]; rfl:(hget H g 0).isSome);have:=nlB hg;omega
   unfold Inj.ghost;rw[this,h']
  | nil sz=>cases hv; exact .nilList sz none 0
 have hn:mR (ToT (H++gh szs) H.length (cJ ids)) (rho ids) k (killS (cJ ids) (H++gh szs)) H':=by
  refine mR.list h1 h2 h3 h4 (fun g i=>by rw[gE,Option.isSome_map]) fun p hp=>?_
  have hS:cJ ids p.1 p.2=false:=by
   unfold cJ;rw[AZ.2 hp];rfl
  rw[gE,hS]
  cases hget (H++gh szs) p.1 p.2<;>rfl
 refine⟨_,_,aS.to hT (s1.trans s2) hn,fun a b v h hv=>To.rep hT h ?_⟩;exact(hv.ext x1).ext x2
def aY (T:AV→AV→Prop) (ρ:Nat→Nat→Option (Nat×Nat)) (fr:Fr):Fr→Prop
 | []=>True
 | x::r=>To T ρ (fr.get x.1) x.2∧aY T ρ fr r
theorem aY.get {T ρ fr}:∀ {fr':Fr},aY T ρ fr fr'→∀ t,To T ρ (fr.get t) (fr'.get t)
 | [],_,t=>.undef _
 | (d,v)::r,⟨h1,h2⟩,t=>by
  show To T ρ (fr.get t) (match Nat.beq d t with | true=>v | false=>Fr.get r t);split
  ·rename_i e
   have:d=t:=nEb e;subst this;exact h1
  ·exact aY.get h2 t
theorem Sub.to (szs:List Nat) (ids:List (List (Nat×Nat))) (h5:aY (ToT (H++gh szs) H.length (cJ ids)) (rho ids) fr fr')
  (h4:aI (ToB (ToT (H++gh szs) H.length (cJ ids)) (rho ids)) (H++gh szs) ids H') (h1:jK 0 k ids=true) (h2:mN k ids (H++gh szs)=true) (h3:nE ids.flatten=true):Sub k N fr H fr' H':=by
 intro M J tmps w hF hH hM;obtain⟨M',J',q1,q2⟩:=rS (szs:=szs) hH hM h1 h2 h3 h4;exact⟨M',J',q1,hF.1,fun t=>q2 _ _ _ (h5.get t) (hF.2 t)⟩
theorem eO.to {a b:AV} (szs:List Nat) (ids:List (List (Nat×Nat))) (h5:To (ToT (H++gh szs) H.length (cJ ids)) (rho ids) a b)
  (h4:aI (ToB (ToT (H++gh szs) H.length (cJ ids)) (rho ids)) (H++gh szs) ids H') (h1:jK 0 k ids=true) (h2:mN k ids (H++gh szs)=true) (h3:nE ids.flatten=true):eO k H a H' b:=by
 intro M J v w hv hH hM;obtain⟨M',J',q1,q2⟩:=rS (szs:=szs) hH hM h1 h2 h3 h4;exact⟨M',J',q1,q2 _ _ _ h5 hv⟩
end
section
variable {T:AV→AV→Prop} {ρ:Nat→Nat→Option (Nat×Nat)} {H:Heap} {n:Nat} {S:Nat→Nat→Bool}
theorem To.int {k:IntKind} {a b:Int} (h:a=b):To T ρ (.sc (.int k a)) (.sc (.int k b)):=by subst h; exact .sc _
theorem To.bool {a b:Bool} (h:a=b):To T ρ (.sc (.bool a)) (.sc (.bool b)):=by subst h; exact .sc _
theorem To.val {a b:Value} (h:a=b):To T ρ (.sc a) (.sc b):=by subst h; exact .sc _
theorem To.hslL {g i g' i' start len len':Nat} (h:ρ g i=some (g',i')) (e:len=len'):To T ρ (.hsl g' i' start len) (.hsl g i start len'):=by subst e; exact .hsl _ _ _ _ _ _ h
theorem To.ptrO {g i g' i' row row' off off':Nat} (h:ρ g i=some (g',i')) (e:row=row') (e':off=off'):To T ρ (.ptr g' i' row off) (.ptr g i row' off'):=by subst e; subst e'; exact .ptr _ _ _ _ _ _ h
theorem To.mrefO {g i g' i':Nat} (h:ρ g i=some (g',i')):To T ρ (.mref g' i') (.mref g i):=.mref _ _ _ _ h
theorem To.nil {g i g':Nat} (h:ρ g i=some (g',0)) (h1:Nat.ble n g'=true) {sz:Nat} (h2:hget H g' 0=some (.cells sz [])):To (ToT H n S) ρ (.sc (.slice none 0 0)) (.hsl g i 0 0):=
 .base (.gh g' sz h1 h2) (.hsl _ _ _ _ _ _ h)
theorem To.nilL {sz:Nat}:To (ToT H n S) ρ (.sc (.slice none 0 0)) (.list sz []):=.base (.nil sz) (.list _ _ _ rfl (fun _ _ _ h=>by simp at h) (fun _ _ _ _ _ _ h=>by simp at h))
theorem To.rows {sz:Nat} {rows rows':List (List AV)} (e:rows=rows') (hp:∀ r∈rows',∀ c∈r,aZ c):To T ρ (.list sz rows) (.list sz rows'):=by subst e; exact .pure (.list _ _ hp)
theorem To.eq {a b:AV} (e:a=b) (hp:aZ b):To T ρ a b:=by subst e; exact .pure hp
theorem To.fz {g i len sz:Nat} {rows rows':List (List AV)} (h:hget H g i=some (.cells sz rows)) (hS:S g i=true) (hl:rows.length=len) (e:rows=rows') (hp:∀ r∈rows',∀ c∈r,aZ c):To (ToT H n S) ρ (.hsl g i 0 len) (.list sz rows'):=by
 subst e;refine .base (.fz (.hsl g i 0 len sz rows hS h (by omega))) ?_;rw[List.drop_zero,List.take_of_length_le (by omega)];exact .pure (.list _ _ hp)
theorem To.fzT {g i len sz:Nat} {rows rows':List (List AV)} (h:hget H g i=some (.cells sz rows)) (hS:S g i=true) (hl:rows.length=len) (t:To (ToT H n S) ρ (.list sz rows) (.list sz rows')):To (ToT H n S) ρ (.hsl g i 0 len) (.list sz rows'):=by
 refine .base (.fz (.hsl g i 0 len sz rows hS h (by omega))) ?_;rw[List.drop_zero,List.take_of_length_le (by omega)];exact t
theorem To.fzp {g i row sz:Nat} {rows:List (List AV)} {r r':List AV} (h:hget H g i=some (.cells sz rows)) (hS:S g i=true) (hr:rows[row]?=some r) (t:To (ToT H n S) ρ (.cptr r) (.cptr r')):To (ToT H n S) ρ (.ptr g i row 0) (.cptr r'):=
 .base (.fz (.ptr g i row 0 sz rows r hS h hr)) t
theorem To.fzm {g i:Nat} {es es':List (Value×AV)} (h:hget H g i=some (.map es)) (hS:S g i=true) (t:To (ToT H n S) ρ (.tmap es) (.tmap es')):To (ToT H n S) ρ (.mref g i) (.tmap es'):=
 .base (.fz (.mref g i es hS h)) t
def ToL (T:AV→AV→Prop) (ρ:Nat→Nat→Option (Nat×Nat)):List AV→List AV→Prop
 | [],[]=>True
 | a::l,b::m=>To T ρ a b∧ToL T ρ l m
 | _,_=>False
theorem ToL.spec:∀ {l m:List AV},ToL T ρ l m→l.length=m.length∧∀(j:Nat) a b,l[j]?=some a→m[j]?=some b→To T ρ a b
 | [],[],_=>⟨rfl,fun j a b h=>by simp at h⟩
 | [],_::_,h=>h.elim
 | _::_,[],h=>h.elim
 | _::_,_::_,⟨h1,h2⟩=>by
  obtain⟨h3,h4⟩:=ToL.spec h2;refine⟨by simp[h3],fun j a b ha hb=>?_⟩
  cases j with
  | zero=>simp at ha hb; subst ha; subst hb; exact h1
  | succ j=>exact h4 j a b (by simpa using ha) (by simpa using hb)
theorem ToL.nil:ToL T ρ [] []:=trivial
theorem ToL.cons {a b:AV} {l m:List AV} (h:To T ρ a b) (h':ToL T ρ l m):ToL T ρ (a::l) (b::m):=⟨h,h'⟩
theorem ToL.pure:∀ {l:List AV},(∀ c∈l,aZ c)→ToL T ρ l l
 | [],_=>trivial
 | a::_,h=>⟨.pure (h a (List.mem_cons_self ..)),ToL.pure fun c hc=>h c (mCm _ hc)⟩
theorem ToL.eq {l m:List AV} (e:l=m) (hp:∀ c∈m,aZ c):ToL T ρ l m:=by subst e; exact ToL.pure hp
theorem ToL.consE {l:List AV} {a b:AV} {l0 m:List AV} (e9:l=a::l0) (h:To T ρ a b) (h':ToL T ρ l0 m):ToL T ρ l (b::m):=by subst e9; exact⟨h,h'⟩
theorem To.tupL {l m:List AV} (h:ToL T ρ l m):To T ρ (.tup l) (.tup m):=.tup l m h.spec.1 h.spec.2
theorem To.aggL {l m:List AV} (h:ToL T ρ l m):To T ρ (.agg l) (.agg m):=.agg l m h.spec.1 h.spec.2
theorem To.cptrL {l m:List AV} (h:ToL T ρ l m):To T ρ (.cptr l) (.cptr m):=.cptr l m h.spec.1 h.spec.2
theorem To.cloL {fn:Fn} {fs cs fs' cs':List AV} (h:ToL T ρ fs fs') (h':ToL T ρ cs cs'):To T ρ (.clo fn fs cs) (.clo fn fs' cs'):=.clo fn fs cs fs' cs' h.spec.1 h'.spec.1 h.spec.2 h'.spec.2
def ToR (T:AV→AV→Prop) (ρ:Nat→Nat→Option (Nat×Nat)):List (List AV)→List (List AV)→Prop
 | [],[]=>True
 | a::l,b::m=>ToL T ρ a b∧ToR T ρ l m
 | _,_=>False
theorem ToR.spec:∀ {l m:List (List AV)},ToR T ρ l m→l.length=m.length∧∀(i:Nat) a b,l[i]?=some a→m[i]?=some b→ToL T ρ a b
 | [],[],_=>⟨rfl,fun j a b h=>by simp at h⟩
 | [],_::_,h=>h.elim
 | _::_,[],h=>h.elim
 | _::_,_::_,⟨h1,h2⟩=>by
  obtain⟨h3,h4⟩:=ToR.spec h2;refine⟨by simp[h3],fun j a b ha hb=>?_⟩
  cases j with
  | zero=>simp at ha hb; subst ha; subst hb; exact h1
  | succ j=>exact h4 j a b (by simpa using ha) (by simpa using hb)
theorem ToR.nil:ToR T ρ [] []:=trivial
theorem ToR.cons {a b:List AV} {l m:List (List AV)} (h:ToL T ρ a b) (h':ToR T ρ l m):ToR T ρ (a::l) (b::m):=⟨h,h'⟩
theorem ToR.pure:∀ {l:List (List AV)},(∀ r∈l,∀ c∈r,aZ c)→ToR T ρ l l
 | [],_=>trivial
 | a::_,h=>⟨ToL.pure (h a (List.mem_cons_self ..)),ToR.pure fun c hc=>h c (mCm _ hc)⟩
theorem ToR.append:∀ {l m:List (List AV)} {l' m':List (List AV)},ToR T ρ l m→ToR T ρ l' m'→ToR T ρ (l++l') (m++m')
 | [],[],_,_,_,h=>h
 | [],_::_,_,_,h,_=>h.elim
 | _::_,[],_,_,h,_=>h.elim
 | _::_,_::_,_,_,⟨h1,h2⟩,h=>⟨h1,ToR.append h2 h⟩
theorem ToR.snoc {rows rows':List (List AV)} {r r':List AV} (e:rows=rows') (hp:∀ r∈rows',∀ c∈r,aZ c) (h:ToL T ρ r r'):ToR T ρ (rows++[r]) (rows'++[r']):=by
 subst e; exact ToR.append (ToR.pure hp) ⟨h,trivial⟩
theorem ToR.eq {rows rows':List (List AV)} (e:rows=rows') (hp:∀ r∈rows',∀ c∈r,aZ c):ToR T ρ rows rows':=by subst e; exact ToR.pure hp
theorem ToR.map {α:Type} {f g:α→List AV}:∀ {l:List α},(∀ a∈l,ToL T ρ (f a) (g a))→ToR T ρ (l.map f) (l.map g)
 | [],_=>trivial
 | a::_,h=>⟨h a (List.mem_cons_self ..),ToR.map fun b hb=>h b (mCm _ hb)⟩
theorem To.listR {sz:Nat} {l m:List (List AV)} (h:ToR T ρ l m):To T ρ (.list sz l) (.list sz m):=
 .list sz l m h.spec.1 (fun i r r' a b=>(h.spec.2 i r r' a b).spec.1) fun i r r' j x y a b c d=>(h.spec.2 i r r' a b).spec.2 j x y c d
theorem ToB.rowsR {sz:Nat} {l m:List (List AV)} (h:ToR T ρ l m):ToB T ρ (.cells sz l) (.cells sz m):=
 .cells sz l m h.spec.1 (fun i r r' a b=>(h.spec.2 i r r' a b).spec.1) fun i r r' j x y a b c d=>(h.spec.2 i r r' a b).spec.2 j x y c d
theorem ToB.rows {sz:Nat} {rows rows':List (List AV)} (e:rows=rows') (hp:∀ r∈rows',∀ c∈r,aZ c):ToB T ρ (.cells sz rows) (.cells sz rows'):=by subst e; exact ToB.rowsR (ToR.pure hp)
theorem ToB.one {sz:Nat} {r r':List AV} (h:ToL T ρ r r'):ToB T ρ (.cells sz [r]) (.cells sz [r']):=ToB.rowsR ⟨h,trivial⟩
theorem ToB.mapE {es es':List (Value×AV)} (e:es=es') (hp:∀ x∈es',aZ x.2):ToB T ρ (.map es) (.map es'):=by
 subst e
 exact .map _ _ rfl (fun j x y a b=>by cases aV a b; rfl) fun j x y a b=>by cases aV a b; exact .pure (hp _ (mOg a))
theorem aI.nil {R:Blk→Blk→Prop}:aI R H [] []:=trivial
theorem aI.cons {R:Blk→Blk→Prop} {p:List (Nat×Nat)} {x:List Blk} {ps:List (List (Nat×Nat))} {xs:Heap} (h:bK R H p x) (h':aI R H ps xs):aI R H (p::ps) (x::xs):=⟨h,h'⟩
theorem bK.nil {R:Blk→Blk→Prop}:bK R H [] []:=trivial
theorem bK.cons {R:Blk→Blk→Prop} {p:Nat×Nat} {x y:Blk} {ps:List (Nat×Nat)} {xs:List Blk} (e:hget H p.1 p.2=some y) (h:R y x) (h':bK R H ps xs):bK R H (p::ps) (x::xs):=⟨⟨y,e,h⟩,h'⟩
theorem aY.nil {fr:Fr}:aY T ρ fr []:=trivial
theorem aY.cons {fr:Fr} {t:Nat} {v:AV} {r:Fr} (h:To T ρ (fr.get t) v) (h':aY T ρ fr r):aY T ρ fr ((t,v)::r):=⟨h,h'⟩
end
def aG (rs:List kH) (X:AV):Exit→Fr→Heap→Prop:=fun e fr H=>(e=.normal∨e=.ret)∧∃ res,l5 fr H rs=some res∧To (ToT (H++gh []) H.length (cJ [])) (rho []) res X
theorem aG.mk {rs:List kH} {X X':AV} {e:Exit} {fr:Fr} {H:Heap} {res:AV} (he:e=.normal∨e=.ret) (h:l5 fr H rs=some res) (eX:X'=X) (t:To (ToT (H++gh []) H.length (cJ [])) (rho []) res X'):aG rs X e fr H:=by
 subst eX; exact⟨he,res,h,t⟩
theorem aC.mk {P:Program} {f:FuncId} {F:IFun} {args:List AV} {X:AV} (hf:bG P f=some F) (hn:args.length≤F.n) (ha:∀ a∈args,aZ a) (hX:aZ X) (h:AWP P F.n 0 F.code (aG F.res X) (fE 0 args) []):aC P f args X:=by
 refine aC.of ha hX (aE.of hf ?_ hn)
 refine AWP.mono h fun e fr H=>?_
 rintro⟨he,res,h1,h2⟩;exact⟨he,res,X,[],h1,eO.to [] [] h2 trivial rfl rfl rfl,rfl⟩
theorem Reg.p {P:Program} {N k:Nat} {xs:List IOper} {fr:Fr} {H:Heap} {K:Fr→Heap→Prop} {d:Nat} {gd:Option (Nat×Bool)} {f:FuncId} {args:List Operand} {v:AV} (hk:k≤H.length) (hg:gok fr gd=some true) (hp:aC P f (avals fr args) v) (h:Reg P N k xs ((d,v)::fr) H K):
  Reg P N k (⟨some d,gd,.call f args⟩::xs) fr H K:=Reg.c hk hg (aE.ofPure hp H h)
inductive Plain:AV→Prop
 | sc (v:Value):Plain (.sc v)
 | tup (vs:List AV) (h:∀ c∈vs,Plain c):Plain (.tup vs)
 | agg (vs:List AV) (h:∀ c∈vs,Plain c):Plain (.agg vs)
theorem Plain.rep {M M':Mem} {J J':Inj} {a:AV} (h:Plain a):∀ {v:Value},Rep M J a v→Rep M' J' a v:=by
 induction h with
 | sc v=>exact fun hv=>by cases hv; exact .sc v
 | tup vs _ ih=>
  intro v hv
  cases hv with
  | tup _ cvs hc h=>exact .tup vs cvs hc fun j c x a b=>ih c (mOg a) (h j c x a b)
 | agg vs _ ih=>
  intro v hv
  cases hv with
  | agg _ cvs hc h=>exact .agg vs cvs hc fun j c x a b=>ih c (mOg a) (h j c x a b)
theorem aE.view {P:Program} {f:FuncId} {args args':List AV} {v:AV} {H:Heap} (hp:aC P f args' v) (hv:Plain v) (ha:ToL (ToT (H++gh []) H.length (cJ [])) (rho []) args args') {R:AV→Heap→Prop} (hR:R v H):aE P f args H R:=by
 refine⟨hp.1,fun M J w cargs hl hr hH hM=>?_⟩;obtain⟨h1,h2⟩:=ha.spec;obtain⟨M1,J1,s1,t1⟩:=rS (k:=0) (szs:=[]) (ids:=[]) (H':=[]) hH hM rfl rfl rfl trivial;refine(hp.2 M1 J1 w cargs (by omega) (fun j c x a b=>?_) s1.mrep).mono ?_
 ·obtain⟨c0,hc0⟩:=aT h1 a
  exact t1 _ _ _ (h2 j c0 c hc0 a) (hr j c0 x hc0 b)
 ·rintro e w' ⟨cv,M',rfl,q1,q2,q3,q4,q5,q6,q7,q8,q9⟩
  refine⟨cv,M,J,v,H,rfl,aC.step _ hH (fun _ _ h=>h) (fun β o h=>q7 β o (hM β o h)) q3 q4 q5 q6 q7 (fun _ _ h=>.inl h),hv.rep (q9 J),hR⟩
theorem Reg.pv {P:Program} {N k:Nat} {xs:List IOper} {fr:Fr} {H:Heap} {K:Fr→Heap→Prop} {d:Nat} {gd:Option (Nat×Bool)} {f:FuncId} {args:List Operand} {args':List AV} {v:AV} (hk:k≤H.length) (hg:gok fr gd=some true) (hp:aC P f args' v) (hv:Plain v)
  (ha:ToL (ToT (H++gh []) H.length (cJ [])) (rho []) (avals fr args) args') (h:Reg P N k xs ((d,v)::fr) H K):Reg P N k (⟨some d,gd,.call f args⟩::xs) fr H K:=Reg.c hk hg (aE.view hp hv ha h)
theorem uE {g i:Nat} {fr:Fr} {H:Heap} {sz:Nat} {x ix:Operand} {k:IntKind} {q:Nat} {g' i' len:Nat} {rows:List (List AV)} (hx:ev fr x=.hsl g' i' 0 len) (hi:ev fr ix=.sc (.int k (q:Int)))
  (hh:hget H g' i'=some (.cells sz rows)) (h1:q < len) (h2:rows.length=len):aD g i (.idxSl sz x ix) fr H=some (.ptr g' i' q 0,H):=by
 have:=CL (g:=g) (i:=i) hx hi hh h1 (by omega);rw[Nat.zero_add] at this;exact this
theorem pR {g i:Nat} {fr:Fr} {H:Heap} {a x:Operand} {g' i' row off s:Nat} {rows:List (List AV)} {r:List AV} {c:AV} (ha:ev fr a=.ptr g' i' row off) (hx:(ev fr x).cs=some [c]) (hh:hget H g' i'=some (.cells s rows)) (hr:rows[row]?=some r)
  (hl:off < r.length) (h1:c.cell1=true):aD g i (.store 1 a x) fr H=some (.undef,aK H g' i' (.cells s (rows.set row (r.set off c)))):=by
 have:=E7 (g:=g) (i:=i) (sz:=1) ha hx hh hr rfl (by omega) (by simp[h1]);rw[z7] at this;exact this
theorem AWP.condN {P:Program} {N k:Nat} {fr:Fr} {H:Heap} {Q:Exit→Fr→Heap→Prop} {c:Operand} {x y:bL} {b:Bool} (p:Prop) [Decidable p] (hb:ev fr c=.sc (.bool b)) (he:b=decide p) (h1:p→AWP P N k x Q fr H) (h2:¬ p→AWP P N k y Q fr H):AWP P N k (.cond c x y) Q fr H:=
 AWP.cond hb (fun h=>h1 (by rw[he] at h; exact of_decide_eq_true h)) (fun h=>h2 (by rw[he] at h; exact of_decide_eq_false h))
end Go.Av
namespace Go.Av
class PV (a:AV):Prop where
 out:aZ a
class PR (l:List AV):Prop where
 out:∀ c∈l,aZ c
class PRs (rows:List (List AV)):Prop where
 out:∀ r∈rows,∀ c∈r,aZ c
class PM (es:List (Value×AV)):Prop where
 out:∀ x∈es,aZ x.2
instance (v:Value):PV (.sc v):=⟨.sc v⟩
instance:PV .undef:=⟨.undef⟩
instance (l:List AV) [h:PR l]:PV (.agg l):=⟨.agg _ h.out⟩
instance (l:List AV) [h:PR l]:PV (.tup l):=⟨.tup _ h.out⟩
instance (l:List AV) [h:PR l]:PV (.cptr l):=⟨.cptr _ h.out⟩
instance (sz:Nat) (l:List (List AV)) [h:PRs l]:PV (.list sz l):=⟨.list _ _ h.out⟩
instance (l:List (Value×AV)) [h:PM l]:PV (.tmap l):=⟨.tmap _ h.out⟩
instance (f:Fn) (l m:List AV) [h:PR l] [h':PR m]:PV (.clo f l m):=⟨.clo _ _ _ h.out h'.out⟩
instance (t:TypeId) (a:AV) [h:PV a]:PV (.ifc t a):=⟨.ifc _ _ h.out⟩
instance:PV .one:=⟨.one⟩
instance:PR []:=⟨dD⟩
instance (a:AV) (l:List AV) [h:PV a] [h':PR l]:PR (a::l):=⟨bA h.out h'.out⟩
instance (l m:List AV) [h:PR l] [h':PR m]:PR (l++m):=⟨tF h.out h'.out⟩
instance (n:Nat) (a:AV) [h:PV a]:PR (List.replicate n a):=⟨fun c hc=>by rw[(List.mem_replicate.1 hc).2]; exact h.out⟩
instance {α:Type} (l:List α) (f:α→AV) [h:∀ a,PV (f a)]:PR (l.map f):=⟨fun c hc=>by
 obtain⟨a,_,rfl⟩:=List.mem_map.1 hc
 exact(h a).out⟩
instance:PRs []:=⟨fun r h=>by cases h⟩
instance (r:List AV) (l:List (List AV)) [h:PR r] [h':PRs l]:PRs (r::l):=⟨fun q hq=>by
 rcases List.mem_cons.1 hq with e | e
 ·subst e; exact h.out
 ·exact h'.out q e⟩
instance (l m:List (List AV)) [h:PRs l] [h':PRs m]:PRs (l++m):=⟨fun r hr=>(List.mem_append.1 hr).elim (h.out r) (h'.out r)⟩
instance (n:Nat) (r:List AV) [h:PR r]:PRs (List.replicate n r):=⟨fun q hq=>by rw[(List.mem_replicate.1 hq).2]; exact h.out⟩
instance {α:Type} (l:List α) (f:α→List AV) [h:∀ a,PR (f a)]:PRs (l.map f):=⟨fun r hr=>by
 obtain⟨a,_,rfl⟩:=List.mem_map.1 hr
 exact(h a).out⟩
instance (n:Nat) (f:Nat→AV) [h:∀ k,PV (f k)]:PRs (row1 n f):=⟨fun r hr=>by
 obtain⟨a,_,rfl⟩:=List.mem_map.1 hr
 exact bA (h a).out dD⟩
instance (n:Nat) (s:Nat→Bool):PR (bset n s):=⟨F9 n s⟩
instance (z:List (Nat×Value)):PR (d5 z):=⟨fun c hc=>by
 rw[fC] at hc;obtain⟨v,_,rfl⟩:=List.mem_map.1 hc
 exact .sc v⟩
instance:PM []:=⟨fun x h=>by cases h⟩
theorem pv (a:AV) [h:PV a]:aZ a:=h.out
theorem pr (l:List AV) [h:PR l]:∀ c∈l,aZ c:=h.out
theorem prs (l:List (List AV)) [h:PRs l]:∀ r∈l,∀ c∈r,aZ c:=h.out
section
variable {P:Program} {N k:Nat} {xs:List IOper} {fr:Fr} {H:Heap} {K:Fr→Heap→Prop} {d:Nat} {gd:Option (Nat×Bool)}
theorem wr1 {o:IOp} {v:AV} {H':Heap} (h:Reg P N k xs ((d,v)::fr) H' K) (hg:gok fr gd=some true:=by rfl) (hs:aD H.length 0 o fr H=some (v,H'):=by rfl):Reg P N k (⟨some d,gd,.op o⟩::xs) fr H K:=.o hg hs h
theorem wr2 {o:IOp} {v:AV} {H':Heap} (h:Reg P N k xs fr H' K) (hg:gok fr gd=some true:=by rfl) (hs:aD H.length 0 o fr H=some (v,H'):=by rfl):Reg P N k (⟨none,gd,.op o⟩::xs) fr H K:=.on hg hs h
theorem wr3 {a:IAct} (h:Reg P N k xs ((d,.sc Go.undef)::fr) H K) (hg:gok fr gd=some false:=by rfl):Reg P N k (⟨some d,gd,a⟩::xs) fr H K:=.s hg h
theorem wr5 {sz:Nat} {x ix:Operand} {kd:IntKind} {q g' i' len:Nat} {rows:List (List AV)} (h:Reg P N k xs ((d,.ptr g' i' q 0)::fr) H K) (hg:gok fr gd=some true:=by rfl) (hx:ev fr x=.hsl g' i' 0 len:=by rfl)
  (hi:ev fr ix=.sc (.int kd (q:Int)):=by rfl) (hh:hget H g' i'=some (.cells sz rows):=by rfl) (h1:q < len:=by first | assumption | omega) (h2:rows.length=len:=by first | assumption | rfl | omega | (simp; done) | (simp; omega)):
  Reg P N k (⟨some d,gd,.op (.idxSl sz x ix)⟩::xs) fr H K:=.o hg (uE hx hi hh h1 h2) h
theorem wr6 {sz:Nat} {x ix:Operand} {kd:IntKind} {n:Int} {rows:List (List AV)} {r:List AV} (h:Reg P N k xs ((d,.cptr r)::fr) H K) (hg:gok fr gd=some true:=by rfl) (hx:ev fr x=.list sz rows:=by rfl)
  (hi:ev fr ix=.sc (.int kd n):=by rfl) (hr:cW rows n=some r:=by assumption):Reg P N k (⟨some d,gd,.op (.idxSl sz x ix)⟩::xs) fr H K:=.o hg (rH hx hi hr) h
theorem wr7 {a:Operand} {g' i' row off s:Nat} {rows:List (List AV)} {r:List AV} {c:AV} (h:Reg P N k xs ((d,c)::fr) H K) (hg:gok fr gd=some true:=by rfl) (ha:ev fr a=.ptr g' i' row off:=by rfl)
  (hh:hget H g' i'=some (.cells s rows):=by rfl) (hr:rows[row]?=some r:=by first | rfl | assumption) (hc:r[off]?=some c:=by first | rfl | assumption):Reg P N k (⟨some d,gd,.op (.load 1 false a)⟩::xs) fr H K:=.o hg (qD ha hh hr hc) h
theorem wr8 {a x:Operand} {g' i' row off s:Nat} {rows:List (List AV)} {r:List AV} {c:AV} (h:Reg P N k xs fr (aK H g' i' (.cells s (rows.set row (r.set off c)))) K) (hg:gok fr gd=some true:=by rfl) (ha:ev fr a=.ptr g' i' row off:=by rfl)
  (hx:(ev fr x).cs=some [c]:=by rfl) (hh:hget H g' i'=some (.cells s rows):=by rfl) (hr:rows[row]?=some r:=by first | rfl | assumption)
  (hl:off < r.length:=by first | assumption | exact nlB rfl | omega | (simp; done) | (simp; omega)) (h1:c.cell1=true:=by rfl):Reg P N k (⟨none,gd,.op (.store 1 a x)⟩::xs) fr H K:=.on hg (pR ha hx hh hr hl h1) h
theorem wr9 {sz bytes:Nat} {s x:Operand} {g' i' len:Nat} {rows1 rows2:List (List AV)} (h:Reg P N k xs ((d,.hsl H.length 0 0 (len+rows2.length))::fr) (aK (aK H g' i' .dead) H.length 0 (.cells sz (rows1++rows2))) K)
  (hg:gok fr gd=some true:=by rfl) (hs:ev fr s=.hsl g' i' 0 len:=by rfl) (hx:d9 sz H (ev fr x)=some (sz,rows2):=by rfl) (hh:hget H g' i'=some (.cells sz rows1):=by rfl)
  (hl:rows1.length=len:=by first | assumption | rfl | omega | (simp; done) | (simp; omega)) (hb:(len+rows2.length) * (bytes+1)≤70368744177664:=by first | omega | (simp; omega)) (e3:(Nat.beq H.length g' && Nat.beq 0 i')=false:=by rfl):
  Reg P N k (⟨some d,gd,.op (.append sz bytes s x)⟩::xs) fr H K:=.o hg (vR hs hx hh hl hb e3) h
end
section
variable {P:Program} {base j:Nat} {xs:List IOper} {fr:Fr} {H:Heap} {v:AV} {H1:Heap} {acc:List bD} {K:List bD→Fr→Heap→Prop} {d:Nat} {gd:Option (Nat×Bool)}
theorem wd1 {o:IOp} (h:DK P base (j+1) xs ((d,v)::fr) H1 (⟨⟨some d,gd,.op o⟩,(base,j),v,drd fr o,dwr base j fr o⟩::acc) K) (hg:gok fr gd=some true:=by rfl) (hs:aD base j o fr H=some (v,H1):=by rfl):
  DK P base j (⟨some d,gd,.op o⟩::xs) fr H acc K:=.o hg hs h
theorem wd2 {o:IOp} (h:DK P base (j+1) xs fr H1 (⟨⟨none,gd,.op o⟩,(base,j),v,drd fr o,dwr base j fr o⟩::acc) K) (hg:gok fr gd=some true:=by rfl) (hs:aD base j o fr H=some (v,H1):=by rfl):
  DK P base j (⟨none,gd,.op o⟩::xs) fr H acc K:=.on hg hs h
theorem wd3 {a:IAct} (h:DK P base (j+1) xs ((d,.sc Go.undef)::fr) H (⟨⟨some d,gd,a⟩,(base,j),.sc Go.undef,[],[]⟩::acc) K) (hg:gok fr gd=some false:=by rfl):DK P base j (⟨some d,gd,a⟩::xs) fr H acc K:=.s hg h
theorem wd5 {sz:Nat} {x ix:Operand} {kd:IntKind} {q g' i' len:Nat} {rows:List (List AV)}
  (h:DK P base (j+1) xs ((d,.ptr g' i' q 0)::fr) H (⟨⟨some d,gd,.op (.idxSl sz x ix)⟩,(base,j),.ptr g' i' q 0,drd fr (.idxSl sz x ix),dwr base j fr (.idxSl sz x ix)⟩::acc) K) (hg:gok fr gd=some true:=by rfl) (hx:ev fr x=.hsl g' i' 0 len:=by rfl)
  (hi:ev fr ix=.sc (.int kd (q:Int)):=by rfl) (hh:hget H g' i'=some (.cells sz rows):=by rfl) (h1:q < len:=by first | assumption | omega) (h2:rows.length=len:=by first | assumption | rfl | omega | (simp; done) | (simp; omega)):
  DK P base j (⟨some d,gd,.op (.idxSl sz x ix)⟩::xs) fr H acc K:=.o hg (uE hx hi hh h1 h2) h
theorem wd6 {sz:Nat} {x ix:Operand} {kd:IntKind} {n:Int} {rows:List (List AV)} {r:List AV} (h:DK P base (j+1) xs ((d,.cptr r)::fr) H (⟨⟨some d,gd,.op (.idxSl sz x ix)⟩,(base,j),.cptr r,drd fr (.idxSl sz x ix),dwr base j fr (.idxSl sz x ix)⟩::acc) K)
  (hg:gok fr gd=some true:=by rfl) (hx:ev fr x=.list sz rows:=by rfl) (hi:ev fr ix=.sc (.int kd n):=by rfl) (hr:cW rows n=some r:=by assumption):DK P base j (⟨some d,gd,.op (.idxSl sz x ix)⟩::xs) fr H acc K:=.o hg (rH hx hi hr) h
theorem wd7 {a:Operand} {g' i' row off s:Nat} {rows:List (List AV)} {r:List AV} {c:AV} (h:DK P base (j+1) xs ((d,c)::fr) H (⟨⟨some d,gd,.op (.load 1 false a)⟩,(base,j),c,drd fr (.load 1 false a),dwr base j fr (.load 1 false a)⟩::acc) K)
  (hg:gok fr gd=some true:=by rfl) (ha:ev fr a=.ptr g' i' row off:=by rfl) (hh:hget H g' i'=some (.cells s rows):=by rfl) (hr:rows[row]?=some r:=by first | rfl | assumption) (hc:r[off]?=some c:=by first | rfl | assumption):
  DK P base j (⟨some d,gd,.op (.load 1 false a)⟩::xs) fr H acc K:=.o hg (qD ha hh hr hc) h
theorem wd8 {a x:Operand} {g' i' row off s:Nat} {rows:List (List AV)} {r:List AV} {c:AV}
  (h:DK P base (j+1) xs fr (aK H g' i' (.cells s (rows.set row (r.set off c)))) (⟨⟨none,gd,.op (.store 1 a x)⟩,(base,j),.undef,drd fr (.store 1 a x),dwr base j fr (.store 1 a x)⟩::acc) K) (hg:gok fr gd=some true:=by rfl) (ha:ev fr a=.ptr g' i' row off:=by rfl)
  (hx:(ev fr x).cs=some [c]:=by rfl) (hh:hget H g' i'=some (.cells s rows):=by rfl) (hr:rows[row]?=some r:=by first | rfl | assumption)
  (hl:off < r.length:=by first | assumption | exact nlB rfl | omega | (simp; done) | (simp; omega)) (h1:c.cell1=true:=by rfl):DK P base j (⟨none,gd,.op (.store 1 a x)⟩::xs) fr H acc K:=.on hg (pR ha hx hh hr hl h1) h
theorem P9 {f:FuncId} {args:List Operand} (h:DK P base (j+1) xs ((d,v)::fr) H (⟨⟨some d,gd,.call f args⟩,(base,j),v,[],[]⟩::acc) K) (hg:gok fr gd=some true:=by rfl) (hp:aC P f (avals fr args) v:=by assumption):
  DK P base j (⟨some d,gd,.call f args⟩::xs) fr H acc K:=.c hg hp h
end
section
variable {P:Program} {base j:Nat} {xs:List IOper} {fr:Fr} {H:Heap} {acc:List bD} {K:List bD→Fr→Heap→Prop} {d:Nat} {gd:Option (Nat×Bool)}
theorem wd9 {sz bytes:Nat} {s x:Operand} {g' i' len:Nat} {rows1 rows2:List (List AV)}
  (h:DK P base (j+1) xs ((d,.hsl base j 0 (len+rows2.length))::fr) (aK (aK H g' i' .dead) base j (.cells sz (rows1++rows2)))
   (⟨⟨some d,gd,.op (.append sz bytes s x)⟩,(base,j),.hsl base j 0 (len+rows2.length),drd fr (.append sz bytes s x),dwr base j fr (.append sz bytes s x)⟩::acc) K)
  (hg:gok fr gd=some true:=by rfl) (hs:ev fr s=.hsl g' i' 0 len:=by rfl) (hx:d9 sz H (ev fr x)=some (sz,rows2):=by rfl) (hh:hget H g' i'=some (.cells sz rows1):=by rfl)
  (hl:rows1.length=len:=by first | assumption | rfl | omega | (simp; done) | (simp; omega)) (hb:(len+rows2.length) * (bytes+1)≤70368744177664:=by first | omega | (simp; omega)) (e3:(Nat.beq base g' && Nat.beq j i')=false:=by rfl):
  DK P base j (⟨some d,gd,.op (.append sz bytes s x)⟩::xs) fr H acc K:=.o hg (vR hs hx hh hl hb e3) h
end
section
variable {T:AV→AV→Prop} {ρ:Nat→Nat→Option (Nat×Nat)} {H:Heap} {n:Nat} {S:Nat→Nat→Bool}
theorem wt1 {a b:AV} [h:PV b] (e:a=b:=by rfl):To T ρ a b:=.eq e h.out
theorem wt2 {g i len sz:Nat} {rows rows':List (List AV)} [hp:PRs rows'] (h:hget H g i=some (.cells sz rows)) (hS:S g i=true) (hl:rows.length=len) (e:rows=rows'):To (ToT H n S) ρ (.hsl g i 0 len) (.list sz rows'):=.fz h hS hl e hp.out
theorem wt5 {sz:Nat} {rows rows':List (List AV)} [hp:PRs rows'] (e:rows=rows':=by rfl):ToB T ρ (.cells sz rows) (.cells sz rows'):=.rows e hp.out
theorem wt6 {sz:Nat} {rows rows':List (List AV)} [hp:PRs rows'] (e:rows=rows'):ToB T ρ (.cells sz rows) (.cells sz rows'):=.rows e hp.out
theorem wt7 {l:List AV} [hp:PR l]:ToL T ρ l l:=.pure hp.out
theorem wt9 {sz:Nat} {rows rows':List (List AV)} {r r':List AV} [hp:PRs rows'] (e:rows=rows') (h:ToL T ρ r r'):ToB T ρ (.cells sz (rows++[r])) (.cells sz (rows'++[r'])):=.rowsR (.snoc e hp.out h)
theorem fN {p:Nat×Nat} {x y:Blk} {ps:List (Nat×Nat)} {xs:List Blk} {R:Blk→Blk→Prop} (h:R y x) (h':bK R H ps xs) (e:hget H p.1 p.2=some y:=by rfl):bK R H (p::ps) (x::xs):=.cons e h h'
theorem gM {es es':List (Value×AV)} [hp:PM es'] (e:es=es'):ToB T ρ (.map es) (.map es'):=.mapE e hp.out
end
theorem ToB.row1 {T:AV→AV→Prop} {ρ:Nat→Nat→Option (Nat×Nat)} {n:Nat} {f f':Nat→AV} (h:∀ k,k < n→To T ρ (f k) (f' k)):ToB T ρ (.cells 1 (row1 n f)) (.cells 1 (row1 n f')):=by
 unfold Av.row1;exact ToB.rowsR (ToR.map fun k hk=>⟨h k (List.mem_range.1 hk),trivial⟩)
theorem To.row1 {T:AV→AV→Prop} {ρ:Nat→Nat→Option (Nat×Nat)} {n:Nat} {f f':Nat→AV} (h:∀ k,k < n→To T ρ (f k) (f' k)):To T ρ (.list 1 (row1 n f)) (.list 1 (row1 n f')):=by
 unfold Av.row1;exact To.listR (ToR.map fun k hk=>⟨h k (List.mem_range.1 hk),trivial⟩)
theorem aC.mkI {P:Program} {f:FuncId} {F:IFun} {args:List AV} {X:AV} [ha:PR args] [hX:PV X] (hf:bG P f=some F) (hn:args.length≤F.n) (h:AWP P F.n 0 F.code (aG F.res X) (fE 0 args) []):aC P f args X:=.mk hf hn ha.out hX.out h
end Go.Av
