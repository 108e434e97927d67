import Derived.Calls
import Derived.Laws.World
import Derived.Laws.Sem
import Derived.Laws.Cells
theorem nlB {n m:Nat} (h:Nat.ble n m=true):n≤m:=Nat.le_of_ble_eq_true h
theorem gEs {α:Type _} {l:List α} {i:Nat} {a:α}:l[i]?=some a↔∃ h:i < l.length,l[i]=a:=List.getElem?_eq_some_iff
theorem gEg {α:Type _} {l:List α} {i:Nat} (h:i < l.length):l[i]?=some l[i]:=List.getElem?_eq_getElem h
theorem oIn {α:Type _} (a b:α):(some a=some b)=(a=b):=Option.some.injEq a b
theorem pIn {α:Type _} {β:Type _} (a:α) (b:β) (c:α) (d:β):((a,b)=(c,d))=(a=c∧b=d):=Prod.mk.injEq a b c d
theorem dFa {p:Prop} [i:Decidable p] (h:¬ p):decide p=false:=decide_eq_false h
theorem dTr {p:Prop} [i:Decidable p] (h:p):decide p=true:=decide_eq_true h
theorem nEb {n m:Nat} (h:Nat.beq n m=true):n=m:=Nat.eq_of_beq_eq_true h
theorem nLb {n m:Nat} (h:Nat.ble n m=true):n≤m:=Nat.le_of_ble_eq_true h
theorem mOg {α:Type _} {l:List α} {i:Nat} {a:α} (h:l[i]?=some a):a∈l:=List.mem_of_getElem? h
theorem bAe (a b:Bool):((a && b)=true)=(a=true∧b=true):=Bool.and_eq_true a b
theorem gMe {α:Type _} {l:List α} {n:Nat} (h:n < l.length):l[n]∈l:=List.getElem_mem h
theorem mCm {α:Type _} (y:α) {a:α} {l:List α} (h:a∈l):a∈y::l:=List.mem_cons_of_mem y h
theorem dBc {p:Prop} [i:Decidable p] (h:¬ p→False):p:=Decidable.byContradiction h
theorem nZl (n:Nat):0≤n:=Nat.zero_le n
theorem lAp {α:Type _} {l m:List α}:(l++m).length=l.length+m.length:=List.length_append
namespace Go.Av
inductive AV where
 | undef
 | sc (v:Value)
 | agg (cells:List AV)
 | tup (vs:List AV)
 | list (sz:Nat) (rows:List (List AV))
 | cptr (cells:List AV)
 | tmap (es:List (Value×AV))
 | ptr (g i row off:Nat)
 | hsl (g i start len:Nat)
 | mref (g i:Nat)
 | clo (fn:Fn) (first captured:List AV)
 | yld (g i:Nat)
 | asl (g i row off len:Nat)
 | ifc (t:TypeId) (a:AV)
 | one
 deriving Inhabited
abbrev Fr:=List (Nat×AV)
def Fr.get:Fr→Nat→AV
 | [],_=>.undef
 | (d,v)::r,t=>match Nat.beq d t with
  | true=>v
  | false=>Fr.get r t
def Fr.put (fr:Fr):Option Nat→AV→Fr
 | some d,v=>(d,v)::fr
 | none,_=>fr
structure LC where
 n:Nat
 ps:Array Tmp
 asg:Code
 body:Code
inductive Blk where
 | dead
 | cells (sz:Nat) (rows:List (List AV))
 | map (es:List (Value×AV))
 | lp (L:LC) (caps:Fr) (st:LoopState) (pe:Option Code)
 | umap (n:Nat) (es:List (List Int×AV))
 | it (cur:Option (Value×AV)) (es:List (Value×AV))
 deriving Inhabited
abbrev Heap:=List (List Blk)
def hget (H:Heap) (g i:Nat):Option Blk:=
 match H[g]? with
 | some f=>f[i]?
 | none=>none
structure Loc where
 blk:Option Nat
 sz:Nat
 tot:Nat
abbrev Mem:=Nat→Option Obj
abbrev Inj:=Nat→Nat→Option Loc
structure MWF (ces:Array MapEntry) (clock:Nat):Prop where
 lt:∀ e∈ces.toList,e.born < clock
 nd:ces.toList.Pairwise fun a b=>a.born≠b.born
theorem MWF.empty {c:Nat}:MWF #[] c:=⟨fun e h=>by simp at h,List.Pairwise.nil⟩
theorem MWF.push {ces:Array MapEntry} {c:Nat} (h:MWF ces c) (k v:Value):MWF (ces.push { key:=k,val:=v,born:=c }) (c+1):=by
 refine⟨fun e he=>?_,?_⟩
 ·rw[Array.toList_push,List.mem_append] at he
  rcases he with he | he
  ·have:=h.lt e he; omega
  ·rw[List.mem_singleton.1 he]
   exact Nat.lt_succ_self c
 ·rw[Array.toList_push]
  refine List.pairwise_append.2 ⟨h.nd,List.pairwise_singleton _ _,fun a ha b hb=>?_⟩;have:=h.lt a ha;rw[List.mem_singleton.1 hb];show a.born≠c;omega
theorem MWF.of {ces ces':Array MapEntry} {c:Nat} (h:MWF ces c) (e:ces'.toList.map (·.born)=ces.toList.map (·.born)):MWF ces' c:=by
 refine⟨fun x hx=>?_,?_⟩
 ·have h1:x.born∈ces'.toList.map (·.born):=List.mem_map.2 ⟨x,hx,rfl⟩
  rw[e] at h1;obtain⟨y,hy,h2⟩:=List.mem_map.1 h1;rw[← h2];exact h.lt y hy
 ·have h1:(ces.toList.map (·.born)).Pairwise (·≠·):=List.pairwise_map.2 h.nd
  rw[← e] at h1;exact List.pairwise_map.1 h1
theorem MWF.modify {ces:Array MapEntry} {c:Nat} (h:MWF ces c) (j:Nat) (k v:Value):MWF (ces.modify j fun e=>{ e with key:=k,val:=v }) c:=by
 refine h.of ?_;apply List.ext_getElem?;intro q;rw[List.getElem?_map,List.getElem?_map,Array.getElem?_toList,Array.getElem?_toList,Array.getElem?_modify];split
 ·cases ces[q]?<;>rfl
 ·rfl
inductive Rep (M:Mem) (J:Inj):AV→Value→Prop
 | undef (v:Value):Rep M J .undef v
 | sc (v:Value):Rep M J (.sc v) v
 | agg (cells:List AV) (cvs:Array Value) (hl:cells.length=cvs.size)
   (h:∀(j:Nat) c v,cells[j]?=some c→cvs[j]?=some v→Rep M J c v):Rep M J (.agg cells) (.agg cvs)
 | tup (vs:List AV) (cvs:Array Value) (hl:vs.length=cvs.size)
   (h:∀(j:Nat) c v,vs[j]?=some c→cvs[j]?=some v→Rep M J c v):Rep M J (.tup vs) (.tuple cvs)
 | nilList (sz:Nat) (a:Option Addr) (cap:Nat):Rep M J (.list sz []) (.slice a 0 cap)
 | list (sz:Nat) (rows:List (List AV)) (β off cap n:Nat) (cs:Array Value) (e:TypeId) (fr:Nat×Nat)
   (hn:n=rows.length∧n≤cap)
   (hM:M β=some (.cells cs e fr)) (hsz:∀(i:Nat) (r:List AV),rows[i]?=some r→r.length=sz)
   (hle:off+rows.length * sz≤cs.size) (h1:∀(j:Nat) v,j < rows.length * sz→cs[off+j]?=some v→v.oneCell'=true)
   (h:∀(i:Nat) (r:List AV) (j:Nat) c v,rows[i]?=some r→r[j]?=some c→cs[off+i * sz+j]?=some v→Rep M J c v):
   Rep M J (.list sz rows) (.slice (some ⟨β,off,none⟩) n cap)
 | cptr (cells:List AV) (β off:Nat) (cs:Array Value) (e:TypeId) (fr:Nat×Nat)
   (hM:M β=some (.cells cs e fr)) (hle:cells=[]∨off+cells.length≤cs.size)
   (h:∀(j:Nat) c v,cells[j]?=some c→cs[off+j]?=some v→Rep M J c v):
   Rep M J (.cptr cells) (.pointer (some ⟨β,off,none⟩))
 | tmap (es:List (Value×AV)) (β clock:Nat) (ces:Array MapEntry)
   (hM:M β=some (.map ces clock)) (hw:MWF ces clock) (hl:es.length=ces.size)
   (hk:∀(j:Nat) x y,es[j]?=some x→ces[j]?=some y→x.1=y.key)
   (h:∀(j:Nat) x y,es[j]?=some x→ces[j]?=some y→Rep M J x.2 y.val):Rep M J (.tmap es) (.map (some β))
 | ptr (g i row off β:Nat) (l:Loc) (hJ:J g i=some l) (hb:l.blk=some β):
   Rep M J (.ptr g i row off) (.pointer (some ⟨β,row * l.sz+off,none⟩))
 | hsl (g i start len cap β:Nat) (l:Loc) (hJ:J g i=some l) (hb:l.blk=some β) (hc:(start+cap) * l.sz=l.tot) (hlc:len≤cap):
   Rep M J (.hsl g i start len) (.slice (some ⟨β,start * l.sz,none⟩) len cap)
 | hslNil (g i:Nat) (a:Option Addr) (l:Loc) (hJ:J g i=some l) (hb:l.blk=none):Rep M J (.hsl g i 0 0) (.slice a 0 0)
 | mref (g i β:Nat) (l:Loc) (hJ:J g i=some l) (hb:l.blk=some β):Rep M J (.mref g i) (.map (some β))
 | clo (fn:Fn) (fs cs:List AV) (cfs ccs:Array Value) (hf:fs.length=cfs.size) (hc:cs.length=ccs.size)
   (h1:∀(j:Nat) c v,fs[j]?=some c→cfs[j]?=some v→Rep M J c v)
   (h2:∀(j:Nat) c v,cs[j]?=some c→ccs[j]?=some v→Rep M J c v):Rep M J (.clo fn fs cs) (.func fn cfs ccs)
 | yld (g i β:Nat) (l:Loc) (hJ:J g i=some l) (hb:l.blk=some β):Rep M J (.yld g i) (.func (.yield β) #[] #[])
 | asl (g i row off len cap β:Nat) (l:Loc) (hJ:J g i=some l) (hb:l.blk=some β) (hlc:len≤cap):Rep M J (.asl g i row off len) (.slice (some ⟨β,row * l.sz+off,none⟩) len cap)
 | ifc (t:TypeId) (a:AV) (v:Value) (h:Rep M J a v):Rep M J (.ifc t a) (.iface t v)
 | one (v:Value) (h:v.oneCell'=true):Rep M J .one v
theorem or2 {a b c d:Prop} (h:a∨b) (f:a→c) (g:b→d):c∨d:=h.elim (fun x=>.inl (f x)) (fun x=>.inr (g x))
structure Ext (M:Mem) (J:Inj) (M':Mem) (J':Inj):Prop where
 m:∀ β o,M β=some o→M' β=some o
 j:∀ g i l,J g i=some l→J' g i=some l
theorem Ext.refl (M:Mem) (J:Inj):Ext M J M J:=⟨fun _ _ h=>h,fun _ _ _ h=>h⟩
theorem Ext.trans {M J M' J' M'' J''} (h:Ext M J M' J') (h':Ext M' J' M'' J''):Ext M J M'' J'':=
 ⟨fun β o x=>h'.m β o (h.m β o x),fun g i l x=>h'.j g i l (h.j g i l x)⟩
inductive Ren (ρ:Nat→Nat→Option (Nat×Nat)):AV→AV→Prop
 | undef (a:AV):Ren ρ a .undef
 | sc (v:Value):Ren ρ (.sc v) (.sc v)
 | agg (xs ys:List AV) (hl:xs.length=ys.length) (h:∀(j:Nat) x y,xs[j]?=some x→ys[j]?=some y→Ren ρ x y):Ren ρ (.agg xs) (.agg ys)
 | tup (xs ys:List AV) (hl:xs.length=ys.length) (h:∀(j:Nat) x y,xs[j]?=some x→ys[j]?=some y→Ren ρ x y):Ren ρ (.tup xs) (.tup ys)
 | list (sz:Nat) (rows rows':List (List AV)) (hl:rows.length=rows'.length) (hr:∀(i:Nat) (r r':List AV),rows[i]?=some r→rows'[i]?=some r'→r.length=r'.length)
   (h:∀(i:Nat) (r r':List AV) (j:Nat) x y,rows[i]?=some r→rows'[i]?=some r'→r[j]?=some x→r'[j]?=some y→Ren ρ x y):Ren ρ (.list sz rows) (.list sz rows')
 | cptr (xs ys:List AV) (hl:xs.length=ys.length) (h:∀(j:Nat) x y,xs[j]?=some x→ys[j]?=some y→Ren ρ x y):Ren ρ (.cptr xs) (.cptr ys)
 | tmap (es es':List (Value×AV)) (hl:es.length=es'.length) (hk:∀(j:Nat) x y,es[j]?=some x→es'[j]?=some y→x.1=y.1)
   (h:∀(j:Nat) x y,es[j]?=some x→es'[j]?=some y→Ren ρ x.2 y.2):Ren ρ (.tmap es) (.tmap es')
 | ptr (g i g' i' row off:Nat) (h:ρ g i=some (g',i')):Ren ρ (.ptr g' i' row off) (.ptr g i row off)
 | hsl (g i g' i' start len:Nat) (h:ρ g i=some (g',i')):Ren ρ (.hsl g' i' start len) (.hsl g i start len)
 | mref (g i g' i':Nat) (h:ρ g i=some (g',i')):Ren ρ (.mref g' i') (.mref g i)
 | clo (fn:Fn) (fs cs fs' cs':List AV) (h1:fs.length=fs'.length) (h2:cs.length=cs'.length)
   (h3:∀(j:Nat) x y,fs[j]?=some x→fs'[j]?=some y→Ren ρ x y) (h4:∀(j:Nat) x y,cs[j]?=some x→cs'[j]?=some y→Ren ρ x y):
   Ren ρ (.clo fn fs cs) (.clo fn fs' cs')
 | yld (g i g' i':Nat) (h:ρ g i=some (g',i')):Ren ρ (.yld g' i') (.yld g i)
 | asl (g i g' i' row off len:Nat) (h:ρ g i=some (g',i')):Ren ρ (.asl g' i' row off len) (.asl g i row off len)
 | ifc (t:TypeId) (a a':AV) (h:Ren ρ a a'):Ren ρ (.ifc t a) (.ifc t a')
 | one:Ren ρ .one .one
def Inj.via (J:Inj) (ρ:Nat→Nat→Option (Nat×Nat)):Inj:=fun g i=>
 match ρ g i with
 | some (g',i')=>J g' i'
 | none=>none
theorem Inj.via_some {J:Inj} {ρ:Nat→Nat→Option (Nat×Nat)} {g i g' i':Nat} (h:ρ g i=some (g',i')):J.via ρ g i=J g' i':=by simp[Inj.via,h]
theorem Rep.ren {M J} {ρ:Nat→Nat→Option (Nat×Nat)} {a a':AV} {v:Value} (h:Rep M J a v) (hr:Ren ρ a a'):Rep M (J.via ρ) a' v:=by
 have get2:∀ {xs ys:List AV} (_:xs.length=ys.length) {j:Nat} {y:AV},ys[j]?=some y→∃ x,xs[j]?=some x:=by
  intro xs ys hl j y hy;have:=(gEs.1 hy).1;exact⟨xs[j],gEg (by omega)⟩
 induction h generalizing a' with
 | undef v=>cases hr; exact .undef v
 | sc v=>cases hr<;>first | exact .undef v | exact .sc v
 | agg cells cvs hl _ ih=>
  cases hr with
  | undef=>exact .undef _
  | agg _ ys hl' hr=>
   exact .agg ys cvs (by omega) fun j c v a b=>by
    obtain⟨x,hx⟩:=get2 hl' a;exact ih j x v hx b (hr j x c hx a)
 | tup cells cvs hl _ ih=>
  cases hr with
  | undef=>exact .undef _
  | tup _ ys hl' hr=>
   exact .tup ys cvs (by omega) fun j c v a b=>by
    obtain⟨x,hx⟩:=get2 hl' a;exact ih j x v hx b (hr j x c hx a)
 | nilList sz a cap=>
  cases hr with
  | undef=>exact .undef _
  | list _ _ rows' hl' hr' hr=>
   have:rows'=[]:=by cases rows' with | nil=>rfl | cons _ _=>simp at hl'
   subst this;exact .nilList sz a cap
 | list sz rows β off cap n cs e fr hn hM hsz hle ho _ ih=>
  cases hr with
  | undef=>exact .undef _
  | list _ _ rows' hl' hr' hr=>
   have getr:∀ {i:Nat} {r':List AV},rows'[i]?=some r'→∃ r,rows[i]?=some r:=by
    intro i r' hy;have:=(gEs.1 hy).1;exact⟨rows[i],gEg (by omega)⟩
   refine .list sz rows' β off cap n cs e fr (by omega) hM (fun i r' h=>?_) (by rw[← hl']; exact hle) (by rw[← hl']; exact ho) fun i r' j c v a b d=>?_
   ·obtain⟨r,h'⟩:=getr h
    rw[← hr' i r r' h' h];exact hsz i r h'
   ·obtain⟨r,h'⟩:=getr a
    obtain⟨x,hx⟩:=get2 (hr' i r r' h' a) b;exact ih i r j x v h' hx d (hr i r r' j x c h' a hx b)
 | cptr cells β off cs e fr hM hle _ ih=>
  cases hr with
  | undef=>exact .undef _
  | cptr _ ys hl' hr=>
   refine .cptr ys β off cs e fr hM ?_ fun j c v a b=>?_
   ·rcases hle with rfl | hle
    ·left
     cases ys with | nil=>rfl | cons _ _=>simp at hl'
    ·right; omega
   ·obtain⟨x,hx⟩:=get2 hl' a
    exact ih j x v hx b (hr j x c hx a)
 | tmap es β clock ces hM hw hl hk _ ih=>
  cases hr with
  | undef=>exact .undef _
  | tmap _ es' hl' hk' hr=>
   have gete:∀ {j:Nat} {y:Value×AV},es'[j]?=some y→∃ x,es[j]?=some x:=by
    intro j y hy;have:=(gEs.1 hy).1;exact⟨es[j],gEg (by omega)⟩
   refine .tmap es' β clock ces hM hw (by omega) (fun j x y a b=>?_) fun j x y a b=>?_
   ·obtain⟨z,hz⟩:=gete a
    rw[← hk' j z x hz a];exact hk j z y hz b
   ·obtain⟨z,hz⟩:=gete a
    exact ih j z y hz b (hr j z x hz a)
 | ptr g i row off β l hJ hb=>
  cases hr with
  | undef=>exact .undef _
  | ptr g' i' _ _ _ _ h=>exact .ptr g' i' row off β l (by rw[Inj.via_some h,hJ]) hb
 | hsl g i start len cap β l hJ hb h1 h2=>
  cases hr with
  | undef=>exact .undef _
  | hsl g' i' _ _ _ _ h=>exact .hsl g' i' start len cap β l (by rw[Inj.via_some h,hJ]) hb h1 h2
 | hslNil g i a l hJ hb=>
  cases hr with
  | undef=>exact .undef _
  | hsl g' i' _ _ _ _ h=>exact .hslNil g' i' a l (by rw[Inj.via_some h,hJ]) hb
 | mref g i β l hJ hb=>
  cases hr with
  | undef=>exact .undef _
  | mref g' i' _ _ h=>exact .mref g' i' β l (by rw[Inj.via_some h,hJ]) hb
 | clo fn fs cs cfs ccs hf hc _ _ ih1 ih2=>
  cases hr with
  | undef=>exact .undef _
  | clo _ _ _ fs' cs' g1 g2 g3 g4=>
   refine .clo fn fs' cs' cfs ccs (by omega) (by omega) (fun j c v a b=>?_) (fun j c v a b=>?_)
   ·obtain⟨x,hx⟩:=get2 g1 a
    exact ih1 j x v hx b (g3 j x c hx a)
   ·obtain⟨x,hx⟩:=get2 g2 a
    exact ih2 j x v hx b (g4 j x c hx a)
 | yld g i β l hJ hb=>
  cases hr with
  | undef=>exact .undef _
  | yld g' i' _ _ h=>exact .yld g' i' β l (by rw[Inj.via_some h,hJ]) hb
 | asl g i row off len cap β l hJ hb hlc=>
  cases hr with
  | undef=>exact .undef _
  | asl g' i' _ _ _ _ _ h=>exact .asl g' i' row off len cap β l (by rw[Inj.via_some h,hJ]) hb hlc
 | ifc t a v _ ih=>
  cases hr with
  | undef=>exact .undef _
  | ifc _ _ a' h=>exact .ifc t a' v (ih h)
 | one v h=>
  cases hr with
  | undef=>exact .undef _
  | one=>exact .one v h
theorem Rep.ext {M J M' J'} (hx:Ext M J M' J') {a:AV} {v:Value} (h:Rep M J a v):Rep M' J' a v:=by
 induction h with
 | undef v=>exact .undef v
 | sc v=>exact .sc v
 | agg cells cvs hl _ ih=>exact .agg cells cvs hl ih
 | tup cells cvs hl _ ih=>exact .tup cells cvs hl ih
 | nilList sz a cap=>exact .nilList sz a cap
 | list sz rows β off cap n cs e fr hn hM hsz hle ho _ ih=>exact .list sz rows β off cap n cs e fr hn (hx.m _ _ hM) hsz hle ho ih
 | cptr cells β off cs e fr hM hle _ ih=>exact .cptr cells β off cs e fr (hx.m _ _ hM) hle ih
 | tmap es β clock ces hM hw hl hk _ ih=>exact .tmap es β clock ces (hx.m _ _ hM) hw hl hk ih
 | ptr g i row off β l hJ hb=>exact .ptr g i row off β l (hx.j _ _ _ hJ) hb
 | hsl g i start len cap β l hJ hb hc hlc=>exact .hsl g i start len cap β l (hx.j _ _ _ hJ) hb hc hlc
 | hslNil g i a l hJ hb=>exact .hslNil g i a l (hx.j _ _ _ hJ) hb
 | mref g i β l hJ hb=>exact .mref g i β l (hx.j _ _ _ hJ) hb
 | clo fn fs cs cfs ccs hf hc _ _ ih1 ih2=>exact .clo fn fs cs cfs ccs hf hc ih1 ih2
 | yld g i β l hJ hb=>exact .yld g i β l (hx.j _ _ _ hJ) hb
 | asl g i row off len cap β l hJ hb hlc=>exact .asl g i row off len cap β l (hx.j _ _ _ hJ) hb hlc
 | ifc t a v _ ih=>exact .ifc t a v ih
 | one v h=>exact .one v h
def Blk.live:Blk→Bool
 | .dead=>false
 | _=>true
def aQ (H:Heap) (g i:Nat):Prop:=∃ x,hget H g i=some x∧x.live=true
def aU (N:Nat) (M:Mem) (J:Inj) (fr:Fr) (tmps:Array Value):Prop:=
 tmps.size=N∧∀ t,Rep M J (fr.get t) (tmps.getD t Go.undef)
def oW (c:List Int):Value:=.agg (c.map fun n=>Value.int .i64 n).toArray
def mW (M:Mem) (J:Inj) (o:Obj) (cur:Option (Value×AV)) (es:List (Value×AV)):Prop:=
 (es=[]∧cur=none∧∃ a b c,o=.mapIter none a b c) ∨
 ∃(μ since:Nat) (seen:Array Nat) (ces:Array MapEntry),o=.mapIter (some μ) since seen since∧M μ=some (.map ces since)∧MWF ces since ∧
  es.length=(ces.toList.filter fun e=>!seen.contains e.born).length ∧
  (∀(j:Nat) x y,es[j]?=some x→(ces.toList.filter fun e=>!seen.contains e.born)[j]?=some y→x.1=y.key∧Rep M J x.2 y.val) ∧
  ∀ x,cur=some x→∃ e∈ces.toList,seen.back?=some e.born∧x.1=e.key∧Rep M J x.2 e.val
def NoF (f:Nat×Nat) (n:Nat):Prop:=f=(0,0)∨n≤f.1
def mF (h:Array Obj) (β:Nat) (cs:Array Value) (e:TypeId):Prop:=∃ f,h[β]?=some (.cells cs e f)∧NoF f cs.size
theorem mF.of {h:Array Obj} {β:Nat} {cs:Array Value} {e:TypeId} (hh:h[β]?=some (.cells cs e (0,0))):mF h β cs e:=⟨_,hh,.inl rfl⟩
def eQ (M:Mem) (J:Inj) (l:Loc) (h:Array Obj):Blk→Prop
 | .dead=>True
 | .cells sz rows=>l.sz=sz∧(∀(i:Nat) (r:List AV),rows[i]?=some r→r.length=sz) ∧
   match l.blk with
   | none=>rows=[]
   | some β=>∃ cs e,mF h β cs e∧cs.size=l.tot∧rows.length * sz≤l.tot∧(∀(j:Nat) v,j < rows.length * sz→cs[j]?=some v→v.oneCell'=true) ∧
    ∀(i:Nat) (r:List AV) (j:Nat) c v,rows[i]?=some r→r[j]?=some c→cs[i * sz+j]?=some v→Rep M J c v
 | .map es=>∃ β ces clock,l.blk=some β∧h[β]?=some (.map ces clock)∧es.length=ces.size ∧
   (∀(j:Nat) x y,es[j]?=some x→ces[j]?=some y→x.1=y.key) ∧
   (∀(j:Nat) x y,es[j]?=some x→ces[j]?=some y→Rep M J x.2 y.val)∧MWF ces clock
 | .lp L caps st pe=>∃ β r,l.blk=some β∧h[β]?=some (.loop r)∧r.params=L.ps∧r.assign=L.asg∧r.body=L.body∧r.state=st∧r.pending=pe∧aU L.n M J caps r.tmps
 | .umap n es=>∃(β:Nat) (ces:Array MapEntry) (clock:Nat) (es':List (List Int×AV)),l.blk=some β∧h[β]?=some (.map ces clock)∧es'.Perm es∧(es.map (·.1)).Nodup∧(∀ x∈es,x.1.length=n)∧es'.length=ces.size ∧
   (∀(j:Nat) x y,es'[j]?=some x→ces[j]?=some y→oW x.1=y.key)∧(∀(j:Nat) x y,es'[j]?=some x→ces[j]?=some y→Rep M J x.2 y.val)
 | .it cur es=>∃(β:Nat) (o:Obj),l.blk=some β∧h[β]?=some o∧mW M J o cur es
theorem mW.ext {M J M' J'} (hx:Ext M J M' J') {o:Obj} {cur:Option (Value×AV)} {es:List (Value×AV)} (h:mW M J o cur es):mW M' J' o cur es:=by
 rcases h with h | ⟨μ,since,seen,ces,h1,h2,h3,h4,h5,h6⟩
 ·exact .inl h
 ·refine .inr ⟨μ,since,seen,ces,h1,hx.m _ _ h2,h3,h4,fun j x y a b=>⟨(h5 j x y a b).1,(h5 j x y a b).2.ext hx⟩,fun x hc=>?_⟩
  obtain⟨e,a,b,c,d⟩:=h6 x hc;exact⟨e,a,b,c,d.ext hx⟩
theorem eQ.ext {M J M' J'} (hx:Ext M J M' J') {l:Loc} {h h':Array Obj} {b:Blk} (hh:∀ β,l.blk=some β→h'[β]?=h[β]?) (hb:eQ M J l h b):eQ M' J' l h' b:=by
 cases b with
 | dead=>trivial
 | cells sz rows=>
  obtain⟨h1,h2,h3⟩:=hb;refine⟨h1,h2,?_⟩
  cases e:l.blk with
  | none=>rw[e] at h3; exact h3
  | some β=>
   rw[e] at h3;obtain⟨cs,t,a,b,c,o,d⟩:=h3;exact⟨cs,t,by unfold mF; rw[hh β e]; exact a,b,c,o,fun i r j c v x y z=>(d i r j c v x y z).ext hx⟩
 | map es=>
  obtain⟨β,ces,clock,h0,h1,h2,h3,h4,h5⟩:=hb;exact⟨β,ces,clock,h0,by rw[hh β h0]; exact h1,h2,h3,fun j x y a b=>(h4 j x y a b).ext hx,h5⟩
 | it cur es=>
  obtain⟨β,o,h0,h1,h2⟩:=hb;exact⟨β,o,h0,by rw[hh β h0]; exact h1,h2.ext hx⟩
 | lp L caps st pe=>
  obtain⟨β,r,h0,h1,h3,h4,h5,h6,h7,h8,h9⟩:=hb;exact⟨β,r,h0,by rw[hh β h0]; exact h1,h3,h4,h5,h6,h7,h8,fun t=>(h9 t).ext hx⟩
 | umap n es=>
  obtain⟨β,ces,clock,es',h0,h1,h2,h3,h4,h5,h6,h7⟩:=hb;exact⟨β,ces,clock,es',h0,by rw[hh β h0]; exact h1,h2,h3,h4,h5,h6,fun j x y a b=>(h7 j x y a b).ext hx⟩
def Blk.plain:Blk→Bool
 | .lp ..=>false
 | _=>true
theorem eQ.noLoop {M J} {l:Loc} {h:Array Obj} {x:Blk} {β:Nat} (hb:eQ M J l h x) (hx:x.live=true) (hp:x.plain=true) (hl:l.blk=some β) (r:Loop):h[β]?≠some (.loop r):=by
 intro e
 cases x with
 | dead=>cases hx
 | lp=>cases hp
 | cells sz rows=>
  obtain⟨_,_,h3⟩:=hb;rw[hl] at h3;obtain⟨cs,t,⟨f,a,_⟩,_⟩:=h3;rw[e] at a; cases a
 | map es=>
  obtain⟨β',ces,clock,h0,h1,_⟩:=hb;rw[hl] at h0
  injection h0 with h0
  subst h0;rw[e] at h1; cases h1
 | umap n es=>
  obtain⟨β',ces,clock,_,h0,h1,_⟩:=hb;rw[hl] at h0
  injection h0 with h0
  subst h0;rw[e] at h1; cases h1
 | it cur es=>
  obtain⟨β',o,h0,h1,h2⟩:=hb;rw[hl] at h0
  injection h0 with h0
  subst h0;rw[e] at h1
  injection h1 with h1
  subst h1
  rcases h2 with⟨_,_,a,b,c,h⟩ | ⟨_,_,_,_,h,_⟩<;>cases h
structure aN (M:Mem) (J:Inj) (H:Heap) (h:Array Obj):Prop where
 blk:∀(g i:Nat) x,hget H g i=some x→x.live=true→∃ l,J g i=some l∧eQ M J l h x
 inj:∀ g i g' i' l l' β,aQ H g i→aQ H g' i'→J g i=some l→J g' i'=some l'→l.blk=some β→l'.blk=some β→g=g'∧i=i'
 out:∀ g i l β,aQ H g i→J g i=some l→l.blk=some β→M β=none
 dom:∀ g i l,J g i=some l→(hget H g i).isSome∧∀ β,l.blk=some β→β < h.size
def a8 (M:Mem) (h:Array Obj):Prop:=∀ β o,M β=some o→h[β]?=some o
def oG (w w':World):Prop:=w'.tape=w.tape∧w.drawn≤w'.drawn
theorem oG.refl (w:World):oG w w:=⟨rfl,Nat.le_refl _⟩
theorem oG.trans {w w1 w2:World} (a:oG w w1) (b:oG w1 w2):oG w w2:=⟨b.1.trans a.1,Nat.le_trans a.2 b.2⟩
structure aS (k:Nat) (M:Mem) (J:Inj) (H:Heap) (w:World) (M':Mem) (J':Inj) (H':Heap) (w':World):Prop where
 m:∀ β o,M β=some o→M' β=some o
 j:∀ g i l,g < k→J g i=some l→J' g i=some l
 hrep:aN M' J' H' w'.heap
 mrep:a8 M' w'.heap
 os:w'.os=w.os
 tape:oG w w'
 output:w'.output=w.output
 size:w.heap.size≤w'.heap.size
 frame:∀(β:Nat) o,w.heap[β]?=some o→(∀ g i l,aQ H g i→J g i=some l→l.blk≠some β)→w'.heap[β]?=some o
 fresh:∀ β o,M' β=some o→M β=some o∨w.heap.size≤β∨∃ g i l,aQ H g i∧J g i=some l∧l.blk=some β
 live:∀ g i l β,aQ H' g i→J' g i=some l→l.blk=some β→(∃ g0 i0 l0,aQ H g0 i0∧J g0 i0=some l0∧l0.blk=some β)∨w.heap.size≤β
 bk:∀(β:Nat) r,w.heap[β]?=some (.loop r)→∃ r',w'.heap[β]?=some (.loop r')∧r'.defers=r.defers
end Go.Av
namespace Go.Av
def iA (w:World) (β:Nat) (o:Obj):World:={ w with heap:=w.heap.setIfInBounds β o }
@[simp] theorem size_wset (w:World) (β:Nat) (o:Obj):(iA w β o).heap.size=w.heap.size:=by simp[iA]
theorem cS (w:World) (β:Nat) (o:Obj) (h:β < w.heap.size):(iA w β o).heap[β]?=some o:=by simp[iA,h]
theorem bX {w:World} {β:Nat} {o:Obj} (h:w.heap[β]?=some o):β < w.heap.size:=by
 rcases Nat.lt_or_ge β w.heap.size with h' | h'
 ·exact h'
 ·simp[Array.getElem?_eq_none h'] at h
def splice (cs:Array Value) (k:Nat):List Value→Array Value
 | []=>cs
 | v::vs=>splice (cs.setIfInBounds k v) (k+1) vs
@[simp] theorem OZ (cs:Array Value) (k:Nat) (vs:List Value):(splice cs k vs).size=cs.size:=by
 induction vs generalizing cs k with
 | nil=>rfl
 | cons v vs ih=>simp[splice,ih]
theorem bW (vs:List Value):∀(cs:Array Value) (k j:Nat),
  (splice cs k vs)[j]?=if k≤j∧j < k+vs.length∧j < cs.size then vs[j - k]? else cs[j]?:=by
 induction vs with
 | nil=>
  intro cs k j;simp only[splice,List.length_nil];rw[if_neg (by omega)]
 | cons v vs ih=>
  intro cs k j;simp only[splice,ih,Array.size_setIfInBounds,List.length_cons]
  by_cases h:k+1≤j∧j < k+1+vs.length∧j < cs.size
  ·rw[if_pos h,if_pos (by omega)]
   have:j - k=(j - (k+1))+1:=by omega
   rw[this]; rfl
  ·rw[if_neg h]
   by_cases hk:k=j
   ·subst hk
    by_cases hs:k < cs.size
    ·rw[if_pos (by omega)]; simp[hs]
    ·rw[if_neg (by omega)]
     simp[hs]
   ·rw[if_neg (by omega),Array.getElem?_setIfInBounds,if_neg hk]
def bO {α:Type}:List α→Nat→List α→List α
 | [],_,_=>[]
 | x::xs,0,[]=>x::xs
 | _::xs,0,v::vs=>v::bO xs 0 vs
 | x::xs,k+1,vs=>x::bO xs k vs
@[simp] theorem H9 {α:Type} (l:List α):∀(k:Nat) (vs:List α),(bO l k vs).length=l.length:=by
 induction l with
 | nil=>intro k vs; cases k<;>cases vs<;>rfl
 | cons x xs ih=>intro k vs; cases k<;>cases vs<;>simp[bO,ih]
theorem qN {α:Type} (l:List α):∀(k:Nat),bO l k []=l:=by
 induction l with
 | nil=>intro k; cases k<;>rfl
 | cons x xs ih=>intro k; cases k<;>simp[bO,ih]
theorem qF {α:Type} (l:List α):∀(k:Nat) (vs:List α) (j:Nat),
  (bO l k vs)[j]?=if k≤j∧j < k+vs.length∧j < l.length then vs[j - k]? else l[j]?:=by
 induction l with
 | nil=>intro k vs j; cases k<;>cases vs<;>simp[bO]
 | cons x xs ih=>
  intro k vs j
  cases k with
  | zero=>
   cases vs with
   | nil=>simp[bO]
   | cons v vs=>
    cases j with
    | zero=>simp[bO]
    | succ j=>
     simp only[bO,List.getElem?_cons_succ,ih,List.length_cons,Nat.zero_add,nZl,true_and,Nat.add_lt_add_iff_right,Nat.sub_zero]
  | succ k=>
   cases j with
   | zero=>simp[bO]
   | succ j=>
    simp only[bO,List.getElem?_cons_succ,ih,List.length_cons,Nat.add_le_add_iff_right,Nat.add_lt_add_iff_right,Nat.succ_sub_succ]
    have:k+1+vs.length=k+vs.length+1:=by omega
    simp only[this,Nat.add_lt_add_iff_right]
theorem cC (β off j:Nat):(⟨β,off,none⟩:Addr).add j=⟨β,off+j,none⟩:=by
 unfold Addr.add;split
 ·rename_i h; subst h; rfl
 ·rfl
theorem kG {w:World} {β:Nat} {cs:Array Value} {e:TypeId} {fr:Nat×Nat} (h:w.heap[β]?=some (.cells cs e fr)) (off:Nat):
  w.cell? ⟨β,off,none⟩=cs[off]?:=by simp[World.cell?,h]
theorem xE {w:World} {β:Nat} {cs:Array Value} {e:TypeId} {f:Nat×Nat} (h:w.heap[β]?=some (.cells cs e f)) (hf:NoF f cs.size) (off:Nat) (ho:off < cs.size):
  w.frozen? ⟨β,off,none⟩=false:=by
 rcases hf with rfl | hf
 ·simp[World.frozen?,h]
 ·simp only[World.frozen?,h]
  rw[Bool.and_eq_false_imp];intro h1;simp at h1;omega
theorem uO {w:World} {β:Nat} {cs:Array Value} {e:TypeId} {fr:Nat×Nat} (h:w.heap[β]?=some (.cells cs e fr)) (off:Nat) (v:Value):
  w.setCell ⟨β,off,none⟩ v=iA w β (.cells (cs.setIfInBounds off v) e fr):=by
 have hlt:=bX h
 have hx:w.heap[β]=.cells cs e fr:=by
  have:=h; rw[Array.getElem?_eq_getElem hlt] at this; injection this
 have key:(w.heap.modify β fun
   | .cells c elem frozen=>.cells (c.setIfInBounds off v) elem frozen
   | o=>o)=w.heap.setIfInBounds β (.cells (cs.setIfInBounds off v) e fr):=by
  apply Array.ext_getElem?;intro i;rw[Array.getElem?_modify,Array.getElem?_setIfInBounds]
  by_cases hi:β=i
  ·subst hi
   simp only[if_true,hlt,Array.getElem?_eq_getElem,hx,Option.map_some]
  ·simp[hi]
 unfold World.setCell iA;simp only[Option.isSome_none,Bool.false_eq_true,if_false];exact congrArg (fun h=>({ w with heap:=h }:World)) key
theorem F8 (w:World) (β:Nat) (o o':Obj):iA (iA w β o) β o'=iA w β o':=by simp[iA]
theorem GE {w:World} {β:Nat} {o:Obj} (h:w.heap[β]?=some o):iA w β o=w:=by
 have hlt:=bX h
 have:w.heap.setIfInBounds β o=w.heap:=by
  apply Array.ext_getElem?;intro i;rw[Array.getElem?_setIfInBounds]
  by_cases hi:β=i
  ·subst hi; simp only[if_true,hlt,h]
  ·simp[hi]
 unfold iA;rw[this]
theorem eC (P:Program) (β off:Nat) (e:TypeId) {f:Nat×Nat} (vs:List Value):∀(w:World) (cs:Array Value) (i:Nat),
  w.heap[β]?=some (.cells cs e f)→NoF f cs.size→off+i+vs.length≤cs.size→(∀ v∈vs,v.oneCell'=true) →
  (storeCells ⟨β,off,none⟩ vs i).run P w=.ok () (iA w β (.cells (splice cs (off+i) vs) e f)):=by
 induction vs with
 | nil=>intro w cs i h _ _ _; simp only[storeCells,splice,Sem.run_pure,GE h]
 | cons v vs ih=>
  intro w cs i h hf hle hv;have h1:=hv v (List.mem_cons_self ..);simp only[List.length_cons] at hle
  have hlt:off+i < cs.size:=by omega
  have hc:w.cell? ⟨β,off+i,none⟩=some cs[off+i]:=by rw[kG h]; simp[hlt]
  simp only[storeCells,Sem.run_bind,cC,run_store P w _ v .plain h1,hc,xE h hf _ hlt,Bool.false_eq_true,if_false,Result.andThen_ok,uO h];rw[ih (iA w β (.cells (cs.setIfInBounds (off+i) v) e f)) (cs.setIfInBounds (off+i) v) (i+1) (cS _ _ _ (bX h)) (by simpa using hf) (by simp; omega) (fun x hx=>hv x (mCm _ hx))];rw[F8];rfl
theorem eS (P:Program) {w:World} {β off n:Nat} {cs:Array Value} {e:TypeId} {fr:Nat×Nat} (h:w.heap[β]?=some (.cells cs e fr)) (hle:off+n≤cs.size):
  (loadCells ⟨β,off,none⟩ n).run P w=.ok (cs.extract off (off+n)) w:=by
 have hl:((cs.extract off (off+n)).toList).length=n:=by simp; omega
 have:=run_loadCells_list (P:=P) (w:=w) ⟨β,off,none⟩ (cs.extract off (off+n)).toList (fun j v hv=>by
  rw[cC,kG h];simp only[Array.getElem?_toList,Array.getElem?_extract] at hv;split at hv
  ·exact hv
  ·simp at hv)
 rw[hl,Array.toArray_toList] at this;exact this
end Go.Av
namespace Go.Av
inductive aZ:AV→Prop
 | undef:aZ .undef
 | sc (v:Value):aZ (.sc v)
 | agg (cells:List AV) (h:∀ c∈cells,aZ c):aZ (.agg cells)
 | tup (cells:List AV) (h:∀ c∈cells,aZ c):aZ (.tup cells)
 | list (sz:Nat) (rows:List (List AV)) (h:∀ r∈rows,∀ c∈r,aZ c):aZ (.list sz rows)
 | cptr (cells:List AV) (h:∀ c∈cells,aZ c):aZ (.cptr cells)
 | tmap (es:List (Value×AV)) (h:∀ x∈es,aZ x.2):aZ (.tmap es)
 | clo (fn:Fn) (fs cs:List AV) (h1:∀ c∈fs,aZ c) (h2:∀ c∈cs,aZ c):aZ (.clo fn fs cs)
 | ifc (t:TypeId) (a:AV) (h:aZ a):aZ (.ifc t a)
 | one:aZ .one
theorem aV {α:Type} {l:List α} {j:Nat} {x y:α} (h:l[j]?=some x) (h':l[j]?=some y):x=y:=by
 rw[h] at h'; injection h'
theorem Ren.pure {ρ:Nat→Nat→Option (Nat×Nat)} {a:AV} (h:aZ a):Ren ρ a a:=by
 induction h with
 | undef=>exact .undef _
 | sc v=>exact .sc v
 | agg cells _ ih=>exact .agg _ _ rfl fun j x y a b=>by cases aV a b; exact ih _ (mOg a)
 | tup cells _ ih=>exact .tup _ _ rfl fun j x y a b=>by cases aV a b; exact ih _ (mOg a)
 | list sz rows _ ih=>
  exact .list _ _ _ rfl (fun i r r' a b=>by cases aV a b; rfl) fun i r r' j x y a b c d=>by
   cases aV a b
   cases aV c d
   exact ih _ (mOg a) _ (mOg c)
 | cptr cells _ ih=>exact .cptr _ _ rfl fun j x y a b=>by cases aV a b; exact ih _ (mOg a)
 | tmap es _ ih=>exact .tmap _ _ rfl (fun j x y a b=>by cases aV a b; rfl) fun j x y a b=>by cases aV a b; exact ih _ (mOg a)
 | ifc t a _ ih=>exact .ifc _ _ _ ih
 | one=>exact .one
 | clo fn fs cs _ _ ih1 ih2=>
  exact .clo _ _ _ _ _ rfl rfl (fun j x y a b=>by cases aV a b; exact ih1 _ (mOg a)) (fun j x y a b=>by cases aV a b; exact ih2 _ (mOg a))
def Le (a b:AV):Prop:=∀ M J v,Rep M J a v→Rep M J b v
theorem Le.refl (a:AV):Le a a:=fun _ _ _ h=>h
theorem Le.undef (a:AV):Le a .undef:=fun _ _ v _=>.undef v
theorem Le.nil (sz:Nat):Le (.sc (.slice none 0 0)) (.list sz []):=fun _ _ v h=>by cases h; exact .nilList sz none 0
inductive eY (ρ:Nat→Nat→Option (Nat×Nat)):Blk→Blk→Prop
 | dead (x:Blk):eY ρ x .dead
 | cells (sz:Nat) (rows rows':List (List AV)) (hl:rows.length=rows'.length) (hr:∀(i:Nat) (r r':List AV),rows[i]?=some r→rows'[i]?=some r'→r.length=r'.length)
   (h:∀(i:Nat) (r r':List AV) (j:Nat) x y,rows[i]?=some r→rows'[i]?=some r'→r[j]?=some x→r'[j]?=some y→Ren ρ x y):eY ρ (.cells sz rows) (.cells sz rows')
 | map (es es':List (Value×AV)) (hl:es.length=es'.length) (hk:∀(j:Nat) x y,es[j]?=some x→es'[j]?=some y→x.1=y.1)
   (h:∀(j:Nat) x y,es[j]?=some x→es'[j]?=some y→Ren ρ x.2 y.2):eY ρ (.map es) (.map es')
 | lp (L:LC) (caps caps':Fr) (st:LoopState) (pe:Option Code) (h:∀ x∈caps',Ren ρ (caps.get x.1) x.2):eY ρ (.lp L caps st pe) (.lp L caps' st pe)
 | it (cur:Option (Value×AV)) (es:List (Value×AV)) (h:∀ x∈es,aZ x.2) (hc:∀ x,cur=some x→aZ x.2):eY ρ (.it cur es) (.it cur es)
theorem eY.pure {ρ:Nat→Nat→Option (Nat×Nat)} (sz:Nat) (rows:List (List AV)) (h:∀ r∈rows,∀ c∈r,aZ c):eY ρ (.cells sz rows) (.cells sz rows):=
 .cells _ _ _ rfl (fun i r r' a b=>by cases aV a b; rfl) fun i r r' j x y a b c d=>by
  cases aV a b
  cases aV c d
  exact .pure (h _ (mOg a) _ (mOg c))
theorem eY.pureMap {ρ:Nat→Nat→Option (Nat×Nat)} (es:List (Value×AV)) (h:∀ x∈es,aZ x.2):eY ρ (.map es) (.map es):=
 .map _ _ rfl (fun j x y a b=>by cases aV a b; rfl) fun j x y a b=>by cases aV a b; exact .pure (h _ (mOg a))
theorem aU.ren {N M J fr tmps} {ρ:Nat→Nat→Option (Nat×Nat)} {fr':Fr} (h:aU N M J fr tmps) (hr:∀ x∈fr',Ren ρ (fr.get x.1) x.2):aU N M (J.via ρ) fr' tmps:=by
 refine⟨h.1,fun t=>?_⟩
 have key:Ren ρ (fr.get t) (Fr.get fr' t):=by
  clear h
  induction fr' with
  | nil=>exact .undef _
  | cons p fr' ih=>
   obtain⟨d,v⟩:=p;show Ren ρ (fr.get t) (match Nat.beq d t with | true=>v | false=>Fr.get fr' t);split
   ·rename_i e
    have:d=t:=nEb e;subst this;exact hr (d,v) (List.mem_cons_self ..)
   ·exact ih fun x hx=>hr x (mCm _ hx)
 exact(h.2 t).ren key
theorem mW.ren {M J} {ρ:Nat→Nat→Option (Nat×Nat)} {o:Obj} {cur:Option (Value×AV)} {es:List (Value×AV)} (h:mW M J o cur es) (hp:∀ x∈es,aZ x.2) (hc:∀ x,cur=some x→aZ x.2):mW M (J.via ρ) o cur es:=by
 rcases h with h | ⟨μ,since,seen,ces,h1,h2,h3,h4,h5,h6⟩
 ·exact .inl h
 ·refine .inr ⟨μ,since,seen,ces,h1,h2,h3,h4,fun j x y a b=>⟨(h5 j x y a b).1,(h5 j x y a b).2.ren (.pure (hp x (mOg a)))⟩,fun x hx=>?_⟩
  obtain⟨e,a,b,c,d⟩:=h6 x hx;exact⟨e,a,b,c,d.ren (.pure (hc x hx))⟩
theorem eQ.ren {M J} {ρ:Nat→Nat→Option (Nat×Nat)} {l:Loc} {h:Array Obj} {x x':Blk} (hb:eQ M J l h x) (hr:eY ρ x x'):eQ M (J.via ρ) l h x':=by
 cases hr with
 | dead=>trivial
 | cells sz rows rows' hl hlr hr=>
  obtain⟨h1,h2,h3⟩:=hb
  have getr:∀ {i:Nat} {r':List AV},rows'[i]?=some r'→∃ r,rows[i]?=some r:=by
   intro i r' hy;have:=(gEs.1 hy).1;exact⟨rows[i],gEg (by omega)⟩
  refine⟨h1,fun i r' hr'=>?_,?_⟩
  ·obtain⟨r,h'⟩:=getr hr'
   rw[← hlr i r r' h' hr'];exact h2 i r h'
  ·cases e:l.blk with
   | none=>
    rw[e] at h3;subst h3
    cases rows' with | nil=>rfl | cons _ _=>simp at hl
   | some β=>
    rw[e] at h3;obtain⟨cs,t,a,b,c,o,d⟩:=h3;refine⟨cs,t,a,b,by rw[← hl]; exact c,by rw[← hl]; exact o,fun i r' j y v p q s=>?_⟩;obtain⟨r,h'⟩:=getr p;have hlen:=hlr i r r' h' p;have hj:=(gEs.1 q).1;have hx:r[j]?=some r[j]:=gEg (by omega);exact(d i r j _ v h' hx s).ren (hr i r r' j _ y h' p hx q)
 | map es es' hl hk hr=>
  obtain⟨β,ces,clock,h0,h1,h2,h3,h4,h5⟩:=hb
  have gete:∀ {j:Nat} {y:Value×AV},es'[j]?=some y→∃ x,es[j]?=some x:=by
   intro j y hy;have:=(gEs.1 hy).1;exact⟨es[j],gEg (by omega)⟩
  refine⟨β,ces,clock,h0,h1,by omega,fun j x y a b=>?_,fun j x y a b=>?_,h5⟩
  ·obtain⟨z,hz⟩:=gete a
   rw[← hk j z x hz a];exact h3 j z y hz b
  ·obtain⟨z,hz⟩:=gete a
   exact(h4 j z y hz b).ren (hr j z x hz a)
 | lp L caps caps' st pe hr=>
  obtain⟨β,r,h0,h1,h3,h4,h5,h6,h7,h8⟩:=hb;exact⟨β,r,h0,h1,h3,h4,h5,h6,h7,h8.ren hr⟩
 | it cur es hp hc=>
  obtain⟨β,o,h0,h1,h2⟩:=hb;exact⟨β,o,h0,h1,h2.ren hp hc⟩
structure uT (ρ:Nat→Nat→Option (Nat×Nat)) (k:Nat) (H H':Heap):Prop where
 low:∀ g i,g < k→(hget H g i).isSome→ρ g i=some (g,i)
 inj:∀ g i g' i' p,ρ g i=some p→ρ g' i'=some p→g=g'∧i=i'
 blk:∀ g i x,hget H' g i=some x→x.live=true→∃ g0 i0 y,ρ g i=some (g0,i0)∧hget H g0 i0=some y∧eY ρ y x
 dom:∀ g i p,ρ g i=some p→(hget H p.1 p.2).isSome→(hget H' g i).isSome
theorem eY.live {ρ:Nat→Nat→Option (Nat×Nat)} {x y:Blk} (h:eY ρ x y) (hl:y.live=true):x.live=true:=by
 cases h<;>first | exact hl | cases hl | rfl
theorem uT.live {ρ k H H'} (hn:uT ρ k H H') {J:Inj} {g i:Nat} {l:Loc} (h:aQ H' g i) (hJ:J.via ρ g i=some l):∃ g0 i0,ρ g i=some (g0,i0)∧aQ H g0 i0∧J g0 i0=some l:=by
 obtain⟨x,hx,hxl⟩:=h;obtain⟨g0,i0,y,h1,h2,h3⟩:=hn.blk g i x hx hxl;exact⟨g0,i0,h1,⟨y,h2,h3.live hxl⟩,by rw[← hJ,Inj.via_some h1]⟩
theorem aN.ren {M J H} {h:Array Obj} {ρ k H'} (hr:aN M J H h) (hn:uT ρ k H H'):aN M (J.via ρ) H' h where
 blk g i x hx hl:=by
  obtain⟨g0,i0,y,h1,h2,h3⟩:=hn.blk g i x hx hl;obtain⟨l,h4,h5⟩:=hr.blk g0 i0 y h2 (h3.live hl);exact⟨l,by rw[Inj.via_some h1,h4],h5.ren h3⟩
 inj g i g' i' l l' β a b c d e f:=by
  obtain⟨g0,i0,p1,p2,p3⟩:=hn.live a c;obtain⟨g1,i1,q1,q2,q3⟩:=hn.live b d;obtain⟨rfl,rfl⟩:=hr.inj g0 i0 g1 i1 l l' β p2 q2 p3 q3 e f;exact hn.inj _ _ _ _ _ p1 q1
 out g i l β a b c:=by
  obtain⟨g0,i0,p1,p2,p3⟩:=hn.live a b;exact hr.out g0 i0 l β p2 p3 c
 dom g i l a:=by
  unfold Inj.via at a;split at a
  ·rename_i g' i' e
   have:=hr.dom g' i' l a;exact⟨hn.dom g i _ e this.1,this.2⟩
  ·cases a
theorem aS.ren {k M J H w M' J' H' w' ρ H''} (a:aS k M J H w M' J' H' w') (hn:uT ρ k H' H''):aS k M J H w M' (J'.via ρ) H'' w' where
 m:=a.m
 j g i l hk h:=by
  have h1:=a.j g i l hk h;rw[Inj.via_some (hn.low g i hk (a.hrep.dom g i l h1).1)];exact h1
 hrep:=a.hrep.ren hn
 mrep:=a.mrep
 os:=a.os
 tape:=a.tape
 output:=a.output
 size:=a.size
 frame:=a.frame
 fresh:=a.fresh
 live g i l β h1 h2 h3:=by
  obtain⟨g0,i0,p1,p2,p3⟩:=hn.live h1 h2;exact a.live g0 i0 l β p2 p3 h3
 bk:=a.bk
theorem aS.refl (k:Nat) {M J H w} (h:aN M J H w.heap) (m:a8 M w.heap):aS k M J H w M J H w:=
 ⟨fun _ _ h=>h,fun _ _ _ _ h=>h,h,m,rfl,.refl _,rfl,Nat.le_refl _,fun _ _ h _=>h,fun _ _ h=>.inl h,fun g i l _ h h' h''=>.inl ⟨g,i,l,h,h',h''⟩,fun _ r h=>⟨r,h,rfl⟩⟩
theorem bN {h:Array Obj} {β:Nat} {o:Obj} (x:h[β]?=some o):β < h.size:=by
 rcases Nat.lt_or_ge β h.size with h' | h'
 ·exact h'
 ·simp[Array.getElem?_eq_none h'] at x
theorem aS.mono {k k' M J H w M' J' H' w'} (a:aS k M J H w M' J' H' w') (h:k'≤k):aS k' M J H w M' J' H' w':=
 { a with j:=fun g i l hg hJ=>a.j g i l (by omega) hJ }
theorem aS.trans {k M J H w M1 J1 H1 w1 M2 J2 H2 w2} (a:aS k M J H w M1 J1 H1 w1) (b:aS k M1 J1 H1 w1 M2 J2 H2 w2):aS k M J H w M2 J2 H2 w2 where
 m β o h:=b.m β o (a.m β o h)
 j g i l hk h:=b.j g i l hk (a.j g i l hk h)
 hrep:=b.hrep
 mrep:=b.mrep
 os:=b.os.trans a.os
 tape:=a.tape.trans b.tape
 output:=b.output.trans a.output
 size:=Nat.le_trans a.size b.size
 frame β o h hn:=by
  refine b.frame β o (a.frame β o h hn) fun g i l hl hj e=>?_
  rcases a.live g i l β hl hj e with⟨g0,i0,l0,h1,h2,h3⟩ | h1
  ·exact hn g0 i0 l0 h1 h2 h3
  ·have:=bN h; omega
 fresh β o h:=by
  rcases b.fresh β o h with h1 | h1 | ⟨g,i,l,h1,h2,h3⟩
  ·exact a.fresh β o h1
  ·exact .inr (.inl (Nat.le_trans a.size h1))
  ·rcases a.live g i l β h1 h2 h3 with⟨g0,i0,l0,h4,h5,h6⟩ | h4
   ·exact .inr (.inr ⟨g0,i0,l0,h4,h5,h6⟩)
   ·exact .inr (.inl h4)
 live g i l β h1 h2 h3:=by
  rcases b.live g i l β h1 h2 h3 with⟨g0,i0,l0,h4,h5,h6⟩ | h4
  ·exact a.live g0 i0 l0 β h4 h5 h6
  ·exact .inr (Nat.le_trans a.size h4)
 bk β r h:=by
  obtain⟨r1,h1,e1⟩:=a.bk β r h;obtain⟨r2,h2,e2⟩:=b.bk β r1 h1;exact⟨r2,h2,e2.trans e1⟩
def aK:Heap→Nat→Nat→Blk→Heap
 | [],0,0,x=>[[x]]
 | [],_,_,_=>[]
 | f::r,0,i,x=>f.set i x::r
 | f::r,g+1,i,x=>f::aK r g i x
def hok (H:Heap) (g i:Nat):Prop:=(hget H g i).isSome∨(g=H.length∧i=0)
theorem aL (H:Heap):∀(g i:Nat) (x:Blk) (g' i':Nat),hok H g i→hget (aK H g i x) g' i'=if g'=g∧i'=i then some x else hget H g' i':=by
 induction H with
 | nil=>
  intro g i x g' i' h
  rcases h with h | ⟨rfl,rfl⟩
  ·simp[hget] at h
  ·cases g' with
   | zero=>cases i'<;>simp[aK,hget]
   | succ g'=>simp[aK,hget]
 | cons f r ih=>
  intro g i x g' i' h
  cases g with
  | zero=>
   have hi:i < f.length:=by
    rcases h with h | ⟨h,_⟩
    ·simp only[hget,List.getElem?_cons_zero] at h
     rw[Option.isSome_iff_exists] at h;obtain⟨y,hy⟩:=h;exact(gEs.1 hy).1
    ·simp at h
   cases g' with
   | zero=>
    simp only[aK,hget,List.getElem?_cons_zero,List.getElem?_set,true_and]
    by_cases e:i'=i
    ·subst e; simp[hi]
    ·rw[if_neg e,if_neg (fun h=>e h.symm)]
   | succ g'=>simp[aK,hget]
  | succ g=>
   have h':hok r g i:=by
    rcases h with h | ⟨h,h2⟩
    ·exact .inl h
    ·exact .inr ⟨by simpa using h,h2⟩
   cases g' with
   | zero=>simp[aK,hget]
   | succ g'=>
    have:=ih g i x g' i' h';simp only[hget,aK,List.getElem?_cons_succ,Nat.add_right_cancel_iff] at this ⊢;exact this
def Inj.set (J:Inj) (g i:Nat) (l:Loc):Inj:=fun g' i'=>if g'=g∧i'=i then some l else J g' i'
theorem Inj.set_ext {J:Inj} {g i:Nat} (l:Loc) (h:J g i=none) (M:Mem):Ext M J M (J.set g i l):=
 ⟨fun _ _ h=>h,fun g' i' l' h'=>by
  unfold Inj.set;split
  ·rename_i e; obtain⟨rfl,rfl⟩:=e; rw[h] at h'; cases h'
  ·exact h'⟩
theorem a8.lt {M:Mem} {h:Array Obj} (m:a8 M h) {β:Nat} (hb:h.size≤β):M β=none:=by
 cases e:M β with
 | none=>rfl
 | some o=>have:=bN (m β o e); omega
theorem aS.alloc (k:Nat) {M J H w w'} (h:aN M J H w.heap) (m:a8 M w.heap) (g i:Nat) (hn:hok H g i) (hJ:J g i=none) (o:Option Obj) (x:Blk) (l:Loc)
  (hl:l.blk=o.map fun _=>w.heap.size) (hx:eQ M J l w'.heap x) (hw:w'.heap=match o with | some o=>w.heap.push o | none=>w.heap)
  (hos:w'.os=w.os) (htape:w'.tape=w.tape) (hout:w'.output=w.output) (hd:w.drawn≤w'.drawn:=by first | exact Nat.le_refl _ | exact Nat.le_succ _ | exact Nat.le_add_right _ _):
  aS k M J H w M (J.set g i l) (aK H g i x) w':=by
 have hold:∀ β:Nat,β < w.heap.size→w'.heap[β]?=w.heap[β]?:=by
  intro β hβ;rw[hw]
  cases o with
  | none=>rfl
  | some o=>simp only; rw[Array.getElem?_push,if_neg (by omega)]
 have hsize:w.heap.size≤w'.heap.size:=by rw[hw]; cases o<;>simp
 have hnew:∀ β,l.blk=some β→β=w.heap.size∧β < w'.heap.size:=by
  intro β hβ;rw[hl] at hβ
  cases o with
  | none=>cases hβ
  | some o=>simp at hβ; rw[hw]; simp; omega
 have hget:=fun g' i'=>aL H g i x g' i' hn
 have key:∀ g' i' l',aQ (aK H g i x) g' i'→(J.set g i l) g' i'=some l'→(g'=g∧i'=i∧l'=l)∨(¬ (g'=g∧i'=i)∧aQ H g' i'∧J g' i'=some l'):=by
  intro g' i' l' hc hj
  by_cases e:g'=g∧i'=i
  ·obtain⟨rfl,rfl⟩:=e
   simp[Inj.set] at hj;exact .inl ⟨rfl,rfl,hj.symm⟩
  ·obtain⟨y,hy,hyl⟩:=hc
   rw[hget,if_neg e] at hy;simp only[Inj.set,if_neg e] at hj;exact .inr ⟨e,⟨y,hy,hyl⟩,hj⟩
 refine⟨fun _ _ h=>h,fun g' i' l' _ h'=>(Inj.set_ext l hJ M).j g' i' l' h',⟨?_,?_,?_,?_⟩,?_,hos,⟨htape,hd⟩,hout,hsize,?_,fun β o' h=>.inl h,?_,fun β r hr=>⟨r,(hold β (bN hr)).trans hr,rfl⟩⟩
 ·intro g' i' y hy hlive
  rw[hget] at hy
  by_cases e:g'=g∧i'=i
  ·obtain⟨rfl,rfl⟩:=e
   simp at hy;subst hy;exact⟨l,by simp[Inj.set],hx.ext (Inj.set_ext l hJ M) (fun _ _=>rfl)⟩
  ·rw[if_neg e] at hy
   obtain⟨l',h1,h3⟩:=h.blk g' i' y hy hlive;exact⟨l',by simp only[Inj.set,if_neg e]; exact h1,h3.ext (Inj.set_ext l hJ M) fun β hβ=>hold β ((h.dom g' i' l' h1).2 β hβ)⟩
 ·intro g1 i1 g2 i2 l1 l2 β h1 h2 h3 h4 h5 h6
  rcases key g1 i1 l1 h1 h3 with⟨e1,e2,e3⟩ | ⟨e1,e2,e3⟩<;>rcases key g2 i2 l2 h2 h4 with⟨f1,f2,f3⟩ | ⟨f1,f2,f3⟩
  ·exact⟨e1.trans f1.symm,e2.trans f2.symm⟩
  ·subst e3
   have:=(hnew β h5).1;have:=(h.dom g2 i2 l2 f3).2 β h6;omega
  ·subst f3
   have:=(hnew β h6).1;have:=(h.dom g1 i1 l1 e3).2 β h5;omega
  ·exact h.inj g1 i1 g2 i2 l1 l2 β e2 f2 e3 f3 h5 h6
 ·intro g1 i1 l1 β h1 h2 h3
  rcases key g1 i1 l1 h1 h2 with⟨e1,e2,e3⟩ | ⟨e1,e2,e3⟩
  ·subst e3
   have:=(hnew β h3).1;exact m.lt (by omega)
  ·exact h.out g1 i1 l1 β e2 e3 h3
 ·intro g1 i1 l1 h1
  rw[hget]
  by_cases e:g1=g∧i1=i
  ·rw[if_pos e]
   simp only[Inj.set,if_pos e,oIn] at h1;subst h1;exact⟨rfl,fun β hβ=>(hnew β hβ).2⟩
  ·rw[if_neg e]
   simp only[Inj.set,if_neg e] at h1;have:=h.dom g1 i1 l1 h1;exact⟨this.1,fun β hβ=>Nat.lt_of_lt_of_le (this.2 β hβ) hsize⟩
 ·intro β o' hm
  have:=m β o' hm;rw[hold β (bN this)];exact this
 ·intro β o' ho _
  rw[hold β (bN ho)];exact ho
 ·intro g1 i1 l1 β h1 h2 h3
  rcases key g1 i1 l1 h1 h2 with⟨e1,e2,e3⟩ | ⟨e1,e2,e3⟩
  ·subst e3
   have:=(hnew β h3).1;exact .inr (by omega)
  ·exact .inl ⟨g1,i1,l1,e2,e3,h3⟩
theorem aS.write (k:Nat) {M J H w w'} (h:aN M J H w.heap) (m:a8 M w.heap) (g i:Nat) (l:Loc) (β:Nat) (x0:Blk) (hx0:hget H g i=some x0) (hl0:x0.live=true) (hJ:J g i=some l) (hβ:l.blk=some β)
  (o:Obj) (x:Blk) (hx:x.live=true→eQ M J l w'.heap x) (hw:w'.heap=w.heap.setIfInBounds β o) (hos:w'.os=w.os) (htape:w'.tape=w.tape) (hout:w'.output=w.output)
  (hpl:x0.plain=true∨∀ r,w.heap[β]?=some (.loop r)→∃ r',o=.loop r'∧r'.defers=r.defers:=by exact .inl rfl) (hd:w.drawn≤w'.drawn:=by first | exact Nat.le_refl _ | exact Nat.le_succ _ | exact Nat.le_add_right _ _):
  aS k M J H w M J (aK H g i x) w':=by
 have hget:=fun g' i'=>aL H g i x g' i' (.inl (by rw[hx0]; rfl))
 have hlive:∀ g' i',aQ (aK H g i x) g' i'→aQ H g' i':=by
  rintro g' i' ⟨y,hy,hyl⟩;rw[hget] at hy
  by_cases e:g'=g∧i'=i
  ·obtain⟨rfl,rfl⟩:=e; exact⟨x0,hx0,hl0⟩
  ·rw[if_neg e] at hy; exact⟨y,hy,hyl⟩
 have hother:∀ γ:Nat,γ≠β→w'.heap[γ]?=w.heap[γ]?:=by
  intro γ hγ;rw[hw,Array.getElem?_setIfInBounds,if_neg (fun e=>hγ e.symm)]
 refine⟨fun _ _ h=>h,fun _ _ _ _ h=>h,⟨?_,?_,?_,?_⟩,?_,hos,⟨htape,hd⟩,hout,by rw[hw]; simp,?_,fun β o' h=>.inl h,fun g1 i1 l1 γ h1 h2 h3=>.inl ⟨g1,i1,l1,hlive g1 i1 h1,h2,h3⟩,?_⟩
 ·intro g' i' y hy hyl
  rw[hget] at hy
  by_cases e:g'=g∧i'=i
  ·obtain⟨rfl,rfl⟩:=e
   simp at hy;subst hy;exact⟨l,hJ,hx hyl⟩
  ·rw[if_neg e] at hy
   obtain⟨l',h1,h3⟩:=h.blk g' i' y hy hyl;refine⟨l',h1,h3.ext (.refl _ _) fun γ hγ=>hother γ ?_⟩;rintro rfl;exact e (h.inj g' i' g i l' l γ ⟨y,hy,hyl⟩ ⟨x0,hx0,hl0⟩ h1 hJ hγ hβ)
 ·intro g1 i1 g2 i2 l1 l2 γ h1 h2 h3 h4 h5
  exact h.inj g1 i1 g2 i2 l1 l2 γ (hlive _ _ h1) (hlive _ _ h2) h3 h4 h5
 ·intro g1 i1 l1 γ h1 h2 h3
  exact h.out g1 i1 l1 γ (hlive _ _ h1) h2 h3
 ·intro g1 i1 l1 h1
  have:=h.dom g1 i1 l1 h1;refine⟨?_,fun γ hγ=>by rw[hw]; simp; exact this.2 γ hγ⟩;rw[hget];split
  ·rfl
  ·exact this.1
 ·intro γ o' hm
  rw[hother]
  ·exact m γ o' hm
  ·rintro rfl
   rw[h.out g i l γ ⟨x0,hx0,hl0⟩ hJ hβ] at hm
   cases hm
 ·intro γ o' ho hn'
  rw[hother]
  ·exact ho
  ·rintro rfl
   exact hn' g i l ⟨x0,hx0,hl0⟩ hJ hβ
 ·intro γ r hr
  by_cases e:γ=β
  ·subst e
   rcases hpl with hpl | hpl
   ·obtain⟨l',e1,e2⟩:=h.blk g i x0 hx0 hl0
    rw[hJ] at e1
    injection e1 with e1
    subst e1;exact absurd hr (e2.noLoop hl0 hpl hβ r)
   ·obtain⟨r',rfl,e2⟩:=hpl r hr
    exact⟨r',by rw[hw,Array.getElem?_setIfInBounds,if_pos rfl,if_pos (bN hr)],e2⟩
  ·exact⟨r,(hother γ e).trans hr,rfl⟩
theorem aS.kill (k:Nat) {M J H w} (h:aN M J H w.heap) (m:a8 M w.heap) (g i:Nat) (hn:(hget H g i).isSome):aS k M J H w M J (aK H g i .dead) w:=by
 have hget:=fun g' i'=>aL H g i .dead g' i' (.inl hn)
 have hlive:∀ g' i',aQ (aK H g i .dead) g' i'→aQ H g' i':=by
  rintro g' i' ⟨y,hy,hyl⟩;rw[hget] at hy
  by_cases e:g'=g∧i'=i
  ·rw[if_pos e] at hy; injection hy with hy; subst hy; cases hyl
  ·rw[if_neg e] at hy; exact⟨y,hy,hyl⟩
 refine⟨fun _ _ h=>h,fun _ _ _ _ h=>h,⟨?_,?_,?_,?_⟩,m,rfl,.refl _,rfl,Nat.le_refl _,fun _ _ h _=>h,fun β o' h=>.inl h,fun g1 i1 l1 β h1 h2 h3=>.inl ⟨g1,i1,l1,hlive g1 i1 h1,h2,h3⟩,fun _ r h=>⟨r,h,rfl⟩⟩
 ·intro g' i' y hy hyl
  rw[hget] at hy
  by_cases e:g'=g∧i'=i
  ·rw[if_pos e] at hy; injection hy with hy; subst hy; cases hyl
  ·rw[if_neg e] at hy; exact h.blk g' i' y hy hyl
 ·intro g1 i1 g2 i2 l1 l2 γ h1 h2 h3 h4 h5
  exact h.inj g1 i1 g2 i2 l1 l2 γ (hlive _ _ h1) (hlive _ _ h2) h3 h4 h5
 ·intro g1 i1 l1 γ h1 h2 h3
  exact h.out g1 i1 l1 γ (hlive _ _ h1) h2 h3
 ·intro g1 i1 l1 h1
  have:=h.dom g1 i1 l1 h1;refine⟨?_,this.2⟩;rw[hget];split
  ·rfl
  ·exact this.1
theorem aS.freeze (k:Nat) {M J H w} (h:aN M J H w.heap) (m:a8 M w.heap) (g i:Nat) (l:Loc) (β:Nat) (x0:Blk) (hx0:hget H g i=some x0) (hl0:x0.live=true) (hJ:J g i=some l) (hβ:l.blk=some β)
  (o:Obj) (ho:w.heap[β]?=some o):aS k M J H w (fun γ=>if γ=β then some o else M γ) J (aK H g i .dead) w∧Ext M J (fun γ=>if γ=β then some o else M γ) J:=by
 have hM:M β=none:=h.out g i l β ⟨x0,hx0,hl0⟩ hJ hβ
 have hx:Ext M J (fun γ=>if γ=β then some o else M γ) J:=⟨fun γ o' hm=>by
  show(if γ=β then some o else M γ)=some o'
  by_cases e:γ=β
  ·subst e; rw[hM] at hm; cases hm
  ·rw[if_neg e]; exact hm,fun _ _ _ h=>h⟩
 have s:=aS.kill k h m g i (by rw[hx0]; rfl)
 have hget:=fun g' i'=>aL H g i .dead g' i' (.inl (by rw[hx0]; rfl))
 refine⟨{ s with m:=hx.m,hrep:=⟨fun g' i' y hy hyl=>?_,s.hrep.inj,?_,s.hrep.dom⟩,mrep:=?_,fresh:=?_ },hx⟩
 ·obtain⟨l',h1,h2⟩:=s.hrep.blk g' i' y hy hyl
  exact⟨l',h1,h2.ext hx fun _ _=>rfl⟩
 ·intro g1 i1 l1 γ h1 h2 h3
  show(if γ=β then some o else M γ)=none;have hold:=h1;obtain⟨y,hy,hyl⟩:=h1;rw[hget] at hy
  by_cases e:g1=g∧i1=i
  ·rw[if_pos e] at hy; injection hy with hy; subst hy; cases hyl
  ·rw[if_neg e] at hy
   have hne:γ≠β:=by
    rintro rfl;exact e (h.inj g1 i1 g i l1 l γ ⟨y,hy,hyl⟩ ⟨x0,hx0,hl0⟩ h2 hJ h3 hβ)
   rw[if_neg hne];exact s.hrep.out g1 i1 l1 γ hold h2 h3
 ·intro γ o' hm
  have hm:(if γ=β then some o else M γ)=some o':=hm
  by_cases e:γ=β
  ·subst e; rw[if_pos rfl] at hm; injection hm with hm; subst hm; exact ho
  ·rw[if_neg e] at hm; exact m γ o' hm
 ·intro γ o' hm
  have hm:(if γ=β then some o else M γ)=some o':=hm
  by_cases e:γ=β
  ·subst e; exact .inr (.inr ⟨g,i,l,⟨x0,hx0,hl0⟩,hJ,hβ⟩)
  ·rw[if_neg e] at hm; exact .inl hm
theorem aS.drew (k:Nat) {M J H w w'} (h:aN M J H w.heap) (m:a8 M w.heap) (hw:w'.heap=w.heap) (hos:w'.os=w.os) (htape:w'.tape=w.tape) (hout:w'.output=w.output) (hd:w.drawn≤w'.drawn:=by first | exact Nat.le_refl _ | exact Nat.le_succ _ | exact Nat.le_add_right _ _):aS k M J H w M J H w':=
 ⟨fun _ _ h=>h,fun _ _ _ _ h=>h,by rw[hw]; exact h,by rw[hw]; exact m,hos,⟨htape,hd⟩,hout,by rw[hw]; exact Nat.le_refl _,fun _ _ h _=>by rw[hw]; exact h,fun _ _ h=>.inl h,fun g i l _ h h' h''=>.inl ⟨g,i,l,h,h',h''⟩,fun _ r h=>⟨r,by rw[hw]; exact h,rfl⟩⟩
end Go.Av
