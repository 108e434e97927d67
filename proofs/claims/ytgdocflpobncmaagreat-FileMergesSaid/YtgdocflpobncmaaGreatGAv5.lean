import Derived.Test.YtgdocflpobncmaaGreatGAv3
import Derived.MapKept
import Derived.Laws.MakeOwn
import Derived.Laws.AppendOwn
import Derived.Laws.Entries
namespace Go.Av
inductive LK where
 | b | i | s
 deriving DecidableEq
inductive XOp where
 | eqAgg (neg:Bool) (ks:List LK)
 | bstr
 | i2f (k:FloatKind)
 | idxStr
 | lenStr
 | lookF (ks:List LK) (z:AV) (ok:Bool)
 | add64
 | f64bits
 | f64from
 | eqFn (neg:Bool)
 | eqIfc (neg:Bool)
inductive MOp where
 | range
 | next
 | entry
 | del (k:IntKind)
 | slice0 (sz:Nat)
 | sliceA (n:Nat)
 | clear (z:List (Nat×Value))
 | cap
 | copy (sz:Nat)
 | stop
 | iface (t:TypeId)
 | sliceP (n:Nat) (lo hi:Bool)
 | s2a (n:Nat)
 | strB
 | markS
 | nilM (T:List (Nat×List String))
 | clearM
 | appN (bytes:Nat) (z:List (Nat×Value))
inductive IOp where
 | move (x:Operand)
 | pick (c a b:Operand)
 | alloc (z:List (Nat×Value))
 | box (x:Operand)
 | build (z:List (Nat×Value)) (parts:List (Nat×Nat×Operand))
 | buildSlice (sz:Nat) (z:List (Nat×Value)) (n:Nat) (parts:List (Nat×Operand))
 | load (sz:Nat) (agg:Bool) (a:Operand)
 | store (sz:Nat) (a x:Operand)
 | nilCheck (x:Operand)
 | bin (op:BinOp) (t:TypeId) (x y:Operand)
 | eqBool (neg:Bool) (x y:Operand)
 | eqNil (neg:Bool) (x:Operand)
 | eqNilM (neg:Bool) (x:Operand)
 | eqNilS (neg:Bool) (x:Operand)
 | eqArr (neg:Bool) (n:Nat) (x y:Operand)
 | un (op:UnOp) (x:Operand)
 | conv (k:IntKind) (x:Operand)
 | makeFunc (fn:Fn) (first captured:List Operand)
 | makeMap
 | makeSlice (sz bytes:Nat) (z:List (Nat×Value)) (l:Operand)
 | slice (sz:Nat) (x:Operand) (lo hi mx:Option Operand)
 | fieldAddr (off:Nat) (x:Operand)
 | field (off sz:Nat) (agg:Bool) (x:Operand)
 | idxSl (sz:Nat) (x i:Operand)
 | idxArr (n sz:Nat) (x i:Operand)
 | idxVal (n sz:Nat) (agg:Bool) (x i:Operand)
 | lookup (z:AV) (k:IntKind) (x i:Operand) (ok:Bool)
 | mapUpdate (k:IntKind) (m i x:Operand)
 | extract (x:Operand) (i:Nat)
 | len (x:Operand)
 | lenM (x:Operand)
 | append (sz bytes:Nat) (s x:Operand)
 | max (args:List Operand)
 | min (args:List Operand)
 | xop (e:XOp) (xs:List Operand)
 | insF (ks:List LK) (m i x:Operand)
 | mop (e:MOp) (xs:List Operand)
def d5 (z:List (Nat×Value)):List AV:=z.flatMap fun p=>List.replicate p.1 (.sc p.2)
def o9 (z:List (Nat×Value)):List Value:=z.flatMap fun p=>List.replicate p.1 p.2
def veq:Value→Value→Bool
 | .bool a,.bool b=>a == b
 | .int k a,.int k' b=>decide (k=k') && decide (a=b)
 | .pointer none,.pointer none=>true
 | .slice none a b,.slice none c d=>a == c && b == d
 | .map none,.map none=>true
 | .nilFunc,.nilFunc=>true
 | .nilIface,.nilIface=>true
 | _,_=>false
theorem PX {a b:Value} (h:veq a b=true):a=b:=by
 unfold veq at h
 split at h<;>simp_all
def rle:List Value→List (Nat×Value)
 | []=>[]
 | v::r=>match rle r with
  | (n,u)::q=>match veq v u with
   | true=>(n+1,u)::q
   | false=>(1,v)::(n,u)::q
  | []=>[(1,v)]
theorem pZ (l:List Value):o9 (rle l)=l:=by
 induction l with
 | nil=>rfl
 | cons v r ih=>
  unfold rle;generalize hr:rle r=q at ih
  cases q with
  | nil=>
   simp[o9] at ih;simp[o9,ih]
  | cons p q=>
   obtain⟨n,u⟩:=p;simp only;split
   ·rename_i e
    have:=PX e;subst this;rw[← ih];simp[o9,List.replicate_succ]
   ·rw[← ih]
    simp[o9]
theorem fC (z:List (Nat×Value)):d5 z=(o9 z).map .sc:=by
 induction z with
 | nil=>rfl
 | cons p z ih=>simp only[d5,o9,List.flatMap_cons,List.map_append,List.map_replicate] at *; rw[ih]
def ev (fr:Fr):Operand→AV
 | .tmp t=>fr.get t
 | .const v=>.sc v
 | .global g=>.sc (.pointer (some ⟨g,0,none⟩))
 | .func f=>.sc (.func (.func f) #[] #[])
theorem aH {N M J fr tmps ds} (h:aU N M J fr tmps) (x:Operand):Rep M J (ev fr x) (Act.eval ⟨tmps,ds⟩ x):=by
 cases x with
 | tmp t=>exact h.2 t
 | const v=>exact .sc v
 | global g=>exact .sc _
 | func f=>exact .sc _
def AV.cs:AV→Option (List AV)
 | .undef=>none
 | .tup _=>none
 | .agg cs=>some cs
 | .sc (.agg cs)=>some (cs.toList.map .sc)
 | .sc (.tuple _)=>none
 | x=>some [x]
theorem Rep.cs {M J a v l} (h:Rep M J a v) (hc:a.cs=some l):l.length=v.cells.size∧∀(j:Nat) c x,l[j]?=some c→v.cells[j]?=some x→Rep M J c x:=by
 have one:∀ {a:AV} {v:Value},Rep M J a v→v.cells=#[v]→some [a]=some l→l.length=v.cells.size∧∀(j:Nat) c x,l[j]?=some c→v.cells[j]?=some x→Rep M J c x:=by
  intro a v h hv hl
  injection hl with hl
  subst hl;rw[hv];refine⟨rfl,fun j c x h1 h2=>?_⟩
  cases j with
  | zero=>simp at h1 h2; subst h1; subst h2; exact h
  | succ j=>simp at h1
 cases h with
 | undef=>cases hc
 | sc v=>
  cases v with
  | agg cs=>
   simp only[AV.cs] at hc
   injection hc with hc
   subst hc;refine⟨by simp[Value.cells],fun j c x h1 h2=>?_⟩;simp only[Value.cells] at h2;rw[List.getElem?_map,Array.getElem?_toList,h2] at h1;simp at h1;subst h1;exact .sc x
  | tuple=>cases hc
  | _=>exact one (.sc _) rfl hc
 | agg cells cvs hl h=>
  injection hc with hc
  subst hc;exact⟨hl,h⟩
 | tup=>cases hc
 | nilList=>exact one (.nilList ..) rfl hc
 | list sz rows β off cap n cs e fr hn hM hsz hle ho h=>exact one (.list sz rows β off cap n cs e fr hn hM hsz hle ho h) rfl hc
 | cptr cells β off cs e fr hM hle h=>exact one (.cptr cells β off cs e fr hM hle h) rfl hc
 | tmap es β clock ces hM hw hl hk h=>exact one (.tmap es β clock ces hM hw hl hk h) rfl hc
 | ptr g i row off β l hJ hb=>exact one (.ptr g i row off β l hJ hb) rfl hc
 | hsl g i start len cap β l hJ hb hc' hlc=>exact one (.hsl g i start len cap β l hJ hb hc' hlc) rfl hc
 | hslNil g i a l hJ hb=>exact one (.hslNil g i a l hJ hb) rfl hc
 | mref g i β l hJ hb=>exact one (.mref g i β l hJ hb) rfl hc
 | clo fn fs cs cfs ccs hf hc' h1 h2=>exact one (.clo fn fs cs cfs ccs hf hc' h1 h2) rfl hc
 | yld g i β l hJ hb=>exact one (.yld g i β l hJ hb) rfl hc
 | asl g i row off len cap β l hJ hb hlc=>exact one (.asl g i row off len cap β l hJ hb hlc) rfl hc
 | ifc t a v h=>exact one (.ifc t a v h) rfl hc
 | one v h1=>
  refine one (.one v h1) ?_ hc
  cases v<;>first | rfl | cases h1
def AV.cell1:AV→Bool
 | .undef=>false
 | .agg _=>false
 | .tup _=>false
 | .sc v=>v.oneCell'
 | _=>true
theorem Rep.cell1 {M J a v} (h:Rep M J a v) (hc:a.cell1=true):v.oneCell'=true:=by
 cases h<;>first | rfl | exact hc | assumption | cases hc
def iW (sz:Nat) (agg:Bool) (cells:List AV):Option AV:=
 match agg with
 | true=>match Nat.ble sz cells.length with
  | true=>some (.agg (cells.take sz))
  | false=>none
 | false=>match cells with
  | c::_=>some c
  | []=>none
def cW (rows:List (List AV)):Int→Option (List AV)
 | .ofNat k=>rows[k]?
 | .negSucc _=>none
theorem BP {rows:List (List AV)} {i:Int} {r:List AV} (h:cW rows i=some r):0≤i∧i < rows.length∧rows[i.toNat]?=some r:=by
 cases i with
 | ofNat k=>
  have:=(gEs.1 (show rows[k]?=some r from h)).1;exact⟨Int.natCast_nonneg _,by simpa using this,h⟩
 | negSucc k=>cases h
theorem pW (rows:List (List AV)) (k:Nat):cW rows (k:Int)=rows[k]?:=rfl
def cY (H:Heap):AV→Option (Nat×List (List AV))
 | .list sz rows=>some (sz,rows)
 | .hsl g i start len=>match hget H g i with
  | some (.cells sz rows)=>match Nat.ble (start+len) rows.length with
   | true=>some (sz,(rows.drop start).take len)
   | false=>none
  | _=>none
 | .asl g i row off len=>match hget H g i with
  | some (.cells sz rows)=>match rows[row]? with
   | some r=>match Nat.ble (off+len) sz with
    | true=>some (1,((r.drop off).take len).map fun c=>[c])
    | false=>none
   | none=>none
  | _=>none
 | _=>none
def avals (fr:Fr) (xs:List Operand):List AV:=xs.map (ev fr)
def lay (cells:List AV):List (Nat×Nat×AV)→Option (List AV)
 | []=>some cells
 | (off,sz,v)::r=>match v.cs with
  | some c=>match Nat.beq c.length sz && Nat.ble (off+sz) cells.length with
   | true=>lay (bO cells off c) r
   | false=>none
  | none=>none
def l8 (sz:Nat) (rows:List (List AV)):List (Nat×AV)→Option (List (List AV))
 | []=>some rows
 | (i,v)::r=>match v.cs with
  | some c=>match Nat.beq c.length sz && (Nat.blt i rows.length && c.all AV.cell1) with
   | true=>l8 sz (rows.set i c) r
   | false=>none
  | none=>none
def Sem.pure? {α:Type}:Sem α→Option α
 | .pure a=>some a
 | _=>none
theorem Sem.pure?_run {α:Type} {s:Sem α} {a:α} (h:Sem.pure? s=some a) (P:Program) (w:World):s.run P w=.ok a w:=by
 cases s<;>simp[Sem.pure?] at h
 subst h; rfl
def scs:List AV→Option (List Value)
 | []=>some []
 | .sc v::r=>match scs r with
  | some q=>some (v::q)
  | none=>none
 | _::_=>none
def dM (k:IntKind) (i:Int):List (Value×AV)→Option (Option AV)
 | []=>some none
 | (.int k' j,x)::r=>match decide (k=k') with
  | true=>match decide (i=j) with
   | true=>some (some x)
   | false=>dM k i r
  | false=>none
 | _::_=>none
def rL (i:Int) (x:AV):List (Value×AV)→List (Value×AV)
 | []=>[]
 | (.int k' j,y)::r=>match decide (i=j) with
  | true=>(.int k' j,x)::r
  | false=>(.int k' j,y)::rL i x r
 | p::r=>p::rL i x r
def rC (i:Int):List (Value×AV)→List (Value×AV)
 | []=>[]
 | (.int k' j,y)::r=>match decide (i=j) with
  | true=>r
  | false=>(.int k' j,y)::rC i r
 | p::r=>p::rC i r
def fz (a:AV) (H:Heap):Option (AV×Heap):=
 match a with
 | .undef=>some (.undef,H)
 | .sc v=>some (.sc v,H)
 | .agg c=>some (.agg c,H)
 | .tup c=>some (.tup c,H)
 | .list s r=>some (.list s r,H)
 | .cptr c=>some (.cptr c,H)
 | .tmap e=>some (.tmap e,H)
 | .ptr g i r o=>some (.ptr g i r o,H)
 | .hsl g i s l=>some (.hsl g i s l,H)
 | .mref g i=>some (.mref g i,H)
 | .clo f a b=>some (.clo f a b,H)
 | .yld g i=>some (.yld g i,H)
 | .asl g i r o n=>some (.asl g i r o n,H)
 | .ifc t a=>some (.ifc t a,H)
 | .one=>some (.one,H)
theorem gT (a:AV) (H:Heap):fz a H=some (a,H):=by cases a<;>rfl
def fzl:List AV→Option (List AV)
 | []=>some []
 | a::r=>match fz a [],fzl r with
  | some (b,_),some q=>some (b::q)
  | _,_=>none
theorem wZ (l:List AV):fzl l=some l:=by
 induction l with
 | nil=>rfl
 | cons a r ih=>simp[fzl,gT,ih]
def l7 (H:Heap) (k:IntKind) (n:Int):AV→Option (Option AV)
 | .tmap es=>dM k n es
 | .mref g i=>match hget H g i with
  | some (.map es)=>dM k n es
  | _=>none
 | .sc (.map none)=>some none
 | _=>none
def lM (z:AV) (ok:Bool) (H:Heap):Option (Option AV)→Option (AV×Heap)
 | some (some v)=>match ok with
  | true=>some (.tup [v,.sc (.bool true)],H)
  | false=>some (v,H)
 | some none=>match ok with
  | true=>some (.tup [z,.sc (.bool false)],H)
  | false=>some (z,H)
 | none=>none
def bools:List AV→Option (List Bool)
 | []=>some []
 | .sc (.bool b)::r=>match bools r with
  | some q=>some (b::q)
  | none=>none
 | _::_=>none
def d9 (sz:Nat) (H:Heap) (a:AV):Option (Nat×List (List AV)):=
 match a with
 | .sc (.slice none 0 0)=>some (sz,[])
 | _=>cY H a
def pI (fr:Fr) (d:Nat):Option Operand→Option Nat
 | none=>some d
 | some x=>match ev fr x with
  | .sc (.int _ (.ofNat q))=>some q
  | _=>none
def eF (fr:Fr) (d:Nat) (lo hi mx:Option Operand):Option (Nat×Nat):=
 match pI fr 0 lo,pI fr d hi,pI fr d mx with
 | some l,some h,some m=>match Nat.ble l h && (Nat.ble h m && Nat.ble m d) && (mx.isNone || hi.isSome) with
  | true=>some (l,h)
  | false=>none
 | _,_,_=>none
def kT:LK→Value→Value→Option Bool
 | .b,.bool a,.bool b=>some (a == b)
 | .i,.int k a,.int k' b=>match decide (k=k') with
  | true=>some (decide (a=b))
  | false=>none
 | .s,.string a,.string b=>some (a == b)
 | _,_,_=>none
def cF:List LK→List Value→List Value→Option Bool
 | [],[],[]=>some true
 | k::ks,a::l,b::m=>match kT k a b,cF ks l m with
  | some x,some y=>some (x && y)
  | _,_=>none
 | _,_,_=>none
def jO:AV→Option (List Value)
 | .agg cs=>scs cs
 | .sc (.agg cs)=>some cs.toList
 | _=>none
def hG (ks:List LK) (k:List Value):List (Value×AV)→Option (Option AV)
 | []=>some none
 | (.agg k',x)::r=>match cF ks k k'.toList with
  | some true=>some (some x)
  | some false=>hG ks k r
  | none=>none
 | _::_=>none
def yP (ks:List LK) (k:List Value) (x:AV):List (Value×AV)→List (Value×AV)
 | []=>[]
 | (.agg k',y)::r=>match cF ks k k'.toList with
  | some true=>(.agg k.toArray,x)::r
  | _=>(.agg k',y)::yP ks k x r
 | p::r=>p::yP ks k x r
def rK:List Value→Option (List Int)
 | []=>some []
 | .int .i64 n::r=>match rK r with
  | some c=>some (n::c)
  | none=>none
 | _::_=>none
def gZ:List Int→List Int→Bool
 | [],_::_=>true
 | a::l,b::m=>match decide (a < b) with
  | true=>true
  | false=>match decide (b < a) with
   | true=>false
   | false=>gZ l m
 | _,[]=>false
def eU (c:List Int) (x:AV):List (List Int×AV)→List (List Int×AV)
 | []=>[(c,x)]
 | (d,y)::r=>match gZ c d with
  | true=>(c,x)::(d,y)::r
  | false=>(d,y)::eU c x r
def dN (c:List Int):List (List Int×AV)→Option AV
 | []=>none
 | (d,y)::r=>match decide (d=c) with
  | true=>some y
  | false=>dN c r
def qE (H:Heap) (ks:List LK) (k:List Value):AV→Option (Option AV)
 | .tmap es=>hG ks k es
 | .mref g i=>match hget H g i with
  | some (.map es)=>hG ks k es
  | some (.umap n es)=>match rK k with
   | some c=>match Nat.beq c.length n with
    | true=>some (dN c es)
    | false=>none
   | none=>none
  | _=>none
 | .sc (.map none)=>some none
 | _=>none
def bytesOf:List (List AV)→Option (List UInt8)
 | []=>some []
 | [.sc (.int .u8 n)]::r=>match bytesOf r with
  | some l=>some (UInt8.ofNat n.toNat::l)
  | none=>none
 | _::_=>none
def fS (s:ByteArray):List UInt8→ByteArray
 | []=>s
 | b::l=>fS (s.push b) l
def dS:XOp→List AV→Option AV
 | .eqAgg neg ks,[a,b]=>match jO a,jO b with
  | some xs,some ys=>match cF ks xs ys with
   | some r=>some (.sc (.bool (neg != r)))
   | none=>none
  | _,_=>none
 | .i2f k,[.sc (.int _ n)]=>some (.sc (.float k (k.nearest n)))
 | .idxStr,[.sc (.string s),.sc (.int _ (.ofNat i))]=>match s[i]? with
  | some b=>some (.sc (.int .u8 b.toNat))
  | none=>none
 | .lenStr,[.sc (.string s)]=>some (.sc (.int .i64 s.size))
 | .add64,[.sc (.int .u64 (.ofNat x)),.sc (.int .u64 (.ofNat y)),.sc (.int .u64 (.ofNat c))]=>match Nat.ble c 1 with
  | true=>some (.tup [.sc (.int .u64 (Int.ofNat ((x+y+c) % 18446744073709551616))),.sc (.int .u64 (Int.ofNat ((x+y+c) / 18446744073709551616)))])
  | false=>none
 | .f64bits,[.sc (.float .f64 b)]=>some (.sc (.int .u64 b))
 | .f64from,[.sc (.int .u64 n)]=>some (.sc (.float .f64 n.toNat))
 | .eqIfc neg,[.ifc _ _]=>some (.sc (.bool neg))
 | .eqIfc neg,[.sc .nilIface]=>some (.sc (.bool (!neg)))
 | .eqFn neg,[.clo ..]=>some (.sc (.bool neg))
 | .eqFn neg,[.sc (.func ..)]=>some (.sc (.bool neg))
 | .eqFn neg,[.sc .nilFunc]=>some (.sc (.bool (!neg)))
 | _,_=>none
def mS (H:Heap) (e:XOp) (as:List AV):Option AV:=
 match e with
 | .bstr=>match as with
  | [a]=>match d9 1 H a with
   | some (1,rows)=>match bytesOf rows with
    | some l=>some (.sc (.string (fS .empty l)))
    | none=>none
   | _=>none
  | _=>none
 | .lookF ks z ok=>match as with
  | [m,k]=>match jO k with
   | some xs=>match cF ks xs xs with
    | some _=>match qE H ks xs m with
     | some (some v)=>match ok with
      | true=>some (.tup [v,.sc (.bool true)])
      | false=>some v
     | some none=>match ok with
      | true=>some (.tup [z,.sc (.bool false)])
      | false=>some z
     | none=>none
    | none=>none
   | none=>none
  | _=>none
 | e=>dS e as
def LR (t:Nat) (name:String):List (Nat×List String)→Bool
 | []=>false
 | (u,l)::r=>match Nat.beq u t with
  | true=>l.any (· == name)
  | false=>LR t name r
def slA (n:Nat) (H:Heap) (a b:Nat):AV→Option (AV×Heap)
 | .ptr g i row off=>match Nat.blt a n && (Nat.ble a b && Nat.ble b n) with
  | true=>some (.asl g i row (off+a) (b - a),H)
  | false=>none
 | .cptr cells=>match (Nat.blt a n && (Nat.ble a b && Nat.ble b n)) && (Nat.ble n cells.length && cells.all AV.cell1) with
  | true=>some (.list 1 (((cells.drop a).take (b - a)).map fun c=>[c]),H)
  | false=>none
 | _=>none
def dG (g i:Nat) (H:Heap) (e:MOp) (as:List AV):Option (AV×Heap):=
 match e with
 | .range=>match as with
  | [.tmap es]=>some (.ptr g i 0 0,aK H g i (.it none es))
  | [.sc (.map none)]=>some (.ptr g i 0 0,aK H g i (.it none []))
  | _=>none
 | .next=>match as with
  | [.ptr g' i' 0 0]=>match hget H g' i' with
   | some (.it _ [])=>some (.tup [.sc (.bool false)],H)
   | _=>none
  | _=>none
 | .entry=>match as with
  | [.ptr g' i' 0 0]=>match hget H g' i' with
   | some (.it (some x) _)=>some (.tup [.sc x.1,x.2],H)
   | _=>none
  | _=>none
 | .del k=>match as with
  | [.mref g' i',.sc (.int k' n)]=>match decide (k=k') with
   | true=>match hget H g' i' with
    | some (.map es)=>match dM k n es with
     | some _=>some (.tup [],aK H g' i' (.map (rC n es)))
     | none=>none
    | _=>none
   | false=>none
  | _=>none
 | .slice0 sz=>match as with
  | [.list _ _]=>some (.hsl g i 0 0,aK H g i (.cells sz []))
  | [.hsl _ _ _ _]=>some (.hsl g i 0 0,aK H g i (.cells sz []))
  | [.asl _ _ _ _ _]=>some (.hsl g i 0 0,aK H g i (.cells sz []))
  | [.sc (.slice none 0 0)]=>some (.hsl g i 0 0,aK H g i (.cells sz []))
  | _=>none
 | .clear z=>match as with
  | [.hsl _ _ _ 0]=>some (.tup [],H)
  | [.hsl g' i' st (len+1)]=>match hget H g' i' with
   | some (.cells s rows)=>match Nat.beq s (d5 z).length && Nat.ble (st+(len+1)) rows.length with
    | true=>some (.tup [],aK H g' i' (.cells s (rows.take st++((List.replicate (len+1) (d5 z)).take (len+1)++rows.drop (st+(len+1))))))
    | false=>none
   | _=>none
  | _=>none
 | .sliceA n=>match as with
  | [.ptr g' i' row off,.sc (.int _ (.ofNat q))]=>match Nat.ble q n with
   | true=>some (.asl g' i' row off q,H)
   | false=>none
  | _=>none
 | .iface t=>match as with
  | [a]=>match fz a H with
   | some (b,_)=>some (.ifc t b,H)
   | none=>none
  | _=>none
 | .s2a n=>match as with
  | [.list 1 rows]=>match Nat.ble n rows.length && Nat.blt 0 n with
   | true=>some (.cptr (rows.take n).flatten,H)
   | false=>none
  | [.hsl g' i' st len]=>match Nat.ble n len && Nat.blt 0 n with
   | true=>match hget H g' i' with
    | some (.cells 1 _)=>some (.ptr g' i' st 0,H)
    | _=>none
   | false=>none
  | [.asl g' i' row off len]=>match Nat.ble n len && Nat.blt 0 n with
   | true=>some (.ptr g' i' row off,H)
   | false=>none
  | _=>none
 | .strB=>match as with
  | [.sc (.string s)]=>some (.hsl g i 0 s.size,aK H g i (.cells 1 (s.data.toList.map fun b=>[.sc (.int .u8 b.toNat)])))
  | _=>none
 | .markS=>match as with
  | [.hsl g' i' st (len+1)]=>match hget H g' i' with
   | some (.cells s rows)=>some (.hsl g' i' st (len+1),aK H g' i' (.cells s rows))
   | _=>none
  | _=>none
 | .nilM T=>match as with
  | [.ptr g' i' row off]=>some (.ptr g' i' row off,H)
  | [.cptr cells]=>some (.cptr cells,H)
  | [.ifc t a]=>some (.ifc t a,H)
  | [.clo (.method name) [.ifc t a] cs]=>match LR t name T with
   | true=>some (.clo (.method name) [.ifc t a] cs,H)
   | false=>none
  | _=>none
 | .clearM=>match as with
  | [.mref g' i']=>match hget H g' i' with
   | some (.map _)=>some (.tup [],aK H g' i' (.map []))
   | _=>none
  | _=>none
 | .sliceP n lo hi=>match lo,hi,as with
  | false,false,[x]=>slA n H 0 n x
  | true,false,[x,.sc (.int _ (.ofNat a))]=>slA n H a n x
  | true,true,[x,.sc (.int _ (.ofNat a)),.sc (.int _ (.ofNat b))]=>slA n H a b x
  | false,true,[x,.sc (.int _ (.ofNat b))]=>slA n H 0 b x
  | _,_,_=>none
 | .cap=>match as with
  | [.sc (.slice none 0 0)]=>some (.sc (.int .i64 (0:Nat)),H)
  | _=>none
 | .copy sz=>match as with
  | [.hsl g' i' st (len+1),s]=>match d9 sz H s with
   | some (s2,rows2)=>match hget H g' i' with
    | some (.cells s1 rows1)=>match (Nat.beq s1 sz && Nat.beq s2 sz) && Nat.ble (st+(len+1)) rows1.length with
     | true=>some (.sc (.int .i64 ((min rows2.length (len+1):Nat):Int)),aK H g' i' (.cells sz (rows1.take st++(rows2.take (min rows2.length (len+1))++rows1.drop (st+min rows2.length (len+1))))))
     | false=>none
    | _=>none
   | none=>none
  | _=>none
 | .stop=>none
 | .appN bytes z=>match as with
  | [.sc (.slice none 0 0),.sc (.int .i64 (.ofNat (n+1)))]=>match Nat.ble ((n+1) * (bytes+1)) 70368744177664 with
   | true=>some (.hsl g i 0 (n+1),aK H g i (.cells (d5 z).length (List.replicate (n+1) (d5 z))))
   | false=>none
  | _=>none
def aD (g i:Nat) (o:IOp) (fr:Fr) (H:Heap):Option (AV×Heap):=
 match o with
 | .move x=>fz (ev fr x) H
 | .pick c a b=>match ev fr c with
  | .sc (.bool true)=>fz (ev fr a) H
  | .sc (.bool false)=>fz (ev fr b) H
  | _=>none
 | .alloc z=>some (.ptr g i 0 0,aK H g i (.cells (d5 z).length [d5 z]))
 | .box x=>match (ev fr x).cs with
  | some cs=>match cs.all AV.cell1 with
   | true=>some (.ptr g i 0 0,aK H g i (.cells cs.length [cs]))
   | false=>none
  | none=>none
 | .build z parts=>match lay (d5 z) (parts.map fun p=>(p.1,p.2.1,ev fr p.2.2)) with
  | some cs=>some (.agg cs,H)
  | none=>none
 | .buildSlice sz z n parts=>match l8 sz (List.replicate n (d5 z)) (parts.map fun p=>(p.1,ev fr p.2)) with
  | some rows=>some (.hsl g i 0 n,aK H g i (.cells sz rows))
  | none=>none
 | .load sz agg a=>match ev fr a with
  | .cptr cells=>match iW sz agg cells with
   | some v=>some (v,H)
   | none=>none
  | .ptr g' i' row off=>match hget H g' i' with
   | some (.cells s rows)=>match rows[row]? with
    | some r=>match iW sz agg (r.drop off) with
     | some v=>some (v,H)
     | none=>match Nat.beq s 1 && Nat.beq off 0 with
      | true=>match iW sz agg ((rows.drop row).take sz).flatten with
       | some v=>some (v,H)
       | none=>none
      | false=>none
    | none=>none
   | _=>none
  | _=>none
 | .store sz a x=>match ev fr a with
  | .ptr g' i' row off=>match (ev fr x).cs with
   | some cs=>match hget H g' i' with
    | some (.cells s rows)=>match rows[row]? with
     | some r=>match Nat.beq cs.length sz && (Nat.ble (off+sz) r.length && cs.all AV.cell1) with
      | true=>some (.undef,aK H g' i' (.cells s (rows.set row (bO r off cs))))
      | false=>none
     | none=>none
    | _=>none
   | none=>none
  | _=>none
 | .nilCheck x=>match ev fr x with
  | .ptr g' i' row off=>some (.ptr g' i' row off,H)
  | .cptr cells=>some (.cptr cells,H)
  | .ifc t a=>some (.ifc t a,H)
  | _=>none
 | .bin op t x y=>match ev fr x,ev fr y with
  | .sc a,.sc b=>match Sem.pure? (do eqGuard op t x y a b; binOp op t a b) with
   | some v=>some (.sc v,H)
   | none=>none
  | _,_=>none
 | .eqBool neg x y=>match ev fr x,ev fr y with
  | .sc (.bool a),.sc (.bool b)=>match neg with
   | true=>some (.sc (.bool (!(a == b))),H)
   | false=>some (.sc (.bool (a == b)),H)
  | _,_=>none
 | .eqNil neg x=>match ev fr x with
  | .ptr _ _ _ _=>some (.sc (.bool neg),H)
  | .cptr _=>some (.sc (.bool neg),H)
  | .sc (.pointer none)=>some (.sc (.bool (!neg)),H)
  | _=>none
 | .eqNilM neg x=>match ev fr x with
  | .mref _ _=>some (.sc (.bool neg),H)
  | .tmap _=>some (.sc (.bool neg),H)
  | .sc (.map none)=>some (.sc (.bool (!neg)),H)
  | _=>none
 | .eqNilS neg x=>match ev fr x with
  | .list _ (_::_)=>some (.sc (.bool neg),H)
  | .hsl g' i' _ len=>match len with
   | _+1=>some (.sc (.bool neg),H)
   | 0=>match hget H g' i' with
    | some (.cells _ (_::_))=>some (.sc (.bool neg),H)
    | _=>none
  | .asl _ _ _ _ _=>some (.sc (.bool neg),H)
  | .sc (.slice none 0 0)=>some (.sc (.bool (!neg)),H)
  | _=>none
 | .eqArr neg n x y=>match ev fr x,ev fr y with
  | .agg xs,.agg ys=>match bools xs,bools ys with
   | some a,some b=>match Nat.beq a.length n && Nat.beq b.length n with
    | true=>match neg with
     | true=>some (.sc (.bool (!(a == b))),H)
     | false=>some (.sc (.bool (a == b)),H)
    | false=>none
   | _,_=>none
  | _,_=>none
 | .un op x=>match ev fr x with
  | .sc a=>match Sem.pure? (Op.unary op a) with
   | some v=>some (.sc v,H)
   | none=>none
  | _=>none
 | .conv k x=>match ev fr x with
  | .sc (.int _ n)=>some (.sc (.int k (k.wrap n)),H)
  | _=>none
 | .makeFunc fn first captured=>match fzl (avals fr first),fzl (avals fr captured) with
  | some a,some b=>some (.clo fn a b,H)
  | _,_=>none
 | .makeMap=>some (.mref g i,aK H g i (.map []))
 | .makeSlice sz bytes z l=>match ev fr l with
  | .sc (.int .i64 (.ofNat n))=>match Nat.ble (bytes * n) 70368744177664 && Nat.ble n 1073741824 with
   | true=>some (.hsl g i 0 n,aK H g i (.cells sz (List.replicate n (d5 z))))
   | false=>none
  | _=>none
 | .slice sz x lo hi mx=>match ev fr x with
  | .list s rows=>match Nat.beq s sz with
   | true=>match eF fr rows.length lo hi mx with
    | some (l,h)=>some (.list sz ((rows.drop l).take (h - l)),H)
    | none=>none
   | false=>none
  | .hsl g' i' start len=>match hget H g' i' with
   | some (.cells s rows)=>match Nat.beq s sz with
    | true=>match eF fr len lo hi mx with
     | some (l,h)=>match mx with
      | some _=>some (.undef,H)
      | none=>match Nat.beq l 0 with
       | true=>some (.hsl g' i' start h,H)
       | false=>match Nat.beq l h with
        | true=>some (.list sz [],H)
        | false=>some (.hsl g' i' (start+l) (h - l),H)
     | none=>match eF fr (rows.length - start) lo hi mx with
      | some (l,h)=>match hi,mx with
       | some _,none=>match Nat.blt 0 sz && Nat.blt l h with
        | true=>some (.hsl g' i' (start+l) (h - l),H)
        | false=>none
       | _,_=>none
      | none=>none
    | false=>none
   | _=>none
  | .sc (.slice none 0 0)=>match eF fr 0 lo hi mx with
   | some _=>some (.sc (.slice none 0 0),H)
   | none=>none
  | _=>none
 | .fieldAddr off x=>match ev fr x with
  | .cptr cells=>some (.cptr (cells.drop off),H)
  | .ptr g' i' row o=>some (.ptr g' i' row (o+off),H)
  | _=>none
 | .field off sz agg x=>match (ev fr x) with
  | .agg cells=>match iW sz agg (cells.drop off) with
   | some v=>some (v,H)
   | none=>none
  | _=>none
 | .idxSl sz x ix=>match ev fr ix with
  | .sc (.int _ n)=>match ev fr x with
   | .list s rows=>match Nat.beq s sz,cW rows n with
    | true,some r=>some (.cptr r,H)
    | _,_=>none
   | .hsl g' i' start len=>match n with
    | .ofNat q=>match hget H g' i' with
     | some (.cells s rows)=>match Nat.beq s sz && (Nat.blt q len && Nat.ble (start+len) rows.length) with
      | true=>some (.ptr g' i' (start+q) 0,H)
      | false=>none
     | _=>none
    | .negSucc _=>none
   | .asl g' i' row off len=>match n with
    | .ofNat q=>match Nat.beq sz 1 && Nat.blt q len with
     | true=>some (.ptr g' i' row (off+q),H)
     | false=>none
    | .negSucc _=>none
   | _=>none
  | _=>none
 | .idxArr n sz x ix=>match ev fr ix with
  | .sc (.int _ (.ofNat q))=>match Nat.blt q n with
   | true=>match ev fr x with
    | .cptr cells=>some (.cptr (cells.drop (q * sz)),H)
    | .ptr g' i' row o=>some (.ptr g' i' row (o+q * sz),H)
    | _=>none
   | false=>none
  | _=>none
 | .idxVal n sz agg x ix=>match ev fr ix with
  | .sc (.int _ (.ofNat q))=>match Nat.blt q n with
   | true=>match ev fr x with
    | .agg cells=>match iW sz agg (cells.drop (q * sz)) with
     | some v=>some (v,H)
     | none=>none
    | _=>none
   | false=>none
  | _=>none
 | .lookup z k x ix ok=>match ev fr ix with
  | .sc (.int k' n)=>match decide (k=k') with
   | true=>lM z ok H (l7 H k n (ev fr x))
   | false=>none
  | _=>none
 | .mapUpdate k m ix x=>match ev fr m,ev fr ix with
  | .mref g' i',.sc (.int k' n)=>match decide (k=k') with
   | true=>match hget H g' i' with
    | some (.map es)=>match dM k n es with
     | some none=>some (.undef,aK H g' i' (.map (es++[(.int k n,ev fr x)])))
     | some (some _)=>some (.undef,aK H g' i' (.map (rL n (ev fr x) es)))
     | none=>none
    | _=>none
   | false=>none
  | _,_=>none
 | .extract x ix=>match ev fr x with
  | .tup vs=>match vs[ix]? with
   | some v=>some (v,H)
   | none=>none
  | _=>none
 | .len x=>match ev fr x with
  | .list _ rows=>some (.sc (.int .i64 rows.length),H)
  | .hsl _ _ _ len=>some (.sc (.int .i64 len),H)
  | .asl _ _ _ _ len=>some (.sc (.int .i64 len),H)
  | .sc (.slice none 0 0)=>some (.sc (.int .i64 (0:Nat)),H)
  | _=>none
 | .lenM x=>match ev fr x with
  | .tmap es=>some (.sc (.int .i64 es.length),H)
  | .mref g' i'=>match hget H g' i' with
   | some (.map es)=>some (.sc (.int .i64 es.length),H)
   | _=>none
  | .sc (.map none)=>some (.sc (.int .i64 (0:Nat)),H)
  | _=>none
 | .append sz bytes s x=>match d9 sz H (ev fr x) with
  | some (s2,rows2)=>match Nat.beq s2 sz with
   | true=>match ev fr s with
    | .hsl g' i' 0 len=>match hget H g' i' with
     | some (.cells s1 rows1)=>match Nat.beq s1 sz && (Nat.beq rows1.length len && Nat.ble ((len+rows2.length) * (bytes+1)) 70368744177664) with
      | true=>match Nat.beq g g' && Nat.beq i i' with
       | true=>none
       | false=>some (.hsl g i 0 (len+rows2.length),aK (aK H g' i' .dead) g i (.cells sz (rows1++rows2)))
      | false=>match Nat.beq s1 sz && (Nat.blt 0 sz && (Nat.blt len rows1.length && Nat.ble (len+rows2.length) rows1.length)) with
       | true=>match Nat.beq g g' && Nat.beq i i' with
        | true=>none
        | false=>some (.hsl g i 0 (len+rows2.length),aK (aK H g' i' .dead) g i (.cells sz (rows1.take len++(rows2++rows1.drop (len+rows2.length)))))
       | false=>none
     | _=>none
    | .sc (.slice none 0 0)=>match Nat.ble (rows2.length * (bytes+1)) 70368744177664 with
     | true=>some (.hsl g i 0 rows2.length,aK H g i (.cells sz rows2))
     | false=>none
    | _=>none
   | false=>none
  | none=>none
 | .max args=>match scs (avals fr args) with
  | some vs=>match Sem.pure? (Builtin.max_ #[] 0 vs.toArray) with
   | some v=>some (.sc v,H)
   | none=>none
  | none=>none
 | .min args=>match scs (avals fr args) with
  | some vs=>match Sem.pure? (Builtin.min_ #[] 0 vs.toArray) with
   | some v=>some (.sc v,H)
   | none=>none
  | none=>none
 | .xop e xs=>match mS H e (avals fr xs) with
  | some v=>some (v,H)
  | none=>none
 | .insF ks m ix x=>match ev fr m,jO (ev fr ix) with
  | .mref g' i',some k=>match cF ks k k with
   | some _=>match hget H g' i' with
    | some (.map [])=>match rK k with
     | some c=>some (.undef,aK H g' i' (.umap c.length [(c,ev fr x)]))
     | none=>none
    | some (.umap n es)=>match rK k with
     | some c=>match Nat.beq c.length n,dN c es with
      | true,none=>some (.undef,aK H g' i' (.umap n (eU c (ev fr x) es)))
      | _,_=>none
     | none=>none
    | _=>none
   | none=>none
  | _,_=>none
 | .mop e xs=>dG g i H e (avals fr xs)
def zOf (P:Program) (t:TypeId):Option (List (Nat×Value)):=
 match P.info? t with
 | some i=>match i.zero with
  | some z=>match Nat.beq z.cells.size i.size && z.cells.all Value.oneCell' with
   | true=>some (rle z.cells.toList)
   | false=>none
  | none=>none
 | none=>none
def GQ (P:Program) (t:TypeId):Option AV:=
 match P.info? t with
 | some i=>match i.zero with
  | some (.agg cs)=>some (.agg (d5 (rle cs.toList)))
  | some v=>some (.sc v)
  | none=>none
 | none=>none
def EV (P:Program) (t:TypeId):Option Bool:=
 match P.underlying t with
 | some (.struct _)=>some true
 | some (.array _ _)=>some true
 | some _=>some false
 | none=>none
def bH (P:Program) (t:TypeId):Option Nat:=(P.info? t).map (·.size)
def mV (P:Program) (t:TypeId):Option (Nat×Bool):=
 match bH P t,EV P t with
 | some (n+1),some true=>some (n+1,true)
 | some 1,some false=>some (1,false)
 | _,_=>none
def pT (P:Program) (fs:Array Field):List (Nat×Operand)→Option (List (Nat×Nat×Operand))
 | []=>some []
 | (i,x)::r=>match fs[i]?,pT P fs r with
  | some f,some q=>match bH P f.type with
   | some n=>some ((f.offset,n,x)::q)
   | none=>none
  | _,_=>none
def cop (P:Program):Op→Option IOp
 | .move x | .assign x=>some (.move x)
 | .pick c a b=>some (.pick c a b)
 | .alloc t=>(zOf P t).map .alloc
 | .box _ x=>some (.box x)
 | .build t parts=>match P.underlying t,zOf P t with
  | some (.struct fs),some z=>match fs.all (fun f=>(bH P f.type).isSome) with
   | true=>(pT P fs parts.toList).map (.build z)
   | false=>none
  | _,_=>none
 | .buildSlice t n parts=>match P.underlying t with
  | some (.slice e)=>match bH P e,zOf P e with
   | some sz,some z=>match Nat.ble (n * sz) 16777216 && Nat.blt 0 sz with
    | true=>some (.buildSlice sz z n parts.toList)
    | false=>none
   | _,_=>none
  | _=>none
 | .load t a=>(mV P t).map fun p=>.load p.1 p.2 a
 | .store t a x=>(bH P t).map fun n=>.store n a x
 | .nilCheck x=>some (.nilCheck x)
 | .binOp op t x y _=>match op,P.underlying t with
  | .eql,some .bool=>some (.eqBool false x y)
  | .neq,some .bool=>some (.eqBool true x y)
  | .eql,some (.pointer _)=>match y with | .const (.pointer none)=>some (.eqNil false x) | _=>none
  | .neq,some (.pointer _)=>match y with | .const (.pointer none)=>some (.eqNil true x) | _=>none
  | .eql,some (.map _ _)=>match y with | .const (.map none)=>some (.eqNilM false x) | _=>none
  | .neq,some (.map _ _)=>match y with | .const (.map none)=>some (.eqNilM true x) | _=>none
  | .eql,some (.slice _)=>match y with | .const (.slice none 0 0)=>some (.eqNilS false x) | _=>none
  | .neq,some (.slice _)=>match y with | .const (.slice none 0 0)=>some (.eqNilS true x) | _=>none
  | .eql,some (.array n e)=>match P.underlying e,bH P e,P.eqGuardType P.depth t with | some .bool,some 1,false=>some (.eqArr false n x y) | _,_,_=>none
  | .neq,some (.array n e)=>match P.underlying e,bH P e,P.eqGuardType P.depth t with | some .bool,some 1,false=>some (.eqArr true n x y) | _,_,_=>none
  | _,_=>some (.bin op t x y)
 | .unOp op _ x=>some (.un op x)
 | .convert src dst x=>match P.underlying src,P.underlying dst with
  | some (.int _),some (.int k)=>some (.conv k x)
  | _,_=>none
 | .makeFunc fn a b=>some (.makeFunc fn a.toList b.toList)
 | .makeMap _ none=>some .makeMap
 | .makeSlice t l c=>match P.underlying t with
  | some (.slice e)=>match P.info? e,zOf P e with
   | some i,some z=>match l,c with
    | .tmp a,.tmp b=>match Nat.beq a b && Nat.blt 0 i.size with
     | true=>some (.makeSlice i.size i.bytes z l)
     | false=>none
    | .const (.int .i64 a),.const (.int .i64 b)=>match decide (a=b) && Nat.blt 0 i.size with
     | true=>some (.makeSlice i.size i.bytes z l)
     | false=>none
    | _,_=>none
   | _,_=>none
  | _=>none
 | .fieldAddr t x f=>match P.underlying t with
  | some (.struct fs)=>match fs[f]? with
   | some f=>match bH P f.type with
    | some (_+1)=>some (.fieldAddr f.offset x)
    | _=>none
   | none=>none
  | _=>none
 | .field t x f=>match P.underlying t with
  | some (.struct fs)=>match fs[f]? with
   | some f=>(mV P f.type).map fun p=>.field f.offset p.1 p.2 x
   | none=>none
  | _=>none
 | .indexAddr t x i=>match P.underlying t with
  | some (.slice e)=>(bH P e).map fun n=>.idxSl n x i
  | some (.array n e)=>(bH P e).map fun s=>.idxArr n s x i
  | _=>none
 | .index t x i=>match P.underlying t with
  | some (.array n e)=>(mV P e).map fun p=>.idxVal n p.1 p.2 x i
  | _=>none
 | .lookup t x i ok=>match P.underlying t with
  | some (.map kt e)=>match P.underlying kt,GQ P e with
   | some (.int k),some z=>some (.lookup z k x i ok)
   | _,_=>none
  | _=>none
 | .mapUpdate t m i x=>match P.underlying t with
  | some (.map kt _)=>match P.underlying kt with
   | some (.int k)=>some (.mapUpdate k m i x)
   | _=>none
  | _=>none
 | .insert t m i x=>match P.underlying t with
  | some (.map kt _)=>match P.underlying kt with
   | some (.int k)=>some (.mapUpdate k m i x)
   | _=>none
  | _=>none
 | .extract x i=>some (.extract x i)
 | .slice t x lo hi mx=>match P.underlying t with
  | some (.slice e)=>(bH P e).map fun n=>.slice n x lo hi mx
  | _=>none
 | .call ⟨.builtin .len,args,ts⟩=>match args.toList,ts.toList with
  | [x],[t]=>match P.underlying t with
   | some (.slice _)=>some (.len x)
   | some (.map _ _)=>some (.lenM x)
   | _=>none
  | _,_=>none
 | .call ⟨.builtin .append,args,ts⟩=>match args.toList,ts.toList with
  | [s,x],[t,u]=>match P.underlying t with
   | some (.slice e)=>match P.info? e,zOf P e with
    | some i,some _=>match decide (t=u) && Nat.blt 0 i.size with
     | true=>some (.append i.size i.bytes s x)
     | false=>none
    | _,_=>none
   | _=>none
  | _,_=>none
 | .call ⟨.builtin .max,args,_⟩=>some (.max args.toList)
 | .call ⟨.builtin .min,args,_⟩=>some (.min args.toList)
 | _=>none
end Go.Av
namespace Go.Av
def bE (P:Program) (M:Mem) (J:Inj) (H:Heap) (w:World) (g i:Nat) (s:Sem Next) (v:AV) (H':Heap):Prop:=
 ∃ cv w' J',(s.run P w=.ok (.value cv) w'∨(s.run P w=.ok .skip w'∧cv=Go.undef))∧Rep M J' v cv∧Ext M J M J'∧(∀ k,aS k M J H w M J' H' w') ∧
  ∀ g' i',¬ (g'=g∧i'=i)→J' g' i'=J g' i'
section
variable {P:Program} {M:Mem} {J:Inj} {H:Heap} {w:World} {g i:Nat}
theorem bE.quiet (hH:aN M J H w.heap) (hM:a8 M w.heap) {s:Sem Next} {v:AV} {cv:Value} (h:s.run P w=.ok (.value cv) w) (hr:Rep M J v cv):bE P M J H w g i s v H:=
 ⟨cv,w,J,.inl h,hr,.refl _ _,fun k=>.refl k hH hM,fun _ _ _=>rfl⟩
theorem bE.new (hH:aN M J H w.heap) (hM:a8 M w.heap) (hn:hok H g i) (hJ:J g i=none) {s:Sem Next} {v:AV} {cv:Value} {w':World} (o:Obj) (x:Blk) (l:Loc)
  (hw:w'.heap=w.heap.push o) (hos:w'.os=w.os) (htape:w'.tape=w.tape) (hout:w'.output=w.output) (h:s.run P w=.ok (.value cv) w') (hl:l.blk=some w.heap.size)
  (hx:eQ M J l w'.heap x) (hr:Rep M (J.set g i l) v cv) (hd:w.drawn≤w'.drawn:=by first | exact Nat.le_refl _ | exact Nat.le_succ _ | exact Nat.le_add_right _ _):bE P M J H w g i s v (aK H g i x):=
 ⟨cv,w',J.set g i l,.inl h,hr,Inj.set_ext l hJ M,fun k=>aS.alloc k hH hM g i hn hJ (some o) x l (by rw[hl]; rfl) hx hw hos htape hout hd,fun g' i' hne=>by simp only[Inj.set,if_neg hne]⟩
theorem gY {t:TypeId} {z:List (Nat×Value)} (h:zOf P t=some z):∃ inf zv,P.info? t=some inf∧inf.zero=some zv∧zv.cells.size=inf.size∧(∀ v∈zv.cells,v.oneCell'=true)∧o9 z=zv.cells.toList:=by
 unfold zOf at h;split at h
 ·rename_i inf hi
  split at h
  ·rename_i zv hz
   split at h
   ·rename_i hb
    simp only[bAe,Array.all_eq_true] at hb
    injection h with h
    subst h;refine⟨inf,zv,hi,hz,nEb hb.1,fun v hv=>?_,pZ _⟩;obtain⟨j,hj,rfl⟩:=Array.mem_iff_getElem.1 hv;exact hb.2 j hj
   ·cases h
  ·cases h
 ·cases h
theorem dU {t:TypeId} {inf:TypeInfo} {zv:Value} (hi:P.info? t=some inf) (hz:inf.zero=some zv) (w:World):(zeroValue t).run P w=.ok zv w:=by
 simp[zeroValue,typeInfo,hi,hz]
theorem tL (t:TypeId) (v:Value) (w:World):(newVar t v).run P w=.ok ⟨w.heap.size,0,none⟩ { w with heap:=w.heap.push (.cells v.cells t) }:=by
 simp[newVar,newRow]
theorem eD (h:Array Obj) (o:Obj):(h.push o)[h.size]?=some o:=by simp
theorem eQ.row (l:Loc) (h:Array Obj) (β:Nat) (cs:Array Value) (e:TypeId) (xs:List AV) (hl:l.blk=some β) (hsz:l.sz=xs.length) (htot:cs.size=l.tot) (hh:h[β]?=some (.cells cs e (0,0)))
  (hlen:xs.length=cs.size) (h1:∀(j:Nat) v,cs[j]?=some v→v.oneCell'=true) (hr:∀(j:Nat) c v,xs[j]?=some c→cs[j]?=some v→Rep M J c v):eQ M J l h (.cells xs.length [xs]):=by
 refine⟨hsz,fun q r hq=>?_,?_⟩
 ·cases q with
  | zero=>simp at hq; subst hq; rfl
  | succ q=>simp at hq
 ·rw[hl]
  refine⟨cs,e,.of hh,htot,by simp; omega,fun j v _ hv=>h1 j v hv,fun q r j c v hq hj hv=>?_⟩
  cases q with
  | zero=>simp at hq hv; subst hq; exact hr j c v hj hv
  | succ q=>simp at hq
variable {N:Nat} {fr:Fr} {tmps:Array Value} {ds:List Deferred} {o:Oper} {v:AV} {H':Heap}
theorem Rep.ptr0 {l:Loc} {β:Nat} (hJ:J g i=some l) (hb:l.blk=some β):Rep M J (.ptr g i 0 0) (.pointer (some ⟨β,0,none⟩)):=by
 have:=Rep.ptr (M:=M) g i 0 0 β l hJ hb
 rwa[Nat.zero_mul] at this
theorem Inj.set_self (l:Loc):(J.set g i l) g i=some l:=by simp[Inj.set]
theorem DH (hF:aU N M J fr tmps) (hH:aN M J H w.heap) (hM:a8 M w.heap) {x:Operand} (h:o.op=.move x∨o.op=.assign x) (hs:aD g i (.move x) fr H=some (v,H')):
  bE P M J H w g i (execOp (Act.eval ⟨tmps,ds⟩) o) v H':=by
 simp only[aD,gT,oIn,pIn] at hs;obtain⟨rfl,rfl⟩:=hs;refine .quiet hH hM (cv:=Act.eval ⟨tmps,ds⟩ x) ?_ (aH hF x)
 rcases h with h | h<;>simp[execOp,h]
theorem Rep.sc_inv {a:Value} {cv:Value} (h:Rep M J (.sc a) cv):cv=a:=by cases h; rfl
theorem LI (hF:aU N M J fr tmps) (hH:aN M J H w.heap) (hM:a8 M w.heap) {c a b:Operand} (h:o.op=.pick c a b) (hs:aD g i (.pick c a b) fr H=some (v,H')):
  bE P M J H w g i (execOp (Act.eval ⟨tmps,ds⟩) o) v H':=by
 have hc:=aH (ds:=ds) hF c;simp only[aD] at hs;split at hs
 ·rename_i e
  rw[e] at hc;simp only[gT,oIn,pIn] at hs;obtain⟨rfl,rfl⟩:=hs;exact .quiet hH hM (cv:=Act.eval ⟨tmps,ds⟩ a) (by simp[execOp,h,hc.sc_inv,asBool]) (aH hF a)
 ·rename_i e
  rw[e] at hc;simp only[gT,oIn,pIn] at hs;obtain⟨rfl,rfl⟩:=hs;exact .quiet hH hM (cv:=Act.eval ⟨tmps,ds⟩ b) (by simp[execOp,h,hc.sc_inv,asBool]) (aH hF b)
 ·cases hs
theorem JS (hH:aN M J H w.heap) (hM:a8 M w.heap) (hn:hok H g i) (hJ:J g i=none) {t:TypeId} {z:List (Nat×Value)} (hz:zOf P t=some z) (h:o.op=.alloc t)
  (hs:aD g i (.alloc z) fr H=some (v,H')):bE P M J H w g i (execOp (Act.eval ⟨tmps,ds⟩) o) v H':=by
 obtain⟨inf,zv,hi,hz0,hsize,hone,hun⟩:=gY hz;simp only[aD,oIn,pIn] at hs;obtain⟨rfl,rfl⟩:=hs
 have hlen:(d5 z).length=zv.cells.size:=by rw[fC,hun]; simp
 refine .new hH hM hn hJ (w':={ w with heap:=w.heap.push (.cells zv.cells t) }) (.cells zv.cells t) _ ⟨some w.heap.size,(d5 z).length,zv.cells.size⟩ rfl rfl rfl rfl
  (cv:=.pointer (some ⟨w.heap.size,0,none⟩)) ?_ rfl ?_ ?_
 ·simp[execOp,h,Instr.alloc,dU hi hz0,tL]
 ·refine eQ.row _ _ w.heap.size zv.cells t (d5 z) rfl rfl rfl (eD _ _) hlen (fun j v hv=>hone v (Array.mem_of_getElem? hv)) fun j c v hc hv=>?_
  rw[fC,hun,List.getElem?_map,Array.getElem?_toList,hv] at hc;simp at hc;subst hc;exact .sc v
 ·exact Rep.ptr0 (Inj.set_self _) rfl
theorem PE (hF:aU N M J fr tmps) (hH:aN M J H w.heap) (hM:a8 M w.heap) (hn:hok H g i) (hJ:J g i=none) {t:TypeId} {x:Operand} (h:o.op=.box t x)
  (hs:aD g i (.box x) fr H=some (v,H')):bE P M J H w g i (execOp (Act.eval ⟨tmps,ds⟩) o) v H':=by
 have hx:=aH (ds:=ds) hF x;simp only[aD] at hs;split at hs
 ·rename_i cs hcs
  split at hs
  ·rename_i hall
   simp only[oIn,pIn] at hs;obtain⟨rfl,rfl⟩:=hs;obtain⟨hl,hrep⟩:=hx.cs hcs
   refine .new hH hM hn hJ (w':={ w with heap:=w.heap.push (.cells (Act.eval ⟨tmps,ds⟩ x).cells t) }) (.cells (Act.eval ⟨tmps,ds⟩ x).cells t) _
    ⟨some w.heap.size,cs.length,(Act.eval ⟨tmps,ds⟩ x).cells.size⟩ rfl rfl rfl rfl (cv:=.pointer (some ⟨w.heap.size,0,none⟩)) ?_ rfl ?_ ?_
   ·simp[execOp,h,Instr.box,tL]
   ·refine eQ.row _ _ w.heap.size _ t cs rfl rfl rfl (eD _ _) hl (fun j v hv=>?_) hrep
    have hj:j < cs.length:=by rw[hl]; exact(Array.getElem?_eq_some_iff.1 hv).1
    exact(hrep j cs[j] v (gEg hj) hv).cell1 (List.all_eq_true.1 hall _ (gMe hj))
   ·exact Rep.ptr0 (Inj.set_self _) rfl
  ·cases hs
 ·cases hs
theorem tW {sz:Nat} {cells:List AV} (h:iW sz true cells=some v):sz≤cells.length∧v=.agg (cells.take sz):=by
 simp only[iW] at h;split at h
 ·rename_i hb
  injection h with h
  exact⟨nlB hb,h.symm⟩
 ·cases h
theorem tP {sz:Nat} {cells:List AV} (h:iW sz false cells=some v):cells[0]?=some v:=by
 cases cells with
 | nil=>cases h
 | cons c r=>simpa[iW] using h
theorem nQ {t:TypeId} {sz:Nat} {agg:Bool} (h:mV P t=some (sz,agg)):bH P t=some sz∧EV P t=some agg∧0 < sz:=by
 unfold mV at h;split at h
 ·rename_i n h1 h2
  simp only[oIn,pIn] at h;obtain⟨rfl,rfl⟩:=h;exact⟨h1,h2,Nat.succ_pos _⟩
 ·rename_i h1 h2
  simp only[oIn,pIn] at h;obtain⟨rfl,rfl⟩:=h;exact⟨h1,h2,Nat.one_pos⟩
 ·cases h
theorem iE {t:TypeId} {b:Bool} (h:EV P t=some b) (w:World):(isAgg t).run P w=.ok b w:=by
 unfold EV at h;unfold isAgg
 split at h<;>simp_all [run_underlying]
theorem run_sizeOf {t:TypeId} {n:Nat} (h:bH P t=some n) (w:World):(sizeOf t).run P w=.ok n w:=by
 unfold bH at h
 cases e:P.info? t with
 | none=>rw[e] at h; cases h
 | some inf=>
  rw[e] at h;simp at h;simp[sizeOf,typeInfo,e,h]
theorem jC {t:TypeId} {sz:Nat} {agg:Bool} (h:mV P t=some (sz,agg)) {β off:Nat} {cs:Array Value} {e:TypeId} {f:Nat×Nat} (hb:w.heap[β]?=some (.cells cs e f)) {cells:List AV}
  (hl:iW sz agg cells=some v) (hle:cells=[]∨off+cells.length≤cs.size) (hr:∀(j:Nat) c x,cells[j]?=some c→cs[off+j]?=some x→Rep M J c x):
  ∃ cv,(loadVar t ⟨β,off,none⟩).run P w=.ok cv w∧Rep M J v cv:=by
 obtain⟨h1,h2,h3⟩:=nQ h
 cases agg with
 | true=>
  obtain⟨hsz,rfl⟩:=tW hl
  have hle':off+sz≤cs.size:=by
   rcases hle with rfl | hle
   ·simp at hsz; omega
   ·omega
  refine⟨.agg (cs.extract off (off+sz)),?_,?_⟩
  ·simp[loadVar,iE h2,run_sizeOf h1,eS P hb hle']
  ·refine .agg _ _ (by simp; omega) fun j c x hc hx=>?_
   have hj:j < sz:=by
    have:=(gEs.1 hc).1;simp at this; omega
   rw[List.getElem?_take,if_pos hj] at hc;rw[Array.getElem?_extract] at hx;split at hx
   ·exact hr j c x hc hx
   ·cases hx
 | false=>
  have h0:=tP hl
  have hlt:off < cs.size:=by
   rcases hle with rfl | hle
   ·simp at h0
   ·have:=(gEs.1 h0).1; omega
  refine⟨cs[off],?_,hr 0 v cs[off] h0 (by simp[hlt])⟩;simp[loadVar,iE h2,kG hb,hlt]
end
end Go.Av
