import Derived.Test.YtgdocflpobncmaaGreatGAvE1
namespace Go.Av
section
variable {α:Type}
noncomputable def kO (l:List α):Nat→Option α:=
 List.rec (motive:=fun _=>Nat→Option α) (fun _=>none) (fun a _ ih n=>Nat.rec (motive:=fun _=>Option α) (some a) (fun m _=>ih m) n) l
theorem eG (l:List α):∀ n,kO l n=l[n]?:=by
 induction l with
 | nil=>intro n; rfl
 | cons a l ih=>
  intro n
  cases n with
  | zero=>rfl
  | succ n=>exact ih n
noncomputable def CE (l:List α):Nat→List α:=
 List.rec (motive:=fun _=>Nat→List α) (fun _=>[]) (fun a t ih n=>Nat.rec (motive:=fun _=>List α) (a::t) (fun m _=>ih m) n) l
theorem rU (l:List α):∀ n,CE l n=l.drop n:=by
 induction l with
 | nil=>intro n; cases n<;>rfl
 | cons a l ih=>
  intro n
  cases n with
  | zero=>rfl
  | succ n=>exact ih n
def pA (a:α):Option (List α)→Option (List α)
 | some l=>some (a::l)
 | none=>none
noncomputable def B9 (n:Nat):List α→Option (List α):=
 Nat.rec (motive:=fun _=>List α→Option (List α)) (fun _=>some []) (fun _ ih l=>List.rec (motive:=fun _=>Option (List α)) none (fun a t _=>pA a (ih t)) l) n
theorem G8:∀(n:Nat) (l q:List α),B9 n l=some q→n≤l.length∧l.take n=q:=by
 intro n
 induction n with
 | zero=>intro l q h; injection h with h; subst h; exact⟨Nat.zero_le _,rfl⟩
 | succ n ih=>
  intro l q h
  cases l with
  | nil=>cases h
  | cons a t=>
   replace h:pA a (B9 n t)=some q:=h
   cases e:B9 n t with
   | none=>rw[e] at h; cases h
   | some q'=>
    rw[e] at h
    injection h with h
    subst h
    obtain⟨h1,h2⟩:=ih t q' e
    exact⟨by simp; omega,by simp[h2]⟩
noncomputable def FX (l:List α):Nat→α→Option (List α):=
 List.rec (motive:=fun _=>Nat→α→Option (List α)) (fun _ _=>none) (fun a t ih n x=>Nat.rec (motive:=fun _=>Option (List α)) (some (x::t)) (fun m _=>pA a (ih m x)) n) l
theorem DH (l:List α):∀ n x q,FX l n x=some q→n < l.length∧l.set n x=q:=by
 induction l with
 | nil=>intro n x q h; cases h
 | cons a t ih=>
  intro n x q h
  cases n with
  | zero=>injection h with h; subst h; exact⟨by simp,rfl⟩
  | succ n=>
   replace h:pA a (FX t n x)=some q:=h
   cases e:FX t n x with
   | none=>rw[e] at h; cases h
   | some q'=>
    rw[e] at h
    injection h with h
    subst h
    obtain⟨h1,h2⟩:=ih n x q' e
    exact⟨by simp; omega,by simp[h2]⟩
noncomputable def yV (vs:List α):List α→Option (List α):=
 List.rec (motive:=fun _=>List α→Option (List α)) (fun l=>some l) (fun v _ ih l=>List.rec (motive:=fun _=>Option (List α)) none (fun _ t _=>pA v (ih t)) l) vs
theorem xW (vs:List α):∀ l q,yV vs l=some q→vs.length≤l.length∧bB l 0 vs=q:=by
 induction vs with
 | nil=>intro l q h; injection h with h; subst h; exact⟨Nat.zero_le _,pQ l 0⟩
 | cons v vs ih=>
  intro l q h
  cases l with
  | nil=>cases h
  | cons a t=>
   replace h:pA v (yV vs t)=some q:=h
   cases e:yV vs t with
   | none=>rw[e] at h; cases h
   | some q'=>
    rw[e] at h
    injection h with h
    subst h
    obtain⟨h1,h2⟩:=ih t q' e
    exact⟨by simp; omega,by simp[bB,h2]⟩
noncomputable def qI (l:List α) (vs:List α):Nat→Option (List α):=
 List.rec (motive:=fun _=>Nat→Option (List α)) (fun n=>Nat.rec (motive:=fun _=>Option (List α)) (yV vs []) (fun _ _=>none) n) (fun a t ih n=>Nat.rec (motive:=fun _=>Option (List α)) (yV vs (a::t)) (fun m _=>pA a (ih m)) n) l
theorem zW (l vs:List α):∀ n q,qI l vs n=some q→n+vs.length≤l.length∧bB l n vs=q:=by
 induction l with
 | nil=>
  intro n q h
  cases n with
  | zero=>
   have:=xW vs [] q h
   exact⟨by have:=this.1; simp at this; simp[this],this.2⟩
  | succ n=>cases h
 | cons a t ih=>
  intro n q h
  cases n with
  | zero=>have:=xW vs (a::t) q h; exact⟨by omega,this.2⟩
  | succ n=>
   replace h:pA a (qI t vs n)=some q:=h
   cases e:qI t vs n with
   | none=>rw[e] at h; cases h
   | some q'=>
    rw[e] at h
    injection h with h
    subst h
    obtain⟨h1,h2⟩:=ih n q' e
    exact⟨by simp; omega,by cases vs<;>simp[bB,h2]⟩
end
noncomputable def kP (H:Heap) (g i:Nat):Option Blk:=
 match kO H g with
 | some f=>kO f i
 | none=>none
theorem eH (H:Heap) (g i:Nat):kP H g i=hget H g i:=by
 unfold kP hget
 rw[eG]
 cases H[g]? with
 | none=>rfl
 | some f=>exact eG f i
noncomputable def cR {α:Type} (l:List α):Nat:=List.rec (motive:=fun _=>Nat) 0 (fun _ _ ih=>Nat.succ ih) l
theorem bQ {α:Type} (l:List α):cR l=l.length:=by
 induction l with
 | nil=>rfl
 | cons a l ih=>show Nat.succ (cR l)=_; rw[ih]; rfl
noncomputable def NJ (f:List Blk) (r:Heap) (i:Nat) (x:Blk):Option Heap:=
 match FX f i x with
 | some f'=>some (f'::r)
 | none=>none
noncomputable def LR (f:List Blk):Option Heap→Option Heap
 | some r=>some (f::r)
 | none=>none
noncomputable def lM (H:Heap):Nat→Nat→Blk→Option Heap:=
 List.rec (motive:=fun _=>Nat→Nat→Blk→Option Heap) (fun g i x=>Nat.rec (motive:=fun _=>Option Heap) (Nat.rec (motive:=fun _=>Option Heap) (some [[x]]) (fun _ _=>none) i) (fun _ _=>none) g)
  (fun f r ih g i x=>Nat.rec (motive:=fun _=>Option Heap) (NJ f r i x) (fun m _=>LR f (ih m i x)) g) H
theorem gS (H:Heap):∀ g i x H',lM H g i x=some H'→aJ H g i x=H':=by
 induction H with
 | nil=>
  intro g i x H' h
  cases g with
  | zero=>cases i with
   | zero=>injection h
   | succ i=>cases h
  | succ g=>cases h
 | cons f r ih=>
  intro g i x H' h
  cases g with
  | zero=>
   replace h:NJ f r i x=some H':=h
   unfold NJ at h
   split at h
   ·rename_i f' e
    injection h with h
    subst h
    have:=(DH f i x f' e).2
    simp[aJ,this]
   ·cases h
  | succ g=>
   replace h:LR f (lM r g i x)=some H':=h
   cases e:lM r g i x with
   | none=>rw[e] at h; cases h
   | some r'=>
    rw[e] at h
    injection h with h
    subst h
    simp[aJ,ih g i x r' e]
inductive SR where
 | no
 | yes (v:AV) (H:Heap)
def SR.of:Option (AV×Heap)→SR
 | some (v,H)=>.yes v H
 | none=>.no
noncomputable def GQ (v:AV) (H:Heap) (g i:Nat) (x:Blk):SR:=
 match lM H g i x with
 | some H'=>.yes v H'
 | none=>.no
def kFz (a:AV) (H:Heap):SR:=
 match a with
 | .undef=>.yes .undef H
 | .sc v=>.yes (.sc v) H
 | .agg c=>.yes (.agg c) H
 | .tup c=>.yes (.tup c) H
 | .list s r=>.yes (.list s r) H
 | .cptr c=>.yes (.cptr c) H
 | .tmap e=>.yes (.tmap e) H
 | .ptr g i r o=>.yes (.ptr g i r o) H
 | .hsl g i s l=>.yes (.hsl g i s l) H
 | .mref g i=>.yes (.mref g i) H
 | .clo f a b=>.yes (.clo f a b) H
 | .yld g i=>.yes (.yld g i) H
 | .asl g i r o n=>.yes (.asl g i r o n) H
 | .ifc t a=>.yes (.ifc t a) H
 | .one=>.yes .one H
def LL (c a b:AV) (H:Heap):SR:=
 match c with
 | .sc (.bool true)=>kFz a H
 | .sc (.bool false)=>kFz b H
 | _=>.no
def vP (n:Int):Int:=
 match n with
 | .ofNat m=>match Nat.blt m 9223372036854775808 with
  | true=>.ofNat m
  | false=>IntKind.i64.wrap (.ofNat m)
 | .negSucc m=>match Nat.blt m 9223372036854775808 with
  | true=>.negSucc m
  | false=>IntKind.i64.wrap (.negSucc m)
theorem FI (n:Int):vP n=IntKind.i64.wrap n:=by
 cases n with
 | ofNat m=>
  simp only[vP]
  split
  ·rename_i h
   have:m+1≤9223372036854775808:=nlB h
   rw[wrap_small (by show _≤(m:Int); omega) (by show(m:Int)≤_; omega)]
  ·rfl
 | negSucc m=>
  simp only[vP]
  split
  ·rename_i h
   have:m+1≤9223372036854775808:=nlB h
   rw[wrap_small (by omega) (by omega)]
  ·rfl
def ltK (a b:Int):Bool:=
 match a with
 | .ofNat m=>match b with
  | .ofNat n=>Nat.blt m n
  | .negSucc _=>false
 | .negSucc m=>match b with
  | .ofNat _=>true
  | .negSucc n=>Nat.blt n m
theorem GV (a b:Int):ltK a b=decide (a < b):=by
 cases a<;>cases b<;>simp only[ltK]<;>rw[Bool.eq_iff_iff]<;>simp[Nat.blt_eq]<;>omega
def eqK (a b:Int):Bool:=
 match a with
 | .ofNat m=>match b with
  | .ofNat n=>Nat.beq m n
  | .negSucc _=>false
 | .negSucc m=>match b with
  | .ofNat _=>false
  | .negSucc n=>Nat.beq m n
theorem NE (a b:Int):eqK a b=(a == b):=by
 cases a<;>cases b<;>simp only[eqK]<;>rw[Bool.eq_iff_iff]<;>simp[Nat.beq_eq]
 all_goals (try omega)
def JW (n:Int) (H:Heap):SR:=
 match n with
 | .ofNat m=>.yes (.sc (.int .i64 (.ofNat m))) H
 | .negSucc m=>.yes (.sc (.int .i64 (.negSucc m))) H
theorem JZ (n:Int) (H:Heap):JW n H=.yes (.sc (.int .i64 n)) H:=by cases n<;>rfl
def qQ (b:Bool) (H:Heap):SR:=
 match b with
 | true=>.yes (.sc (.bool true)) H
 | false=>.yes (.sc (.bool false)) H
theorem F3 (b:Bool) (H:Heap):qQ b H=.yes (.sc (.bool b)) H:=by cases b<;>rfl
def AX (op:BinOp):Int→Int→Heap→SR:=
 match op with
 | .add=>fun a b H=>JW (vP (a+b)) H
 | .sub=>fun a b H=>JW (vP (a - b)) H
 | .mul=>fun a b H=>JW (vP (a * b)) H
 | .eql=>fun a b H=>qQ (eqK a b) H
 | .neq=>fun a b H=>qQ (!(eqK a b)) H
 | .lss=>fun a b H=>qQ (ltK a b) H
 | .leq=>fun a b H=>qQ (!(ltK b a)) H
 | .gtr=>fun a b H=>qQ (ltK b a) H
 | .geq=>fun a b H=>qQ (!(ltK a b)) H
 | _=>fun _ _ _=>.no
def mT (op:BinOp) (t:TypeId) (x y:Operand) (a b:Value) (H:Heap):SR:=
 match Sem.pure? (do eqGuard op t x y a b; binOp op t a b) with
 | some v=>.yes (.sc v) H
 | none=>.no
def SR.or:SR→SR→SR
 | .no=>fun s=>s
 | .yes v H=>fun _=>.yes v H
def GI (op:BinOp) (t:TypeId) (x y:Operand) (a b:Value) (H:Heap):SR:=
 match a with
 | .int .i64 m=>match b with
  | .int .i64 n=>(AX op m n H).or (mT op t x y (.int .i64 m) (.int .i64 n) H)
  | b=>mT op t x y (.int .i64 m) b H
 | a=>mT op t x y a b H
def kBin (op:BinOp) (t:TypeId) (x y:Operand) (a b:AV) (H:Heap):SR:=
 match a with
 | .sc u=>match b with
  | .sc v=>GI op t x y u v H
  | _=>.no
 | _=>.no
noncomputable def kLd (sz:Nat) (agg:Bool) (r:List AV) (off:Nat) (H:Heap):SR:=
 match agg with
 | false=>match kO r off with
  | some c=>.yes c H
  | none=>.no
 | true=>match B9 sz (CE r off) with
  | some cs=>.yes (.agg cs) H
  | none=>.no
noncomputable def x9 (sz:Nat) (agg:Bool) (a:AV) (H:Heap):SR:=
 match a with
 | .cptr cells=>kLd sz agg cells 0 H
 | .ptr g i row off=>match kP H g i with
  | some (.cells _ rows)=>match kO rows row with
   | some r=>kLd sz agg r off H
   | none=>.no
  | _=>.no
 | _=>.no
noncomputable def xE (g i row s:Nat) (rows:List (List AV)) (H:Heap):Option (List AV)→SR
 | some r'=>match FX rows row r' with
  | some rows'=>GQ .undef H g i (.cells s rows')
  | none=>.no
 | none=>.no
noncomputable def GS (sz:Nat) (a x:AV) (H:Heap):SR:=
 match a with
 | .ptr g i row off=>match x.cs with
  | some cs=>match kP H g i with
   | some (.cells s rows)=>match kO rows row with
    | some r=>match Nat.beq (cR cs) sz with
     | true=>match cs.all AV.cell1 with
      | true=>xE g i row s rows H (qI r cs off)
      | false=>.no
     | false=>.no
    | none=>.no
   | _=>.no
  | none=>.no
 | _=>.no
noncomputable def IY (sz:Nat) (x ix:AV) (H:Heap):SR:=
 match ix with
 | .sc (.int _ (.ofNat q))=>match x with
  | .list s rows=>match Nat.beq s sz with
   | true=>match kO rows q with
    | some r=>.yes (.cptr r) H
    | none=>.no
   | false=>.no
  | .hsl g i start len=>match kP H g i with
   | some (.cells s rows)=>match Nat.beq s sz with
    | true=>match Nat.blt q len with
     | true=>match Nat.ble (Nat.add start len) (cR rows) with
      | true=>.yes (.ptr g i (Nat.add start q) 0) H
      | false=>.no
     | false=>.no
    | false=>.no
   | _=>.no
  | .asl g i row off len=>match Nat.beq sz 1 with
   | true=>match Nat.blt q len with
    | true=>.yes (.ptr g i row (Nat.add off q)) H
    | false=>.no
   | false=>.no
  | _=>.no
 | _=>.no
noncomputable def DC (n sz:Nat) (x ix:AV) (H:Heap):SR:=
 match ix with
 | .sc (.int _ (.ofNat q))=>match Nat.blt q n with
  | true=>match x with
   | .cptr cells=>.yes (.cptr (CE cells (Nat.mul q sz))) H
   | .ptr g i row o=>.yes (.ptr g i row (Nat.add o (Nat.mul q sz))) H
   | _=>.no
  | false=>.no
 | _=>.no
noncomputable def CI (n sz:Nat) (agg:Bool) (x ix:AV) (H:Heap):SR:=
 match ix with
 | .sc (.int _ (.ofNat q))=>match Nat.blt q n with
  | true=>match x with
   | .agg cells=>kLd sz agg cells (Nat.mul q sz) H
   | _=>.no
  | false=>.no
 | _=>.no
noncomputable def tJ (off:Nat) (x:AV) (H:Heap):SR:=
 match x with
 | .cptr cells=>.yes (.cptr (CE cells off)) H
 | .ptr g i row o=>.yes (.ptr g i row (Nat.add o off)) H
 | _=>.no
noncomputable def HV (off sz:Nat) (agg:Bool) (x:AV) (H:Heap):SR:=
 match x with
 | .agg cells=>kLd sz agg cells off H
 | _=>.no
noncomputable def kLen (x:AV) (H:Heap):SR:=
 match x with
 | .list _ rows=>.yes (.sc (.int .i64 (.ofNat (cR rows)))) H
 | .hsl _ _ _ len=>.yes (.sc (.int .i64 (.ofNat len))) H
 | .asl _ _ _ _ len=>.yes (.sc (.int .i64 (.ofNat len))) H
 | .sc (.slice none 0 0)=>.yes (.sc (.int .i64 (.ofNat 0))) H
 | _=>.no
noncomputable def yW (x:AV) (i:Nat) (H:Heap):SR:=
 match x with
 | .tup vs=>match kO vs i with
  | some v=>kFz v H
  | none=>.no
 | _=>.no
noncomputable def GC (z:List (Nat×Value)) (g i:Nat) (H:Heap):SR:=
 GQ (.ptr g i 0 0) H g i (.cells (cR (dQ z)) [dQ z])
noncomputable def kBox (a:AV) (g i:Nat) (H:Heap):SR:=
 match a.cs with
 | some cs=>match cs.all AV.cell1 with
  | true=>GQ (.ptr g i 0 0) H g i (.cells (cR cs) [cs])
  | false=>.no
 | none=>.no
def kNot (a:AV) (H:Heap):SR:=
 match a with
 | .sc (.bool true)=>.yes (.sc (.bool false)) H
 | .sc (.bool false)=>.yes (.sc (.bool true)) H
 | _=>.no
def kUn (op:UnOp) (a:AV) (H:Heap):SR:=
 match op with
 | .not=>kNot a H
 | op=>match a with
  | .sc v=>match Sem.pure? (Op.unary op v) with
   | some u=>.yes (.sc u) H
   | none=>.no
  | _=>.no
noncomputable def eD (o:IOp):(Operand→AV)→Nat→Nat→Heap→SR:=
 match o with
 | .move x=>fun e _ _ H=>kFz (e x) H
 | .pick c a b=>fun e _ _ H=>LL (e c) (e a) (e b) H
 | .alloc z=>fun _ g i H=>GC z g i H
 | .box x=>fun e g i H=>kBox (e x) g i H
 | .load sz agg a=>fun e g i H=>(x9 sz agg (e a) H).or (SR.of (s6 e g i (.load sz agg a) H))
 | .store sz a x=>fun e _ _ H=>GS sz (e a) (e x) H
 | .bin op t x y=>fun e _ _ H=>kBin op t x y (e x) (e y) H
 | .un op x=>fun e _ _ H=>kUn op (e x) H
 | .idxSl sz x ix=>fun e _ _ H=>IY sz (e x) (e ix) H
 | .idxArr n sz x ix=>fun e _ _ H=>DC n sz (e x) (e ix) H
 | .idxVal n sz agg x ix=>fun e _ _ H=>CI n sz agg (e x) (e ix) H
 | .fieldAddr off x=>fun e _ _ H=>tJ off (e x) H
 | .field off sz agg x=>fun e _ _ H=>HV off sz agg (e x) H
 | .len x=>fun e _ _ H=>kLen (e x) H
 | .extract x i=>fun e _ _ H=>yW (e x) i H
 | o=>fun e g i H=>SR.of (s6 e g i o H)
theorem SR.of_yes {r:Option (AV×Heap)} {v:AV} {H:Heap} (h:SR.of r=.yes v H):r=some (v,H):=by
 cases r with
 | none=>cases h
 | some p=>obtain⟨a,b⟩:=p; injection h with h1 h2; subst h1; subst h2; rfl
theorem tM {a v:AV} {H H':Heap} (h:kFz a H=.yes v H'):a=v∧H=H':=by
 cases a<;>injection h with h1 h2<;>exact⟨h1,h2⟩
theorem wV {v u:AV} {H H':Heap} {g i:Nat} {x:Blk} (h:GQ v H g i x=.yes u H'):v=u∧aJ H g i x=H':=by
 unfold GQ at h
 split at h
 ·rename_i H1 e
  injection h with h1 h2
  subst h1; subst h2
  exact⟨rfl,gS _ _ _ _ _ e⟩
 ·cases h
theorem tH {sz:Nat} {agg:Bool} {r:List AV} {off:Nat} {H H':Heap} {v:AV} (h:kLd sz agg r off H=.yes v H'):fW sz agg (r.drop off)=some v∧H=H':=by
 unfold kLd at h
 split at h
 ·split at h
  ·rename_i c e
   injection h with h1 h2
   subst h1
   rw[eG] at e
   obtain⟨hl,he⟩:=gEs.1 e
   refine⟨?_,h2⟩
   rw[List.drop_eq_getElem_cons hl,he]
   rfl
  ·cases h
 ·split at h
  ·rename_i cs e
   injection h with h1 h2
   subst h1
   rw[rU] at e
   obtain⟨e1,e2⟩:=G8 _ _ _ e
   have:Nat.ble sz (r.drop off).length=true:=by simpa using e1
   refine⟨?_,h2⟩
   simp only[fW,this,e2]
  ·cases h
theorem EC {op:BinOp} {t:TypeId} {x y:Operand} {a b:Int} {H H':Heap} {v:AV} (h:AX op a b H=.yes v H'):
  ∃ u,Sem.pure? (do eqGuard op t x y (.int .i64 a) (.int .i64 b); binOp op t (.int .i64 a) (.int .i64 b))=some u∧v=.sc u∧H=H':=by
 cases op<;>simp only[AX,JZ,F3,FI,NE,GV] at h
 all_goals first
  | (cases h; done)
  | (injection h with h1 h2
     subst h1
     first
      | exact⟨_,rfl,rfl,h2⟩
      | (refine⟨.bool _,?_,rfl,h2⟩
         simp only[eqGuard,binOp,Op.intCmp]
         first
          | rfl
          | (show some _=some _; congr 2; rw[Bool.eq_iff_iff]; simp)))
theorem l3 {op:BinOp} {t:TypeId} {x y:Operand} {a b:Value} {H H':Heap} {v:AV} (h:mT op t x y a b H=.yes v H'):
  ∃ u,Sem.pure? (do eqGuard op t x y a b; binOp op t a b)=some u∧v=.sc u∧H=H':=by
 unfold mT at h
 split at h
 ·rename_i u e
  injection h with h1 h2
  exact⟨u,e,h1.symm,h2⟩
 ·cases h
theorem SR.or_eq {a b:SR} {v:AV} {H:Heap} (h:a.or b=.yes v H):a=.yes v H∨b=.yes v H:=by
 cases a with
 | no=>exact .inr h
 | yes u H'=>exact .inl h
theorem GN {op:BinOp} {t:TypeId} {x y:Operand} {a b:Value} {H H':Heap} {v:AV} (h:GI op t x y a b H=.yes v H'):
  ∃ u,Sem.pure? (do eqGuard op t x y a b; binOp op t a b)=some u∧v=.sc u∧H=H':=by
 unfold GI at h
 split at h
 ·split at h
  ·rcases SR.or_eq h with h | h
   ·exact EC h
   ·exact l3 h
  ·exact l3 h
 ·exact l3 h
theorem jJ {o:IOp} {fr:Fr} {g i:Nat} {H H':Heap} {v:AV} (h:eD o (ev fr) g i H=.yes v H'):aC g i o fr H=some (v,H'):=by
 cases o with
 | move x=>
  obtain⟨h1,h2⟩:=tM h
  subst h1; subst h2
  simp only[aC,eV]
 | pick c a b=>
  simp only[eD,LL] at h
  simp only[aC]
  split at h
  ·rename_i e
   obtain⟨h1,h2⟩:=tM h
   subst h1; subst h2
   rw[e]
   simp only[eV]
  ·rename_i e
   obtain⟨h1,h2⟩:=tM h
   subst h1; subst h2
   rw[e]
   simp only[eV]
  ·cases h
 | alloc z=>
  simp only[eD,GC] at h
  obtain⟨h1,h2⟩:=wV h
  subst h1; subst h2
  simp only[aC,bQ]
 | box x=>
  simp only[eD,kBox] at h
  simp only[aC]
  split at h
  ·rename_i cs e
   split at h
   ·rename_i e2
    obtain⟨h1,h2⟩:=wV h
    subst h1; subst h2
    simp only[e,e2,bQ]
   ·cases h
  ·cases h
 | load sz agg a=>
  rcases SR.or_eq (show(x9 sz agg (ev fr a) H).or (SR.of (s6 (ev fr) g i (.load sz agg a) H))=.yes v H' from h) with h | h
  rotate_left
  ·rw[vS]
   exact SR.of_yes h
  simp only[x9] at h
  simp only[aC]
  split at h
  ·rename_i cells e
   obtain⟨h1,h2⟩:=tH h
   subst h2
   rw[List.drop_zero] at h1
   simp only[e,h1]
  ·rename_i g' i' row off e
   rw[eH] at h
   split at h
   ·rename_i s rows e2
    rw[eG] at h
    split at h
    ·rename_i r e3
     obtain⟨h1,h2⟩:=tH h
     subst h2
     simp only[e,e2,e3,h1]
    ·cases h
   ·cases h
  ·cases h
 | store sz a x=>
  simp only[eD,GS] at h
  simp only[aC]
  split at h
  ·rename_i g' i' row off e
   split at h
   ·rename_i cs e1
    rw[eH] at h
    split at h
    ·rename_i s rows e2
     rw[eG] at h
     split at h
     ·rename_i r e3
      rw[bQ] at h
      split at h
      ·rename_i e4
       split at h
       ·rename_i e5
        unfold xE at h
        split at h
        ·rename_i r' e6
         split at h
         ·rename_i rows' e7
          obtain⟨h1,h2⟩:=wV h
          subst h1; subst h2
          obtain⟨q1,q2⟩:=zW _ _ _ _ e6
          obtain⟨q3,q4⟩:=DH _ _ _ _ e7
          have e8:cs.length=sz:=Nat.eq_of_beq_eq_true e4
          have e9:Nat.ble (off+sz) r.length=true:=by rw[← e8]; simpa using q1
          simp only[e,e1,e2,e3,e4,e5,e9,Bool.and_self,q2,q4]
         ·cases h
        ·cases h
       ·cases h
      ·cases h
     ·cases h
    ·cases h
   ·cases h
  ·cases h
 | bin op t x y=>
  simp only[eD,kBin] at h
  simp only[aC]
  split at h
  ·rename_i u e1
   split at h
   ·rename_i v' e2
    obtain⟨r,h1,h2,h3⟩:=GN h
    subst h2; subst h3
    simp only[e1,e2,h1]
   ·cases h
  ·cases h
 | un op x=>
  simp only[eD,kUn] at h
  simp only[aC]
  split at h
  ·unfold kNot at h
   split at h
   ·rename_i e
    injection h with h1 h2
    subst h1; subst h2
    simp only[e]
    rfl
   ·rename_i e
    injection h with h1 h2
    subst h1; subst h2
    simp only[e]
    rfl
   ·cases h
  ·split at h
   ·rename_i e
    split at h
    ·rename_i u e2
     injection h with h1 h2
     subst h1; subst h2
     simp only[e,e2]
    ·cases h
   ·cases h
 | idxSl sz x ix=>
  simp only[eD,IY] at h
  simp only[aC]
  split at h
  ·rename_i k q e
   split at h
   ·rename_i s rows e1
    split at h
    ·rename_i e2
     rw[eG] at h
     split at h
     ·rename_i r e3
      injection h with h1 h2
      subst h1; subst h2
      have:iD rows (Int.ofNat q)=some r:=e3
      simp only[e,e1,e2,this]
     ·cases h
    ·cases h
   ·rename_i g' i' start len e1
    rw[eH] at h
    split at h
    ·rename_i s rows e2
     split at h
     ·rename_i e3
      split at h
      ·rename_i e4
       rw[bQ] at h
       split at h
       ·rename_i e5
        injection h with h1 h2
        subst h1; subst h2
        have e5':Nat.ble (start+len) rows.length=true:=e5
        simp only[e,e1,e2,e3,e4,e5',Bool.and_self]
        rfl
       ·cases h
      ·cases h
     ·cases h
    ·cases h
   ·rename_i g' i' row off len e1
    split at h
    ·rename_i e3
     split at h
     ·rename_i e4
      injection h with h1 h2
      subst h1; subst h2
      simp only[e,e1,e3,e4,Bool.and_self]
      rfl
     ·cases h
    ·cases h
   ·cases h
  ·cases h
 | idxArr n sz x ix=>
  simp only[eD,DC] at h
  simp only[aC]
  split at h
  ·rename_i k q e
   split at h
   ·rename_i e1
    split at h
    ·rename_i cells e2
     injection h with h1 h2
     subst h1; subst h2
     rw[rU]
     simp only[e,e1,e2]
     rfl
    ·rename_i e2
     injection h with h1 h2
     subst h1; subst h2
     simp only[e,e1,e2]
     rfl
    ·cases h
   ·cases h
  ·cases h
 | idxVal n sz agg x ix=>
  simp only[eD,CI] at h
  simp only[aC]
  split at h
  ·rename_i k q e
   split at h
   ·rename_i e1
    split at h
    ·rename_i cells e2
     obtain⟨h1,h2⟩:=tH h
     subst h2
     have h1':fW sz agg (List.drop (q * sz) cells)=some v:=h1
     simp only[e,e1,e2,h1']
    ·cases h
   ·cases h
  ·cases h
 | fieldAddr off x=>
  simp only[eD,tJ] at h
  simp only[aC]
  split at h
  ·rename_i cells e
   injection h with h1 h2
   subst h1; subst h2
   rw[rU]
   simp only[e]
  ·rename_i e
   injection h with h1 h2
   subst h1; subst h2
   simp only[e]
   rfl
  ·cases h
 | field off sz agg x=>
  simp only[eD,HV] at h
  simp only[aC]
  split at h
  ·rename_i cells e
   obtain⟨h1,h2⟩:=tH h
   subst h2
   simp only[e,h1]
  ·cases h
 | len x=>
  simp only[eD,kLen] at h
  simp only[aC]
  split at h
  ·rename_i e
   injection h with h1 h2
   subst h1; subst h2
   rw[bQ]
   simp only[e]
   rfl
  ·rename_i e
   injection h with h1 h2
   subst h1; subst h2
   simp only[e]
   rfl
  ·rename_i e
   injection h with h1 h2
   subst h1; subst h2
   simp only[e]
   rfl
  ·rename_i e
   injection h with h1 h2
   subst h1; subst h2
   simp only[e]
   rfl
  ·cases h
 | extract x ix=>
  simp only[eD,yW] at h
  simp only[aC]
  split at h
  ·rename_i vs e
   rw[eG] at h
   split at h
   ·rename_i u e1
    obtain⟨h1,h2⟩:=tM h
    subst h1; subst h2
    simp only[e,e1]
   ·cases h
  ·cases h
 | _=>
  rw[vS]
  exact SR.of_yes h
end Go.Av
namespace Go.Av
theorem Bef.trans {af:Nat→List Nat} {a b c:Nat} (h1:Bef af a b) (h2:Bef af b c):Bef af a c:=by
 induction h2 with
 | base h=>exact .step h h1
 | step h _ ih=>exact .step h ih
theorem bP.mid {I:Nat→Nat→Prop} {n:Nat} {B:List Nat} {all l:List Nat} (h:bP I all l):∀ A:List Nat,all=A++n::B→(∀ a∈A,¬ I a n)→(∀ a∈A,∀ b∈B,¬ I a b)→(∀ b∈B,¬ I n b) →
  ∃ l1 l2,l=l1++n::l2∧bP I A l1∧bP I B l2:=by
 induction h with
 | nil=>intro A e; simp at e
 | cons A0 i B0 l h hs ih=>
  intro A e h1 h2 h3
  rcases List.append_eq_append_iff.1 e with⟨A2,e1,e2⟩ | ⟨A2,e1,e2⟩
  ·cases A2 with
   | nil=>
    simp only[List.append_nil] at e1
    subst e1
    simp only[List.nil_append,List.cons.injEq] at e2
    obtain⟨rfl,rfl⟩:=e2
    cases A with
    | nil=>exact⟨[],l,rfl,.nil,hs⟩
    | cons a A=>exact absurd (h a (List.mem_cons_self ..)) (h1 a (List.mem_cons_self ..))
   | cons x A2=>
    simp only[List.cons_append,List.cons.injEq] at e2
    obtain⟨rfl,rfl⟩:=e2
    subst e1
    obtain⟨l1,l2,q1,q2,q3⟩:=ih (A0++A2) (by simp) (fun a ha=>h1 a ((List.mem_append.1 ha).elim (fun h=>List.mem_append_left _ h) fun h=>List.mem_append_right _ (List.mem_cons_of_mem _ h)))
     (fun a ha=>h2 a ((List.mem_append.1 ha).elim (fun h=>List.mem_append_left _ h) fun h=>List.mem_append_right _ (List.mem_cons_of_mem _ h))) h3
    exact⟨i::l1,l2,by rw[q1]; rfl,.cons _ _ _ _ h q2,q3⟩
  ·cases A2 with
   | nil=>
    simp only[List.append_nil] at e1
    subst e1
    simp only[List.nil_append,List.cons.injEq] at e2
    obtain⟨rfl,rfl⟩:=e2
    cases A0 with
    | nil=>exact⟨[],l,rfl,.nil,hs⟩
    | cons a A0=>exact absurd (h a (List.mem_cons_self ..)) (h1 a (List.mem_cons_self ..))
   | cons x A2=>
    simp only[List.cons_append,List.cons.injEq] at e2
    obtain⟨rfl,rfl⟩:=e2
    subst e1
    exact absurd (h n (List.mem_append_right _ (List.mem_cons_self ..))) (h3 i (List.mem_append_right _ (List.mem_cons_self ..)))
theorem bP.weaken {I I':Nat→Nat→Prop} {all l:List Nat} (h:bP I all l):(∀ a b,a∈all→b∈all→I a b→I' a b)→bP I' all l:=by
 induction h with
 | nil=>exact fun _=>.nil
 | cons A i B l h hs ih=>
  intro hw
  refine .cons A i B l (fun a ha=>hw a i (List.mem_append_left _ ha) (List.mem_append_right _ (List.mem_cons_self ..)) (h a ha)) (ih fun a b ha hb hi=>hw a b ?_ ?_ hi)
  ·exact(List.mem_append.1 ha).elim (fun h=>List.mem_append_left _ h) fun h=>List.mem_append_right _ (List.mem_cons_of_mem _ h)
  ·exact(List.mem_append.1 hb).elim (fun h=>List.mem_append_left _ h) fun h=>List.mem_append_right _ (List.mem_cons_of_mem _ h)
theorem aP.dead {M J} {H:Heap} {h:Array Obj} {n:Nat} (hH:aP M J H h):aP M J (H++[List.replicate n .dead]) h∧(∀ g i,aL (H++[List.replicate n Blk.dead]) g i→aL H g i)∧∀ j,J H.length j=none:=by
 have hdead:∀ g i x,hget (H++[List.replicate n Blk.dead]) g i=some x→x.live=true→hget H g i=some x:=by
  intro g i x hx hl
  rw[b8] at hx
  split at hx
  ·rw[List.getElem?_replicate] at hx
   split at hx
   ·injection hx with hx; subst hx; cases hl
   ·cases hx
  ·exact hx
 refine⟨⟨fun g i x hx hl=>hH.blk g i x (hdead g i x hx hl) hl,fun g i g' i' l l' β ⟨x,hx,hl⟩ ⟨y,hy,hl'⟩=>hH.inj g i g' i' l l' β ⟨x,hdead _ _ _ hx hl,hl⟩ ⟨y,hdead _ _ _ hy hl',hl'⟩,
  fun g i l β ⟨x,hx,hl⟩=>hH.out g i l β ⟨x,hdead _ _ _ hx hl,hl⟩,fun g i l hJ=>?_⟩,fun g i ⟨x,hx,hl⟩=>⟨x,hdead g i x hx hl,hl⟩,fun j=>?_⟩
 ·have:=hH.dom g i l hJ
  refine⟨?_,this.2⟩
  rw[b8]
  split
  ·rename_i e
   subst e
   have h2:=this.1
   simp[hget] at h2
  ·exact this.1
 ·cases e:J H.length j with
  | none=>rfl
  | some l=>
   have:=(hH.dom _ _ l e).1
   simp[hget] at this
theorem qO {P:Program} {N k:Nat} {ops:Array Oper} {s:Nat} {xs:List IOper} {fr:Fr} {H:Heap} {R:List a6} {fr':Fr} {H':Heap} (hx:∀(j:Nat) x,xs[j]?=some x→∃ o,ops[s+j]?=some o∧gW P N ops o=some x)
  (hrun:d6 P H.length 0 xs fr (H++[List.replicate xs.length .dead]) R fr' H') {I:Nat→Nat→Prop} (hI:∀ a b,I a b→∃ ra rb,R[a - s]?=some ra∧R[b - s]?=some rb∧dH ra rb=true)
  {l:List Nat} (hs:bP I (List.range' s xs.length) l) {M J tmps} {w:World} (hF:aT N M J fr tmps) (hH:aP M J H w.heap) (hM:aZ M w.heap)
  (Q:Exit→Act→World→Prop) (hQ:∀ a' w',yD k N M J H w (fun fr H=>fr=fr'∧H=H') a' w'→Q Exit.normal a' w'):wpOps P ops Q l ⟨tmps,[]⟩ w:=by
 obtain⟨hrx,hrid⟩:=hrun.recs
 have hRlen:R.length=xs.length:=by rw[← hrx]; simp
 let R':Nat→a6:=fun j=>R.getD (j - s) ⟨⟨none,none,.call 0 []⟩,(0,0),.undef,[],[]⟩
 have hR':∀ j,j < xs.length→R[j]?=some (R' (s+j)):=by
  intro j hj
  have:j < R.length:=by omega
  simp[R',List.getD,this]
 have hs':=hs.to (R:=R') fun a b hab=>by
  obtain⟨ra,rb,h1,h2,h3⟩:=hI a b hab
  simp only[R',List.getD,h1,h2,Option.getD_some]
  exact h3
 have hrem:((List.range' s xs.length).map fun j=>(j,R' j)).map (·.2)=R:=by
  apply List.ext_getElem?
  intro j
  rw[List.map_map,List.getElem?_map]
  by_cases hj:j < xs.length
  ·rw[hR' j hj,List.getElem?_range' hj]
   simp
  ·have h1:(List.range' s xs.length)[j]?=none:=List.getElem?_eq_none (by rw[List.length_range']; omega)
   have h2:R[j]?=none:=List.getElem?_eq_none (by omega)
   rw[h1,h2]
   rfl
 obtain⟨hH0,hlive,hJ0⟩:=hH.dead (n:=xs.length)
 have hmem:∀ p∈(List.range' s xs.length).map (fun j=>(j,R' j)),∃ j,j < xs.length∧p=(s+j,R' (s+j)):=by
  intro p hp
  obtain⟨j,hj,rfl⟩:=List.mem_map.1 hp
  have:=List.mem_range'_1.1 hj
  exact⟨j - s,by omega,by rw[show s+(j - s)=j by omega]⟩
 have hids:∀ j,j < xs.length→(R' (s+j)).id=(H.length,j):=fun j hj=>by rw[hrid j _ (hR' j hj),Nat.zero_add]
 refine oB (k:=k) (N:=N) (t:=(fr',H')) hs' (fun p hp=>?_) ?_ (fr,H++[List.replicate xs.length .dead]) M J tmps w hF hH0 hM (by rw[hrem]; exact hrun.run) (fun p hp=>?_) Q fun a' w' hp=>hQ a' w' ?_
 ·obtain⟨j,hj,rfl⟩:=hmem p hp
  have h3:xs[j]?=some (R' (s+j)).x:=by rw[← hrx,List.getElem?_map,hR' j hj]; rfl
  exact hx j _ h3
 ·rw[List.map_map]
  have he:(List.range' s xs.length).map ((fun x:Nat×a6=>x.2.id) ∘ fun j=>(j,R' j))=(List.range' s xs.length).map fun j=>(H.length,j - s):=
   List.map_congr_left fun j hj=>by
    have:=List.mem_range'_1.1 hj
    show(R' j).id=_
    rw[show j=s+(j - s) by omega,hids _ (by omega)]
    simp
  rw[he]
  exact List.Pairwise.map _ (R:=fun a b=>s≤a∧a < b) (fun a b hab e=>by injection e with e1 e2; omega) (List.Pairwise.imp_of_mem (fun {a b} ha _ hab=>⟨(List.mem_range'_1.1 ha).1,hab⟩) List.pairwise_lt_range')
 ·obtain⟨j,hj,rfl⟩:=hmem p hp
  rw[hids j hj]
  refine⟨?_,hJ0 j⟩
  rw[b8,if_pos rfl,List.getElem?_replicate,if_pos hj]
  rfl
 ·obtain⟨M2,J2,fr2,H2,q1,q2,q3,q4⟩:=hp
  exact⟨M2,J2,fr2,H2,⟨q1.m,q1.j,q1.hrep,q1.mrep,q1.os,(by first | exact q1.tape | exact⟨q1.tape.1,Nat.le_trans (Nat.le_succ _) q1.tape.2⟩),q1.output,q1.size,fun β o ho hn=>q1.frame β o ho fun g i l hl hJ=>hn g i l (hlive g i hl) hJ,
   fun β o ho=>or2 (q1.fresh β o ho) (fun h=>h) fun h=>or2 h (fun h=>h) fun⟨g,i,l,a,b,c⟩=>⟨g,i,l,hlive g i a,b,c⟩,
   fun g i l β a b c=>or2 (q1.live g i l β a b c) (fun⟨g0,i0,l0,a,b,c⟩=>⟨g0,i0,l0,hlive g0 i0 a,b,c⟩) fun h=>h,q1.bk⟩,q2,q3,q4⟩
def lQ (af:List (List Nat)) (s:Nat) (R:List a6):Prop:=
 ∀ a b ra rb,a < b→R[a]?=some ra→R[b]?=some rb→iH af af.length (s+a) (s+b)=true∨dH ra rb=true
theorem AWP.drawMid {P:Program} {N k:Nat} {fr:Fr} {H:Heap} {Q:Exit→Fr→Heap→Prop} {zs xs ys:List IOper} {y:IOper} {af:List (List Nat)} {R1:List a6} {fr1:Fr} {H1:Heap} (hz:zs=xs++y::ys) (hp:P.follows .mixedOrders=true)
  (hlow:oX 0 af=true) (h1:∀ j,j < xs.length→iH af af.length j xs.length=true) (h2:∀ j,j < ys.length→iH af af.length xs.length (xs.length+1+j)=true)
  (hrun:d6 P H.length 0 xs fr (H++[List.replicate xs.length .dead]) R1 fr1 H1) (hc1:lQ af 0 R1)
  (h:Reg P N k [y] fr1 H1 fun fr2 H2=>∃ R2 fr3 H3,d6 P H2.length 0 ys fr2 (H2++[List.replicate ys.length .dead]) R2 fr3 H3∧lQ af (xs.length+1) R2∧Q .normal fr3 H3):AWP P N k (.draw zs af) Q fr H:=by
 intro c0 hc cx M J tmps w hcx hF hH hM
 cases c0 with
 | region id ops draw=>
  simp only[bI] at hc
  split at hc
  ·rename_i us hus
   cases draw with
   | false=>cases hc
   | true=>
    injection hc with hc
    injection hc with hc1' hc2'
    subst hc1'; subst hc2'
    refine wpIn_region_draw fun t=>eR hcx ?_
    rw[hp]
    have hsch:Region.schedule true ops t=Region.linearise .any ops t:=by simp[Region.schedule]
    rw[hsch]
    obtain⟨hlen,hgx⟩:=eL _ _ hus
    have hsz:ops.size=xs.length+(ys.length+1):=by
     have e1:us.length=ops.size:=by rw[hlen]; simp
     rw[← e1,hz]
     simp
    have haf:∀ j l,(ops.toList.map cS)[j]?=some l→a8 ops j=l:=by
     intro j l hj
     rw[List.getElem?_map,Array.getElem?_toList] at hj
     unfold a8
     cases ho:ops[j]? with
     | none=>rw[ho] at hj; cases hj
     | some o=>rw[ho] at hj; simpa using hj
    have hafl:(ops.toList.map cS).length=ops.size:=by simp
    have hops:∀(j:Nat) x,us[j]?=some x→∃ o,ops[j]?=some o∧gW P N ops o=some x:=by
     intro j x hj
     have hlt:=(gEs.1 hj).1
     have ho:ops[j]?=some ops[j]:=Array.getElem?_eq_getElem (by rw[hlen] at hlt; simpa using hlt)
     obtain⟨x',e1,e2⟩:=hgx j ops[j] (by rw[Array.getElem?_toList]; exact ho)
     rw[hj] at e1
     injection e1 with e1
     subst e1
     exact⟨_,ho,e2⟩
    let I:Nat→Nat→Prop:=fun a b=>(b < xs.length∧a < b∧∃ ra rb,R1[a]?=some ra∧R1[b]?=some rb∧dH ra rb=true)∨(xs.length < a∧a < b∧b < ops.size∧¬ Bef (a8 ops) a b)
    have hs:=dB ops I (fun j kk hk=>by
     have hl:(ops.toList.map cS)[j]?=some (a8 ops j):=by
      rw[List.getElem?_map,Array.getElem?_toList]
      unfold a8 at hk ⊢
      cases ho:ops[j]? with
      | none=>rw[ho] at hk; cases hk
      | some o=>rfl
     have:=eN _ 0 hlow j _ hl kk hk
     omega) (fun a b hab hb=>by
     obtain⟨hrx1,_⟩:=hrun.recs
     have hRlen1:R1.length=xs.length:=by rw[← hrx1]; simp
     rcases Nat.lt_trichotomy b xs.length with hbx | hbx | hbx
     ·have ea:R1[a]?=some (R1[a]'(by omega)):=gEg (by omega)
      have eb:R1[b]?=some (R1[b]'(by omega)):=gEg (by omega)
      rcases hc1 a b _ _ hab ea eb with h3 | h3
      ·rw[Nat.zero_add,Nat.zero_add] at h3
       exact .inl (bT haf _ _ _ h3)
      ·exact .inr (.inl ⟨hbx,hab,_,_,ea,eb,h3⟩)
     ·subst hbx
      exact .inl (bT haf _ _ _ (h1 a hab))
     ·have hnb:Bef (a8 ops) xs.length b:=by
       have:=h2 (b - (xs.length+1)) (by omega)
       rw[show xs.length+1+(b - (xs.length+1))=b by omega] at this
       exact bT haf _ _ _ this
      rcases Nat.lt_trichotomy a xs.length with hax | hax | hax
      ·exact .inl ((bT haf _ _ _ (h1 a hax)).trans hnb)
      ·subst hax
       exact .inl hnb
      ·by_cases hB:Bef (a8 ops) a b
       ·exact .inl hB
       ·exact .inr (.inr ⟨hax,hab,hb,hB⟩)) t
    have hsplit:List.range ops.size=List.range' 0 xs.length++xs.length::List.range' (xs.length+1) ys.length:=by
     rw[List.range_eq_range',hsz,← List.range'_append_1,Nat.zero_add,List.range'_succ]
    obtain⟨l1,l2,e1,e2,e3⟩:=hs.mid (List.range' 0 xs.length) hsplit
     (fun a ha hi=>by
      have:=List.mem_range'_1.1 ha
      rcases hi with hi | hi
      ·exact absurd hi.1 (Nat.lt_irrefl _)
      ·omega)
     (fun a ha b hb hi=>by
      have:=List.mem_range'_1.1 ha
      have:=List.mem_range'_1.1 hb
      rcases hi with hi | hi
      ·omega
      ·omega)
     (fun b hb hi=>by
      have:=List.mem_range'_1.1 hb
      rcases hi with hi | hi
      ·omega
      ·exact absurd hi.1 (Nat.lt_irrefl _))
    rw[e1]
    refine cW l1 _ _ ?_
    have hget1:∀(j:Nat) x,xs[j]?=some x→∃ o,ops[0+j]?=some o∧gW P N ops o=some x:=by
     intro j x hj
     rw[Nat.zero_add]
     refine hops j x ?_
     rw[hz,List.getElem?_append_left (gEs.1 hj).1]
     exact hj
    have e2':bP (fun a b=>∃ ra rb,R1[a - 0]?=some ra∧R1[b - 0]?=some rb∧dH ra rb=true) (List.range' 0 xs.length) l1:=by
     refine e2.weaken fun a b ha hb hi=>?_
     have h3:=List.mem_range'_1.1 ha
     rcases hi with hi | hi
     ·exact hi.2.2
     ·omega
    refine qO (k:=k) (w:={ w with drawn:=w.drawn+1 }) hget1 hrun (fun a b h=>h) e2' hF hH hM _ fun a' w' hpost=>⟨rfl,?_⟩
    obtain⟨M2,J2,fr2,H2,q1,q2,q3,rfl,rfl⟩:=hpost
    obtain⟨t2,d2⟩:=a'
    cases q3
    have hy:us[xs.length]?=some y:=by rw[hz,List.getElem?_append_right (Nat.le_refl _),Nat.sub_self]; rfl
    obtain⟨oy,ho,hcy⟩:=hops _ _ hy
    have hreg:=h ops [xs.length] ⟨⟨oy,ho,hcy⟩,trivial⟩ M2 J2 t2 w' q2 q1.hrep q1.mrep (fun e a w3=>e=.normal∧wpOps P ops (fun e a' w'=>e=.normal∧yD k N M J H w (Q .normal) a' w') l2 a w3) fun a3 w3 hp3=>⟨rfl,?_⟩
    ·exact cW [xs.length] _ _ hreg
    obtain⟨M3,J3,fr3,H3,r1,r2,r3,R2,fr4,H4,hrun2,hc2,hQ⟩:=hp3
    obtain⟨t3,d3⟩:=a3
    cases r3
    obtain⟨hrx2,_⟩:=hrun2.recs
    have hRlen2:R2.length=ys.length:=by rw[← hrx2]; simp
    have hget2:∀(j:Nat) x,ys[j]?=some x→∃ o,ops[xs.length+1+j]?=some o∧gW P N ops o=some x:=by
     intro j x hj
     refine hops _ x ?_
     rw[hz,List.getElem?_append_right (by omega),show xs.length+1+j - xs.length=j+1 by omega]
     exact hj
    have e3':bP (fun a b=>∃ ra rb,R2[a - (xs.length+1)]?=some ra∧R2[b - (xs.length+1)]?=some rb∧dH ra rb=true) (List.range' (xs.length+1) ys.length) l2:=by
     refine e3.weaken fun a b ha hb hi=>?_
     have h3:=List.mem_range'_1.1 ha
     have h4:=List.mem_range'_1.1 hb
     rcases hi with hi | hi
     ·omega
     ·have ea:R2[a - (xs.length+1)]?=some (R2[a - (xs.length+1)]'(by omega)):=gEg (by omega)
      have eb:R2[b - (xs.length+1)]?=some (R2[b - (xs.length+1)]'(by omega)):=gEg (by omega)
      rcases hc2 (a - (xs.length+1)) (b - (xs.length+1)) _ _ (by omega) ea eb with h5 | h5
      ·rw[show xs.length+1+(a - (xs.length+1))=a by omega,show xs.length+1+(b - (xs.length+1))=b by omega] at h5
       exact absurd (bT haf _ _ _ h5) hi.2.2.2
      ·exact⟨_,_,ea,eb,h5⟩
    refine qO (k:=k) hget2 hrun2 (fun a b h=>h) e3' r2 r1.hrep r1.mrep _ fun a' w4 hpost=>?_
    obtain⟨M5,J5,fr5,H5,s1,s2,s3,rfl,rfl⟩:=hpost
    have q:=(q1.trans r1).trans s1
    exact⟨rfl,M5,J5,_,_,⟨q.m,q.j,q.hrep,q.mrep,q.os,(by first | exact q.tape | exact⟨q.tape.1,Nat.le_trans (Nat.le_succ _) q.tape.2⟩),q.output,q.size,q.frame,q.fresh,q.live,q.bk⟩,s2,s3,hQ⟩
  ·cases hc
 | _=>simp only[bI] at hc; (try split at hc)<;>(try cases hc)<;>(try simp at hc)
end Go.Av
namespace Go.Av
noncomputable def FT.getK (T:FT):Nat→AV:=
 FT.rec (motive:=fun _=>Nat→AV) (fun _=>.undef)
  (fun v _ _ gl gr n=>Nat.rec (motive:=fun _=>AV) v (fun m _=>Bool.rec (motive:=fun _=>AV) (gr (Nat.div m 2)) (gl (Nat.div m 2)) (Nat.beq (Nat.mod m 2) 0)) n) T
theorem FT.getK_eq (T:FT):∀ n,T.getK n=T.get n:=by
 induction T with
 | leaf=>intro n; cases n<;>rfl
 | node v l r ihl ihr=>
  intro n
  cases n with
  | zero=>rfl
  | succ m=>
   show Bool.rec (motive:=fun _=>AV) (r.getK (Nat.div m 2)) (l.getK (Nat.div m 2)) (Nat.beq (Nat.mod m 2) 0)=match Nat.beq (Nat.mod m 2) 0 with | true=>l.get (Nat.div m 2) | false=>r.get (Nat.div m 2)
   cases Nat.beq (Nat.mod m 2) 0 with
   | true=>exact ihl _
   | false=>exact ihr _
def FT.lO (v:AV) (r:FT):Option FT→Option FT
 | some l=>some (.node v l r)
 | none=>none
def FT.rO (v:AV) (l:FT):Option FT→Option FT
 | some r=>some (.node v l r)
 | none=>none
noncomputable def FT.putK (T:FT):Nat→AV→Option FT:=
 FT.rec (motive:=fun _=>Nat→AV→Option FT) (fun _ _=>none)
  (fun v l r pl pr n x=>Nat.rec (motive:=fun _=>Option FT) (some (.node x l r)) (fun m _=>Bool.rec (motive:=fun _=>Option FT) (FT.rO v l (pr (Nat.div m 2) x)) (FT.lO v r (pl (Nat.div m 2) x)) (Nat.beq (Nat.mod m 2) 0)) n) T
theorem FT.putK_eq (T:FT):∀ n x,T.putK n x=T.put n x:=by
 induction T with
 | leaf=>intro n x; rfl
 | node v l r ihl ihr=>
  intro n x
  cases n with
  | zero=>rfl
  | succ m=>
   show Bool.rec (motive:=fun _=>Option FT) (FT.rO v l (r.putK (Nat.div m 2) x)) (FT.lO v r (l.putK (Nat.div m 2) x)) (Nat.beq (Nat.mod m 2) 0)=_
   simp only[FT.put]
   cases Nat.beq (Nat.mod m 2) 0 with
   | true=>
    show FT.lO v r (l.putK (Nat.div m 2) x)=_
    rw[ihl]
    simp only
    cases l.put (Nat.div m 2) x<;>rfl
   | false=>
    show FT.rO v l (r.putK (Nat.div m 2) x)=_
    rw[ihr]
    simp only
    cases r.put (Nat.div m 2) x<;>rfl
noncomputable def FT.evK (T:FT) (x:Operand):AV:=
 match x with
 | .tmp t=>T.getK t
 | .const v=>.sc v
 | .global g=>.sc (.pointer (some ⟨g,0,none⟩))
 | .func f=>.sc (.func (.func f) #[] #[])
theorem AgT.evK {fr:Fr} {T:FT} (h:AgT fr T):Av.ev fr=T.evK:=by
 funext x
 cases x with
 | tmp t=>exact(h t).trans (T.getK_eq t).symm
 | _=>rfl
noncomputable def mapK (T:FT) (l:List Operand):List AV:=List.rec (motive:=fun _=>List AV) [] (fun x _ ih=>T.evK x::ih) l
theorem AgT.mapK {fr:Fr} {T:FT} (h:AgT fr T) (l:List Operand):Av.avals fr l=Av.mapK T l:=by
 unfold Av.avals
 induction l with
 | nil=>rfl
 | cons x l ih=>
  show Av.ev fr x::List.map (Av.ev fr) l=T.evK x::Av.mapK T l
  rw[ih,h.evK]
def MP:IOp→Bool
 | .alloc _=>true
 | .box _=>true
 | .buildSlice _ _ _ _=>true
 | .makeMap=>true
 | .makeSlice _ _ _ _=>true
 | .store _ _ _=>true
 | .mapUpdate _ _ _ _=>true
 | .insF _ _ _ _=>true
 | .append _ _ _ _=>true
 | .mop e _=>!zN e
 | _=>false
def rH:IAct→Bool
 | .op o=>MP o
 | _=>false
theorem F1 {o:IOp} (h:MP o=false) (e:Operand→AV) (g i:Nat):L5 e g i o=[]:=by
 cases o<;>first | rfl | exact uN (by simpa[MP] using h) _ _ _ | cases h
def HE (a b:IOper):Bool:=iK a.dst b.tmps && (iK b.dst a.tmps && iC a.dst b.dst)
def sI (af:List (List Nat)) (n s b:Nat) (y:IOper):Nat→List IOper→Option (List (Nat×Nat))
 | _,[]=>some []
 | a,x::l=>match sI af n s b y (a+1) l with
  | some ps=>match Nat.ble b a || iH af n (s+a) (s+b) with
   | true=>some ps
   | false=>match HE x y with
    | true=>match rH x.act || rH y.act with
     | true=>some ((a,b)::ps)
     | false=>some ps
    | false=>none
  | none=>none
def mP (af:List (List Nat)) (n s:Nat) (xs:List IOper):Nat→List IOper→Option (List (Nat×Nat))
 | _,[]=>some []
 | b,y::l=>match sI af n s b y 0 xs,mP af n s xs (b+1) l with
  | some ps,some qs=>some (ps++qs)
  | _,_=>none
def dynP (af:List (List Nat)) (s:Nat) (xs:List IOper):Option (List (Nat×Nat)):=mP af af.length s xs 0 xs
noncomputable def K5 (ra rb:a6):Bool:=zQ ra.wr (rb.rd++rb.wr) && zQ rb.wr ra.rd
noncomputable def G4 (R:List a6) (p:Nat×Nat):Bool:=
 match kO R p.1 with
 | some ra=>match kO R p.2 with
  | some rb=>K5 ra rb
  | none=>false
 | none=>false
noncomputable def MV (f:Nat×Nat→Bool) (l:List (Nat×Nat)):Bool:=List.rec (motive:=fun _=>Bool) true (fun p _ ih=>Bool.rec (motive:=fun _=>Bool) false ih (f p)) l
theorem KB (f:Nat×Nat→Bool) (l:List (Nat×Nat)) (h:MV f l=true):∀ p∈l,f p=true:=by
 induction l with
 | nil=>intro p hp; cases hp
 | cons q l ih=>
  replace h:Bool.rec (motive:=fun _=>Bool) false (MV f l) (f q)=true:=h
  cases e:f q with
  | false=>rw[e] at h; cases h
  | true=>
   rw[e] at h
   intro p hp
   cases hp with
   | head=>exact e
   | tail _ hp=>exact ih h p hp
noncomputable def chkO (R:List a6):Option (List (Nat×Nat))→Bool
 | some ps=>MV (G4 R) ps
 | none=>false
noncomputable def tP (af:List (List Nat)) (s:Nat) (xs:List IOper) (R:List a6):Bool:=chkO R (dynP af s xs)
theorem pM {af:List (List Nat)} {n s b:Nat} {y:IOper}:∀(l:List IOper) (a0:Nat) ps,sI af n s b y a0 l=some ps→∀(j:Nat) x,l[j]?=some x →
  b≤a0+j∨iH af n (s+(a0+j)) (s+b)=true∨(HE x y=true∧((rH x.act || rH y.act)=false∨(a0+j,b)∈ps))
 | [],_,ps,_,j,x,hx=>by simp at hx
 | z::l,a0,ps,h,j,x,hx=>by
  simp only[sI] at h
  split at h
  ·rename_i qs hq
   have ih:=pM l (a0+1) qs hq
   have hsub:∀ p∈qs,p∈ps:=by
    split at h
    ·injection h with h; subst h; exact fun p hp=>hp
    ·split at h
     ·split at h
      ·injection h with h; subst h; exact fun p hp=>List.mem_cons_of_mem _ hp
      ·injection h with h; subst h; exact fun p hp=>hp
     ·cases h
   cases j with
   | zero=>
    simp at hx
    subst hx
    rw[Nat.add_zero]
    split at h
    ·rename_i e
     simp only[Bool.or_eq_true] at e
     rcases e with e | e
     ·exact .inl (nlB e)
     ·exact .inr (.inl e)
    ·split at h
     ·rename_i e
      refine .inr (.inr ⟨e,?_⟩)
      split at h
      ·injection h with h; subst h; exact .inr (List.mem_cons_self ..)
      ·rename_i e2; exact .inl e2
     ·cases h
   | succ j=>
    have:=ih j x (by simpa using hx)
    rw[show a0+1+j=a0+(j+1) by omega] at this
    rcases this with h1 | h1 | ⟨h1,h2 | h2⟩
    ·exact .inl h1
    ·exact .inr (.inl h1)
    ·exact .inr (.inr ⟨h1,.inl h2⟩)
    ·exact .inr (.inr ⟨h1,.inr (hsub _ h2)⟩)
  ·cases h
theorem lL {af:List (List Nat)} {n s:Nat} {xs:List IOper}:∀(l:List IOper) (b0:Nat) ps,mP af n s xs b0 l=some ps→∀(j:Nat) y,l[j]?=some y →
  ∃ qs,sI af n s (b0+j) y 0 xs=some qs∧∀ p∈qs,p∈ps
 | [],_,ps,_,j,x,hx=>by simp at hx
 | z::l,b0,ps,h,j,y,hy=>by
  simp only[mP] at h
  split at h
  ·rename_i p1 p2 h1 h2
   injection h with h
   subst h
   cases j with
   | zero=>
    simp at hy
    subst hy
    exact⟨p1,h1,fun p hp=>List.mem_append_left _ hp⟩
   | succ j=>
    obtain⟨qs,h3,h4⟩:=lL l (b0+1) p2 h2 j y (by simpa using hy)
    rw[show b0+1+j=b0+(j+1) by omega] at h3
    exact⟨qs,h3,fun p hp=>List.mem_append_right _ (h4 p hp)⟩
  ·cases h
theorem CK {af:List (List Nat)} {R:List a6} {b:Nat} {rb:a6}:∀(l:List a6) (a0:Nat),(∀(j:Nat) ra,l[j]?=some ra→b≤a0+j∨iH af af.length (a0+j) b=true∨dH ra rb=true)→xS af R b rb a0 l=true
 | [],_,_=>rfl
 | r::l,a0,h=>by
  simp only[xS,Bool.and_eq_true,Bool.or_eq_true]
  refine⟨?_,CK l (a0+1) fun j ra hj=>?_⟩
  ·rcases h 0 r rfl with h1 | h1 | h1
   ·exact .inl (by simpa using h1)
   ·exact .inr (.inl h1)
   ·exact .inr (.inr h1)
  ·have:=h (j+1) ra (by simpa using hj)
   rwa[show a0+(j+1)=a0+1+j by omega] at this
theorem uY {af:List (List Nat)} {R:List a6}:∀(l:List a6) (b0:Nat),(∀(j:Nat) rb,l[j]?=some rb→xS af R (b0+j) rb 0 R=true)→kC af R b0 l=true
 | [],_,_=>rfl
 | r::l,b0,h=>by
  simp only[kC,Bool.and_eq_true]
  refine⟨h 0 r rfl,uY l (b0+1) fun j rb hj=>?_⟩
  have:=h (j+1) rb (by simpa using hj)
  rwa[show b0+(j+1)=b0+1+j by omega] at this
theorem gV {af:List (List Nat)} {s:Nat} {xs:List IOper} {R:List a6} (h:tP af s xs R=true) (hx:R.map (·.x)=xs) (hw:∀ r∈R,rH r.x.act=false→r.wr=[]):lQ af s R:=by
 unfold tP chkO at h
 split at h
 ·rename_i ps hps
  intro a b ra rb hab ha hb
  have hyb:xs[b]?=some rb.x:=by rw[← hx,List.getElem?_map,hb]; rfl
  have hya:xs[a]?=some ra.x:=by rw[← hx,List.getElem?_map,ha]; rfl
  obtain⟨qs,h1,h2⟩:=lL xs 0 ps hps b _ hyb
  rw[Nat.zero_add] at h1
  have h3:=pM xs 0 qs h1 a _ hya
  rw[Nat.zero_add] at h3
  rcases h3 with h3 | h3 | ⟨h3,h4⟩
  ·omega
  ·exact .inl h3
  ·refine .inr ?_
   simp only[HE,Bool.and_eq_true] at h3
   have hd:zQ ra.wr (rb.rd++rb.wr)=true∧zQ rb.wr ra.rd=true:=by
    rcases h4 with h4 | h4
    ·simp only[Bool.or_eq_false_iff] at h4
     rw[hw ra (List.mem_of_getElem? ha) h4.1,hw rb (List.mem_of_getElem? hb) h4.2]
     exact⟨rfl,rfl⟩
    ·have:=KB _ _ h _ (h2 _ h4)
     unfold G4 at this
     simp only[eG,ha,hb,K5,Bool.and_eq_true] at this
     exact this
   simp only[dH,h3.1,h3.2.1,h3.2.2,hd.1,hd.2,Bool.and_self,Bool.true_or]
 ·cases h
theorem lQ.all {af:List (List Nat)} {R:List a6} (h:lQ af 0 R):kC af R 0 R=true:=by
 refine uY R 0 fun b rb hb=>?_
 rw[Nat.zero_add]
 refine CK R 0 fun a ra ha=>?_
 rw[Nat.zero_add]
 rcases Nat.lt_or_ge a b with hab | hab
 ·have:=h a b ra rb hab ha hb
  rw[Nat.zero_add,Nat.zero_add] at this
  exact .inr this
 ·exact .inl hab
def NL:IAct→Bool
 | .op _=>false
 | _=>true
def iR:List IOper→Option (List IOper×IOper×List IOper)
 | []=>none
 | x::l=>match NL x.act with
  | true=>some ([],x,l)
  | false=>match iR l with
   | some (a,y,b)=>some (x::a,y,b)
   | none=>none
theorem nP:∀ {zs xs ys:List IOper} {y:IOper},iR zs=some (xs,y,ys)→zs=xs++y::ys
 | [],_,_,_,h=>by cases h
 | x::l,xs,ys,y,h=>by
  simp only[iR] at h
  split at h
  ·injection h with h
   injection h with h1 h2
   injection h2 with h2 h3
   subst h1; subst h2; subst h3
   rfl
  ·split at h
   ·rename_i a y' b e
    injection h with h
    injection h with h1 h2
    injection h2 with h2 h3
    subst h1; subst h2; subst h3
    rw[nP e]
    rfl
   ·cases h
def GJ (af:List (List Nat)) (q n:Nat):Bool:=oX 0 af && ((List.range q).all (fun j=>iH af af.length j q) && (List.range n).all fun j=>iH af af.length q (q+1+j))
noncomputable def jQ (d:Option Nat) (v:AV) (T:FT) (H:Heap) (ih:FT→Heap→RR):RR:=
 match d with
 | none=>ih T H
 | some d=>match T.putK d v with
  | some T'=>ih T' H
  | none=>.stuck
noncomputable def z9 (d:Option Nat) (T:FT) (ih:FT→Heap→RR):SR→RR
 | .yes v H=>jQ d v T H ih
 | .no=>.stuck
noncomputable def d7 (d:Option Nat) (T:FT) (ih:FT→Heap→RR):Option (AV×Heap)→RR
 | some (v,H)=>jQ d v T H ih
 | none=>.stuck
structure bS where
 run:FuncId→List AV→Heap→Option (AV×Heap)
 mth:TypeId→String→Option FuncId
 yl:Nat→Nat→List AV→Heap→Option (Bool×Heap)
 frz:Heap→AV→Option AV
noncomputable def kN (T:FT) (f:Cal):AV:=
 match f with
 | .tmp t=>match T.getK t with
  | .sc (.func (.func f) ⟨[]⟩ ⟨[]⟩)=>.clo (.func f) [] []
  | a=>a
 | .meth r _ tbl=>match T.evK r with
  | .ifc t a=>match xY t tbl with
   | some f=>.clo (.func f) [a] []
   | none=>.undef
  | _=>.undef
noncomputable def xA (call:bS) (d:Option Nat) (args:List AV) (T:FT) (H:Heap) (ih:FT→Heap→RR) (name:String) (fs:List AV):RR:=
 match fs with
 | [.ifc t a]=>match call.mth t name with
  | some g=>d7 d T ih (call.run g ([a]++args++[]) H)
  | none=>.stuck
 | _=>.stuck
noncomputable def mW (call:bS) (d:Option Nat) (args:List AV) (T:FT) (H:Heap) (ih:FT→Heap→RR) (f:AV):RR:=
 match f with
 | .clo (.func g) fs cs=>d7 d T ih (call.run g (fs++args++cs) H)
 | .clo (.method name) fs _=>xA call d args T H ih name fs
 | _=>.stuck
noncomputable def iI (call:bS) (k:Nat) (d:Option Nat) (ih:FT→Heap→RR) (a:IAct):FT→Heap→RR:=
 match a with
 | .op o=>fun T H=>z9 d T ih (eD o T.evK (cR H) 0 H)
 | .call f args=>fun T H=>Bool.rec (motive:=fun _=>RR) .stuck (d7 d T ih (call.run f (mapK T args) H)) (Nat.ble k (cR H))
 | .callV f args=>fun T H=>Bool.rec (motive:=fun _=>RR) .stuck (mW call d (mapK T args) T H ih (kN T f)) (Nat.ble k (cR H))
noncomputable def G3 (b:Bool) (yes no bad:RR) (v:AV):RR:=
 match v with
 | .sc (.bool true)=>Bool.rec (motive:=fun _=>RR) no yes b
 | .sc (.bool false)=>Bool.rec (motive:=fun _=>RR) yes no b
 | .sc (.tuple _)=>no
 | _=>bad
noncomputable def GO (call:bS) (k:Nat) (d:Option Nat) (a:IAct) (ih:FT→Heap→RR) (gd:Option (Nat×Bool)):FT→Heap→RR:=
 match gd with
 | none=>iI call k d ih a
 | some (t,b)=>fun T H=>G3 b (iI call k d ih a T H) (jQ d (.sc Go.undef) T H ih) .stuck (T.getK t)
noncomputable def KW (call:bS) (k:Nat) (ih:FT→Heap→RR) (x:IOper):FT→Heap→RR:=
 match x with
 | ⟨d,gd,a⟩=>GO call k d a ih gd
noncomputable def g6 (call:bS) (k:Nat) (xs:List IOper):FT→Heap→RR:=
 List.rec (motive:=fun _=>FT→Heap→RR) (fun T H=>.out T H) (fun x _ ih=>KW call k ih x) xs
def HW (P:Program) (call:Caller):Prop:=∀ f args H v H',call f args H=some (v,H')→aD P f args H fun r H2=>r=v∧H2=H'
theorem AgT.putK {fr:Fr} {T T':FT} {d:Nat} {v:AV} (h:AgT fr T) (hp:T.putK d v=some T'):AgT (fr.put (some d) v) T':=by
 rw[FT.putK_eq] at hp
 exact AgT.put (d:=some d) h hp
theorem cV {d:Option Nat} {v:AV} {T:FT} {H:Heap} {ih:FT→Heap→RR} {T':FT} {H':Heap} (h:jQ d v T H ih=.out T' H') {fr:Fr} (ha:AgT fr T):∃ T1,AgT (fr.put d v) T1∧ih T1 H=.out T' H':=by
 cases d with
 | none=>exact⟨T,ha,h⟩
 | some d=>
  simp only[jQ] at h
  split at h
  ·rename_i T1 e
   exact⟨T1,ha.putK e,h⟩
  ·cases h
theorem CF {fr:Fr} {T:FT} (h:AgT fr T) {t:Nat} {b:Bool} {yes no:RR} {T':FT} {H':Heap} (hs:G3 b yes no .stuck (T.getK t)=.out T' H'):
  (gok fr (some (t,b))=some true∧yes=.out T' H')∨(gok fr (some (t,b))=some false∧no=.out T' H'):=by
 have e:T.getK t=fr.get t:=(T.getK_eq t).trans (h t).symm
 rw[e] at hs
 unfold G3 at hs
 simp only[gok]
 split at hs
 ·rename_i e1
  rw[e1]
  cases b with
  | true=>exact .inl ⟨rfl,hs⟩
  | false=>exact .inr ⟨rfl,hs⟩
 ·rename_i e1
  rw[e1]
  cases b with
  | true=>exact .inr ⟨rfl,hs⟩
  | false=>exact .inl ⟨rfl,hs⟩
 ·rename_i e1
  rw[e1]
  exact .inr ⟨rfl,hs⟩
 ·cases hs
structure cG (P:Program) (call:bS):Prop where
 run:HW P call.run
 mth:∀ t name f,call.mth t name=some f→methF P t name=some f
 frz:∀ H a b,call.frz H a=some b→cQ 0 H a [] b∧aX b
theorem v7 {P:Program} {fr:Fr} {T:FT} (h:AgT fr T) {f:Cal} {fn:FuncId} {fs cs:List AV} (hc:kN T f=.clo (.func fn) fs cs):evC P fr f=.clo (.func fn) fs cs:=by
 cases f with
 | tmp t=>
  simp only[kN,FT.getK_eq] at hc
  show resM P (fr.get t)=_
  rw[h t]
  split at hc
  ·rename_i e
   rw[e]
   exact hc
  ·rw[hc]
   rfl
 | meth r name tbl=>
  simp only[kN] at hc
  show Cal.res P (.meth r name tbl) (ev fr r)=_
  rw[h.evK]
  split at hc
  ·rename_i t a e
   rw[e]
   exact hc
  ·cases hc
theorem uC {P:Program} {fr:Fr} {T:FT} (h:AgT fr T) {f:Cal} {name:String} {t:TypeId} {a:AV} {cs:List AV} (hc:kN T f=.clo (.method name) [.ifc t a] cs) {g:FuncId} (hm:methF P t name=some g):evC P fr f=.clo (.func g) [a] []:=by
 cases f with
 | tmp u=>
  simp only[kN,FT.getK_eq] at hc
  show resM P (fr.get u)=_
  rw[h u]
  split at hc
  ·injection hc with hc
   cases hc
  ·rw[hc]
   simp only[resM,hm]
 | meth r nm tbl=>
  simp only[kN] at hc
  split at hc
  ·split at hc
   ·injection hc with hc
    cases hc
   ·cases hc
  ·cases hc
section
variable {P:Program} {N k:Nat} {call:bS}
theorem mX (hcall:cG P call) {xs:List IOper} {d:Option Nat} {gd:Option (Nat×Bool)} {a:IAct} {ih:FT→Heap→RR} {K:Fr→Heap→Prop} {T':FT} {H':Heap}
  (hih:∀ T H fr,ih T H=.out T' H'→AgT fr T→Reg P N k xs fr H K) {T:FT} {H:Heap} {fr:Fr} (hg:gok fr gd=some true) (ha:AgT fr T) (h:iI call k d ih a T H=.out T' H'):Reg P N k (⟨d,gd,a⟩::xs) fr H K:=by
 cases a with
 | op o=>
  simp only[iI] at h
  unfold z9 at h
  split at h
  ·rename_i v H1 e
   rw[← ha.evK,bQ] at e
   obtain⟨T1,h1,h2⟩:=cV h ha
   exact Reg.op (x:=⟨d,gd,.op o⟩) hg rfl (jJ e) (hih T1 H1 _ h2 h1)
  ·cases h
 | call f args=>
  simp only[iI] at h
  cases hb:Nat.ble k (cR H) with
  | false=>rw[hb] at h; cases h
  | true=>
   rw[hb] at h
   have hk:k≤H.length:=by rw[← bQ]; exact nlB hb
   replace h:d7 d T ih (call.run f (mapK T args) H)=.out T' H':=h
   unfold d7 at h
   split at h
   ·rename_i v H1 e
    obtain⟨T1,h1,h2⟩:=cV h ha
    refine Reg.call (x:=⟨d,gd,.call f args⟩) hk hg rfl ?_
    rw[ha.mapK]
    refine(hcall.run f _ H v H1 e).mono ?_
    rintro res H2 ⟨rfl,rfl⟩
    exact hih T1 _ _ h2 h1
   ·cases h
 | callV f args=>
  simp only[iI] at h
  cases hb:Nat.ble k (cR H) with
  | false=>rw[hb] at h; cases h
  | true=>
   rw[hb] at h
   have hk:k≤H.length:=by rw[← bQ]; exact nlB hb
   replace h:mW call d (mapK T args) T H ih (kN T f)=.out T' H':=h
   have fin:∀ {g:FuncId} {fs cs:List AV},d7 d T ih (call.run g (fs++mapK T args++cs) H)=.out T' H'→evC P fr f=.clo (.func g) fs cs→Reg P N k (⟨d,gd,.callV f args⟩::xs) fr H K:=by
    intro g fs cs h ef
    unfold d7 at h
    split at h
    ·rename_i v H1 e
     obtain⟨T1,h1,h2⟩:=cV h ha
     refine Reg.callV (x:=⟨d,gd,.callV f args⟩) (f:=f) (g:=g) (fs:=fs) (cs:=cs) hk hg rfl ef ?_
     rw[ha.mapK]
     refine(hcall.run g _ H v H1 e).mono ?_
     rintro res H2 ⟨rfl,rfl⟩
     exact hih T1 _ _ h2 h1
    ·cases h
   unfold mW at h
   split at h
   ·rename_i g fs cs ef
    exact fin h (v7 ha ef)
   ·rename_i name fs cs ef
    unfold xA at h
    split at h
    ·rename_i t a
     split at h
     ·rename_i g hm
      exact fin (fs:=[a]) (cs:=[]) h (uC ha ef (hcall.mth _ _ _ hm))
     ·cases h
    ·cases h
   ·cases h
theorem jM (hcall:cG P call) {K:Fr→Heap→Prop} {T':FT} {H':Heap} (hK:∀ fr',AgT fr' T'→K fr' H'):∀(xs:List IOper) (T:FT) (H:Heap) (fr:Fr),g6 call k xs T H=.out T' H'→AgT fr T→Reg P N k xs fr H K:=by
 intro xs
 induction xs with
 | nil=>
  intro T H fr h ha
  injection h with h1 h2
  subst h1; subst h2
  exact Reg.nil (hK fr ha)
 | cons x xs ih=>
  intro T H fr h ha
  obtain⟨d,gd,a⟩:=x
  replace h:GO call k d a (g6 call k xs) gd T H=.out T' H':=h
  cases gd with
  | none=>exact mX hcall (ih:=g6 call k xs) ih rfl ha h
  | some p=>
   obtain⟨t,b⟩:=p
   rcases CF ha h with⟨h1,h2⟩ | ⟨h1,h2⟩
   ·exact mX hcall (ih:=g6 call k xs) ih h1 ha h2
   ·obtain⟨T1,h3,h4⟩:=cV h2 ha
    exact Reg.skip (x:=⟨d,some (t,b),a⟩) h1 (ih T1 H _ h4 h3)
end
end Go.Av
