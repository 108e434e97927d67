import Derived.Test.YtkjoolaahocgdaaGreatGAvL2
import Derived.Test.YtkjoolaahocgdaaGreatProg
import Derived.KernelRfl
import Derived.Test.YtkjoolaahocgdaaGreatGWiCs
import Derived.Test.YtkjoolaahocgdaaGreatGWiC
import Derived.Test.YtkjoolaahocgdaaGreatGAvSo
namespace Go.Proofs.YtkjoolaahocgdaaGreat
open Go.Av Go.Proofs
set_option maxRecDepth 100000
set_option maxRecDepth 20000
theorem mixed:Tryz.prog.follows .mixedOrders=true:=by kernel_rfl
def vR (b:Nat) (p:Int):List AV:=[.sc (.int .u64 (b:Int)),.sc (.int .i64 p)]
def vV (b:Nat) (p:Int):AV:=.agg (vR b p)
instance (b:Nat) (p:Int):PR (vR b p):=⟨eI (.sc _) (eI (.sc _) dQ)⟩
instance (b:Nat) (p:Int):PV (vV b p):=⟨.agg _ (pr _)⟩
def sg (b:Nat):Int:=IntKind.i64.wrap (b:Int)
def I8 (x y:Int):Int:=if x < y then -1 else if y < x then 1 else 0
theorem E0 (x:Int):aD Tryz.prog 185 [.sc (.int .i64 x)] (.sc (.bool false)):=by
 refine aD.mkI cF185 (nlB rfl) ?_
 refine aA ?_
 rw[show(x != x)=false by simp]
 exact aW.w
theorem MA (x y:Int):aD Tryz.prog 171 [.sc (.int .i64 x),.sc (.int .i64 y)] (.sc (.int .i64 (I8 x y))):=by
 refine aD.mkI cF171 (nlB rfl) ?_
 have h1:=E0 x
 have h2:=E0 y
 refine aA ?_
 unfold I8
 refine AWP.condD rfl (fun h=>?_) (fun h=>?_)
 ·rw[if_pos h]
  refine aA ?_
  exact aW.w
 ·rw[if_neg h]
  refine aA ?_
  refine AWP.condD rfl (fun h=>?_) (fun h=>?_)
  ·rw[if_pos h]
   refine aA ?_
   exact aW.w
  ·rw[if_neg h]
   refine aA ?_
   exact aW.w
def fT (n:Nat):AV:=.clo (.func n) [] []
def cT (n:Nat) (f:AV):AV:=.clo (.func n) [] [.cptr [f]]
instance (n:Nat):PV (fT n):=⟨.clo _ _ _ dQ dQ⟩
instance (n:Nat) (f:AV) [h:PV f]:PV (cT n f):=⟨.clo _ _ _ dQ (eI (.cptr _ (eI h.out dQ)) dQ)⟩
def l3 (f:AV) (args:List AV) (v:AV):Prop:=∃ g cs,f=.clo (.func g) [] cs∧aD Tryz.prog g ([]++args++cs) v
theorem dR {n:Nat} {args:List AV} {v:AV} (h:aD Tryz.prog n args v):l3 (fT n) args v:=⟨n,[],rfl,by rw[List.append_nil]; exact h⟩
theorem t7 {n:Nat} {f:AV} {args:List AV} {v:AV} (h:aD Tryz.prog n (args++[.cptr [f]]) v):l3 (cT n f) args v:=⟨n,_,rfl,h⟩
theorem mk77 (fn:Fn) (cs:List AV) [PR cs]:aD Tryz.prog 148 [.clo fn [] cs] (cT 169 (.clo fn [] cs)):=by
 refine aD.mkI cF148 (nlB rfl) ?_
 refine aA ?_
 exact aW.mk (.inr rfl) rfl rfl (To.cloL trivial (ToL.cons (To.fzp rfl rfl rfl (To.cptrL (ToL.cons wt1 trivial))) trivial))
theorem IT (fn:Fn) (cs:List AV) [PR cs]:aD Tryz.prog 151 [.clo fn [] cs] (cT 170 (.clo fn [] cs)):=by
 refine aD.mkI cF151 (nlB rfl) ?_
 refine aA ?_
 exact aW.mk (.inr rfl) rfl rfl (To.cloL trivial (ToL.cons (To.fzp rfl rfl rfl (To.cptrL (ToL.cons wt1 trivial))) trivial))
theorem mk82 (fn:Fn) (cs:List AV) [PR cs]:aD Tryz.prog 153 [.clo fn [] cs] (cT 172 (.clo fn [] cs)):=by
 refine aD.mkI cF153 (nlB rfl) ?_
 refine aA ?_
 exact aW.mk (.inr rfl) rfl rfl (To.cloL trivial (ToL.cons (To.fzp rfl rfl rfl (To.cptrL (ToL.cons wt1 trivial))) trivial))
theorem mk90 (fn:Fn) (cs:List AV) [PR cs]:aD Tryz.prog 161 [.clo fn [] cs] (cT 177 (.clo fn [] cs)):=by
 refine aD.mkI cF161 (nlB rfl) ?_
 refine aA ?_
 exact aW.mk (.inr rfl) rfl rfl (To.cloL trivial (ToL.cons (To.fzp rfl rfl rfl (To.cptrL (ToL.cons wt1 trivial))) trivial))
theorem mk86 (fn:Fn) (cs:List AV) [PR cs]:aD Tryz.prog 157 [.clo fn [] cs] (cT 169 (cT 173 (.clo fn [] cs))):=by
 refine aD.mkI cF157 (nlB rfl) ?_
 have h:=mk77 (.func 173) [.cptr [.clo fn [] cs]]
 refine aA ?_
 refine Reg.sub (fr':=[(3,.clo (.func 173) [] [.cptr [.clo fn [] cs]])]) (H':=[]) (Sub.to [] [] (.cons (To.cloL trivial (ToL.cons (To.fzp rfl rfl rfl (To.cptrL (ToL.cons wt1 trivial))) trivial)) .nil) trivial rfl rfl rfl) ?_
 refine aA ?_
 exact aW.w
theorem mk92 (n:Int):aD Tryz.prog 163 [.sc (.int .i64 n)] (.clo (.func 180) [] [.cptr [.sc (.int .i64 n)]]):=by
 refine aD.mkI cF163 (nlB rfl) ?_
 refine aA ?_
 exact aW.mk (.inr rfl) rfl rfl (To.cloL trivial (ToL.cons (To.fzp rfl rfl rfl (To.cptrL (ToL.cons wt1 trivial))) trivial))
theorem do78 (a b:Nat):aD Tryz.prog 149 [.sc (.int .u64 (a:Int)),.sc (.int .u64 (b:Int))] (.sc (.int .u64 ((a+b) % 18446744073709551616:Nat))):=by
 refine aD.mkI cF149 (nlB rfl) ?_
 refine iF ?_
 rw[show(a:Int)+(b:Int)=((a+b:Nat):Int) by omega,pD]
 exact aW.w
theorem do79 (a b:Nat):aD Tryz.prog 150 [.sc (.int .u64 (a:Int)),.sc (.int .u64 (b:Int))] (.sc (.int .u64 (a * b % 18446744073709551616:Nat))):=by
 refine aD.mkI cF150 (nlB rfl) ?_
 refine iF ?_
 rw[show(a:Int) * (b:Int)=((a * b:Nat):Int) by rw[Int.natCast_mul],pD]
 exact aW.w
theorem do83 {a b:Nat} (ha:a < 18446744073709551616) (hb:b < 18446744073709551616):aD Tryz.prog 154 [.sc (.int .u64 (a:Int)),.sc (.int .u64 (b:Int))] (.sc (.int .u64 (a &&& b:Nat))):=by
 refine aD.mkI cF154 (nlB rfl) ?_
 refine aA ?_
 exact aW.w
theorem do84 {a b:Nat} (ha:a < 18446744073709551616) (hb:b < 18446744073709551616):aD Tryz.prog 155 [.sc (.int .u64 (a:Int)),.sc (.int .u64 (b:Int))] (.sc (.int .u64 (a ||| b:Nat))):=by
 refine aD.mkI cF155 (nlB rfl) ?_
 refine aA ?_
 exact aW.w
theorem do85 {a b:Nat} (ha:a < 18446744073709551616) (hb:b < 18446744073709551616):aD Tryz.prog 156 [.sc (.int .u64 (a:Int)),.sc (.int .u64 (b:Int))] (.sc (.int .u64 (a ^^^ b:Nat))):=by
 refine aD.mkI cF156 (nlB rfl) ?_
 refine aA ?_
 exact aW.w
theorem do87 (a b:Bool):aD Tryz.prog 158 [.sc (.bool a),.sc (.bool b)] (.sc (.bool (a && b))):=by
 refine aD.mkI cF158 (nlB rfl) ?_
 cases a
 all_goals
  refine aA ?_
  exact aW.w
theorem do88 (a b:Bool):aD Tryz.prog 159 [.sc (.bool a),.sc (.bool b)] (.sc (.bool (a || b))):=by
 refine aD.mkI cF159 (nlB rfl) ?_
 cases a
 all_goals
  refine aA ?_
  exact aW.w
theorem do81 (a b:Nat) (p q:Int):aD Tryz.prog 152 [vV a p,vV b q] (.sc (.int .i64 (I8 (sg a) (sg b)))):=by
 refine aD.mkI cF152 (nlB rfl) ?_
 have h:=MA (sg a) (sg b)
 refine iF ?_
 exact aW.w
theorem uY {f:AV} [PV f] {a b c:Nat} (p q:Int) (h:l3 f [.sc (.int .u64 (a:Int)),.sc (.int .u64 (b:Int))] (.sc (.int .u64 (c:Int)))):l3 (cT 169 f) [vV a p,vV b q] (vV c 0):=by
 refine t7 (aD.mkI cF169 (nlB rfl) ?_)
 obtain⟨g,cs,rfl,hp⟩:=h
 refine aA ?_
 exact aW.w
theorem M9 {f:AV} [PV f] {a b:Nat} (p q c:Int) (h:l3 f [vV b q,vV a p] (.sc (.int .i64 c))):l3 (cT 170 f) [vV a p,vV b q] (if c < 0 then vV b q else vV a p):=by
 have hv:PV (if c < 0 then vV b q else vV a p):=by split<;>infer_instance
 refine t7 (aD.mkI cF170 (nlB rfl) ?_)
 obtain⟨g,cs,rfl,hp⟩:=h
 refine aA ?_
 refine AWP.condD rfl (fun h=>?_) (fun h=>?_)
 ·rw[if_pos h]
  refine iF ?_
  exact aW.w
 ·rw[if_neg h]
  refine iF ?_
  exact aW.w
theorem do109 {f:AV} [PV f] {a b:Nat} (p q c:Int) (h:l3 f [vV b q,vV a p] (.sc (.int .i64 c))):l3 (cT 172 f) [vV a p,vV b q] (.sc (.int .i64 c)):=by
 refine t7 (aD.mkI cF172 (nlB rfl) ?_)
 obtain⟨g,cs,rfl,hp⟩:=h
 refine aA ?_
 exact aW.w
theorem NC {f:AV} [PV f] {a b:Nat} (c:Bool) (h:l3 f [.sc (.bool (!decide (a=0))),.sc (.bool (!decide (b=0)))] (.sc (.bool c))):l3 (cT 173 f) [.sc (.int .u64 (a:Int)),.sc (.int .u64 (b:Int))] (.sc (.int .u64 (c.toNat:Int))):=by
 refine t7 (aD.mkI cF173 (nlB rfl) ?_)
 obtain⟨g,cs,rfl,hp⟩:=h
 cases c
 all_goals
  refine aA ?_
  exact aW.w
def loc (n:Int):AV:=.clo (.func 180) [] [.cptr [.sc (.int .i64 n)]]
def m9:List (List Int×AV):=[([1,1],cT 169 (fT 149)),([1,2],cT 169 (fT 160)),([2,1],cT 169 (fT 150)),([3,1],cT 170 (fT 152)),([3,2],cT 177 (cT 170 (fT 162))),([4,1],cT 170 (cT 172 (fT 152))),
 ([4,2],cT 177 (cT 170 (cT 172 (fT 162)))),([5,1],cT 169 (fT 154)),([6,1],cT 169 (fT 155)),([7,1],cT 169 (fT 156)),([8,1],cT 169 (cT 173 (fT 158))),([9,1],cT 169 (cT 173 (fT 159))),([10,3],cT 170 (loc 1)),([11,3],cT 170 (loc (-1)))]
theorem wI:∀ p∈m9,bQ p.2:=by
 intro p hp
 simp only[m9,List.mem_cons,List.not_mem_nil,or_false] at hp
 rcases hp with rfl | rfl | rfl | rfl | rfl | rfl | rfl | rfl | rfl | rfl | rfl | rfl | rfl | rfl<;>(simp only[loc]; exact pv _)
def opV (op kind:Int):AV:=(bV [op,kind] m9).getD (.sc .nilFunc)
instance (op kind:Int):PV (opV op kind):=⟨by
 unfold opV
 cases h:bV [op,kind] m9 with
 | none=>exact .sc _
 | some x=>exact wI _ (kE h)⟩
def fnC (n:Nat):AV:=.sc (.func (.func n) #[] #[])
theorem EZ (n:Nat):∀(j:Nat) a b,[fnC n][j]?=some a→[fT n][j]?=some b→Le a b:=fun j a b ha hb=>by
 cases j with
 | zero=>simp at ha hb; subst ha; subst hb; exact Le.func n
 | succ j=>simp at ha
theorem xI (n:Nat):aD Tryz.prog 148 [fnC n] (cT 169 (fT n)):=(mk77 (.func n) []).args rfl (EZ n)
theorem NB (n:Nat):aD Tryz.prog 151 [fnC n] (cT 170 (fT n)):=(IT (.func n) []).args rfl (EZ n)
theorem M8 (n:Nat):aD Tryz.prog 153 [fnC n] (cT 172 (fT n)):=(mk82 (.func n) []).args rfl (EZ n)
theorem MV (n:Nat):aD Tryz.prog 157 [fnC n] (cT 169 (cT 173 (fT n))):=(mk86 (.func n) []).args rfl (EZ n)
theorem AC {g i:Nat} {fr:Fr} {H:Heap} {ks:List LK} {z:AV} {x ix:Operand} {g' i' n:Nat} {k:List Value} {c:List Int} {es:List (List Int×AV)} {r:Bool} (hx:ev fr x=.mref g' i') (hk:gA (ev fr ix)=some k) (hr:cL ks k k=some r) (hu:o5 k=some c)
  (hh:hget H g' i'=some (.umap n es)) (hn:Nat.beq c.length n=true):aH g i (.xop (.lookF ks z false) [x,ix]) fr H=some ((bV c es).getD z,H):=by
 simp only[aH,aX,List.map_cons,List.map_nil,kM,hk,hr,hx,jU,hh,hu,hn]
 cases bV c es<;>rfl
theorem CK {g i:Nat} {fr:Fr} {H:Heap} {ks:List LK} {z v:AV} {x ix:Operand} {g' i' n:Nat} {k:List Value} {c:List Int} {es:List (List Int×AV)} {r:Bool} (hx:ev fr x=.mref g' i') (hk:gA (ev fr ix)=some k) (hr:cL ks k k=some r) (hu:o5 k=some c)
  (hh:hget H g' i'=some (.umap n es)) (hn:Nat.beq c.length n=true) (hv:(bV c es).getD z=v):aH g i (.xop (.lookF ks z false) [x,ix]) fr H=some (v,H):=by rw[AC hx hk hr hu hh hn,hv]
theorem IM {g i:Nat} {fr:Fr} {H:Heap} (x:Operand):aH g i (.move x) fr H=some (ev fr x,H):=nF _ _
theorem J9 {t:Nat} {X:AV} {e:Exit} {fr:Fr} {H:Heap} (he:e=.normal∨e=.ret) (ht:fr.get t=X) [h:PV X]:aW [.tmp t] X e fr H:=
 aW.mk he (show hN fr H _=some X by unfold hN; simp only[pQ,wB,ht,nF]) rfl (.pure h.out)
set_option maxHeartbeats 4000000 in
theorem pB (op kind:Int):aD Tryz.prog 141 [.sc (.int .i64 op),.sc (.int .i64 kind)] (opV op kind):=by
 refine aD.mkI cF141 (nlB rfl) ?_
 have a1:=xI 149
 have a2:=xI 150
 have a3:=NB 152
 have a4:=M8 152
 have a5:=IT (.func 172) [.cptr [fT 152]]
 have a6:=xI 154
 have a7:=xI 155
 have a8:=xI 156
 have a9:=MV 158
 have b1:=MV 159
 have b2:=xI 160
 have b3:=NB 162
 have b4:=mk90 (.func 170) [.cptr [fT 162]]
 have b5:=M8 162
 have b6:=IT (.func 172) [.cptr [fT 162]]
 have b7:=mk90 (.func 170) [.cptr [cT 172 (fT 162)]]
 have b8:=mk92 1
 have b9:=IT (.func 180) [.cptr [.sc (.int .i64 1)]]
 have c1:=mk92 (-1)
 have c2:=IT (.func 180) [.cptr [.sc (.int .i64 (-1))]]
 refine iF ?_
 refine DK.o (v:=opV op kind) rfl (CK (r:=decide (op=op) && (decide (kind=kind) && true)) rfl rfl rfl rfl rfl rfl (by kernel_rfl)) ?_
 refine DK.o rfl (IM _) ?_
 refine DK.nil ⟨by kernel_rfl,?_⟩
 refine iF ?_
 exact J9 (.inr rfl) rfl
abbrev Vl:=Nat×Int
def I9 (v:Vl):List AV:=vR v.1 v.2
def vsR (l:List Vl):List (List AV):=l.map I9
def vsV (l:List Vl):AV:=.list 2 (vsR l)
instance (v:Vl):PR (I9 v):=⟨pr (vR v.1 v.2)⟩
instance (l:List Vl):PRs (vsR l):=⟨fun r hr=>by
 obtain⟨a,_,rfl⟩:=List.mem_map.1 hr
 exact pr (I9 a)⟩
instance (l:List Vl):PV (vsV l):=⟨.list _ _ (prs _)⟩
theorem LN (l:List Vl):(vsR l).length=l.length:=by simp[vsR]
theorem NJ (l:List Vl) (k:Nat) (h:k < l.length):eB (vsR l) (k:Int)=some (I9 l[k]):=iO I9 l k h
def tB (op kind:Int):Bool:=(bV [op,kind] m9).isNone
def kL (op kind:Int):Int:=if op < 1∨11 < op∨kind < 1∨3 < kind then 2 else if tB op kind=true then 13 else 0
theorem GQ:∀ p∈m9,∃ g cs,p.2=.clo (.func g) [] cs:=by
 intro p hp
 simp only[m9,List.mem_cons,List.not_mem_nil,or_false] at hp
 rcases hp with rfl | rfl | rfl | rfl | rfl | rfl | rfl | rfl | rfl | rfl | rfl | rfl | rfl | rfl<;>exact⟨_,_,rfl⟩
theorem EU {op kind:Int} (h:tB op kind=false):∃ f,bV [op,kind] m9=some f∧opV op kind=f∧∃ g cs,f=.clo (.func g) [] cs:=by
 unfold tB at h
 cases e:bV [op,kind] m9 with
 | none=>rw[e] at h; cases h
 | some f=>exact⟨f,rfl,by unfold opV; rw[e]; rfl,GQ _ (kE e)⟩
theorem LY {op kind:Int} (h:tB op kind=true):opV op kind=.sc .nilFunc:=by
 unfold tB at h
 cases e:bV [op,kind] m9 with
 | none=>unfold opV; rw[e]; rfl
 | some f=>rw[e] at h; cases h
theorem BB (op kind:Int):aD Tryz.prog 124 [.sc (.int .i64 op),.sc (.int .i64 kind)] (.sc (.int .i64 (kL op kind))):=by
 refine aD.mkI cF124 (nlB rfl) ?_
 have ho:=pB op kind
 have hV:PV (opV op kind):=inferInstance
 unfold kL
 refine iF ?_
 refine Reg.gs rfl (fun g1=>?_) (fun g1=>?_)
 ·rw[g1,if_pos (.inl (of_decide_eq_true g1))]
  refine iF ?_
  exact aW.w
 rw[g1]
 have g1:=of_decide_eq_false g1
 refine iF ?_
 refine Reg.gs rfl (fun g2=>?_) (fun g2=>?_)
 ·rw[g2,if_pos (.inr (.inl (of_decide_eq_true g2)))]
  refine iF ?_
  exact aW.w
 rw[g2]
 have g2:=of_decide_eq_false g2
 refine iF ?_
 refine Reg.gs rfl (fun g3=>?_) (fun g3=>?_)
 ·rw[g3,if_pos (.inr (.inr (.inl (of_decide_eq_true g3))))]
  refine iF ?_
  exact aW.w
 rw[g3]
 have g3:=of_decide_eq_false g3
 refine iF ?_
 refine AWP.condD rfl (fun g4=>?_) (fun g4=>?_)
 ·rw[if_pos (.inr (.inr (.inr g4)))]
  refine iF ?_
  exact aW.w
 rw[if_neg (by omega)]
 cases hn:tB op kind with
 | true=>
  rw[if_pos rfl]
  rw[LY hn] at ho
  refine iF ?_
  exact aW.w
 | false=>
  rw[if_neg (by simp)]
  obtain⟨f,_,e,g,cs,e2⟩:=EU hn
  rw[e,e2] at ho
  refine iF ?_
  exact aW.w
def pL (kind:Int) (l:List Vl):Bool:=decide (kind=3) || l.all fun v=>decide (v.2=0)
theorem w5 (kind:Int) (l:List Vl) (hl:l.length≤1000000):aD Tryz.prog 140 [.sc (.int .i64 kind),vsV l] (.sc (.bool (pL kind l))):=by
 refine aD.mkI cF140 (nlB rfl) ?_
 have e0:=LN l
 have hnp:∀ k,(l.take k).all (fun v=>decide (v.2=0))=true∨True:=fun _=>.inr trivial
 refine iF ?_
 rw[e0]
 refine AWP.loop (fun k:Nat=>[(0,.sc (.int .i64 kind)),(7,vsV l),(8,.sc (.int .i64 (l.length:Int))),(9,.sc (.int .i64 (k:Int)))]) (fun _=>[]) (fun k=>k≤l.length∧(decide (kind=3)=true∨(l.take k).all (fun v=>decide (v.2=0))=true)) (fun k=>l.length - k) 0
  ⟨Nat.zero_le _,.inr (by simp)⟩ ?_ ?_
 ·exact Sub.w [] []
 rintro k ⟨hk,hv⟩
 refine aA ?_
 refine AWP.condD rfl (fun h=>?_) (fun h=>?_)
 ·have hr:=NJ l k h
  have ht:l.take (k+1)=l.take k++[l[k]]:=List.take_succ_eq_append_getElem h
  have hm:l[k]∈l:=List.getElem_mem h
  generalize l[k]=v at hr ht hm
  have hr:eB (vsR l) (k:Int)=some (vR v.1 v.2):=hr
  refine aA ?_
  refine Reg.gs rfl (fun g=>?_) (fun g=>?_)
  ·rw[g]
   have g3:¬ kind=3:=by simpa using g
   refine aA ?_
   refine AWP.cond rfl (fun g2=>?_) (fun g2=>?_)
   ·have g2:¬ v.2=0:=by simpa using g2
    have e:pL kind l=false:=by
     unfold pL
     rw[dFa g3,Bool.false_or]
     apply Bool.eq_false_iff.2
     intro hall
     exact g2 (of_decide_eq_true (List.all_eq_true.1 hall v hm))
    rw[e]
    refine aA ?_
    exact aW.w
   ·have g2:v.2=0:=by simpa using g2
    refine aA ?_
    refine⟨k+1,⟨by omega,.inr ?_⟩,by omega,?_⟩
    ·rw[ht,List.all_append]
     rcases hv with hv | hv
     ·exact absurd (of_decide_eq_true hv) g3
     ·rw[hv]; simp[g2]
    ·exact Sub.w [] []
  ·rw[g]
   have g3:kind=3:=by simpa using g
   refine aA ?_
   refine⟨k+1,⟨by omega,.inl (dTr g3)⟩,by omega,?_⟩
   exact Sub.w [] []
 ·have e:k=l.length:=by omega
  subst e
  have e:pL kind l=true:=by
   unfold pL
   rw[Bool.or_eq_true]
   rw[List.take_of_length_le (Nat.le_refl _)] at hv
   exact hv
  rw[e]
  refine aA ?_
  exact aW.w
theorem JQ {g:FuncId} {cs args:List AV} {v:AV} (h:l3 (.clo (.func g) [] cs) args v):aD Tryz.prog g ([]++args++cs) v:=by
 obtain⟨g',cs',e,hp⟩:=h
 injection e with e1 e2 e3
 injection e1 with e1
 subst e1; subst e3
 exact hp
theorem JV {op kind:Int} (h:kL op kind=0):tB op kind=false:=by
 cases hn:tB op kind with
 | false=>rfl
 | true=>
  unfold kL at h
  rw[hn,if_pos rfl] at h
  split at h<;>cases h
theorem F0 (x y:Int):I8 x y < 0↔x < y:=by
 unfold I8
 split
 ·omega
 ·split<;>omega
def opI (op:Int) (a b:Nat):Nat:=
 if op=1 then(a+b) % 18446744073709551616
 else if op=2 then a * b % 18446744073709551616
 else if op=3 then(if sg b < sg a then b else a)
 else if op=4 then(if sg a < sg b then b else a)
 else if op=5 then a &&& b
 else if op=6 then a ||| b
 else if op=7 then a ^^^ b
 else if op=8 then(!decide (a=0) && !decide (b=0)).toNat
 else(!decide (a=0) || !decide (b=0)).toNat
theorem FP {c c':Prop} [Decidable c] [Decidable c'] (h:c↔c') (a b:Nat):(if c then vV b 0 else vV a 0)=vV (if c' then b else a) 0:=by
 by_cases hc:c
 ·rw[if_pos hc,if_pos (h.1 hc)]
 ·rw[if_neg hc,if_neg (fun x=>hc (h.2 x))]
theorem L4 {op:Int} {f:AV} (hf:bV [op,1] m9=some f) {a b:Nat} (ha:a < 18446744073709551616) (hb:b < 18446744073709551616):l3 f [vV a 0,vV b 0] (vV (opI op a b) 0):=by
 have hm:=kE hf
 simp only[m9,List.mem_cons,List.not_mem_nil,or_false,pIn,List.cons.injEq,and_true] at hm
 rcases hm with h | h | h | h | h | h | h | h | h | h | h | h | h | h<;>obtain⟨⟨rfl,h1⟩,rfl⟩:=h<;>(try (exact absurd h1 (by decide)))
 ·exact uY _ _ (dR (do78 _ _))
 ·exact uY _ _ (dR (do79 _ _))
 ·have:=M9 0 0 _ (dR (do81 b a 0 0))
  rw[FP (F0 _ _)] at this
  exact this
 ·have:=M9 0 0 _ (do109 (f:=fT 152) 0 0 _ (dR (do81 a b 0 0)))
  rw[FP (F0 _ _)] at this
  exact this
 ·exact uY _ _ (dR (do83 ha hb))
 ·exact uY _ _ (dR (do84 ha hb))
 ·exact uY _ _ (dR (do85 ha hb))
 ·exact uY _ _ (NC (f:=fT 158) _ (dR (do87 _ _)))
 ·exact uY _ _ (NC (f:=fT 159) _ (dR (do88 _ _)))
theorem EF (a b:Nat):pL 1 [(a,0),(b,0)]=true:=by simp[pL]
set_option maxHeartbeats 1000000 in
theorem M0 {op:Int} (h:kL op 1=0) {a b:Nat} (ha:a < 18446744073709551616) (hb:b < 18446744073709551616):
  aD Tryz.prog 118 [.sc (.int .i64 op),.sc (.int .i64 1),vV a 0,vV b 0] (.tup [vV (opI op a b) 0,.sc (.int .i64 0)]):=by
 refine aD.mkI cF118 (nlB rfl) ?_
 have hc:=BB op 1
 rw[h] at hc
 have hv:=w5 1 [(a,0),(b,0)] (by simp)
 have hvv:vsV [(a,0),(b,0)]=.list 2 [vR a 0,vR b 0]:=rfl
 rw[hvv,EF] at hv
 unfold vR at hv
 unfold vV vR
 refine iF ?_
 (refine Reg.pv (by first | exact Nat.zero_le _ | exact Nat.le_refl _ | (simp; done) | (simp; omega)) rfl hv (by first | exact .sc _ | (exact .agg _ (fun c hc=>by simp at hc; rcases hc with h | h<;>subst h<;>exact .sc _)) | assumption) ?vw9 ?_; case vw9=>(all_goals (repeat' (first | exact aB.nil | exact aS.nil | exact aY.nil | exact ToL.nil | exact ToR.nil | refine aB.cons ?_ ?_ | refine aS.cons ?_ ?_ | refine dZ ?_ ?_ | exact To.undef _ | exact To.sc _ | exact To.hslL rfl rfl | exact To.asl _ _ _ _ _ _ rfl | exact To.ptrO rfl rfl rfl | exact To.mrefO rfl | exact To.nil rfl rfl rfl | exact wt1 | exact To.nilL | refine To.int ?_ | refine To.bool ?_ | refine To.hslL rfl ?_ | refine wt2 rfl ?_ ?_ ?_ | refine To.tupL ?_ | refine To.aggL ?_ | refine To.cptrL ?_ | refine To.fzp rfl rfl rfl ?_ | refine To.fzm rfl rfl ?_ | refine To.cloL ?_ ?_ | refine wt3 ?_ | refine wt4 ?_ | exact wt5 | refine wt6 ?_ | refine ToB.one ?_ | exact wt7 | ((with_reducible apply ToL.consE); case e9=>rfl) | refine wt8 ?_ | refine ToL.cons ?_ ?_ | exact wt11 | refine wt9 ?_ ?_ | refine dX ?_ | (with_reducible rfl) | assumption)); all_goals (first | rfl | assumption | (simp; done) | (simp; omega))))
 refine yS ?_
 obtain⟨f,hf,e,g,cs,e2⟩:=EU (JV h)
 have ho:=pB op 1
 have hd:=L4 hf ha hb
 have hpf:=wI _ (kE hf)
 rw[e,e2] at ho
 rw[e2] at hd hpf
 have hr:=JQ hd
 generalize opI op a b=r at *
 unfold vV vR at hr
 first | refine AWP.dkm 5 _ mixed rfl rfl (by kernel_rfl) (by kernel_rfl) (by kernel_rfl) ?_
 refine aA ?_
 refine DK.nil ⟨by kernel_rfl,?_⟩
 refine aA ?_
 refine DK.nil ⟨by kernel_rfl,?_⟩
 refine aA ?_
 exact aW.w
structure Act where
 k:Int
 r:Int
 a:Int
 o:Int
 v:Int
 w:Int
 g:List Int
 deriving DecidableEq
structure Pg where
 cells:Int
 acts:List (List Act)
structure Ep where
 f:Bool
 o:List Int
 p:List Int
 l:Int
structure Ac where
 r:Int
 a:Int
 d:Nat
 deriving DecidableEq
structure Ln where
 e:Ep
 acc:List (Nat×Ac)
 fe:List Nat
 st:List Nat
 po:List Nat
 co:List (Nat×Nat)
 wt:List (Nat×Nat)
def ep0:Ep:=⟨false,[],[],-1⟩
def ln0:Ln:=⟨ep0,[],[],[],[],[],[]⟩
def dW (k:Int):Bool:=decide (1≤k∧k≤5)
def gS (k:Int):Bool:=decide (3≤k∧k≤5)
def lV (k:Int):Bool:=decide (k=2∨k=4∨k=5∨k=6)
def eW (k:Int):Bool:=decide ((1≤k∧k≤5)∨13≤k)
def lZ (k:Int):Bool:=decide (1≤k∧k≤7)
def nA (k:Int):Bool:=decide (k=3∨k=4)
def lE (k:Int):Bool:=decide (k=9∨k=10)
def bE (l:List Int):List (List AV):=l.map fun n=>[.sc (.int .i64 n)]
theorem cD (l:List Int):(bE l).length=l.length:=by simp[bE]
instance (l:List Int):PRs (bE l):=inferInstanceAs (PRs (l.map fun n=>[.sc (.int .i64 n)]))
theorem mL (l:List Int) (k:Nat) (h:k < l.length):eB (bE l) (k:Int)=some [.sc (.int .i64 l[k])]:=iO (fun n:Int=>[.sc (.int .i64 n)]) l k h
def bF (l:List Nat):List (List AV):=l.map fun n:Nat=>[.sc (.int .i64 (n:Int))]
theorem bZ (l:List Nat):(bF l).length=l.length:=by simp[bF]
instance (l:List Nat):PRs (bF l):=inferInstanceAs (PRs (l.map fun n:Nat=>[.sc (.int .i64 (n:Int))]))
theorem oA (l:List Nat) (k:Nat) (h:k < l.length):eB (bF l) (k:Int)=some [.sc (.int .i64 (l[k]:Nat))]:=iO (fun n:Nat=>[.sc (.int .i64 (n:Int))]) l k h
theorem yJ (l:List Nat) (k:Nat) (h:k < l.length):(bF l)[k]?=some [.sc (.int .i64 (l[k]:Nat))]:=by simp[bF,h]
theorem LI (s:List Nat):bF s=bE (s.map fun j:Nat=>(j:Int)):=by simp[bF,bE]
def aJ (x:Act):List AV:=[.sc (.int .i64 x.k),.sc (.int .i64 x.r),.sc (.int .i64 x.a),.sc (.int .i64 x.o),.sc (.int .i64 x.v),.sc (.int .i64 x.w),.list 1 (bE x.g)]
instance (x:Act):PR (aJ x):=by unfold aJ; infer_instance
def aU (l:List Act):List (List AV):=l.map aJ
theorem fW (l:List Act):(aU l).length=l.length:=by simp[aU]
instance (l:List Act):PRs (aU l):=inferInstanceAs (PRs (l.map aJ))
theorem nX (l:List Act) (k:Nat) (h:k < l.length):eB (aU l) (k:Int)=some (aJ l[k]):=iO aJ l k h
def bY (p:List (List Act)):List (List AV):=p.map fun l=>[.list 7 (aU l)]
theorem iN (p:List (List Act)):(bY p).length=p.length:=by simp[bY]
instance (p:List (List Act)):PRs (bY p):=inferInstanceAs (PRs (p.map fun l=>[AV.list 7 (aU l)]))
theorem BY (p:List (List Act)) (k:Nat) (h:k < p.length):eB (bY p) (k:Int)=some [.list 7 (aU p[k])]:=iO (fun l:List Act=>[AV.list 7 (aU l)]) p k h
def dH (p:Pg):AV:=.agg [.sc (.int .i64 p.cells),.list 1 (bY p.acts)]
instance (p:Pg):PV (dH p):=by unfold dH; infer_instance
def epR (e:Ep):List AV:=[.sc (.bool e.f),.list 1 (bE e.o),.list 1 (bE e.p),.sc (.int .i64 e.l)]
instance (e:Ep):PR (epR e):=by unfold epR; infer_instance
def acR (x:Ac):List AV:=[.sc (.int .i64 x.r),.sc (.int .i64 x.a),.sc (.int .i64 (x.d:Int))]
instance (x:Ac):PR (acR x):=by unfold acR; infer_instance
def tX (l:List (Nat×Ac)):List (Value×AV):=l.map fun x=>(.int .i64 (x.1:Int),.agg (acR x.2))
def mapE (l:List (Nat×Nat)):List (Value×AV):=l.map fun x=>(.int .i64 (x.1:Int),.sc (.int .i64 (x.2:Int)))
instance (l:List (Nat×Ac)):PM (tX l):=⟨fun x hx=>by
 obtain⟨a,_,rfl⟩:=List.mem_map.1 hx
 exact pv (.agg (acR a.2))⟩
instance (l:List (Nat×Nat)):PM (mapE l):=⟨fun x hx=>by
 obtain⟨a,_,rfl⟩:=List.mem_map.1 hx
 exact .sc _⟩
instance (l m:List (Value×AV)) [h:PM l] [h':PM m]:PM (l++m):=⟨fun x hx=>(List.mem_append.1 hx).elim (h.out x) (h'.out x)⟩
instance (v:Value) (a:AV) (l:List (Value×AV)) [h:PV a] [h':PM l]:PM ((v,a)::l):=⟨fun x hx=>by
 rcases List.mem_cons.1 hx with e | e
 ·subst e; exact h.out
 ·exact h'.out x e⟩
def lnR (l:Ln):List AV:=epR l.e++[.tmap (tX l.acc),.list 1 (bF l.fe),.list 1 (bF l.st),.list 1 (bF l.po),.tmap (mapE l.co),.tmap (mapE l.wt)]
instance (l:Ln):PR (lnR l):=by unfold lnR; infer_instance
def d4 (l:List Ln):List (List AV):=l.map lnR
theorem gM (l:List Ln):(d4 l).length=l.length:=by simp[d4]
instance (l:List Ln):PRs (d4 l):=inferInstanceAs (PRs (l.map lnR))
theorem HO (l:List Ln) (k:Nat) (h:k < l.length):eB (d4 l) (k:Int)=some (lnR l[k]):=iO lnR l k h
def alV (k:Nat):AV:=match k with
 | 6=>fT 81
 | 7=>fT 81
 | 8=>.clo (.func 84) [] [.cptr [fT 82]]
 | 9=>fT 86
 | 10=>fT 82
 | 11=>fT 89
 | 12=>fT 91
 | 13=>fT 82
 | 14=>fT 82
 | 15=>fT 83
 | 16=>fT 83
 | _=>.sc .nilFunc
def afV (k:Nat):AV:=match k with
 | 8=>fT 85
 | 9=>fT 87
 | 10=>fT 88
 | 11=>fT 90
 | 12=>fT 92
 | 13=>fT 93
 | 14=>fT 94
 | 16=>fT 95
 | _=>.sc .nilFunc
instance (k:Nat):PV (alV k):=by unfold alV; split<;>infer_instance
instance (k:Nat):PV (afV k):=by unfold afV; split<;>infer_instance
def jI (k:Nat):List AV:=[.sc (.bool (eW k)),.sc (.bool (lZ k)),.sc (.bool (nA k)),.sc (.bool (lE k)),.sc (.bool (dW k)),.sc (.bool (gS k)),.sc (.bool (lV k)),alV k,afV k]
instance (k:Nat):PR (jI k):=by unfold jI; infer_instance
def formsE:List (Value×AV):=(List.range' 1 16).map fun i=>(.int .i64 (i:Nat),.agg (jI i))
instance:PM formsE:=⟨fun x hx=>by
 obtain⟨a,_,rfl⟩:=List.mem_map.1 hx
 exact pv (.agg (jI a))⟩
theorem gU {k:Int} (h1:1≤k) (h2:k≤16):d5 .i64 k formsE=some (some (.agg (jI k.toNat))):=by
 obtain⟨n,rfl⟩:∃ n:Nat,k=n:=⟨k.toNat,by omega⟩
 match n,h1,h2 with
 | 1,_,_=>rfl
 | 2,_,_=>rfl
 | 3,_,_=>rfl
 | 4,_,_=>rfl
 | 5,_,_=>rfl
 | 6,_,_=>rfl
 | 7,_,_=>rfl
 | 8,_,_=>rfl
 | 9,_,_=>rfl
 | 10,_,_=>rfl
 | 11,_,_=>rfl
 | 12,_,_=>rfl
 | 13,_,_=>rfl
 | 14,_,_=>rfl
 | 15,_,_=>rfl
 | 16,_,_=>rfl
theorem xQ {k:Int}:∀(l:List Nat) (f:Nat→AV),(∀ i∈l,¬ k=(i:Int))→d5 .i64 k (l.map fun i=>(.int .i64 (i:Nat),f i))=some none
 | [],_,_=>rfl
 | x::l,f,h=>by
  simp only[List.map_cons,d5,decide_true]
  rw[dFa (h x (by simp))]
  exact xQ l f fun i hi=>h i (by simp[hi])
theorem EA {k:Int} (h:¬ (1≤k∧k≤16)):d5 .i64 k formsE=some none:=
 xQ _ _ fun i hi e=>by
  have:=List.mem_range'_1.1 hi
  omega
theorem aD.le {P:Program} {f:FuncId} {args:List AV} {v v':AV} (h:aD P f args v) (hl:Le v v'):aD P f args v':=
 ⟨h.1,fun M J w cargs a b c=>(h.2 M J w cargs a b c).mono fun _ _ ⟨cv,M',h1,h2,h3,h4,h5,h6,h7,h8,h9,h10⟩=>⟨cv,M',h1,h2,h3,h4,h5,h6,h7,h8,h9,fun J'=>hl _ _ _ (h10 J')⟩⟩
theorem Le.tmapL {es es':List (Value×AV)} (hl:es.length=es'.length) (h:∀(j:Nat) x y,es[j]?=some x→es'[j]?=some y→x.1=y.1∧Le x.2 y.2):Le (.tmap es) (.tmap es'):=by
 intro M J v hv
 cases hv with
 | tmap _ β clock ces hM hw hl' hk hr=>
  refine .tmap es' β clock ces hM hw (by omega) (fun j x y a b=>?_) fun j x y a b=>?_
  ·obtain⟨z,hz⟩:=bG hl a
   rw[← (h j z x hz a).1]
   exact hk j z y hz b
  ·obtain⟨z,hz⟩:=bG hl a
   exact(h j z x hz a).2 _ _ _ (hr j z y hz b)
theorem Le.aggL {l l':List AV} (hl:l.length=l'.length) (h:∀(j:Nat) x y,l[j]?=some x→l'[j]?=some y→Le x y):Le (.agg l) (.agg l'):=by
 intro M J v hv
 cases hv with
 | agg _ cvs hl' hr=>
  refine .agg l' cvs (by omega) fun j x y a b=>?_
  obtain⟨z,hz⟩:=bG hl a
  exact h j z x hz a _ _ _ (hr j z y hz b)
def unF (a:AV):AV:=match a with
 | .clo (.func n) [] []=>fnC n
 | .clo f [] [.cptr [.clo (.func n) [] []]]=>.clo f [] [.cptr [fnC n]]
 | a=>a
theorem Le.unF (k:Nat):Le (unF (alV k)) (alV k):=by
 unfold alV
 split<;>first | exact Le.func _ | exact Le.refl _ | skip
 intro M J v hv
 cases hv with
 | clo _ _ _ cfs ccs r1 r2 r3 r4=>
  refine .clo _ _ _ cfs ccs r1 r2 r3 fun j c v a b=>?_
  cases j with
  | succ j=>simp at a
  | zero=>
   simp at a
   subst a
   have:=r4 0 _ v rfl b
   cases this with
   | cptr _ β off cs e fr hM hle h=>
    refine .cptr _ β off cs e fr hM (by simpa using hle) fun j c v a b=>?_
    cases j with
    | succ j=>simp at a
    | zero=>
     simp at a
     subst a
     exact Le.func _ _ _ _ (h 0 _ v rfl b)
theorem Le.unF' (k:Nat):Le (Go.Proofs.YtkjoolaahocgdaaGreat.unF (afV k)) (afV k):=by
 unfold afV
 split<;>first | exact Le.func _ | exact Le.refl _
def CB (k:Nat):List AV:=[.sc (.bool (eW k)),.sc (.bool (lZ k)),.sc (.bool (nA k)),.sc (.bool (lE k)),.sc (.bool (dW k)),.sc (.bool (gS k)),.sc (.bool (lV k)),unF (alV k),unF (afV k)]
def formsQ:List (Value×AV):=(List.range' 1 16).map fun i=>(.int .i64 (i:Nat),.agg (CB i))
theorem L5 (k:Nat):Le (.agg (CB k)) (.agg (jI k)):=by
 refine Le.aggL rfl fun j x y a b=>?_
 unfold CB jI at *
 match j with
 | 0 | 1 | 2 | 3 | 4 | 5 | 6=>simp at a b; subst a; subst b; exact Le.refl _
 | 7=>simp at a b; subst a; subst b; exact Le.unF k
 | 8=>simp at a b; subst a; subst b; exact Le.unF' k
 | j+9=>simp at a
theorem IW:Le (.tmap formsQ) (.tmap formsE):=by
 refine Le.tmapL rfl fun j x y a b=>?_
 unfold formsQ formsE at *
 rw[List.getElem?_map] at a b
 cases h:(List.range' 1 16)[j]? with
 | none=>rw[h] at a; cases a
 | some i=>
  rw[h] at a b
  injection a with a
  injection b with b
  subst a; subst b
  exact⟨rfl,L5 i⟩
theorem A5 (k:Nat):bQ (unF (alV k)):=by
 unfold alV
 split<;>first | exact .sc _ | exact .clo _ _ _ dQ (eI (.cptr _ (eI (.sc _) dQ)) dQ)
theorem yB (k:Nat):bQ (unF (afV k)):=by
 unfold afV
 split<;>exact .sc _
theorem cR (k:Nat):bQ (.agg (CB k)):=by
 refine .agg _ fun c hc=>?_
 unfold CB at hc
 simp only[List.mem_cons,List.not_mem_nil,or_false] at hc
 rcases hc with rfl | rfl | rfl | rfl | rfl | rfl | rfl | rfl | rfl<;>first | exact .sc _ | exact A5 _ | exact yB _
instance:PM formsQ:=⟨fun x hx=>by
 obtain⟨a,_,rfl⟩:=List.mem_map.1 hx
 exact cR a⟩
def ToM (T:AV→AV→Prop) (ρ:Nat→Nat→Option (Nat×Nat)):List (Value×AV)→List (Value×AV)→Prop
 | [],[]=>True
 | a::l,b::m=>(a.1=b.1∧To T ρ a.2 b.2)∧ToM T ρ l m
 | _,_=>False
theorem ToM.spec {T:AV→AV→Prop} {ρ:Nat→Nat→Option (Nat×Nat)}:∀ {l m:List (Value×AV)},ToM T ρ l m→l.length=m.length∧∀(j:Nat) a b,l[j]?=some a→m[j]?=some b→a.1=b.1∧To T ρ a.2 b.2
 | [],[],_=>⟨rfl,fun j a b h=>by simp at h⟩
 | [],_::_,h=>h.elim
 | _::_,[],h=>h.elim
 | _::_,_::_,⟨h1,h2⟩=>by
  obtain⟨h3,h4⟩:=ToM.spec h2
  refine⟨by simp[h3],fun j a b ha hb=>?_⟩
  cases j with
  | zero=>simp at ha hb; subst ha; subst hb; exact h1
  | succ j=>exact h4 j a b (by simpa using ha) (by simpa using hb)
theorem To.tmapL {T:AV→AV→Prop} {ρ:Nat→Nat→Option (Nat×Nat)} {l m:List (Value×AV)} (h:ToM T ρ l m):To T ρ (.tmap l) (.tmap m):=.tmap l m h.spec.1 (fun j x y a b=>(h.spec.2 j x y a b).1) fun j x y a b=>(h.spec.2 j x y a b).2
set_option maxHeartbeats 4000000 in
theorem IP:aD Tryz.prog 54 [] (.tmap formsE):=by
 refine aD.le (v:=.tmap formsQ) (aD.mkI cF54 (nlB rfl) ?_) IW
 refine aA ?_
 have f8:PV (unF (alV 8)):=⟨A5 8⟩
 refine aW.mk (.inr rfl) rfl rfl (To.fzm rfl rfl (To.tmapL ?_))
 refine⟨⟨rfl,.eq rfl (cR _)⟩,⟨rfl,.eq rfl (cR _)⟩,⟨rfl,.eq rfl (cR _)⟩,⟨rfl,.eq rfl (cR _)⟩,⟨rfl,.eq rfl (cR _)⟩,⟨rfl,.eq rfl (cR _)⟩,⟨rfl,.eq rfl (cR _)⟩,⟨rfl,To.aggL ?_⟩,⟨rfl,.eq rfl (cR _)⟩,⟨rfl,.eq rfl (cR _)⟩,⟨rfl,.eq rfl (cR _)⟩,⟨rfl,.eq rfl (cR _)⟩,⟨rfl,.eq rfl (cR _)⟩,⟨rfl,.eq rfl (cR _)⟩,⟨rfl,.eq rfl (cR _)⟩,⟨rfl,.eq rfl (cR _)⟩,trivial⟩
 exact ToL.consE rfl wt1 (ToL.consE rfl wt1 (ToL.consE rfl wt1 (ToL.consE rfl wt1 (ToL.consE rfl wt1 (ToL.consE rfl wt1 (ToL.consE rfl wt1 (ToL.consE rfl (To.cloL ToL.nil (ToL.cons (To.fzp rfl rfl rfl (To.cptrL (ToL.consE rfl (.eq rfl (.sc _)) ToL.nil))) ToL.nil)) (ToL.consE rfl (.eq rfl (yB _)) ToL.nil))))))))
theorem JB (n:Int):(n == n)=true:=by simp
def nP (x:Int):List Int→Int
 | []=>-1
 | y::l=>if y=x then 0 else if nP x l < 0 then -1 else nP x l+1
theorem rP (x:Int):∀ l:List Int,(0≤nP x l↔x∈l)∧-1≤nP x l∧nP x l < l.length
 | []=>by simp[nP]
 | y::l=>by
  obtain⟨h1,h2,h3⟩:=rP x l
  unfold nP
  by_cases h:y=x
  ·rw[if_pos h]
   subst h
   refine⟨by simp,by omega,?_⟩
   rw[List.length_cons]; omega
  ·rw[if_neg h]
   have hm:x∈y::l↔x∈l:=by
    rw[List.mem_cons]
    exact⟨fun q=>q.resolve_left fun e=>h e.symm,.inr⟩
   rw[hm,← h1,List.length_cons]
   split
   ·exact⟨by omega,by omega,by omega⟩
   ·exact⟨by omega,by omega,by omega⟩
theorem E3 (x:Int):∀(l:List Int) (k:Nat) (h:k < l.length),l[k]=x→(∀(j:Nat) (hj:j < l.length),j < k→l[j]≠x)→nP x l=k
 | [],k,h,_,_=>by simp at h
 | y::l,0,_,hk,_=>by
  unfold nP
  rw[if_pos (by simpa using hk)]
  rfl
 | y::l,k+1,h,hk,hb=>by
  have h0:=hb 0 (by simp) (by omega)
  unfold nP
  rw[if_neg (by simpa using h0),E3 x l k (by simpa using h) (by simpa using hk) fun j hj hjk=>by
   have:=hb (j+1) (by simpa using hj) (by omega)
   simpa using this]
  rw[if_neg (by omega)]
  omega
theorem JU (x:Int) (l:List Int) (hb:∀(j:Nat) (hj:j < l.length),l[j]≠x):nP x l=-1:=by
 have:=rP x l
 have hn:x∉l:=fun h=>by
  obtain⟨j,hj,e⟩:=List.mem_iff_getElem.1 h
  exact hb j hj e
 have:¬ 0≤nP x l:=fun h=>hn (this.1.1 h)
 omega
set_option maxHeartbeats 4000000 in
theorem B8 (l:List Int) (x:Int) (hl:l.length≤9223372036854775807):aD Tryz.prog 99 [.list 1 (bE l),.sc (.int .i64 x)] (.sc (.int .i64 (nP x l))):=by
 refine aD.mkI cF99 (nlB rfl) ?_
 have e0:=cD l
 refine aA ?_
 refine AWP.loop (fun k:Nat=>[(0,.list 1 (bE l)),(1,.sc (.int .i64 x)),(6,.list 1 (bE l)),(7,.sc (.int .i64 (l.length:Int))),(8,.sc (.int .i64 (k:Int)))])
  (fun k=>[]) (fun k=>k≤l.length∧∀(j:Nat) (hj:j < l.length),j < k→l[j]≠x) (fun k=>l.length - k) 0 ⟨Nat.zero_le _,fun j hj h=>by omega⟩ ?_ ?_
 ·exact Sub.w [] []
 rintro k ⟨hk,hb⟩
 refine aA ?_
 refine AWP.condD rfl (fun h=>?_) (fun h=>?_)
 ·have hr:=mL l k h
  by_cases he:l[k]=x
  ·have hres:=E3 x l k h he hb
   rw[he] at hr
   rw[hres]
   refine aA ?_
   rw[JB]
   refine aA ?_
   exact aW.w
  ·have hb2:∀(j:Nat) (hj:j < l.length),j < k+1→l[j]≠x:=fun j hj hjk=>by
    by_cases e:j=k
    ·subst e; exact he
    ·exact hb j hj (by omega)
   generalize l[k]=y at *
   refine aA ?_
   rw[beq_false_of_ne (Ne.symm he)]
   refine aA ?_
   refine⟨k+1,⟨by omega,hb2⟩,by omega,?_⟩
   exact Sub.w [] []
 rw[JU x l fun j hj=>hb j hj (by omega)]
 refine aA ?_
 exact aW.w
theorem B1 (x:Int) (l:List Int):(decide (nP x l≥0))=decide (x∈l):=by
 have:=(rP x l).1
 rw[Bool.eq_iff_iff]
 simp only[decide_eq_true_eq]
 exact this
theorem nO (l:List Int) (x:Int) (hl:l.length≤9223372036854775807):aD Tryz.prog 125 [.list 1 (bE l),.sc (.int .i64 x)] (.sc (.bool (decide (x∈l)))):=by
 refine aD.mkI cF125 (nlB rfl) ?_
 have h:=B8 l x hl
 rw[← B1]
 generalize nP x l=i at *
 refine aA ?_
 exact aW.w
def kS {α:Type} (t:α→Bool):List α→Int
 | []=>-1
 | y::l=>if t y=true then 0 else if kS t l < 0 then -1 else kS t l+1
theorem uC {α:Type} (t:α→Bool):∀ l:List α,-1≤kS t l∧kS t l < l.length
 | []=>by simp[kS]
 | y::l=>by
  obtain⟨h1,h2⟩:=uC t l
  unfold kS
  rw[List.length_cons]
  split
  ·omega
  ·split<;>omega
theorem uF {α:Type} (t:α→Bool):∀(l:List α) (k:Nat) (h:k < l.length),t l[k]=true→(∀(j:Nat) (hj:j < l.length),j < k→t l[j]=false)→kS t l=k
 | [],k,h,_,_=>by simp at h
 | y::l,0,_,hk,_=>by
  unfold kS
  rw[if_pos (by simpa using hk)]
  rfl
 | y::l,k+1,h,hk,hb=>by
  have h0:=hb 0 (by simp) (by omega)
  unfold kS
  rw[if_neg (by simpa using h0),uF t l k (by simpa using h) (by simpa using hk) fun j hj hjk=>by
   have:=hb (j+1) (by simpa using hj) (by omega)
   simpa using this]
  rw[if_neg (by omega)]
  omega
theorem rD {α:Type} (t:α→Bool):∀(l:List α),(∀(j:Nat) (hj:j < l.length),t l[j]=false)→kS t l=-1
 | [],_=>rfl
 | y::l,hb=>by
  have h0:=hb 0 (by simp)
  unfold kS
  rw[if_neg (by simpa using h0),rD t l fun j hj=>by
   have:=hb (j+1) (by simpa using hj)
   simpa using this]
  rfl
def MZ (f:AV) (t:Act→Bool):Prop:=∀ x:Act,l3 f [.agg (aJ x)] (.sc (.bool (t x)))
set_option maxHeartbeats 4000000 in
theorem K2 (l:List Act) {f:AV} [PV f] (t:Act→Bool) (hf:MZ f t) (hl:l.length≤1000000):aD Tryz.prog 127 [.list 7 (aU l),f] (.sc (.int .i64 (kS t l))):=by
 refine aD.mkI cF127 (nlB rfl) ?_
 have e0:=fW l
 refine aA ?_
 refine AWP.loop (fun k:Nat=>[(0,.list 7 (aU l)),(1,f),(6,.list 7 (aU l)),(7,.sc (.int .i64 (l.length:Int))),(8,.sc (.int .i64 (k:Int)))])
  (fun k=>[]) (fun k=>k≤l.length∧∀(j:Nat) (hj:j < l.length),j < k→t l[j]=false) (fun k=>l.length - k) 0 ⟨Nat.zero_le _,fun j hj h=>by omega⟩ ?_ ?_
 ·exact Sub.w [] []
 rintro k ⟨hk,hb⟩
 refine aA ?_
 refine AWP.condD rfl (fun h=>?_) (fun h=>?_)
 ·have hr:=nX l k h
  obtain⟨g,cs,hfe,hp⟩:l3 f [.agg (aJ l[k])] (.sc (.bool (t l[k]))):=hf l[k]
  have h1:=uF t l k h
  have h2:t l[k]=false→∀(j:Nat) (hj:j < l.length),j < k+1→t l[j]=false:=fun e j hj hjk=>by
   by_cases e:j=k
   ·subst e; assumption
   ·exact hb j hj (by omega)
  generalize l[k]=x at *
  generalize ht:t x=b at *
  have hrow:aJ x=[.sc (.int .i64 x.k),.sc (.int .i64 x.r),.sc (.int .i64 x.a),.sc (.int .i64 x.o),.sc (.int .i64 x.v),.sc (.int .i64 x.w),.list 1 (bE x.g)]:=rfl
  rw[hrow] at hr hp
  subst hfe
  refine aA ?_
  cases b with
  | true=>
   rw[h1 rfl hb]
   refine aA ?_
   exact aW.w
  | false=>
   refine aA ?_
   refine⟨k+1,⟨by omega,h2 rfl⟩,by omega,?_⟩
   exact Sub.w [] []
 rw[rD t l fun j hj=>hb j hj (by omega)]
 refine aA ?_
 exact aW.w
def stC (k:Int):Bool:=decide (k=11)
def stF (k:Int):Bool:=decide (k=15∨k=16)
def stN (k:Int):Bool:=decide (k=8∨k=10∨k=13∨k=14)
theorem stop1 (k:Int):aD Tryz.prog 129 [.sc (.int .i64 k)] (.sc (.bool (stC k))):=by
 refine aD.mkI cF129 (nlB rfl) ?_
 have e:stC k=(k == 11):=by unfold stC; rw[Bool.eq_iff_iff]; simp
 rw[e]
 refine aA ?_
 exact aW.w
theorem stop2 (k:Int):aD Tryz.prog 130 [.sc (.int .i64 k)] (.sc (.bool (stF k))):=by
 refine aD.mkI cF130 (nlB rfl) ?_
 unfold stF
 by_cases h1:k=15
 ·subst h1
  refine aA ?_
  exact aW.w
 ·have e1:(k == 15)=false:=by simpa using h1
  refine aA ?_
  rw[e1]
  refine aA ?_
  rw[show decide (k=15∨k=16)=(k == 16) by rw[Bool.eq_iff_iff]; simp[h1]]
  exact aW.w
theorem stop3 (k:Int):aD Tryz.prog 131 [.sc (.int .i64 k)] (.sc (.bool (stN k))):=by
 refine aD.mkI cF131 (nlB rfl) ?_
 unfold stN
 by_cases h1:k=8
 ·subst h1
  refine aA ?_
  exact aW.w
 have e1:(k == 8)=false:=by simpa using h1
 by_cases h2:k=10
 ·subst h2
  refine aA ?_
  exact aW.w
 have e2:(k == 10)=false:=by simpa using h2
 by_cases h3:k=13
 ·subst h3
  refine aA ?_
  exact aW.w
 have e3:(k == 13)=false:=by simpa using h3
 refine aA ?_
 rw[e1]
 refine aA ?_
 rw[e2]
 refine aA ?_
 rw[e3]
 refine aA ?_
 rw[show decide (k=8∨k=10∨k=13∨k=14)=(k == 14) by rw[Bool.eq_iff_iff]; simp[h1,h2,h3]]
 exact aW.w
theorem LR {s:AV} [PV s] {t:Int→Bool} (hs:∀ k,l3 s [.sc (.int .i64 k)] (.sc (.bool (t k)))):MZ (.clo (.func 128) [] [.cptr [s]]) fun x=>t x.k:=by
 intro x
 refine⟨128,_,rfl,aD.mkI cF128 (nlB rfl) ?_⟩
 obtain⟨g,cs,rfl,hp⟩:=hs x.k
 unfold aJ
 refine aA ?_
 exact aW.w
def ofP (t:Int→Bool) (l:List Act) (i:Nat):Nat:=if kS (fun x:Act=>t x.k) (l.drop (i+1)) < 0 then l.length else i+1+(kS (fun x:Act=>t x.k) (l.drop (i+1))).toNat
theorem NN (t:Int→Bool) (l:List Act) (i:Nat):ofP t l i≤l.length:=by
 unfold ofP
 split
 ·exact Nat.le_refl _
 ·have:=(uC (fun x:Act=>t x.k) (l.drop (i+1))).2
  rw[List.length_drop] at this
  omega
set_option maxHeartbeats 4000000 in
theorem zS (l:List Act) (i:Nat) (n:Nat) {t:Int→Bool} (hs:∀ k,aD Tryz.prog n [.sc (.int .i64 k)] (.sc (.bool (t k)))) (hi:i < l.length) (hl:l.length≤1000000):
  aD Tryz.prog 126 [fT n,.cptr [.list 7 (aU l)],.cptr [.sc (.int .i64 (i:Int))]] (.sc (.int .i64 ((ofP t l i:Nat):Int))):=by
 refine aD.mkI cF126 (nlB rfl) ?_
 have e0:=fW l
 have hx:=K2 (l.drop (i+1)) (fun x=>t x.k) (LR fun k=>dR (hs k)) (by rw[List.length_drop]; omega)
 have hg:=uC (fun x=>t x.k) (l.drop (i+1))
 rw[List.length_drop] at hg
 unfold ofP
 generalize kS (fun x:Act=>t x.k) (l.drop (i+1))=q at *
 refine aA ?_
 refine Reg.o rfl (BW (rows':=aU (l.drop (i+1))) rfl rfl (by rw[e0]; omega) (by simp[aU,List.map_drop])) ?_
 refine aA ?_
 (refine Reg.pv (by first | exact Nat.zero_le _ | exact Nat.le_refl _ | (simp; done) | (simp; omega)) rfl hx (by first | exact .sc _ | (exact .agg _ (fun c hc=>by simp at hc; rcases hc with h | h<;>subst h<;>exact .sc _)) | assumption) ?vw9 ?_; case vw9=>(all_goals (repeat' (first | exact aB.nil | exact aS.nil | exact aY.nil | exact ToL.nil | exact ToR.nil | refine aB.cons ?_ ?_ | refine aS.cons ?_ ?_ | refine dZ ?_ ?_ | exact To.undef _ | exact To.sc _ | exact To.hslL rfl rfl | exact To.asl _ _ _ _ _ _ rfl | exact To.ptrO rfl rfl rfl | exact To.mrefO rfl | exact To.nil rfl rfl rfl | exact wt1 | exact To.nilL | refine To.int ?_ | refine To.bool ?_ | refine To.hslL rfl ?_ | refine wt2 rfl ?_ ?_ ?_ | refine To.tupL ?_ | refine To.aggL ?_ | refine To.cptrL ?_ | refine To.fzp rfl rfl rfl ?_ | refine To.fzm rfl rfl ?_ | refine To.cloL ?_ ?_ | refine wt3 ?_ | refine wt4 ?_ | exact wt5 | refine wt6 ?_ | refine ToB.one ?_ | exact wt7 | ((with_reducible apply ToL.consE); case e9=>rfl) | refine wt8 ?_ | refine ToL.cons ?_ ?_ | exact wt11 | refine wt9 ?_ ?_ | refine dX ?_ | (with_reducible rfl) | assumption)); all_goals (first | rfl | assumption | (simp; done) | (simp; omega))))
 refine aA ?_
 by_cases hq:q < 0
 ·rw[dTr hq,if_pos hq]
  refine aA ?_
  rw[e0]
  exact aW.w
 ·rw[dFa hq,if_neg hq]
  obtain⟨m,rfl⟩:∃ m:Nat,q=m:=⟨q.toNat,by omega⟩
  refine aA ?_
  exact aW.w
def o9 (l:List Act) (e:Ep) (i:Nat) (x:Act):Nat×Bool:=
 if 0 < e.o.length then(ofP stC l i,decide (x.r∈e.o))
 else if 0≤e.l then(ofP stF l i,decide (e.l=x.r))
 else(ofP stN l i,e.f && match l[ofP stN l i]? with | some y=>decide (y.k=8) | none=>false)
theorem JX {n:Nat} (r:List AV):∀(j:Nat) a b,(fnC n::r)[j]?=some a→(fT n::r)[j]?=some b→Le a b:=fun j a b ha hb=>by
 cases j with
 | zero=>simp at ha hb; subst ha; subst hb; exact Le.func n
 | succ j=>simp at ha hb; rw[ha] at hb; injection hb with hb; subst hb; exact Le.refl _
set_option maxHeartbeats 8000000 in
theorem JW (l:List Act) (e:Ep) (i:Nat) (hi:i < l.length) (hl:l.length≤1000000) (ho:e.o.length≤9223372036854775807):
  aD Tryz.prog 98 [.list 7 (aU l),.agg (epR e),.sc (.int .i64 (i:Int))] (.tup [.sc (.int .i64 (((o9 l e i l[i]).1:Nat):Int)),.sc (.bool (o9 l e i l[i]).2)]):=by
 refine aD.mkI cF98 (nlB rfl) ?_
 have e0:=fW l
 have e1:=cD e.o
 have hr:=nX l i hi
 have c1:=zS l i 129 stop1 hi hl
 have c2:=zS l i 130 stop2 hi hl
 have c3:=zS l i 131 stop3 hi hl
 have hc:=nO e.o l[i].r ho
 have hlt:=NN stN l i
 unfold o9
 generalize hx:l[i]=x at *
 have d1:=c1.args (args:=[fnC 129,.cptr [.list 7 (aU l)],.cptr [.sc (.int .i64 (i:Int))]]) rfl (JX _)
 have d2:=c2.args (args:=[fnC 130,.cptr [.list 7 (aU l)],.cptr [.sc (.int .i64 (i:Int))]]) rfl (JX _)
 have d3:=c3.args (args:=[fnC 131,.cptr [.list 7 (aU l)],.cptr [.sc (.int .i64 (i:Int))]]) rfl (JX _)
 unfold epR
 unfold aJ at hr
 refine aA ?_
 refine AWP.sub (fr':=[(16,.sc (.bool (decide (0 < e.o.length)))),(3,.cptr [.list 7 (aU l)]),(4,.cptr [.sc (.bool e.f),.list 1 (bE e.o),.list 1 (bE e.p),.sc (.int .i64 e.l)]),(8,.cptr [.sc (.int .i64 x.k),.sc (.int .i64 x.r),.sc (.int .i64 x.a),.sc (.int .i64 x.o),.sc (.int .i64 x.v),.sc (.int .i64 x.w),.list 1 (bE x.g)]),(9,.clo (.func 126) [] [.cptr [.list 7 (aU l)],.cptr [.sc (.int .i64 (i:Int))]])]) (H':=[]) ?_ ?_
 ·exact Sub.w [] []
 by_cases h1:0 < e.o.length
 ·rw[if_pos h1,dTr h1]
  refine yS ?_
  refine AWP.lin [(true,0),(true,2),(true,3),(true,4),(true,5),(false,1),(true,7),(false,6),(true,8)] mixed (by kernel_rfl) (by kernel_rfl) ?_
  refine pJ ?_
  refine aA ?_
  exact aW.w
 rw[if_neg h1,dFa h1]
 refine yS ?_
 by_cases h2:0≤e.l
 ·rw[if_pos h2,show decide (e.l≥0)=true from dTr h2]
  refine yS ?_
  refine AWP.lin [(true,0),(true,2),(true,3),(true,4),(true,5),(true,6),(true,8),(false,1),(true,7)] mixed (by kernel_rfl) (by kernel_rfl) ?_
  refine pJ ?_
  rw[show(e.l == x.r)=decide (e.l=x.r) by rw[Bool.eq_iff_iff]; simp]
  refine aA ?_
  exact aW.w
 rw[if_neg h2,show decide (e.l≥0)=false from dFa h2]
 generalize ofP stN l i=k at *
 cases hf:e.f with
 | false=>
  refine aA ?_
  refine DK.nil ⟨by kernel_rfl,?_⟩
  refine aA ?_
  exact aW.w
 | true=>
  by_cases hk:k < l.length
  ·have hr2:=nX l k hk
   rw[gEg hk]
   generalize l[k]=y at *
   unfold aJ at hr2
   refine aA ?_
   rw[e0,dTr hk]
   refine aA ?_
   rw[show(y.k == 8)=decide (y.k=8) by rw[Bool.eq_iff_iff]; simp]
   refine DK.nil ⟨by kernel_rfl,?_⟩
   refine aA ?_
   exact aW.w
  ·rw[List.getElem?_eq_none (by omega)]
   refine aA ?_
   rw[e0,dFa hk]
   refine aA ?_
   refine DK.nil ⟨by kernel_rfl,?_⟩
   refine aA ?_
   exact aW.w
def vT (n r:Nat):List Int→List Int→Int
 | _,[]=>0
 | seen,b::g=>if b < 0∨(n:Int)≤b∨b=(r:Int) then 11 else if b∈seen then 5 else vT n r (seen++[b]) g
def i7 (n:Nat) (cells:Int) (r:Nat) (b1 b2 b3 b4:Bool) (x:Act):Int:=
 if b1=true∧(x.r < 0∨(n:Int)≤x.r) then 11
 else if b2=true∧(x.a < 0∨cells≤x.a) then 3
 else if b3=true then kL x.o 1
 else if b4=true then if x.g.length=0 then 2 else vT n r [] x.g
 else 0
theorem GN {n r:Nat} {g:List Int} {k:Nat} (h:k < g.length):vT n r (g.take k) (g.drop k)=if g[k] < 0∨(n:Int)≤g[k]∨g[k]=(r:Int) then 11 else if g[k]∈g.take k then 5 else vT n r (g.take (k+1)) (g.drop (k+1)):=by
 rw[List.drop_eq_getElem_cons h,vT,List.take_succ_eq_append_getElem h]
theorem DJ (l:List Int) (k:Nat):(bE l).take k=bE (l.take k):=by simp[bE,List.map_take]
set_option maxHeartbeats 8000000 in
theorem G0 (p:Pg) (r:Nat) (b1 b2 b3 b4:Bool) (u1 u2 u3 u4 u5:AV) [PV u1] [PV u2] [PV u3] [PV u4] [PV u5] (hu:[u1,u2,u3,u4,u5].all AV.cell1=true) (x:Act) (hg:x.g.length≤9223372036854775807):
  aD Tryz.prog 97 [dH p,.sc (.int .i64 (r:Int)),.agg [.sc (.bool b1),.sc (.bool b2),.sc (.bool b3),.sc (.bool b4),u1,u2,u3,u4,u5],.agg (aJ x)] (.sc (.int .i64 (i7 p.acts.length p.cells r b1 b2 b3 b4 x))):=by
 refine aD.mkI cF97 (nlB rfl) ?_
 have e0:=iN p.acts
 have e1:=cD x.g
 have hc:=BB x.o 1
 unfold dH aJ
 refine aA ?_
 refine Reg.o rfl (vN (n:=9) rfl (by rw[List.all_cons,List.all_cons,List.all_cons,List.all_cons]; simp only[Bool.and_eq_true]; exact⟨rfl,rfl,rfl,rfl,hu⟩) rfl) ?_
 refine bI ?_
 refine AWP.seq ?_
 refine AWP.joinT (σ:=Unit) (fun _=>[(1,.sc (.int .i64 (r:Int))),(4,.cptr [.sc (.int .i64 p.cells),.list 1 (bY p.acts)]),(7,.cptr [.sc (.int .i64 x.k),.sc (.int .i64 x.r),.sc (.int .i64 x.a),.sc (.int .i64 x.o),.sc (.int .i64 x.v),.sc (.int .i64 x.w),.list 1 (bE x.g)])]) (fun _=>[]) (fun _=>i7 p.acts.length p.cells r b1 b2 b3 b4 x=vT p.acts.length r [] x.g) ?_ ?_
 unfold i7
 by_cases h1:b1=true∧(x.r < 0∨(p.acts.length:Int)≤x.r)
 ·rw[if_pos h1]
  obtain⟨rfl,h1⟩:=h1
  refine aA ?_
  by_cases h2:x.r < 0
  ·rw[dTr h2]
   refine aA ?_
   exact aW.w
  ·rw[dFa h2]
   refine aA ?_
   rw[e0,show decide (x.r≥(p.acts.length:Int))=true from dTr (by omega)]
   refine aA ?_
   exact aW.w
 rw[if_neg h1]
 have h1:b1=false∨(b1=true∧¬ x.r < 0∧¬ x.r≥(p.acts.length:Int)):=by
  cases b1 with
  | false=>exact .inl rfl
  | true=>exact .inr ⟨rfl,fun h=>h1 ⟨rfl,.inl h⟩,fun h=>h1 ⟨rfl,.inr h⟩⟩
 by_cases h2:b2=true∧(x.a < 0∨p.cells≤x.a)
 ·rw[if_pos h2]
  obtain⟨rfl,h2⟩:=h2
  rcases h1 with rfl | ⟨rfl,h3,h4⟩
  ·(refine aA ?_; by_cases h7:x.a < 0; (rw[dTr h7]; refine aA ?_; exact aW.w); (rw[dFa h7]; refine aA ?_; rw[show decide (x.a≥p.cells)=true from dTr (by omega)]; refine aA ?_; exact aW.w))
  ·(refine aA ?_; rw[dFa h3]; refine aA ?_; rw[e0,dFa h4]; refine aA ?_)
   (refine aA ?_; by_cases h7:x.a < 0; (rw[dTr h7]; refine aA ?_; exact aW.w); (rw[dFa h7]; refine aA ?_; rw[show decide (x.a≥p.cells)=true from dTr (by omega)]; refine aA ?_; exact aW.w))
 rw[if_neg h2]
 have h2:b2=false∨(b2=true∧¬ x.a < 0∧¬ x.a≥p.cells):=by
  cases b2 with
  | false=>exact .inl rfl
  | true=>exact .inr ⟨rfl,fun h=>h2 ⟨rfl,.inl h⟩,fun h=>h2 ⟨rfl,.inr h⟩⟩
 cases b3 with
 | true=>
  rw[if_pos rfl]
  rcases h1 with rfl | ⟨rfl,h3,h4⟩<;>rcases h2 with rfl | ⟨rfl,h5,h6⟩
  ·refine aA ?_
   exact aW.w
  ·(refine aA ?_; rw[dFa h5]; refine aA ?_; rw[dFa h6]; refine aA ?_)
   exact aW.w
  ·(refine aA ?_; rw[dFa h3]; refine aA ?_; rw[e0,dFa h4]; refine aA ?_)
   exact aW.w
  ·(refine aA ?_; rw[dFa h3]; refine aA ?_; rw[e0,dFa h4]; refine aA ?_)
   (refine aA ?_; rw[dFa h5]; refine aA ?_; rw[dFa h6]; refine aA ?_)
   exact aW.w
 | false=>
  rw[if_neg (by simp)]
  cases b4 with
  | false=>
   rw[if_neg (by simp)]
   rcases h1 with rfl | ⟨rfl,h3,h4⟩<;>rcases h2 with rfl | ⟨rfl,h5,h6⟩
   ·refine aA ?_
    exact aW.w
   ·(refine aA ?_; rw[dFa h5]; refine aA ?_; rw[dFa h6]; refine aA ?_)
    exact aW.w
   ·(refine aA ?_; rw[dFa h3]; refine aA ?_; rw[e0,dFa h4]; refine aA ?_)
    exact aW.w
   ·(refine aA ?_; rw[dFa h3]; refine aA ?_; rw[e0,dFa h4]; refine aA ?_)
    (refine aA ?_; rw[dFa h5]; refine aA ?_; rw[dFa h6]; refine aA ?_)
    exact aW.w
  | true=>
   rw[if_pos rfl]
   by_cases h0:x.g.length=0
   ·rw[if_pos h0]
    have hl:=dTr h0
    rcases h1 with rfl | ⟨rfl,h3,h4⟩<;>rcases h2 with rfl | ⟨rfl,h5,h6⟩
    ·(refine aA ?_; rw[e1,hl]; refine aA ?_)
     exact aW.w
    ·(refine aA ?_; rw[dFa h5]; refine aA ?_; rw[dFa h6]; refine aA ?_)
     (refine aA ?_; rw[e1,hl]; refine aA ?_)
     exact aW.w
    ·(refine aA ?_; rw[dFa h3]; refine aA ?_; rw[e0,dFa h4]; refine aA ?_)
     (refine aA ?_; rw[e1,hl]; refine aA ?_)
     exact aW.w
    ·(refine aA ?_; rw[dFa h3]; refine aA ?_; rw[e0,dFa h4]; refine aA ?_)
     (refine aA ?_; rw[dFa h5]; refine aA ?_; rw[dFa h6]; refine aA ?_)
     (refine aA ?_; rw[e1,hl]; refine aA ?_)
     exact aW.w
   have hl:=dFa h0
   rcases h1 with rfl | ⟨rfl,h3,h4⟩<;>rcases h2 with rfl | ⟨rfl,h5,h6⟩
   ·(refine aA ?_; rw[e1,hl]; refine aA ?_)
    (refine⟨(),if_neg h0,?_⟩; exact Sub.w [] [])
   ·(refine aA ?_; rw[dFa h5]; refine aA ?_; rw[dFa h6]; refine aA ?_)
    (refine aA ?_; rw[e1,hl]; refine aA ?_)
    (refine⟨(),if_neg h0,?_⟩; exact Sub.w [] [])
   ·(refine aA ?_; rw[dFa h3]; refine aA ?_; rw[e0,dFa h4]; refine aA ?_)
    (refine aA ?_; rw[e1,hl]; refine aA ?_)
    (refine⟨(),if_neg h0,?_⟩; exact Sub.w [] [])
   ·(refine aA ?_; rw[dFa h3]; refine aA ?_; rw[e0,dFa h4]; refine aA ?_)
    (refine aA ?_; rw[dFa h5]; refine aA ?_; rw[dFa h6]; refine aA ?_)
    (refine aA ?_; rw[e1,hl]; refine aA ?_)
    (refine⟨(),if_neg h0,?_⟩; exact Sub.w [] [])
 rintro _ hI
 rw[hI]
 refine aA ?_
 rw[e1]
 refine AWP.loop (fun k:Nat=>[(1,.sc (.int .i64 (r:Int))),(4,.cptr [.sc (.int .i64 p.cells),.list 1 (bY p.acts)]),(7,.cptr [.sc (.int .i64 x.k),.sc (.int .i64 x.r),.sc (.int .i64 x.a),.sc (.int .i64 x.o),.sc (.int .i64 x.v),.sc (.int .i64 x.w),.list 1 (bE x.g)]),
  (62,.list 1 (bE x.g)),(63,.sc (.int .i64 (x.g.length:Int))),(64,.sc (.int .i64 (k:Int)))]) (fun _=>[]) (fun k=>k≤x.g.length∧vT p.acts.length r (x.g.take k) (x.g.drop k)=vT p.acts.length r [] x.g) (fun k=>x.g.length - k) 0 ⟨Nat.zero_le _,rfl⟩ ?_ ?_
 ·exact Sub.w [] []
 rintro k ⟨hk,hb⟩
 refine aA ?_
 refine AWP.condD rfl (fun h=>?_) (fun h=>?_)
 ·have hr:=mL x.g k h
  have hd:=GN (n:=p.acts.length) (r:=r) h
  have hcn:=nO (x.g.take k) x.g[k] (by rw[List.length_take]; omega)
  rw[hb] at hd
  rw[hd]
  generalize x.g[k]=b at *
  refine aA ?_
  by_cases q1:b < 0
  ·rw[dTr q1,if_pos (.inl q1)]
   refine aA ?_
   exact aW.w
  rw[dFa q1]
  refine aA ?_
  rw[e0]
  by_cases q2:(p.acts.length:Int)≤b
  ·rw[show decide (b≥(p.acts.length:Int))=true from dTr q2,if_pos (.inr (.inl q2))]
   refine aA ?_
   exact aW.w
  rw[show decide (b≥(p.acts.length:Int))=false from dFa q2]
  refine aA ?_
  by_cases q3:b=(r:Int)
  ·rw[show(b == (r:Int))=true by simpa using q3,if_pos (.inr (.inr q3))]
   refine aA ?_
   exact aW.w
  rw[show(b == (r:Int))=false by simpa using q3,if_neg (by omega)]
  refine aA ?_
  refine Reg.o rfl (EO (rows':=bE (x.g.take k)) rfl rfl (by omega) (DJ _ _)) ?_
  refine aA ?_
  by_cases q4:b∈x.g.take k
  ·rw[dTr q4,if_pos q4]
   refine aA ?_
   exact aW.w
  ·rw[dFa q4,if_neg q4]
   refine aA ?_
   refine⟨k+1,⟨by omega,rfl⟩,by omega,?_⟩
   exact Sub.w [] []
 ·have hk2:k=x.g.length:=by omega
  subst hk2
  rw[List.drop_length] at hb
  rw[← hb]
  unfold vT
  refine aA ?_
  exact aW.w
end Go.Proofs.YtkjoolaahocgdaaGreat
