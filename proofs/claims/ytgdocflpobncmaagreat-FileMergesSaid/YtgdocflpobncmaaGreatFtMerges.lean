/- Writing all accesses leaves behind what writing all requests does; they do not overlap, and are few. -/
import Derived.Test.YtgdocflpobncmaaGreatGFiLaw
import Derived.Test.YtgdocflpobncmaaGreatGAvLr
import Derived.HandedShaped
namespace Go.Proofs.YtgdocflpobncmaaGreat
open Go.Av Go.Proofs
set_option maxRecDepth 20000
theorem dI {k:IntKind} {a:AV} (h:jN (.int k) a):Fit (.int k) a:=by
 cases h with
 | int k n h=>exact .int k n h
theorem GP {a:AV} (h:jN .bool a):Fit .bool a:=by
 cases h with
 | bool b=>exact .bool b
theorem kE {α:Type} {row:List Sh} {a:AV} (h:jN (.slice row) a) (f:α→List AV) (ok:α→Prop) (each:∀ r:List AV,r.length=row.length→(∀(j:Nat) s c,row[j]?=some s→r[j]?=some c→jN s c)→∃ x,r=f x∧ok x):
  ∃ l:List α,a=.list row.length (l.map f)∧l.length * uS row≤reachBytes∧∀ x∈l,ok x:=by
 cases h with
 | slice _ rows hl hw hr h=>
  have key:∀ rows:List (List AV),(∀ r∈rows,r.length=row.length)→(∀ r∈rows,∀(j:Nat) s c,row[j]?=some s→r[j]?=some c→jN s c)→∃ l:List α,rows=l.map f∧∀ x∈l,ok x:=by
   intro rows
   induction rows with
   | nil=>exact fun _ _=>⟨[],rfl,fun x hx=>by cases hx⟩
   | cons r rows ih=>
    intro hr h;obtain⟨x,hx,hok⟩:=each r (hr r (List.mem_cons_self ..)) (h r (List.mem_cons_self ..));obtain⟨l,hl,hoks⟩:=ih (fun q hq=>hr q (mCm _ hq)) (fun q hq=>h q (mCm _ hq));refine⟨x::l,by rw[hx,hl]; rfl,fun y hy=>?_⟩
    rcases List.mem_cons.1 hy with e | e
    ·subst e; exact hok
    ·exact hoks y e
  obtain⟨l,e,hok⟩:=key rows hr h;subst e;exact⟨l,rfl,by simpa using hw,hok⟩
theorem gF {a:AV} (h:jN (.slice [.int .i64]) a):∃ l:List Int,a=.list 1 (inR l)∧l.length≤17592186044416:=by
 obtain⟨l,e,hw,_⟩:=kE h (fun n:Int=>[iv n]) (fun _=>True) fun r hl hf=>by
  match r,hl with
  | [x],_=>
   obtain⟨n,rfl,hn⟩:=eA (dI (hf 0 _ x rfl rfl));exact⟨n,rfl,trivial⟩
 refine⟨l,e,?_⟩;have e1:uS [.int .i64]=8:=rfl;have e2:reachBytes=140737488351232:=rfl;rw[e1,e2] at hw;omega
theorem P7:∀ m,uS (TyS m)=128
 | 0=>rfl
 | _+1=>rfl
theorem tQ:∀(m:Nat) (r:List AV),r.length=(TyS m).length→(∀(j:Nat) s c,(TyS m)[j]?=some s→r[j]?=some c→jN s c)→∃ t,r=tyR t∧iK m t
 | 0,r,hl,hf=>by
  match r,hl with
  | [x0,x1,x2,x3,x4,x5,x6,x7],_=>
   obtain⟨k,rfl,_⟩:=eA (dI (hf 0 _ x0 rfl rfl));obtain⟨c,rfl,_⟩:=eA (dI (hf 1 _ x1 rfl rfl));obtain⟨b,rfl,_⟩:=eA (dI (hf 2 _ x2 rfl rfl));obtain⟨s,rfl,_⟩:=eA (dI (hf 3 _ x3 rfl rfl));obtain⟨sz,rfl,_⟩:=gF (hf 4 _ x4 rfl rfl);obtain⟨bl,rfl,_⟩:=gF (hf 5 _ x5 rfl rfl);obtain⟨pl,rfl,_⟩:=gF (hf 6 _ x6 rfl rfl);have h7:=hf 7 _ x7 rfl rfl
   cases h7
   exact⟨.raw k c b s sz bl pl,by rw[tyR],trivial⟩
 | m+1,r,hl,hf=>by
  match r,hl with
  | [x0,x1,x2,x3,x4,x5,x6,x7],_=>
   obtain⟨k,rfl,_⟩:=eA (dI (hf 0 _ x0 rfl rfl));obtain⟨c,rfl,_⟩:=eA (dI (hf 1 _ x1 rfl rfl));obtain⟨b,rfl,_⟩:=eA (dI (hf 2 _ x2 rfl rfl));obtain⟨s,rfl,_⟩:=eA (dI (hf 3 _ x3 rfl rfl));obtain⟨sz,rfl,h4⟩:=gF (hf 4 _ x4 rfl rfl);obtain⟨bl,rfl,h5⟩:=gF (hf 5 _ x5 rfl rfl);obtain⟨pl,rfl,h6⟩:=gF (hf 6 _ x6 rfl rfl)
   obtain⟨of,rfl,hw,ho⟩:=kE (hf 7 _ x7 rfl rfl) tyR (iK m) fun r hl hf=>tQ m r hl hf
   have e2:reachBytes=140737488351232:=rfl;rw[P7,e2] at hw;refine⟨.mk k c b s sz bl pl of,?_,by omega,h4,h5,h6,ho⟩;rw[tyR,oH]
   cases m<;>rfl
abbrev RqW:List Sh:=.int .i64::(TyS 8++TyS 8)++[.int .i64,.slice [.int .u8]]
theorem BE:kC Tryz.prog 100 Tryz.f7.params.toList=some [.one (.slice RqW),.one (.int .u8),.one .bool]:=by kernel_rfl
theorem GZ (cs:List AV) (hl:cs.length=RqW.length) (hf:∀(j:Nat) s c,RqW[j]?=some s→cs[j]?=some c→jN s c):∃ r:Rq,cs=rqR r∧r.ok:=by
 match cs,hl with
 | [y0,a0,a1,a2,a3,a4,a5,a6,a7,b0,b1,b2,b3,b4,b5,b6,b7,o,d],_=>
  obtain⟨at',rfl,_⟩:=eA (dI (hf 0 _ y0 rfl rfl))
  obtain⟨e,he,ke⟩:=tQ 8 [a0,a1,a2,a3,a4,a5,a6,a7] rfl fun j s c hs hc=>hf (j+1) s c (by
   show(TyS 8++TyS 8++[.int .i64,.slice [.int .u8]])[j]?=some s
   rw[List.append_assoc,List.getElem?_append_left (gEs.1 hs).1]; exact hs) (by
   have hj:=(gEs.1 hc).1
   exact(List.getElem?_append_left (l₂:=[b0,b1,b2,b3,b4,b5,b6,b7,o,d]) hj).trans hc)
  obtain⟨t,ht,kt⟩:=tQ 8 [b0,b1,b2,b3,b4,b5,b6,b7] rfl fun j s c hs hc=>hf (j+9) s c (by
   show(TyS 8++[.int .i64,.slice [.int .u8]])[j]?=some s
   rw[List.getElem?_append_left (gEs.1 hs).1]; exact hs) (by
   have hj:=(gEs.1 hc).1
   exact(List.getElem?_append_left (l₂:=[o,d]) hj).trans hc)
  obtain⟨off,rfl,p1⟩:=eA (dI (hf 17 _ o rfl rfl))
  obtain⟨dt,rfl,hw,_⟩:=kE (hf 18 _ d rfl rfl) (fun b:Nat=>[.sc (.int .u8 (b:Int))]) (fun b=>b≤255) fun r hl hf=>by
   match r,hl with
   | [x],_=>
    obtain⟨n,rfl,hn⟩:=C8 (dI (hf 0 _ x rfl rfl));exact⟨n,rfl,hn⟩
  have e1:uS [.int .u8]=1:=rfl;have e2:reachBytes=140737488351232:=rfl;rw[e1,e2] at hw;refine⟨⟨at',e,t,off,dt⟩,?_,ke,kt,?_,by show dt.length≤_; omega⟩
  ·show iv at'::([a0,a1,a2,a3,a4,a5,a6,a7]++([b0,b1,b2,b3,b4,b5,b6,b7]++[iv off,_]))=_
   rw[he,ht];unfold rqR vwR;rw[List.cons_append,List.append_assoc];rfl
  ·show off < _
   omega
set_option maxRecDepth 100000 in
theorem oC (os:Os) (started:os.Started) (H:Type) (enc:TypeId×Value→H):
  ReturnsInHanded {} Tryz.checked os 7 .any (Rows.fileMergesSpec.pre6 enc Tryz.prog Tryz.f7 Rows.fileMergesRow.domain false) (Rows.fileMergesSpec.post enc Tryz.prog Tryz.f7 false true false false):=by
 refine returnsInHanded_of_change_shaped (C:=Tryz.checked) MO started (by kernel_rfl) Tryz.func7
  (ChangeSpec.witness6 (enc:=enc) (C:=Tryz.checked) false ⟨#[],#[.slice none 0 0,.int .u8 0,.bool false],[]⟩ 8 (by kernel_rfl) (by kernel_rfl) (by kernel_rfl) (by kernel_rfl)) ?_
 intro W base args ds gs before hval hW _ hall _ _;refine BV (P:=Tryz.prog) (d:=100) (row:=[.one (.slice RqW),.one (.int .u8),.one .bool]) (tb:=4) BE rfl G1 I7 BX (by decide) rfl M0 (fun ds hds=>?_) (fun avs hl hf=>?_) hval hW hall
 ·match ds,hds with
  | [_,_,_],_=>exact⟨rfl,rfl,rfl⟩
 ·obtain⟨x0,x1,x2,rfl,h0,h1,h2⟩:∃ x0 x1 x2,avs=[x0,x1,x2]∧n8 (.one (.slice RqW)) x0∧n8 (.one (.int .u8)) x1∧n8 (.one .bool) x2:=by
   match avs,hl with
   | [a0,a1,a2],_=>exact⟨a0,a1,a2,rfl,hf 0 _ _ rfl rfl,hf 1 _ _ rfl rfl,hf 2 _ _ rfl rfl⟩
  clear hl
  cases h0 with | one h0=>?_
  cases h1 with | one h1=>?_
  cases h2 with | one h2=>?_
  obtain⟨p,rfl,hp⟩:=C8 (dI h1);obtain⟨b,rfl⟩:=BM (GP h2)
  obtain⟨l,rfl,hw,hrq⟩:=kE h0 rqR (fun r=>r.ok) fun r hl hf=>GZ r hl hf
  have e1:uS RqW=296:=rfl;have e2:reachBytes=140737488351232:=rfl;rw[e1,e2] at hw;show aE Tryz.prog 7 [.list 19 (rqs l),.sc (.int .u8 (p:Nat)),bv b] [] _;exact aE.ofPure (F1 hrq (by omega) hp) _ rfl
theorem fileMerges_holds:Rows.FileMergesSaid:=
 OpenClaim.holds_of_wide 7 Tryz.f7 rfl rfl rfl rfl rfl rfl rfl ⟨rfl,rfl,rfl,rfl,rfl⟩ rfl rfl rfl rfl rfl (by kernel_rfl) Tryz.func7 (by kernel_rfl)
  (of_decide_eq_true (by kernel_rfl)) (by unfold Func.isWrapper; first | (rw[if_pos (by decide +kernel)]; kernel_rfl) | (rw[if_neg (by decide +kernel)]; exact⟨rfl,rfl⟩))
  (fun os started H enc _=>oC os started H enc)
end Go.Proofs.YtgdocflpobncmaaGreat
