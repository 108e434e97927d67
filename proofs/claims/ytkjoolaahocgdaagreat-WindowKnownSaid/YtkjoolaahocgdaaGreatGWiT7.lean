import Derived.Test.YtkjoolaahocgdaaGreatGWiT3
import Derived.Test.YtkjoolaahocgdaaGreatGAvSo
namespace Go.Proofs.YtkjoolaahocgdaaGreat
open Go.Av Go.Proofs
set_option maxRecDepth 20000
def alP (k:Nat) (e:Ep) (x:Act):Bool:=match k with
 | 6=>true
 | 7=>true
 | 8=>decide (e.o.length=0) && decide (e.l < 0) && decide (e.p.length=0)
 | 9=>decide (e.p.length=0) && decide (e.l < 0)
 | 10=>decide (e.o.length=0) && decide (e.l < 0)
 | 11=>decide (0 < e.o.length)
 | 12=>decide (0 < e.p.length) && decide (e.l < 0)
 | 13=>decide (e.o.length=0) && decide (e.l < 0)
 | 14=>decide (e.o.length=0) && decide (e.l < 0)
 | 15=>decide (e.l=x.r)
 | _=>decide (e.l=x.r)
theorem MN (e:Ep) (x:Act):aD Tryz.prog 82 [.agg (epR e),.agg (aJ x)] (.sc (.bool (decide (e.o.length=0) && decide (e.l < 0)))):=by
 refine aD.mkI cF82 (nlB rfl) ?_
 have e1:=cD e.o
 unfold epR aJ
 refine aA ?_
 rw[e1]
 by_cases h:e.o.length=0
 ·rw[dTr h]
  refine aA ?_
  exact aW.w
 ·rw[dFa h]
  refine aA ?_
  exact aW.w
theorem al81 (e:Ep) (x:Act):aD Tryz.prog 81 [.agg (epR e),.agg (aJ x)] (.sc (.bool true)):=by
 refine aD.mkI cF81 (nlB rfl) ?_
 unfold epR aJ
 refine aA ?_
 exact aW.w
theorem al83 (e:Ep) (x:Act):aD Tryz.prog 83 [.agg (epR e),.agg (aJ x)] (.sc (.bool (decide (e.l=x.r)))):=by
 refine aD.mkI cF83 (nlB rfl) ?_
 unfold epR aJ
 refine aA ?_
 rw[show(e.l == x.r)=decide (e.l=x.r) by rw[Bool.eq_iff_iff]; simp]
 exact aW.w
theorem al84 (e:Ep) (x:Act):aD Tryz.prog 84 [.agg (epR e),.agg (aJ x),.cptr [fT 82]] (.sc (.bool (decide (e.o.length=0) && decide (e.l < 0) && decide (e.p.length=0)))):=by
 refine aD.mkI cF84 (nlB rfl) ?_
 have e1:=cD e.p
 have h:=MN e x
 generalize (decide (e.o.length=0) && decide (e.l < 0))=b at *
 unfold epR aJ at *
 refine aA ?_
 cases b with
 | false=>
  refine aA ?_
  exact aW.w
 | true=>
  refine aA ?_
  rw[e1]
  refine aA ?_
  exact aW.w
theorem al86 (e:Ep) (x:Act):aD Tryz.prog 86 [.agg (epR e),.agg (aJ x)] (.sc (.bool (decide (e.p.length=0) && decide (e.l < 0)))):=by
 refine aD.mkI cF86 (nlB rfl) ?_
 have e1:=cD e.p
 unfold epR aJ
 refine aA ?_
 rw[e1]
 by_cases h:e.p.length=0
 ·rw[dTr h]
  refine aA ?_
  exact aW.w
 ·rw[dFa h]
  refine aA ?_
  exact aW.w
theorem al89 (e:Ep) (x:Act):aD Tryz.prog 89 [.agg (epR e),.agg (aJ x)] (.sc (.bool (decide (0 < e.o.length)))):=by
 refine aD.mkI cF89 (nlB rfl) ?_
 have e1:=cD e.o
 unfold epR aJ
 refine aA ?_
 rw[e1]
 exact aW.w
theorem al91 (e:Ep) (x:Act):aD Tryz.prog 91 [.agg (epR e),.agg (aJ x)] (.sc (.bool (decide (0 < e.p.length) && decide (e.l < 0)))):=by
 refine aD.mkI cF91 (nlB rfl) ?_
 have e1:=cD e.p
 unfold epR aJ
 refine aA ?_
 rw[e1]
 by_cases h:0 < e.p.length
 ·rw[dTr h]
  refine aA ?_
  exact aW.w
 ·rw[dFa h]
  refine aA ?_
  exact aW.w
theorem al_ok (k:Nat) (h1:6≤k) (h2:k≤16) (e:Ep) (x:Act):l3 (alV k) [.agg (epR e),.agg (aJ x)] (.sc (.bool (alP k e x))):=by
 match k,h1,h2 with
 | 6,_,_=>exact dR (al81 e x)
 | 7,_,_=>exact dR (al81 e x)
 | 8,_,_=>exact⟨84,_,rfl,al84 e x⟩
 | 9,_,_=>exact dR (al86 e x)
 | 10,_,_=>exact dR (MN e x)
 | 11,_,_=>exact dR (al89 e x)
 | 12,_,_=>exact dR (al91 e x)
 | 13,_,_=>exact dR (MN e x)
 | 14,_,_=>exact dR (MN e x)
 | 15,_,_=>exact dR (al83 e x)
 | 16,_,_=>exact dR (al83 e x)
 | k+17,_,h=>exact absurd h (by omega)
def j8 (p:Pg) (n:Nat):List AV:=[.sc (.int .i64 p.cells),.list 1 (bY p.acts),.tmap formsE,.hsl 1 0 0 n]
def iL (L:Ln):List AV:=[.sc (.bool L.e.f),.list 1 (bE L.e.o),.list 1 (bE L.e.p),.sc (.int .i64 L.e.l),.mref 4 0,.hsl 7 0 0 L.fe.length,.hsl 8 0 0 L.st.length,.hsl 9 0 0 L.po.length,.mref 5 0,.mref 6 0]
def wkH (p:Pg) (ls:List Ln) (L:Ln):Heap:=[[.cells 4 [j8 p ls.length]],[.cells 10 (d4 ls)],[.cells 2 [[.sc (.int .i64 0),.sc (.int .i64 0)]]],[.cells 10 [iL L]],[.map (tX L.acc)],[.map (mapE L.co)],[.map (mapE L.wt)],[.cells 1 (bF L.fe)],[.cells 1 (bF L.st)],[.cells 1 (bF L.po)]]
def afP (k:Nat) (e:Ep) (x:Act):Ep:=match k with
 | 8=>{ e with f:=true }
 | 9=>{ e with p:=x.g }
 | 10=>{ e with o:=x.g }
 | 11=>{ e with o:=[] }
 | 12=>{ e with p:=[] }
 | 13=>{ e with l:=x.r }
 | 14=>{ e with l:=x.r }
 | 16=>{ e with l:=-1 }
 | _=>e
def yX (g:Nat) (k:Nat):Prop:=∀(p:Pg) (ls:List Ln) (L:Ln) (x:Act),aQ Tryz.prog g [.ptr 3 0 0 0,.agg (aJ x)] (wkH p ls L) fun res H'=>res=.tup []∧H'=wkH p ls { L with e:=afP k L.e x }
theorem af85:yX 85 8:=by
 intro p ls L x
 refine aQ.of cF85 ?_ (nlB rfl)
 unfold aJ wkH iL j8 afP
 refine aA ?_
 (refine lQ (res':=.tup []) [[(0,0)],[(1,0)],[(2,0)],[(3,0)],[(4,0)],[(5,0)],[(6,0)],[(7,0)],[(8,0)],[(9,0)]] (.inl rfl) rfl ⟨rfl,rfl⟩ ?_ ?_ rfl rfl rfl; (all_goals exact eP))
theorem af87:yX 87 9:=by
 intro p ls L x
 refine aQ.of cF87 ?_ (nlB rfl)
 unfold aJ wkH iL j8 afP
 refine aA ?_
 (refine lQ (res':=.tup []) [[(0,0)],[(1,0)],[(2,0)],[(3,0)],[(4,0)],[(5,0)],[(6,0)],[(7,0)],[(8,0)],[(9,0)]] (.inl rfl) rfl ⟨rfl,rfl⟩ ?_ ?_ rfl rfl rfl; (all_goals exact eP))
theorem af88:yX 88 10:=by
 intro p ls L x
 refine aQ.of cF88 ?_ (nlB rfl)
 unfold aJ wkH iL j8 afP
 refine aA ?_
 (refine lQ (res':=.tup []) [[(0,0)],[(1,0)],[(2,0)],[(3,0)],[(4,0)],[(5,0)],[(6,0)],[(7,0)],[(8,0)],[(9,0)]] (.inl rfl) rfl ⟨rfl,rfl⟩ ?_ ?_ rfl rfl rfl; (all_goals exact eP))
theorem af90:yX 90 11:=by
 intro p ls L x
 refine aQ.of cF90 ?_ (nlB rfl)
 unfold aJ wkH iL j8 afP
 refine aA ?_
 (refine lQ (res':=.tup []) [[(0,0)],[(1,0)],[(2,0)],[(3,0)],[(4,0)],[(5,0)],[(6,0)],[(7,0)],[(8,0)],[(9,0)]] (.inl rfl) rfl ⟨rfl,rfl⟩ ?_ ?_ rfl rfl rfl; (all_goals exact eP))
theorem af92:yX 92 12:=by
 intro p ls L x
 refine aQ.of cF92 ?_ (nlB rfl)
 unfold aJ wkH iL j8 afP
 refine aA ?_
 (refine lQ (res':=.tup []) [[(0,0)],[(1,0)],[(2,0)],[(3,0)],[(4,0)],[(5,0)],[(6,0)],[(7,0)],[(8,0)],[(9,0)]] (.inl rfl) rfl ⟨rfl,rfl⟩ ?_ ?_ rfl rfl rfl; (all_goals exact eP))
theorem af93:yX 93 13:=by
 intro p ls L x
 refine aQ.of cF93 ?_ (nlB rfl)
 unfold aJ wkH iL j8 afP
 refine aA ?_
 (refine lQ (res':=.tup []) [[(0,0)],[(1,0)],[(2,0)],[(3,0)],[(4,0)],[(5,0)],[(6,0)],[(7,0)],[(8,0)],[(9,0)]] (.inl rfl) rfl ⟨rfl,rfl⟩ ?_ ?_ rfl rfl rfl; (all_goals exact eP))
theorem af94:yX 94 14:=by
 intro p ls L x
 refine aQ.of cF94 ?_ (nlB rfl)
 unfold aJ wkH iL j8 afP
 refine aA ?_
 (refine lQ (res':=.tup []) [[(0,0)],[(1,0)],[(2,0)],[(3,0)],[(4,0)],[(5,0)],[(6,0)],[(7,0)],[(8,0)],[(9,0)]] (.inl rfl) rfl ⟨rfl,rfl⟩ ?_ ?_ rfl rfl rfl; (all_goals exact eP))
theorem af95:yX 95 16:=by
 intro p ls L x
 refine aQ.of cF95 ?_ (nlB rfl)
 unfold aJ wkH iL j8 afP
 refine aA ?_
 (refine lQ (res':=.tup []) [[(0,0)],[(1,0)],[(2,0)],[(3,0)],[(4,0)],[(5,0)],[(6,0)],[(7,0)],[(8,0)],[(9,0)]] (.inl rfl) rfl ⟨rfl,rfl⟩ ?_ ?_ rfl rfl rfl; (all_goals exact eP))
theorem af_ok (k:Nat) (h1:6≤k) (h2:k≤16):(afV k=.sc .nilFunc∧∀ e x,afP k e x=e)∨∃ g,afV k=fT g∧yX g k:=by
 match k,h1,h2 with
 | 6,_,_=>exact .inl ⟨rfl,fun _ _=>rfl⟩
 | 7,_,_=>exact .inl ⟨rfl,fun _ _=>rfl⟩
 | 8,_,_=>exact .inr ⟨_,rfl,af85⟩
 | 9,_,_=>exact .inr ⟨_,rfl,af87⟩
 | 10,_,_=>exact .inr ⟨_,rfl,af88⟩
 | 11,_,_=>exact .inr ⟨_,rfl,af90⟩
 | 12,_,_=>exact .inr ⟨_,rfl,af92⟩
 | 13,_,_=>exact .inr ⟨_,rfl,af93⟩
 | 14,_,_=>exact .inr ⟨_,rfl,af94⟩
 | 15,_,_=>exact .inl ⟨rfl,fun _ _=>rfl⟩
 | 16,_,_=>exact .inr ⟨_,rfl,af95⟩
 | k+17,_,h=>exact absurd h (by omega)
def cS {β:Type} (i:Nat):List (Nat×β)→Option β
 | []=>none
 | (j,b)::l=>if i=j then some b else cS i l
theorem k8 {β:Type} (f:β→AV) (i:Nat):∀ l:List (Nat×β),d5 .i64 (i:Int) (l.map fun x=>(.int .i64 (x.1:Int),f x.2))=some ((cS i l).map f)
 | []=>rfl
 | (j,b)::l=>by
  simp only[List.map_cons,d5,decide_true,cS]
  by_cases h:i=j
  ·rw[dTr (by omega:(i:Int)=(j:Int)),if_pos h]
   rfl
  ·rw[dFa (by omega:¬ (i:Int)=(j:Int)),if_neg h]
   exact k8 f i l
theorem kK {β:Type} {i:Nat}:∀ {l:List (Nat×β)},(∀ x∈l,x.1≠i)→cS i l=none
 | [],_=>rfl
 | (j,b)::l,h=>by
  rw[cS,if_neg (fun e=>h (j,b) (by simp) e.symm)]
  exact kK fun x hx=>h x (by simp[hx])
theorem kH (i:Nat) (l:List (Nat×Ac)):d5 .i64 (i:Int) (tX l)=some ((cS i l).map fun a=>.agg (acR a)):=k8 (fun a=>.agg (acR a)) i l
theorem oU (i:Nat) (l:List (Nat×Nat)):d5 .i64 (i:Int) (mapE l)=some ((cS i l).map fun a=>.sc (.int .i64 (a:Int))):=k8 (fun a:Nat=>.sc (.int .i64 (a:Int))) i l
theorem s7 (l:List (Nat×Ac)) (i:Nat) (a:Ac):tX (l++[(i,a)])=tX l++[(.int .i64 (i:Int),.agg (acR a))]:=by simp[tX]
theorem x7 (l:List (Nat×Nat)) (i a:Nat):mapE (l++[(i,a)])=mapE l++[(.int .i64 (i:Int),.sc (.int .i64 (a:Int)))]:=by simp[mapE]
theorem iT (l:List Nat) (i:Nat):bF (l++[i])=bF l++[[.sc (.int .i64 (i:Int))]]:=by simp[bF]
theorem BC (l:List Ln) (i:Ln):d4 (l++[i])=d4 l++[lnR i]:=by simp[d4]
def rO (p:Pg) (r:Nat) (x:Act):Int:=i7 p.acts.length p.cells r (eW x.k) (lZ x.k) (nA x.k) (lE x.k) x
def swP (r i:Nat) (x:Act) (L:Ln):Ln:=
 if x.k=6∨x.k=7 then { L with acc:=L.acc++[(i,⟨r,x.a,i⟩)] }
 else if x.k=8 then { L with fe:=L.fe++[i] }
 else if x.k=10 then { L with st:=L.st++[i] }
 else if x.k=9 then { L with po:=L.po++[i] }
 else if x.k=11 then { L with co:=L.co++[(L.st.getLastD 0,i)] }
 else if x.k=12 then { L with wt:=L.wt++[(i,L.po.getLastD 0)] }
 else L
def iM (p:Pg) (r:Nat) (l:List Act) (i:Nat) (x:Act) (L:Ln):Int×Ln:=
 if ¬ (1≤x.k∧x.k≤16) then(2,L)
 else if rO p r x≠0 then(rO p r x,L)
 else if dW x.k=true then if (o9 l L.e i x).2=true then(0,{ L with acc:=L.acc++[(i,⟨x.r,x.a,(o9 l L.e i x).1⟩)] }) else(6,L)
 else if alP x.k.toNat L.e x=false then(6,L)
 else(0,{ swP r i x L with e:=afP x.k.toNat L.e x })
def l8 (p:Pg) (r:Nat) (l:List Act):Nat→List Act→Ln→(Nat×Int)×Ln
 | i,[],L=>if 0 < L.e.o.length∨0 < L.e.p.length∨0≤L.e.l then((i,6),L) else((0,0),L)
 | i,x::xs,L=>if (iM p r l i x L).1≠0 then((i,(iM p r l i x L).1),L) else l8 p r l (i+1) xs (iM p r l i x L).2
def gJ (p:Pg) (r:Nat) (l:List Act):(Nat×Int)×Ln:=if 100 < l.length then((100,9),ln0) else l8 p r l 0 l ln0
theorem vZ {p:Pg} {r:Nat} {l:List Act} {k:Nat} {L:Ln} (h:k < l.length):l8 p r l k (l.drop k) L=if (iM p r l k l[k] L).1≠0 then((k,(iM p r l k l[k] L).1),L) else l8 p r l (k+1) (l.drop (k+1)) (iM p r l k l[k] L).2:=by
 rw[List.drop_eq_getElem_cons h,l8]
structure tP (i:Nat) (L:Ln):Prop where
 acc:∀ a∈L.acc,a.1 < i
 st:∀ a∈L.st,a < i
 po:∀ a∈L.po,a < i
 fe:∀ a∈L.fe,a < i
 co:∀ a∈L.co,a.1 < i
 wt:∀ a∈L.wt,a.1 < i
 op:0 < L.e.o.length→0 < L.st.length∧∀ a∈L.co,a.1 < L.st.getLastD 0
 pt:0 < L.e.p.length→0 < L.po.length
 ls:L.fe.length≤i∧L.st.length≤i∧L.po.length≤i
theorem tP.zero:tP 0 ln0:=
 ⟨fun _ h=>(by cases h),fun _ h=>(by cases h),fun _ h=>(by cases h),fun _ h=>(by cases h),fun _ h=>(by cases h),fun _ h=>(by cases h),fun h=>absurd h (by decide),fun h=>absurd h (by decide),by decide⟩
theorem mZ {l:List Nat} (h:0 < l.length):l.getLastD 0∈l:=by
 cases l with
 | nil=>simp at h
 | cons a l=>rw[List.getLastD_cons,← List.getLast_eq_getLastD]; exact List.getLast_mem (List.cons_ne_nil _ _)
theorem z7 {l:List Nat} {i:Nat} (h:∀ a∈l,a < i):∀ a∈l++[i],a < i+1:=fun a ha=>by
 rcases List.mem_append.1 ha with h1 | h1
 ·exact Nat.lt_succ_of_lt (h a h1)
 ·rw[List.mem_singleton.1 h1]; exact Nat.lt_succ_self i
theorem vP {β:Type} {l:List (Nat×β)} {i j:Nat} {b:β} (h:∀ a∈l,a.1 < i) (hj:j < i+1):∀ a∈l++[(j,b)],a.1 < i+1:=fun a ha=>by
 rcases List.mem_append.1 ha with h1 | h1
 ·exact Nat.lt_succ_of_lt (h a h1)
 ·rw[List.mem_singleton.1 h1]; exact hj
theorem tP.up {i:Nat} {L:Ln} (h:tP i L):tP (i+1) L:=
 ⟨fun a ha=>Nat.lt_succ_of_lt (h.acc a ha),fun a ha=>Nat.lt_succ_of_lt (h.st a ha),fun a ha=>Nat.lt_succ_of_lt (h.po a ha),fun a ha=>Nat.lt_succ_of_lt (h.fe a ha),fun a ha=>Nat.lt_succ_of_lt (h.co a ha),fun a ha=>Nat.lt_succ_of_lt (h.wt a ha),h.op,h.pt,by have:=h.ls; omega⟩
theorem tP.acc' {i:Nat} {L:Ln} (h:tP i L) (a:Ac):tP (i+1) { L with acc:=L.acc++[(i,a)] }:={ h.up with acc:=vP h.acc (Nat.lt_succ_self i) }
theorem pI (l:List Nat) (i:Nat):(l++[i]).getLastD 0=i:=by
 cases l with
 | nil=>rfl
 | cons a l=>rw[List.getLastD_eq_getLast?,List.getLast?_append]; rfl
theorem H8 {p:Pg} {r:Nat} {l:List Act} {i:Nat} {x:Act} {L:Ln} (h:tP i L) (h0:(iM p r l i x L).1=0):tP (i+1) (iM p r l i x L).2:=by
 unfold iM at *
 split at h0
 ·cases h0
 rename_i hk
 rw[if_neg hk]
 split at h0
 ·rename_i h1
  exact absurd h0 h1
 rename_i h1
 rw[if_neg h1]
 split at h0
 ·rename_i h2
  rw[if_pos h2]
  split at h0
  ·rename_i h3
   rw[if_pos h3]
   exact h.acc' _
  ·cases h0
 rename_i h2
 rw[if_neg h2]
 split at h0
 ·cases h0
 rename_i h3
 rw[if_neg h3]
 clear h0
 have hk:=Decidable.not_not.1 hk
 have h6:¬ (1≤x.k∧x.k≤5):=by simpa[dW] using h2
 obtain⟨n,hn⟩:∃ n:Nat,x.k=n:=⟨x.k.toNat,by omega⟩
 rw[hn] at h3 ⊢
 rw[show((n:Int)).toNat=n from rfl] at h3 ⊢
 have q1:6≤n:=by omega
 have q2:n≤16:=by omega
 clear h2 h1 hk h6
 unfold swP
 rw[hn]
 match n,q1,q2,h3 with
 | 6,_,_,_=>exact h.acc' _
 | 7,_,_,_=>exact h.acc' _
 | 8,_,_,_=>exact { h.up with fe:=z7 h.fe,ls:=by have:=h.ls; simp; omega }
 | 9,_,_,_=>exact { h.up with po:=z7 h.po,pt:=fun _=>by simp,ls:=by have:=h.ls; simp; omega }
 | 10,_,_,_=>exact { h.up with st:=z7 h.st,op:=fun _=>⟨by simp,fun a ha=>by show a.1 < (L.st++[i]).getLastD 0; rw[pI]; exact h.co a ha⟩,ls:=by have:=h.ls; simp; omega }
 | 11,_,_,h3=>
  have h3:0 < L.e.o.length:=of_decide_eq_true (Bool.not_eq_false _ |>.mp h3)
  have:=h.op h3
  exact { h.up with co:=vP h.co (Nat.lt_succ_of_lt (h.st _ (mZ this.1))),op:=fun h=>absurd (show 0 < ([]:List Int).length from h) (by decide) }
 | 12,_,_,_=>exact { h.up with wt:=vP h.wt (Nat.lt_succ_self i),pt:=fun h=>absurd (show 0 < ([]:List Int).length from h) (by decide) }
 | 13,_,_,_=>exact { h.up with }
 | 14,_,_,_=>exact { h.up with }
 | 15,_,_,_=>exact { h.up with }
 | 16,_,_,_=>exact { h.up with }
 | n+17,_,h,_=>exact absurd h (by omega)
theorem wS {l:List Nat} (h:0 < l.length):(bF l)[l.length - 1]?=some [.sc (.int .i64 (l.getLastD 0:Nat))]:=by
 rw[yJ l _ (by omega)]
 congr 4
 rw[List.getLastD_eq_getLast?,List.getLast?_eq_getElem?,gEg (by omega)]
 rfl
theorem DL {p:Pg} {r:Nat} {l:List Act} {i:Nat} {x:Act} {L:Ln} {N:Nat} (h:L.e.o.length≤N) (hx:x.g.length≤N):(iM p r l i x L).2.e.o.length≤N:=by
 have h1:∀ k,(afP k L.e x).o.length≤N:=fun k=>by
  unfold afP
  split<;>first | exact h | exact hx | exact Nat.zero_le _
 unfold iM
 repeat' split
 all_goals first | exact h | exact h1 _
theorem tC (n:Nat):(jI n).all AV.cell1=true:=by
 have h1:(alV n).cell1=true:=by unfold alV; split<;>rfl
 have h2:(afV n).cell1=true:=by unfold afV; split<;>rfl
 unfold jI
 simp only[List.all_cons,List.all_nil,h1,h2]
 rfl
def pX (p:Pg) (ls:List Ln):Heap:=[[.cells 4 [j8 p ls.length]],[.cells 10 (d4 ls)]]
def NZ (p:Pg) (ls:List Ln):Heap:=[[.cells 4 [[.sc (.int .i64 p.cells),.list 1 (bY p.acts),.tmap formsE,.hsl 2 0 0 ls.length]]],[.dead],[.cells 10 (d4 ls)]]
def plV (r:Nat) (w:(Nat×Int)×Ln):AV:=.tup [.agg [.sc (.int .i64 (if w.1.2=0 then 0 else(r:Int))),.sc (.int .i64 (if w.1.2=0 then 0 else(w.1.1:Int)))],.sc (.int .i64 w.1.2)]
def wkF (r:Nat) (l:List Act) (k:Nat):Fr:=[(0,.ptr 0 0 0 0),(1,.sc (.int .i64 (r:Int))),(4,.ptr 2 0 0 0),(5,.sc (.int .i64 0)),(6,.ptr 3 0 0 0),(7,.list 7 (aU l)),(33,.list 7 (aU l)),(34,.sc (.int .i64 (l.length:Int))),(35,.sc (.int .i64 (k:Int)))]
def rJ (r:Nat) (l:List Act) (k n:Nat) (x:Act):Fr:=(8,.sc (.int .i64 (k:Int)))::(9,.cptr [.sc (.int .i64 (n:Int)),.sc (.int .i64 x.r),.sc (.int .i64 x.a),.sc (.int .i64 x.o),.sc (.int .i64 x.v),.sc (.int .i64 x.w),.list 1 (bE x.g)]) ::
 (10,.cptr [.sc (.bool (eW n)),.sc (.bool (lZ n)),.sc (.bool (nA n)),.sc (.bool (lE n)),.sc (.bool (dW n)),.sc (.bool (gS n)),.sc (.bool (lV n)),alV n,afV n])::wkF r l k
def M4:dB:=aG [1,1,1,1,0,1,0,0,1,1,0,0,1,1,1,1,1,1] F55.code
set_option maxHeartbeats 16000000 in
theorem sw_ok (p:Pg) (r:Nat) (l:List Act) (ls:List Ln) (k n:Nat) (L:Ln) (x:Act) (hn:x.k=(n:Int)) (hn6:6≤n) (hi16:(n:Int)≤16) (h100:¬ 100 < l.length) (h:k < l.length) (hI:tP k L) (hba:alP n L.e x=true) (Q:Exit→Fr→Heap→Prop):
  AWP Tryz.prog F55.n 2 (aG [0] M4) (gG (fun fr2 H2=>Sub 2 F55.n fr2 H2 (rJ r l k n x) (wkH p ls (swP r k x L))) Q) (rJ r l k n x) (wkH p ls L):=by
 have hi16:n≤16:=by omega
 show AWP _ _ _ (.seq _ _) _ _ _
 unfold rJ wkF wkH j8 iL
 unfold swP
 rw[hn]
 have hcs:=hI.ls
 have h1:=bZ L.fe
 have h2:=bZ L.st
 have h3:=bZ L.po
 have hacc:d5 .i64 (k:Int) (tX L.acc)=some none:=by rw[kH,kK fun a ha=>Nat.ne_of_lt (hI.acc a ha)]; rfl
 have hwt:d5 .i64 (k:Int) (mapE L.wt)=some none:=by rw[oU,kK fun a ha=>Nat.ne_of_lt (hI.wt a ha)]; rfl
 match n,hn6,hi16 with
 | 6,_,_=>
  refine aA ?_
  refine Reg.on rfl (iZ rfl rfl rfl rfl hacc) ?_
  refine aA ?_
  rw[if_pos (by decide)]
  dsimp only
  rw[s7]
  dsimp only[acR]
  exact Sub.w [] [[(0,0)],[(1,0)],[(2,0)],[(3,0)],[(4,0)],[(5,0)],[(6,0)],[(7,0)],[(8,0)],[(9,0)]]
 | 7,_,_=>
  refine aA ?_
  refine Reg.on rfl (iZ rfl rfl rfl rfl hacc) ?_
  refine aA ?_
  rw[if_pos (by decide)]
  dsimp only
  rw[s7]
  dsimp only[acR]
  exact Sub.w [] [[(0,0)],[(1,0)],[(2,0)],[(3,0)],[(4,0)],[(5,0)],[(6,0)],[(7,0)],[(8,0)],[(9,0)]]
 | 8,_,_=>
  refine aA ?_
  rw[if_neg (by decide),if_pos (by decide)]
  dsimp only
  rw[iT,List.length_append]
  exact Sub.w [] [[(0,0)],[(1,0)],[(2,0)],[(3,0)],[(4,0)],[(5,0)],[(6,0)],[(11,0)],[(8,0)],[(9,0)]]
 | 9,_,_=>
  refine aA ?_
  rw[if_neg (by decide),if_neg (by decide),if_neg (by decide),if_pos (by decide)]
  dsimp only
  rw[iT,List.length_append]
  exact Sub.w [] [[(0,0)],[(1,0)],[(2,0)],[(3,0)],[(4,0)],[(5,0)],[(6,0)],[(7,0)],[(8,0)],[(11,0)]]
 | 10,_,_=>
  refine aA ?_
  rw[if_neg (by decide),if_neg (by decide),if_pos (by decide)]
  dsimp only
  rw[iT,List.length_append]
  exact Sub.w [] [[(0,0)],[(1,0)],[(2,0)],[(3,0)],[(4,0)],[(5,0)],[(6,0)],[(7,0)],[(11,0)],[(9,0)]]
 | 11,_,_=>
  have ho:0 < L.e.o.length:=of_decide_eq_true hba
  obtain⟨hs0,hs1⟩:=hI.op ho
  have hco:d5 .i64 ((L.st.getLastD 0:Nat):Int) (mapE L.co)=some none:=by rw[oU,kK fun a ha=>Nat.ne_of_lt (hs1 a ha)]; rfl
  have hlast:=wS hs0
  rw[if_neg (by decide),if_neg (by decide),if_neg (by decide),if_neg (by decide),if_pos (by decide)]
  generalize L.st.getLastD 0=z at *
  dsimp only
  rw[x7]
  refine aA ?_
  refine DK.on rfl (iZ rfl rfl rfl rfl hco) ?_
  refine DK.nil ⟨by kernel_rfl,?_⟩
  exact Sub.w [] [[(0,0)],[(1,0)],[(2,0)],[(3,0)],[(4,0)],[(5,0)],[(6,0)],[(7,0)],[(8,0)],[(9,0)]]
 | 12,_,_=>
  have ho:0 < L.e.p.length:=of_decide_eq_true (Bool.and_eq_true_iff.1 hba).1
  have hp0:=hI.pt ho
  have hlast:=wS hp0
  rw[if_neg (by decide),if_neg (by decide),if_neg (by decide),if_neg (by decide),if_neg (by decide),if_pos (by decide)]
  generalize L.po.getLastD 0=z at *
  dsimp only
  rw[x7]
  refine aA ?_
  refine DK.on rfl (iZ rfl rfl rfl rfl hwt) ?_
  refine DK.nil ⟨by kernel_rfl,?_⟩
  exact Sub.w [] [[(0,0)],[(1,0)],[(2,0)],[(3,0)],[(4,0)],[(5,0)],[(6,0)],[(7,0)],[(8,0)],[(9,0)]]
 | 13,_,_=>
  refine aA ?_
  rw[if_neg (by decide),if_neg (by decide),if_neg (by decide),if_neg (by decide),if_neg (by decide),if_neg (by decide)]
  exact Sub.w [] [[(0,0)],[(1,0)],[(2,0)],[(3,0)],[(4,0)],[(5,0)],[(6,0)],[(7,0)],[(8,0)],[(9,0)]]
 | 14,_,_=>
  refine aA ?_
  rw[if_neg (by decide),if_neg (by decide),if_neg (by decide),if_neg (by decide),if_neg (by decide),if_neg (by decide)]
  exact Sub.w [] [[(0,0)],[(1,0)],[(2,0)],[(3,0)],[(4,0)],[(5,0)],[(6,0)],[(7,0)],[(8,0)],[(9,0)]]
 | 15,_,_=>
  refine aA ?_
  rw[if_neg (by decide),if_neg (by decide),if_neg (by decide),if_neg (by decide),if_neg (by decide),if_neg (by decide)]
  exact Sub.w [] [[(0,0)],[(1,0)],[(2,0)],[(3,0)],[(4,0)],[(5,0)],[(6,0)],[(7,0)],[(8,0)],[(9,0)]]
 | 16,_,_=>
  refine aA ?_
  rw[if_neg (by decide),if_neg (by decide),if_neg (by decide),if_neg (by decide),if_neg (by decide),if_neg (by decide)]
  exact Sub.w [] [[(0,0)],[(1,0)],[(2,0)],[(3,0)],[(4,0)],[(5,0)],[(6,0)],[(7,0)],[(8,0)],[(9,0)]]
 | n+17,_,h=>exact absurd h (by omega)
theorem swP_e (r i:Nat) (x:Act) (L:Ln):(swP r i x L).e=L.e:=by
 unfold swP
 repeat' split
 all_goals rfl
set_option maxHeartbeats 16000000 in
theorem NY (p:Pg) (r:Nat) (l:List Act) (ls:List Ln) (k n:Nat) (L:Ln) (x:Act) (hn:x.k=(n:Int)) (hn6:6≤n) (hi16:(n:Int)≤16) (Q:Exit→Fr→Heap→Prop):
  AWP Tryz.prog F55.n 2 (aG [1] M4) (gG (fun fr2 H2=>Sub 2 F55.n fr2 H2 (wkF r l k) (wkH p ls { L with e:=afP n L.e x })) Q) (rJ r l k n x) (wkH p ls L):=by
 have hi16:n≤16:=by omega
 show AWP _ _ _ (.seq _ _) _ _ _
 rcases af_ok n hn6 hi16 with⟨h1,h2⟩ | ⟨g,h1,h2⟩
 ·rw[h2]
  unfold rJ wkF wkH j8 iL
  rw[h1]
  refine aA ?_
  exact Sub.w [] [[(0,0)],[(1,0)],[(2,0)],[(3,0)],[(4,0)],[(5,0)],[(6,0)],[(7,0)],[(8,0)],[(9,0)]]
 ·have hc:=h2 p ls L x
  generalize afP n L.e x=e' at *
  unfold rJ wkF
  unfold aJ at hc
  rw[hn] at hc
  rw[h1]
  refine aA ?_
  refine Reg.cv (by show 2≤(wkH p ls L).length; exact nlB rfl) rfl rfl (hc.mono ?_)
  rintro res H' ⟨rfl,rfl⟩
  unfold wkH j8 iL
  refine aA ?_
  exact Sub.w [] [[(0,0)],[(1,0)],[(2,0)],[(3,0)],[(4,0)],[(5,0)],[(6,0)],[(7,0)],[(8,0)],[(9,0)]]
theorem KF:aD Tryz.prog 96 [] (.agg (epR ep0)):=by
 refine aD.mkI cF96 (nlB rfl) ?_
 unfold epR ep0
 refine aA ?_
 exact aW.w
set_option maxHeartbeats 16000000 in
theorem LV (p:Pg) (r:Nat) (l:List Act) (hr:p.acts[r]?=some l) (ls:List Ln) (hls:ls.length≤100) (hg:∀ x∈l,x.g.length≤9223372036854775807):
  aQ Tryz.prog 55 [.ptr 0 0 0 0,.sc (.int .i64 (r:Int))] (pX p ls) fun res H'=>res=plV r (gJ p r l)∧H'=if (gJ p r l).1.2=0 then NZ p (ls++[(gJ p r l).2]) else pX p ls:=by
 refine aQ.of cF55 ?_ (nlB rfl)
 have hbe:=KF
 have e0:=fW l
 obtain⟨hrl,hrx⟩:=gEs.1 hr
 have hrow:=BY p.acts r hrl
 rw[hrx] at hrow
 unfold epR ep0 at hbe
 unfold pX NZ j8
 refine aA ?_
 rw[e0]
 by_cases h100:100 < l.length
 ·have hw:gJ p r l=((100,9),ln0):=if_pos h100
  rw[hw,dTr h100]
  unfold plV
  rw[if_neg (by decide),if_neg (by decide),if_neg (by decide)]
  refine aA ?_
  exact zY [[(0,0)],[(1,0)]] (⟨rfl,rfl⟩)
 have hw:gJ p r l=l8 p r l 0 l ln0:=if_neg h100
 rw[hw,dFa h100]
 refine aA ?_
 rw[e0]
 refine AWP.loop (σ:=Nat×Ln) (fun s=>wkF r l s.1) (fun s=>wkH p ls s.2) (fun s=>s.1≤l.length∧tP s.1 s.2∧s.2.e.o.length≤9223372036854775807∧l8 p r l s.1 (l.drop s.1) s.2=l8 p r l 0 l ln0) (fun s=>l.length - s.1) (0,ln0) ⟨Nat.zero_le _,.zero,Nat.zero_le _,rfl⟩ ?_ ?_
 ·unfold wkF wkH j8 iL ln0 ep0
  exact Sub.w [1,1,1] [[(0,0)],[(1,0)],[(2,0)],[(6,0)],[(3,0)],[(4,0)],[(5,0)],[(7,0)],[(8,0)],[(9,0)]]
 rintro⟨k,L⟩ ⟨hk,hI,hO,hG⟩
 generalize l8 p r l 0 l ln0=W at *
 dsimp only at hk hI hO hG ⊢
 unfold wkF wkH j8 iL
 refine aA ?_
 refine AWP.condD rfl (fun h=>?_) (fun h=>?_)
 ·have hd:=vZ (p:=p) (r:=r) (L:=L) h
  rw[hG] at hd
  have hx:=nX l k h
  have hgx:=hg l[k] (List.getElem_mem h)
  have hcm:=JW l L.e k h (by omega) hO
  generalize l[k]=x at *
  have hop:=DL (p:=p) (r:=r) (l:=l) (i:=k) hO hgx
  have hin:=H8 (p:=p) (r:=r) (l:=l) (x:=x) hI
  have hstep:∀ v,iM p r l k x L=v→iM p r l k x L=v:=fun _ h=>h
  by_cases hk:1≤x.k∧x.k≤16
  ·have hm:=gU hk.1 hk.2
   obtain⟨n,hn⟩:∃ n:Nat,x.k=n:=⟨x.k.toNat,by omega⟩
   have hF:=G0 p r (eW n) (lZ n) (nA n) (lE n) (.sc (.bool (dW n))) (.sc (.bool (gS n))) (.sc (.bool (lV n))) (alV n) (afV n) (by have:=tC n; unfold jI at this; simp only[List.all_cons,Bool.and_eq_true] at this ⊢; exact this.2.2.2.2) x hgx
   have hc1:=tC n
   unfold iM rO at hd hop hin
   rw[hn] at hk hm hd hop hin
   rw[if_neg (Decidable.not_not.2 hk)] at hd hop hin
   rw[show((n:Int)).toNat=n from rfl] at hm hd hop hin
   unfold aJ at hx hF
   unfold dH at hF
   unfold jI at hm hc1
   unfold epR at hcm
   rw[hn] at hx hF
   generalize i7 p.acts.length p.cells r (eW n) (lZ n) (nA n) (lE n) x=fe at *
   refine aA ?_
   refine DK.o rfl (bS rfl rfl hm) ?_
   refine aA ?_
   refine DK.on rfl (sP rfl rfl rfl rfl rfl rfl hc1) ?_
   refine aA ?_
   refine DK.nil ⟨by kernel_rfl,?_⟩
   refine AWP.sub (fr':=(8,.sc (.int .i64 (k:Int)))::(9,.cptr [.sc (.int .i64 (n:Int)),.sc (.int .i64 x.r),.sc (.int .i64 x.a),.sc (.int .i64 x.o),.sc (.int .i64 x.v),.sc (.int .i64 x.w),.list 1 (bE x.g)]) ::
    (10,.cptr [.sc (.bool (eW n)),.sc (.bool (lZ n)),.sc (.bool (nA n)),.sc (.bool (lE n)),.sc (.bool (dW n)),.sc (.bool (gS n)),.sc (.bool (lV n)),alV n,afV n])::(11,.sc (.bool true))::wkF r l k) (H':=wkH p ls L) ?_ ?_
   ·unfold wkF wkH j8 iL
    exact Sub.w [] [[(0,0)],[(1,0)],[(2,0)],[(3,0)],[(4,0)],[(5,0)],[(6,0)],[(7,0)],[(8,0)],[(9,0)]]
   unfold wkF wkH j8 iL
   refine aA ?_
   refine DK.nil ⟨by kernel_rfl,?_⟩
   refine aA ?_
   by_cases hf:fe≠0
   ·rw[if_pos hf,if_pos (show(fe,L).1≠0 from hf)] at hd
    rw[hd,show(fe != 0)=true by simpa using hf]
    unfold plV
    dsimp only
    rw[if_neg hf,if_neg hf,if_neg hf]
    refine aA ?_
    exact zY [[(0,0)],[(1,0)]] (⟨rfl,rfl⟩)
   rw[show(fe != 0)=false by simpa using hf]
   rw[if_neg hf] at hd hop hin
   refine aA ?_
   cases hrem:dW n with
   | true=>
    rw[if_pos hrem] at hd hop hin
    have hn5:n≤5:=by
     have:=of_decide_eq_true hrem
     omega
    generalize o9 l L.e k x=co at *
    refine aA ?_
    cases hco:co.2 with
    | false=>
     rw[if_neg (show¬ co.2=true by rw[hco]; simp),if_pos (show((6:Int),L).1≠0 from(by decide:(6:Int)≠0))] at hd
     rw[hd]
     unfold plV
     dsimp only
     rw[if_neg (by decide),if_neg (by decide),if_neg (by decide)]
     refine aA ?_
     exact zY [[(0,0)],[(1,0)]] (⟨rfl,rfl⟩)
    | true=>
     rw[if_pos hco] at hd hop hin
     refine aA ?_
     refine Reg.on rfl (iZ rfl rfl rfl rfl (kH k L.acc▸by rw[kK fun a ha=>Nat.ne_of_lt (hI.acc a ha)]; rfl)) ?_
     refine aA ?_
     refine⟨(k+1,{ L with acc:=L.acc++[(k,⟨x.r,x.a,co.1⟩)] }),⟨by omega,hin rfl,hop,hd.symm⟩,by omega,?_⟩
     dsimp only
     rw[s7]
     dsimp only[acR]
     exact Sub.w [] [[(0,0)],[(1,0)],[(2,0)],[(3,0)],[(4,0)],[(5,0)],[(6,0)],[(7,0)],[(8,0)],[(9,0)]]
   | false=>
    rw[if_neg (show¬ dW (n:Int)=true by rw[hrem]; simp)] at hd hop hin
    have hn6:6≤n:=by
     have:=of_decide_eq_false hrem
     omega
    obtain⟨g,cs,hal,hap⟩:=al_ok n hn6 (by omega) L.e x
    unfold epR aJ at hap
    rw[hn] at hap
    rw[hal]
    generalize hba:alP n L.e x=ba at hd hop hin hap
    refine aA ?_
    cases ba with
    | false=>
     rw[if_pos rfl,if_pos (show((6:Int),L).1≠0 from(by decide:(6:Int)≠0))] at hd
     rw[hd]
     unfold plV
     dsimp only
     rw[if_neg (by decide),if_neg (by decide),if_neg (by decide)]
     refine aA ?_
     exact zY [[(0,0)],[(1,0)]] (⟨rfl,rfl⟩)
    | true=>
     rw[if_neg (by simp)] at hd hop hin
     refine AWP.condF rfl ?_
     refine AWP.skip ?_
     refine AWP.seq ?_
     refine AWP.sub (fr':=rJ r l k n x) (H':=wkH p ls L) ?_ ?_
     ·unfold rJ wkF wkH j8 iL
      rw[← hal]
      exact Sub.w [] [[(0,0)],[(1,0)],[(2,0)],[(3,0)],[(4,0)],[(5,0)],[(6,0)],[(7,0)],[(8,0)],[(9,0)]]
     refine AWP.joinT0 (rJ r l k n x) (wkH p ls (swP r k x L)) (sw_ok p r l ls k n L x hn hn6 hk.2 h100 h hI hba _) ?_
     have haf:=fun Q=>NY p r l ls k n (swP r k x L) x hn hn6 hk.2 Q
     rw[swP_e] at haf
     refine AWP.joinB0 (wkF r l k) (wkH p ls { swP r k x L with e:=afP n L.e x }) (haf _) ?_
     unfold wkF wkH j8 iL
     refine aA ?_
     refine⟨(k+1,{ swP r k x L with e:=afP n L.e x }),⟨by omega,hin rfl,hop,hd.symm⟩,by omega,?_⟩
     exact Sub.w [] [[(0,0)],[(1,0)],[(2,0)],[(3,0)],[(4,0)],[(5,0)],[(6,0)],[(7,0)],[(8,0)],[(9,0)]]
  ·have hd2:W=((k,2),L):=by
    rw[hd]
    unfold iM
    rw[if_pos hk]
    rfl
   have hm:=EA hk
   unfold aJ at hx
   rw[hd2]
   unfold plV
   dsimp only
   rw[if_neg (by decide),if_neg (by decide),if_neg (by decide)]
   refine aA ?_
   refine DK.o rfl (bS rfl rfl hm) ?_
   refine aA ?_
   refine DK.nil ⟨by kernel_rfl,?_⟩
   refine aA ?_
   exact zY [[(0,0)],[(1,0)]] (⟨rfl,rfl⟩)
 ·have hk2:k=l.length:=by omega
  subst hk2
  have e1:=cD L.e.o
  have e2:=cD L.e.p
  rw[List.drop_length,l8] at hG
  rw[← hG]
  clear hG hw hI
  by_cases hbad:0 < L.e.o.length∨0 < L.e.p.length∨0≤L.e.l
  ·rw[if_pos hbad]
   unfold plV
   dsimp only
   rw[if_neg (by decide),if_neg (by decide),if_neg (by decide)]
   refine aA ?_
   rw[e1]
   by_cases h1:0 < L.e.o.length
   ·rw[dTr h1]
    refine aA ?_
    rw[e0]
    exact zY [[(0,0)],[(1,0)]] (⟨rfl,rfl⟩)
   rw[dFa h1]
   refine aA ?_
   rw[e2]
   by_cases h2:0 < L.e.p.length
   ·rw[dTr h2]
    refine aA ?_
    rw[e0]
    exact zY [[(0,0)],[(1,0)]] (⟨rfl,rfl⟩)
   rw[dFa h2]
   refine aA ?_
   rw[show decide (L.e.l≥0)=true from dTr (by omega)]
   refine aA ?_
   rw[e0]
   exact zY [[(0,0)],[(1,0)]] (⟨rfl,rfl⟩)
  ·rw[if_neg hbad]
   unfold plV
   dsimp only
   rw[if_pos rfl,if_pos rfl,if_pos rfl,BC,List.length_append]
   dsimp only[lnR,epR,List.cons_append,List.nil_append]
   have e3:=gM ls
   have e4:=bZ L.fe
   have e5:=bZ L.st
   have e6:=bZ L.po
   refine aA ?_
   rw[e1,dFa (by omega)]
   refine aA ?_
   rw[e2,dFa (by omega)]
   refine aA ?_
   rw[show decide (L.e.l≥0)=false from dFa (by omega)]
   refine aA ?_
   refine DK.nil ⟨by kernel_rfl,?_⟩
   refine aA ?_
   refine⟨.inr rfl,_,_,_,rfl,gY.to [] [[(0,0)],[(1,0)],[(10,7)]] ?_ (aS.cons ?_ (aS.cons (aY.cons rfl (ToB.dead _) aY.nil) (aS.cons (aY.cons rfl (ToB.rowsR (ToR.append (ToR.pure (prs _)) (show ToR _ _ [_] [_] from⟨?_,trivial⟩))) aY.nil) aS.nil))) rfl rfl rfl,⟨rfl,rfl⟩⟩
   (all_goals exact eP)
def plB:List Blk:=[.cells 2 [[.sc (.int .i64 0),.sc (.int .i64 0)]]]
def ckH (p:Pg) (ls:List Ln):Heap:=pX p ls++[plB]
def ckN (p:Pg) (ls:List Ln):Heap:=[[.cells 4 [[.sc (.int .i64 p.cells),.list 1 (bY p.acts),.tmap formsE,.hsl 3 0 0 ls.length]]],[.dead],plB,[.cells 10 (d4 ls)]]
theorem BM {a b:List Blk} {g i:Nat} {x:Blk} (h:hget [a,b] g i=some x):(g=0∧a[i]?=some x)∨(g=1∧b[i]?=some x):=by
 match g,h with
 | 0,h=>exact .inl ⟨rfl,h⟩
 | 1,h=>exact .inr ⟨rfl,h⟩
 | g+2,h=>simp[hget] at h
theorem mY {x y:Blk} {i:Nat} (h:[x][i]?=some y):i=0∧y=x:=by
 match i,h with
 | 0,h=>injection h with h; exact⟨rfl,h.symm⟩
 | i+1,h=>simp at h
theorem vJ {ρ:Nat→Nat→Option (Nat×Nat)} {g g':Nat} (p:Pg) (n:Nat) (h:ρ g 0=some (g',0)):dC ρ (.cells 4 [[.sc (.int .i64 p.cells),.list 1 (bY p.acts),.tmap formsE,.hsl g' 0 0 n]]) (.cells 4 [[.sc (.int .i64 p.cells),.list 1 (bY p.acts),.tmap formsE,.hsl g 0 0 n]]):=
 dC.one ⟨.pure (pv _),.pure (pv _),.pure (pv _),.hsl _ _ _ _ _ _ h,trivial⟩
theorem EL (p:Pg) (ls:List Ln):wQ (pX p ls) (pX p ls):=by
 refine⟨rfl,fun _ _=>rfl,fun g i x hx=>?_⟩
 rcases BM hx with⟨rfl,h⟩ | ⟨rfl,h⟩
 ·obtain⟨rfl,rfl⟩:=mY h
  exact⟨rfl,vJ p ls.length (jQ rfl)⟩
 ·obtain⟨rfl,rfl⟩:=mY h
  exact⟨rfl,.pure _ _ (prs _)⟩
theorem AK (r:Nat) (w:(Nat×Int)×Ln):bQ (plV r w):=by
 unfold plV
 exact pv _
theorem NW (p:Pg) (r:Nat) (l:List Act) (hr:p.acts[r]?=some l) (ls:List Ln) (hls:ls.length≤100) (hg:∀ x∈l,x.g.length≤9223372036854775807):
  aQ Tryz.prog 55 [.ptr 0 0 0 0,.sc (.int .i64 (r:Int))] (ckH p ls) fun res H'=>res=plV r (gJ p r l)∧H'=if (gJ p r l).1.2=0 then ckN p (ls++[(gJ p r l).2]) else ckH p ls:=by
 refine aQ.ins [plB] (LV p r l hr ls hls hg) (EL p ls) (fun a ha=>?_) ?_
 ·rcases List.mem_cons.1 ha with rfl | ha
  ·exact .ptr _ _ _ _ _ _ (jQ rfl)
  ·rw[List.mem_singleton.1 ha]; exact .sc _
 ·rintro res H' ⟨rfl,rfl⟩
  generalize gJ p r l=W
  by_cases h:W.1.2=0
  ·rw[if_pos h,if_pos h]
   refine⟨_,_,[[.cells 10 (d4 (ls++[W.2]))]],[[.cells 4 [[.sc (.int .i64 p.cells),.list 1 (bY p.acts),.tmap formsE,.hsl 3 0 0 (ls++[W.2]).length]]],[.dead]],[[.cells 10 (d4 (ls++[W.2]))]],(show NZ p (ls++[W.2])=[_,_]++_ from rfl),rfl,rfl,fun g i hs=>?_,.pure (AK r W),fun g i x hx hl=>?_,fun g i hs=>?_,fun g i x hx hl=>?_,fun g i hs=>hs,rfl,rfl⟩
   ·match g,i,hs with
    | 0,0,_=>rfl
    | 1,0,_=>rfl
    | 0,i+1,h=>simp[hget] at h
    | 1,i+1,h=>simp[hget] at h
    | g+2,i,h=>simp[hget] at h
   ·rcases BM hx with⟨rfl,h⟩ | ⟨rfl,h⟩
    ·obtain⟨rfl,rfl⟩:=mY h
     exact⟨_,rfl,rfl,vJ p _ rfl⟩
    ·obtain⟨rfl,rfl⟩:=mY h
     cases hl
   ·match g,i,hs with
    | 0,0,_=>rfl
    | 1,0,_=>rfl
    | 0,i+1,h=>simp[hget,pX] at h
    | 1,i+1,h=>simp[hget,pX] at h
    | g+2,i,h=>simp[hget,pX] at h
   ·match g,hx with
    | 0,hx=>
     obtain⟨rfl,rfl⟩:=mY hx
     exact⟨_,rfl,.pure _ _ (prs _)⟩
    | g+1,hx=>simp[hget] at hx
  ·rw[if_neg h,if_neg h]
   refine⟨_,pX p ls,[],pX p ls,[],by rw[List.append_nil],rfl,rfl,fun g i hs=>hs,.pure (AK r W),fun g i x hx hl=>?_,fun g i hs=>hs,fun g i x hx hl=>(by simp[hget] at hx),fun g i hs=>hs,rfl,by rw[List.append_nil]; rfl⟩
   rcases BM hx with⟨rfl,h⟩ | ⟨rfl,h⟩
   ·obtain⟨rfl,rfl⟩:=mY h
    exact⟨_,rfl,rfl,vJ p _ rfl⟩
   ·obtain⟨rfl,rfl⟩:=mY h
    exact⟨_,rfl,rfl,.pure _ _ (prs _)⟩
def vO (p:Pg):Nat→List (List Act)→List Ln→((Int×Int)×Int)×List Ln
 | _,[],ls=>(((0,0),0),ls)
 | r,l::m,ls=>if (gJ p r l).1.2≠0 then((((r:Int),((gJ p r l).1.1:Int)),(gJ p r l).1.2),ls) else vO p (r+1) m (ls++[(gJ p r l).2])
def bP (p:Pg):((Int×Int)×Int)×List Ln:=
 if p.cells < 1∨64 < p.cells then(((0,0),3),[]) else if p.acts.length=0∨64 < p.acts.length then(((0,0),9),[]) else vO p 0 p.acts []
def ckV (p:Pg) (ls:List Ln):AV:=.cptr [.sc (.int .i64 p.cells),.list 1 (bY p.acts),.tmap formsE,.list 10 (d4 ls)]
instance (p:Pg) (ls:List Ln):PV (ckV p ls):=by unfold ckV; infer_instance
def plA (x:Int×Int):AV:=.agg [.sc (.int .i64 x.1),.sc (.int .i64 x.2)]
instance (x:Int×Int):PV (plA x):=by unfold plA; infer_instance
def EB (p:Pg):AV:=.tup [if (bP p).1.2=0 then ckV p (bP p).2 else .sc (.pointer none),plA (bP p).1.1,.sc (.int .i64 (bP p).1.2)]
instance (p:Pg):PV (EB p):=by unfold EB plA; split<;>infer_instance
def POK (p:Pg):Prop:=∀ l∈p.acts,∀ x∈l,x.g.length≤9223372036854775807
theorem xX {p:Pg} {k:Nat} {ls:List Ln} (h:k < p.acts.length):vO p k (p.acts.drop k) ls=if (gJ p k p.acts[k]).1.2≠0 then((((k:Int),((gJ p k p.acts[k]).1.1:Int)),(gJ p k p.acts[k]).1.2),ls) else vO p (k+1) (p.acts.drop (k+1)) (ls++[(gJ p k p.acts[k]).2]):=by
 rw[List.drop_eq_getElem_cons h,vO]
set_option maxHeartbeats 16000000 in
theorem s4 (p:Pg) (hp:POK p):aD Tryz.prog 34 [dH p] (EB p):=by
 refine aD.mkI cF34 (nlB rfl) ?_
 have e0:=iN p.acts
 have ht:=IP
 have hi:PV (if (bP p).1.2=0 then ckV p (bP p).2 else .sc (.pointer none)):=by split<;>infer_instance
 unfold EB
 generalize hC:bP p=C at *
 unfold bP at hC
 unfold dH
 by_cases h1:p.cells < 1∨64 < p.cells
 ·rw[if_pos h1] at hC
  subst hC
  dsimp only
  rw[if_neg (by decide)]
  unfold plA
  dsimp only
  refine aA ?_
  by_cases h2:p.cells < 1
  ·rw[dTr h2]
   refine aA ?_
   exact aW.w
  ·rw[dFa h2]
   refine aA ?_
   rw[show decide (p.cells > 64)=true from dTr (by omega)]
   refine aA ?_
   exact aW.w
 rw[if_neg h1] at hC
 refine aA ?_
 rw[show decide (p.cells < 1)=false from dFa (by omega)]
 refine aA ?_
 rw[show decide (p.cells > 64)=false from dFa (by omega)]
 refine aA ?_
 rw[e0]
 by_cases h2:p.acts.length=0∨64 < p.acts.length
 ·rw[if_pos h2] at hC
  subst hC
  dsimp only
  rw[if_neg (by decide)]
  unfold plA
  dsimp only
  by_cases h3:p.acts.length=0
  ·rw[dTr h3]
   refine aA ?_
   exact aW.w
  ·rw[dFa h3]
   refine aA ?_
   rw[e0,dTr (by omega)]
   refine aA ?_
   exact aW.w
 rw[if_neg h2] at hC
 rw[dFa (by omega)]
 refine aA ?_
 rw[e0,dFa (by omega)]
 refine aA ?_
 refine DK.nil ⟨by kernel_rfl,?_⟩
 refine aA ?_
 rw[e0]
 refine AWP.loop (σ:=Nat×List Ln) (fun s=>[(2,.sc (.pointer none)),(3,.ptr 2 0 0 0),(4,.sc (.int .i64 0)),(5,.ptr 0 0 0 0),(36,.list 1 (bY p.acts)),(37,.sc (.int .i64 (p.acts.length:Int))),(38,.sc (.int .i64 (s.1:Int)))]) (fun s=>ckH p s.2) (fun s=>s.1≤p.acts.length∧s.2.length=s.1∧vO p s.1 (p.acts.drop s.1) s.2=C) (fun s=>p.acts.length - s.1) (0,[]) ⟨Nat.zero_le _,rfl,hC⟩ ?_ ?_
 ·unfold ckH pX j8 plB
  exact Sub.w [10] [[(2,3)],[(3,0)],[(1,0)]]
 rintro⟨k,ls⟩ ⟨hk,hls,hG⟩
 dsimp only at hk hls hG ⊢
 by_cases h:k < p.acts.length
 ·rw[xX h] at hG
  have hw:=NW p k p.acts[k] (gEg h) ls (by omega) (hp _ (List.getElem_mem h))
  generalize gJ p k p.acts[k]=W at *
  unfold plV at hw
  by_cases he:W.1.2=0
  ·rw[if_neg (by simpa using he)] at hG
   rw[if_pos he,if_pos he,if_pos he,he] at hw
   unfold ckH pX j8 plB at hw ⊢
   refine aA ?_
   rw[dTr h]
   refine aA ?_
   refine Reg.c (Nat.zero_le _) rfl (hw.mono ?_)
   rintro res H' ⟨rfl,rfl⟩
   unfold ckN plB
   refine aA ?_
   refine⟨(k+1,ls++[W.2]),⟨by omega,by simp[hls],hG⟩,by omega,?_⟩
   exact Sub.w [] [[(0,0)],[(3,0)],[(2,0)]]
  ·rw[if_pos he] at hG
   rw[if_neg he,if_neg he,if_neg he] at hw
   subst hG
   dsimp only
   rw[if_neg he]
   unfold ckH pX j8 plB at hw ⊢
   unfold plA
   dsimp only
   refine aA ?_
   rw[dTr h]
   refine aA ?_
   refine Reg.c (Nat.zero_le _) rfl (hw.mono ?_)
   rintro res H' ⟨rfl,rfl⟩
   refine aA ?_
   rw[show(W.1.2 != 0)=true by simpa using he]
   refine aA ?_
   refine DK.nil ⟨by kernel_rfl,?_⟩
   refine aA ?_
   exact aW.w
 ·have hk2:k=p.acts.length:=by omega
  subst hk2
  rw[List.drop_length,vO] at hG
  subst hG
  dsimp only
  rw[if_pos rfl]
  have e3:=gM ls
  unfold ckH pX j8 plB ckV plA
  dsimp only
  refine aA ?_
  rw[dFa (by omega)]
  refine aA ?_
  exact aW.w
theorem mW (p:Pg) (hp:POK p):aD Tryz.prog 24 [dH p] (.tup [plA (bP p).1.1,.sc (.int .i64 (bP p).1.2)]):=by
 refine aD.mkI cF24 (nlB rfl) ?_
 have hc:=s4 p hp
 unfold EB at hc
 unfold plA dH at *
 by_cases h:(bP p).1.2=0
 ·rw[if_pos h] at hc
  unfold ckV at hc
  refine aA ?_
  exact aW.w
 ·rw[if_neg h] at hc
  refine aA ?_
  exact aW.w
def kAt (l:List Act) (i:Nat):Int:=match l[i]? with
 | some x=>x.k
 | none=>0
def g7 (k:Int) (l:List Act) (n:Nat):List Nat:=(List.range n).filter fun i=>decide (kAt l i=k)
def k6 (l:List Act):Nat→Ep
 | 0=>ep0
 | i+1=>match l[i]? with
  | some x=>if 6≤x.k then afP x.k.toNat (k6 l i) x else k6 l i
  | none=>k6 l i
def sG (r:Nat) (l:List Act) (i:Nat):Option Ac:=match l[i]? with
 | some x=>if dW x.k=true then some ⟨x.r,x.a,(o9 l (k6 l i) i x).1⟩ else if x.k=6∨x.k=7 then some ⟨r,x.a,i⟩ else none
 | none=>none
theorem uI {l:List Act} {i:Nat} {x:Act} (h:l[i]?=some x):kAt l i=x.k:=by unfold kAt; rw[h]
theorem gR (k:Int) (l:List Act) (n:Nat):g7 k l (n+1)=g7 k l n++if kAt l n=k then[n] else[]:=by
 unfold g7
 rw[List.range_succ,List.filter_append]
 congr 1
 by_cases h:kAt l n=k
 ·rw[if_pos h]; simp[h]
 ·rw[if_neg h]; simp[h]
theorem eQ {k:Int} {l:List Act} {n i:Nat}:i∈g7 k l n↔i < n∧kAt l i=k:=by
 unfold g7
 rw[List.mem_filter,List.mem_range,decide_eq_true_eq]
structure yK (r:Nat) (l:List Act) (i:Nat) (L:Ln):Prop where
 e:L.e=k6 l i
 fe:L.fe=g7 8 l i
 st:L.st=g7 10 l i
 po:L.po=g7 9 l i
 acc:∀ j,cS j L.acc=if j < i then sG r l j else none
 co:L.co=(g7 11 l i).map fun c=>((g7 10 l c).getLastD 0,c)
 wt:L.wt=(g7 12 l i).map fun c=>(c,(g7 9 l c).getLastD 0)
structure l6 (p:Pg) (r:Nat) (l:List Act) (i:Nat) (x:Act):Prop where
 k1:1≤x.k
 k16:x.k≤16
 f:rO p r x=0
 rem:dW x.k=true→(o9 l (k6 l i) i x).2=true
 al:dW x.k=false→alP x.k.toNat (k6 l i) x=true
theorem v6 {β:Type} {i j:Nat} {b:β}:∀ {l:List (Nat×β)},cS i (l++[(j,b)])=match cS i l with | some c=>some c | none=>if i=j then some b else none
 | []=>rfl
 | (k,c)::l=>by
  simp only[List.cons_append,cS]
  split
  ·rfl
  ·exact v6
theorem yK.zero (r:Nat) (l:List Act):yK r l 0 ln0:=⟨rfl,rfl,rfl,rfl,fun j=>by rw[if_neg (by omega)]; rfl,rfl,rfl⟩
theorem BF {r:Nat} {l:List Act} {i:Nat} {L:Ln} (h:∀ j,cS j L.acc=if j < i then sG r l j else none) {a:Ac} (ha:sG r l i=some a) (j:Nat):cS j (L.acc++[(i,a)])=if j < i+1 then sG r l j else none:=by
 rw[v6,h j]
 by_cases h1:j < i
 ·rw[if_pos h1,if_pos (show j < i+1 by omega)]
  cases sG r l j with
  | some c=>rfl
  | none=>simp only; rw[if_neg (show¬ j=i by omega)]
 ·rw[if_neg h1]
  simp only
  by_cases h2:j=i
  ·subst h2
   rw[if_pos rfl,if_pos (by omega),ha]
  ·rw[if_neg h2,if_neg (by omega)]
theorem JS {r:Nat} {l:List Act} {i:Nat} {L:Ln} (h:∀ j,cS j L.acc=if j < i then sG r l j else none) (ha:sG r l i=none) (j:Nat):cS j L.acc=if j < i+1 then sG r l j else none:=by
 rw[h j]
 by_cases h1:j < i
 ·rw[if_pos h1,if_pos (by omega)]
 ·rw[if_neg h1]
  by_cases h2:j=i
  ·subst h2
   rw[if_pos (by omega),ha]
  ·rw[if_neg (by omega)]
theorem G8 {p:Pg} {r:Nat} {l:List Act} {i:Nat} {x:Act} {L:Ln} (hx:l[i]?=some x) (h:yK r l i L) (h0:(iM p r l i x L).1=0):l6 p r l i x∧yK r l (i+1) (iM p r l i x L).2:=by
 have hk:=uI hx
 have he:k6 l (i+1)=if 6≤x.k then afP x.k.toNat (k6 l i) x else k6 l i:=by
  rw[k6,hx]
 have hac:sG r l i=if dW x.k=true then some ⟨x.r,x.a,(o9 l (k6 l i) i x).1⟩ else if x.k=6∨x.k=7 then some ⟨r,x.a,i⟩ else none:=by
  unfold sG
  rw[hx]
 have hst:=h.st
 have hpo:=h.po
 unfold iM at *
 split at h0
 ·cases h0
 rename_i hk1
 rw[if_neg hk1]
 have hk1:=Decidable.not_not.1 hk1
 split at h0
 ·rename_i h1
  exact absurd h0 h1
 rename_i h1
 rw[if_neg h1]
 have h1:=Decidable.not_not.1 h1
 split at h0
 ·rename_i h2
  rw[if_pos h2]
  split at h0
  ·rename_i h3
   rw[if_pos h3]
   rw[h.e] at h3
   have hk5:1≤x.k∧x.k≤5:=of_decide_eq_true h2
   refine⟨⟨hk1.1,hk1.2,h1,fun _=>h3,fun e=>by rw[h2] at e; cases e⟩,⟨?_,?_,?_,?_,fun j=>?_,?_,?_⟩⟩
   ·show L.e=_
    rw[he,if_neg (by omega)]; exact h.e
   ·rw[gR,if_neg (by omega),List.append_nil]; exact h.fe
   ·rw[gR,if_neg (by omega),List.append_nil]; exact h.st
   ·rw[gR,if_neg (by omega),List.append_nil]; exact h.po
   ·rw[if_pos h2] at hac
    rw[h.e]
    exact BF h.acc hac j
   ·rw[gR,if_neg (by omega),List.append_nil]; exact h.co
   ·rw[gR,if_neg (by omega),List.append_nil]; exact h.wt
  ·cases h0
 rename_i h2
 rw[if_neg h2]
 split at h0
 ·cases h0
 rename_i h3
 rw[if_neg h3]
 clear h0
 have h6:¬ (1≤x.k∧x.k≤5):=by simpa[dW] using h2
 have h2':dW x.k=false:=by simpa using h2
 have h3:alP x.k.toNat L.e x=true:=by simpa using h3
 rw[h.e] at h3
 rw[if_pos (by omega)] at he
 rw[if_neg h2] at hac
 refine⟨⟨hk1.1,hk1.2,h1,fun e=>absurd e h2,fun _=>h3⟩,?_⟩
 have hee:afP x.k.toNat L.e x=k6 l (i+1):=by rw[he,h.e]
 have hno:∀ k:Int,x.k≠k→g7 k l (i+1)=g7 k l i:=fun k hne=>by rw[gR,if_neg (by rw[hk]; exact hne),List.append_nil]
 have hyes:∀ k:Int,x.k=k→g7 k l (i+1)=g7 k l i++[i]:=fun k hne=>by rw[gR,if_pos (by rw[hk]; exact hne)]
 clear h2 h2' h3 he
 unfold swP
 split
 ·rename_i c
  rw[if_pos c] at hac
  exact⟨hee,by rw[hno _ (by omega)]; exact h.fe,by rw[hno _ (by omega)]; exact h.st,by rw[hno _ (by omega)]; exact h.po,BF h.acc hac,by rw[hno _ (by omega)]; exact h.co,by rw[hno _ (by omega)]; exact h.wt⟩
 rename_i c
 rw[if_neg c] at hac
 have hacc:=JS h.acc hac
 split
 ·rename_i c1
  refine⟨hee,?_,by rw[hno _ (by omega)]; exact h.st,by rw[hno _ (by omega)]; exact h.po,hacc,by rw[hno _ (by omega)]; exact h.co,by rw[hno _ (by omega)]; exact h.wt⟩
  rw[hyes _ c1,← h.fe]
 split
 ·rename_i c1 c2
  refine⟨hee,by rw[hno _ (by omega)]; exact h.fe,?_,by rw[hno _ (by omega)]; exact h.po,hacc,by rw[hno _ (by omega)]; exact h.co,by rw[hno _ (by omega)]; exact h.wt⟩
  rw[hyes _ c2,← h.st]
 split
 ·rename_i c1 c2 c3
  refine⟨hee,by rw[hno _ (by omega)]; exact h.fe,by rw[hno _ (by omega)]; exact h.st,?_,hacc,by rw[hno _ (by omega)]; exact h.co,by rw[hno _ (by omega)]; exact h.wt⟩
  rw[hyes _ c3,← h.po]
 split
 ·rename_i c1 c2 c3 c4
  refine⟨hee,by rw[hno _ (by omega)]; exact h.fe,by rw[hno _ (by omega)]; exact h.st,by rw[hno _ (by omega)]; exact h.po,hacc,?_,by rw[hno _ (by omega)]; exact h.wt⟩
  rw[hyes _ c4,List.map_append,← h.co,hst]
  rfl
 split
 ·rename_i c1 c2 c3 c4 c5
  refine⟨hee,by rw[hno _ (by omega)]; exact h.fe,by rw[hno _ (by omega)]; exact h.st,by rw[hno _ (by omega)]; exact h.po,hacc,by rw[hno _ (by omega)]; exact h.co,?_⟩
  rw[hyes _ c5,List.map_append,← h.wt,hpo]
  rfl
 ·exact⟨hee,by rw[hno _ (by omega)]; exact h.fe,by rw[hno _ (by omega)]; exact h.st,by rw[hno _ (by omega)]; exact h.po,hacc,by rw[hno _ (by omega)]; exact h.co,by rw[hno _ (by omega)]; exact h.wt⟩
structure zO (p:Pg) (r:Nat) (l:List Act) (L:Ln):Prop where
 pre:yK r l l.length L
 act:∀ i x,l[i]?=some x→l6 p r l i x
 len:l.length≤100
 eo:(k6 l l.length).o.length=0
 ep:(k6 l l.length).p.length=0
 el:(k6 l l.length).l < 0
theorem BI {p:Pg} {r:Nat} {l:List Act} (hl:l.length≤100):∀(n i:Nat) (L:Ln),i+n=l.length→yK r l i L→(∀ j x,j < i→l[j]?=some x→l6 p r l j x)→(l8 p r l i (l.drop i) L).1.2=0→zO p r l (l8 p r l i (l.drop i) L).2
 | 0,i,L,hn,h,ha,h0=>by
  have:i=l.length:=by omega
  subst this
  rw[List.drop_length,l8] at h0 ⊢
  split at h0
  ·cases h0
  ·rename_i hc
   rw[if_neg hc]
   rw[h.e] at hc
   exact⟨h,fun i x hx=>ha i x (gEs.1 hx).1 hx,hl,by omega,by omega,by omega⟩
 | n+1,i,L,hn,h,ha,h0=>by
  have hi:i < l.length:=by omega
  rw[vZ hi] at h0 ⊢
  split at h0
  ·rename_i hc
   exact absurd h0 hc
  ·rename_i hc
   rw[if_neg hc]
   obtain⟨h1,h2⟩:=G8 (gEg hi) h (Decidable.not_not.1 hc)
   refine BI hl n (i+1) _ (by omega) h2 (fun j x hj hx=>?_) h0
   by_cases e:j=i
   ·subst e
    rw[gEg hi] at hx
    injection hx with hx
    subst hx
    exact h1
   ·exact ha j x (by omega) hx
theorem JA {p:Pg} {r:Nat} {l:List Act} (h:(gJ p r l).1.2=0):zO p r l (gJ p r l).2:=by
 unfold gJ at *
 split at h
 ·cases h
 ·rename_i hl
  rw[if_neg hl]
  exact BI (by omega) l.length 0 ln0 (by omega) (.zero r l) (fun j x hj=>absurd hj (Nat.not_lt_zero j)) h
structure d9 (p:Pg) (ls:List Ln):Prop where
 c1:1≤p.cells
 c64:p.cells≤64
 n1:0 < p.acts.length
 n64:p.acts.length≤64
 len:ls.length=p.acts.length
 ln:∀ r l L,p.acts[r]?=some l→ls[r]?=some L→zO p r l L
theorem FE {p:Pg}:∀(n k:Nat) (ls:List Ln),k+n=p.acts.length→ls.length=k→(∀ r l L,p.acts[r]?=some l→ls[r]?=some L→zO p r l L)→(vO p k (p.acts.drop k) ls).1.2=0→(vO p k (p.acts.drop k) ls).2.length=p.acts.length∧∀ r l L,p.acts[r]?=some l→(vO p k (p.acts.drop k) ls).2[r]?=some L→zO p r l L
 | 0,k,ls,hn,hl,ha,h0=>by
  have:k=p.acts.length:=by omega
  subst this
  rw[List.drop_length,vO]
  exact⟨hl,ha⟩
 | n+1,k,ls,hn,hl,ha,h0=>by
  have hk:k < p.acts.length:=by omega
  rw[xX hk] at h0 ⊢
  split at h0
  ·rename_i hc
   exact absurd h0 hc
  ·rename_i hc
   rw[if_neg hc]
   have hw:=JA (Decidable.not_not.1 hc)
   refine FE n (k+1) _ (by omega) (by simp[hl]) (fun r l L h1 h2=>?_) h0
   by_cases e:r < ls.length
   ·rw[List.getElem?_append_left e] at h2
    exact ha r l L h1 h2
   ·rw[List.getElem?_append_right (by omega)] at h2
    have:r=k:=by
     have:=(gEs.1 h2).1
     simp at this
     omega
    subst this
    rw[hl,Nat.sub_self] at h2
    injection h2 with h2
    rw[gEg hk] at h1
    injection h1 with h1
    rw[← h2,← h1]
    exact hw
theorem FZ {p:Pg} (h:(bP p).1.2=0):d9 p (bP p).2:=by
 unfold bP at *
 split at h
 ·cases h
 rename_i h1
 rw[if_neg h1]
 split at h
 ·cases h
 rename_i h2
 rw[if_neg h2]
 obtain⟨q1,q2⟩:=FE p.acts.length 0 [] (by omega) rfl (fun r l L _ h=>by simp at h) h
 exact⟨by omega,by omega,by omega,by omega,q1,q2⟩
def plN (r i:Nat):AV:=.agg [.sc (.int .i64 (r:Int)),.sc (.int .i64 (i:Int))]
instance (r i:Nat):PV (plN r i):=by unfold plN; infer_instance
theorem oN {l:List Act} {i:Nat} {x:Act} (h:l[i]?=some x):eB (aU l) (i:Int)=some (aJ x):=by
 obtain⟨h1,h2⟩:=gEs.1 h
 rw[nX l i h1,h2]
theorem gX {p:List (List Act)} {r:Nat} {l:List Act} (h:p[r]?=some l):eB (bY p) (r:Int)=some [.list 7 (aU l)]:=by
 obtain⟨h1,h2⟩:=gEs.1 h
 rw[BY p r h1,h2]
theorem dD {ls:List Ln} {r:Nat} {L:Ln} (h:ls[r]?=some L):eB (d4 ls) (r:Int)=some (lnR L):=by
 obtain⟨h1,h2⟩:=gEs.1 h
 rw[HO ls r h1,h2]
theorem jX (p:Pg) (ls:List Ln) {r i:Nat} {l:List Act} {x:Act} (hr:p.acts[r]?=some l) (hi:l[i]?=some x):aD Tryz.prog 37 [ckV p ls,plN r i] (.agg (aJ x)):=by
 refine aD.mkI cF37 (nlB rfl) ?_
 have h1:=gX hr
 have h2:=oN hi
 unfold ckV plN
 unfold aJ at h2 ⊢
 refine aA ?_
 refine DK.nil ⟨by kernel_rfl,?_⟩
 refine aA ?_
 exact aW.w
def jR (l:List Act) (w:Int) (L:List Nat):List Nat:=L.filter fun i=>match l[i]? with
 | some x=>decide (w∈x.g)
 | none=>false
theorem F9 {l:List Act} {w:Int} {L:List Nat} {k:Nat} {x:Act} (hk:k < L.length) (hx:l[L[k]]?=some x):jR l w (L.take (k+1))=jR l w (L.take k)++if w∈x.g then[L[k]] else[]:=by
 unfold jR
 rw[List.take_succ_eq_append_getElem hk,List.filter_append]
 congr 1
 by_cases h:w∈x.g
 ·rw[if_pos h]; simp[hx,h]
 ·rw[if_neg h]; simp[hx,h]
theorem nW (l:List Act) (w:Int) (L:List Nat):(jR l w L).length≤L.length:=List.length_filter_le _ _
set_option maxHeartbeats 8000000 in
theorem oI (p:Pg) (ls:List Ln) {r:Nat} {l:List Act} (w:Int) (L:List Nat) (hr:p.acts[r]?=some l) (hL:∀ i∈L,i < l.length) (hl:L.length≤100) (hg:∀ x∈l,x.g.length≤9223372036854775807):
  aD Tryz.prog 100 [ckV p ls,.sc (.int .i64 (r:Int)),.sc (.int .i64 w),.list 1 (bF L)] (.list 1 (bF (jR l w L))):=by
 refine aD.mkI cF100 (nlB rfl) ?_
 have h1:=gX hr
 have e0:=bZ L
 unfold ckV
 refine aA ?_
 rw[e0]
 refine AWP.loop (fun k:Nat=>[(0,.cptr [.sc (.int .i64 p.cells),.list 1 (bY p.acts),.tmap formsE,.list 10 (d4 ls)]),(1,.sc (.int .i64 (r:Int))),(2,.sc (.int .i64 w)),(9,.hsl 0 0 0 (jR l w (L.take k)).length),(12,.list 1 (bF L)),(13,.sc (.int .i64 (L.length:Int))),(14,.sc (.int .i64 (k:Int)))])
  (fun k=>[[.cells 1 (bF (jR l w (L.take k)))]]) (fun k=>k≤L.length) (fun k=>L.length - k) 0 (Nat.zero_le _) ?_ ?_
 ·exact Sub.w [1] [[(0,0)]]
 rintro k hk
 refine aA ?_
 refine AWP.condD rfl (fun h=>?_) (fun h=>?_)
 ·have h2:=oA L k h
  have hlt:=hL _ (List.getElem_mem h)
  have hx:=gEg hlt
  have hgx:=hg _ (List.getElem_mem hlt)
  have hm:=F9 (w:=w) h hx
  have hml:=nW l w (L.take k)
  rw[List.length_take] at hml
  generalize l[L[k]]=x at *
  generalize L[k]=i at *
  have h3:=oN hx
  have hc:=nO x.g w hgx
  unfold aJ at h3
  have e1:=bZ (jR l w (L.take k))
  refine aA ?_
  by_cases hw:w∈x.g
  ·rw[if_pos hw] at hm
   rw[dTr hw]
   refine aA ?_
   refine⟨k+1,by omega,by omega,?_⟩
   rw[hm,iT,List.length_append]
   exact Sub.w [] [[(2,0)]]
  ·rw[if_neg hw,List.append_nil] at hm
   rw[dFa hw]
   refine aA ?_
   refine⟨k+1,by omega,by omega,?_⟩
   rw[hm]
   exact Sub.w [] [[(0,0)]]
 ·have hk2:k=L.length:=by omega
  subst hk2
  rw[List.take_length]
  have e1:=bZ (jR l w L)
  refine aA ?_
  exact aW.w
end Go.Proofs.YtkjoolaahocgdaaGreat
