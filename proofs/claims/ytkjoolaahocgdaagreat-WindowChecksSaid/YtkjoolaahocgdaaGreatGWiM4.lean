import Derived.Test.YtkjoolaahocgdaaGreatGWiT6
import Derived.Test.YtkjoolaahocgdaaGreatGAvSo
namespace Go.Proofs.YtkjoolaahocgdaaGreat
open Go.Av Go.Proofs
set_option maxRecDepth 20000
def kAt (l:List Act) (i:Nat):Int:=match l[i]? with
 | some x=>x.k
 | none=>0
def idxs (k:Int) (l:List Act) (n:Nat):List Nat:=(List.range n).filter fun i=>decide (kAt l i=k)
def epAt (l:List Act):Nat→Ep
 | 0=>ep0
 | i+1=>match l[i]? with
  | some x=>if 6≤x.k then afP x.k.toNat (epAt l i) x else epAt l i
  | none=>epAt l i
def acAt (r:Nat) (l:List Act) (i:Nat):Option Ac:=match l[i]? with
 | some x=>if isRem x.k=true then some ⟨x.r,x.a,(compl l (epAt l i) i x).1⟩ else if x.k=6∨x.k=7 then some ⟨r,x.a,i⟩ else none
 | none=>none
theorem kAt_get {l:List Act} {i:Nat} {x:Act} (h:l[i]?=some x):kAt l i=x.k:=by unfold kAt; rw[h]
theorem idxs_succ (k:Int) (l:List Act) (n:Nat):idxs k l (n+1)=idxs k l n++if kAt l n=k then[n] else[]:=by
 unfold idxs
 rw[List.range_succ,List.filter_append]
 congr 1
 by_cases h:kAt l n=k
 ·rw[if_pos h]; simp[h]
 ·rw[if_neg h]; simp[h]
theorem idxs_mem {k:Int} {l:List Act} {n i:Nat}:i∈idxs k l n↔i < n∧kAt l i=k:=by
 unfold idxs
 rw[List.mem_filter,List.mem_range,decide_eq_true_eq]
structure PreOK (r:Nat) (l:List Act) (i:Nat) (L:Ln):Prop where
 e:L.e=epAt l i
 fe:L.fe=idxs 8 l i
 st:L.st=idxs 10 l i
 po:L.po=idxs 9 l i
 acc:∀ j,lookN j L.acc=if j < i then acAt r l j else none
 co:L.co=(idxs 11 l i).map fun c=>((idxs 10 l c).getLastD 0,c)
 wt:L.wt=(idxs 12 l i).map fun c=>(c,(idxs 9 l c).getLastD 0)
structure ActOK (p:Pg) (r:Nat) (l:List Act) (i:Nat) (x:Act):Prop where
 k1:1≤x.k
 k16:x.k≤16
 f:fieldsE p r x=0
 rem:isRem x.k=true→(compl l (epAt l i) i x).2=true
 al:isRem x.k=false→alP x.k.toNat (epAt l i) x=true
theorem lookN_snoc {β:Type} {i j:Nat} {b:β}:∀ {l:List (Nat×β)},lookN i (l++[(j,b)])=match lookN i l with | some c=>some c | none=>if i=j then some b else none
 | []=>rfl
 | (k,c)::l=>by
  simp only[List.cons_append,lookN]
  split
  ·rfl
  ·exact lookN_snoc
theorem PreOK.zero (r:Nat) (l:List Act):PreOK r l 0 ln0:=⟨rfl,rfl,rfl,rfl,fun j=>by rw[if_neg (by omega)]; rfl,rfl,rfl⟩
theorem acc_snoc {r:Nat} {l:List Act} {i:Nat} {L:Ln} (h:∀ j,lookN j L.acc=if j < i then acAt r l j else none) {a:Ac} (ha:acAt r l i=some a) (j:Nat):lookN j (L.acc++[(i,a)])=if j < i+1 then acAt r l j else none:=by
 rw[lookN_snoc,h j]
 by_cases h1:j < i
 ·rw[if_pos h1,if_pos (show j < i+1 by omega)]
  cases acAt r l j with
  | some c=>rfl
  | none=>simp only; rw[if_neg (show¬ j=i by omega)]
 ·rw[if_neg h1]
  simp only
  by_cases h2:j=i
  ·subst h2
   rw[if_pos rfl,if_pos (by omega),ha]
  ·rw[if_neg h2,if_neg (by omega)]
theorem acc_none {r:Nat} {l:List Act} {i:Nat} {L:Ln} (h:∀ j,lookN j L.acc=if j < i then acAt r l j else none) (ha:acAt r l i=none) (j:Nat):lookN j L.acc=if j < i+1 then acAt r l j else none:=by
 rw[h j]
 by_cases h1:j < i
 ·rw[if_pos h1,if_pos (by omega)]
 ·rw[if_neg h1]
  by_cases h2:j=i
  ·subst h2
   rw[if_pos (by omega),ha]
  ·rw[if_neg (by omega)]
theorem stepW_pre {p:Pg} {r:Nat} {l:List Act} {i:Nat} {x:Act} {L:Ln} (hx:l[i]?=some x) (h:PreOK r l i L) (h0:(stepW p r l i x L).1=0):ActOK p r l i x∧PreOK r l (i+1) (stepW p r l i x L).2:=by
 have hk:=kAt_get hx
 have he:epAt l (i+1)=if 6≤x.k then afP x.k.toNat (epAt l i) x else epAt l i:=by
  rw[epAt,hx]
 have hac:acAt r l i=if isRem x.k=true then some ⟨x.r,x.a,(compl l (epAt l i) i x).1⟩ else if x.k=6∨x.k=7 then some ⟨r,x.a,i⟩ else none:=by
  unfold acAt
  rw[hx]
 have hst:=h.st
 have hpo:=h.po
 unfold stepW at *
 split at h0
 ·cases h0
 rename_i hk1
 rw[if_neg hk1]
 have hk1:=Decidable.not_not.1 hk1
 split at h0
 ·rename_i h1
  exact absurd h0 h1
 rename_i h1
 rw[if_neg h1]
 have h1:=Decidable.not_not.1 h1
 split at h0
 ·rename_i h2
  rw[if_pos h2]
  split at h0
  ·rename_i h3
   rw[if_pos h3]
   rw[h.e] at h3
   have hk5:1≤x.k∧x.k≤5:=of_decide_eq_true h2
   refine⟨⟨hk1.1,hk1.2,h1,fun _=>h3,fun e=>by rw[h2] at e; cases e⟩,⟨?_,?_,?_,?_,fun j=>?_,?_,?_⟩⟩
   ·show L.e=_
    rw[he,if_neg (by omega)]; exact h.e
   ·rw[idxs_succ,if_neg (by omega),List.append_nil]; exact h.fe
   ·rw[idxs_succ,if_neg (by omega),List.append_nil]; exact h.st
   ·rw[idxs_succ,if_neg (by omega),List.append_nil]; exact h.po
   ·rw[if_pos h2] at hac
    rw[h.e]
    exact acc_snoc h.acc hac j
   ·rw[idxs_succ,if_neg (by omega),List.append_nil]; exact h.co
   ·rw[idxs_succ,if_neg (by omega),List.append_nil]; exact h.wt
  ·cases h0
 rename_i h2
 rw[if_neg h2]
 split at h0
 ·cases h0
 rename_i h3
 rw[if_neg h3]
 clear h0
 have h6:¬ (1≤x.k∧x.k≤5):=by simpa[isRem] using h2
 have h2':isRem x.k=false:=by simpa using h2
 have h3:alP x.k.toNat L.e x=true:=by simpa using h3
 rw[h.e] at h3
 rw[if_pos (by omega)] at he
 rw[if_neg h2] at hac
 refine⟨⟨hk1.1,hk1.2,h1,fun e=>absurd e h2,fun _=>h3⟩,?_⟩
 have hee:afP x.k.toNat L.e x=epAt l (i+1):=by rw[he,h.e]
 have hno:∀ k:Int,x.k≠k→idxs k l (i+1)=idxs k l i:=fun k hne=>by rw[idxs_succ,if_neg (by rw[hk]; exact hne),List.append_nil]
 have hyes:∀ k:Int,x.k=k→idxs k l (i+1)=idxs k l i++[i]:=fun k hne=>by rw[idxs_succ,if_pos (by rw[hk]; exact hne)]
 clear h2 h2' h3 he
 unfold swP
 split
 ·rename_i c
  rw[if_pos c] at hac
  exact⟨hee,by rw[hno _ (by omega)]; exact h.fe,by rw[hno _ (by omega)]; exact h.st,by rw[hno _ (by omega)]; exact h.po,acc_snoc h.acc hac,by rw[hno _ (by omega)]; exact h.co,by rw[hno _ (by omega)]; exact h.wt⟩
 rename_i c
 rw[if_neg c] at hac
 have hacc:=acc_none h.acc hac
 split
 ·rename_i c1
  refine⟨hee,?_,by rw[hno _ (by omega)]; exact h.st,by rw[hno _ (by omega)]; exact h.po,hacc,by rw[hno _ (by omega)]; exact h.co,by rw[hno _ (by omega)]; exact h.wt⟩
  rw[hyes _ c1,← h.fe]
 split
 ·rename_i c1 c2
  refine⟨hee,by rw[hno _ (by omega)]; exact h.fe,?_,by rw[hno _ (by omega)]; exact h.po,hacc,by rw[hno _ (by omega)]; exact h.co,by rw[hno _ (by omega)]; exact h.wt⟩
  rw[hyes _ c2,← h.st]
 split
 ·rename_i c1 c2 c3
  refine⟨hee,by rw[hno _ (by omega)]; exact h.fe,by rw[hno _ (by omega)]; exact h.st,?_,hacc,by rw[hno _ (by omega)]; exact h.co,by rw[hno _ (by omega)]; exact h.wt⟩
  rw[hyes _ c3,← h.po]
 split
 ·rename_i c1 c2 c3 c4
  refine⟨hee,by rw[hno _ (by omega)]; exact h.fe,by rw[hno _ (by omega)]; exact h.st,by rw[hno _ (by omega)]; exact h.po,hacc,?_,by rw[hno _ (by omega)]; exact h.wt⟩
  rw[hyes _ c4,List.map_append,← h.co,hst]
  rfl
 split
 ·rename_i c1 c2 c3 c4 c5
  refine⟨hee,by rw[hno _ (by omega)]; exact h.fe,by rw[hno _ (by omega)]; exact h.st,by rw[hno _ (by omega)]; exact h.po,hacc,by rw[hno _ (by omega)]; exact h.co,?_⟩
  rw[hyes _ c5,List.map_append,← h.wt,hpo]
  rfl
 ·exact⟨hee,by rw[hno _ (by omega)]; exact h.fe,by rw[hno _ (by omega)]; exact h.st,by rw[hno _ (by omega)]; exact h.po,hacc,by rw[hno _ (by omega)]; exact h.co,by rw[hno _ (by omega)]; exact h.wt⟩
structure LnOK (p:Pg) (r:Nat) (l:List Act) (L:Ln):Prop where
 pre:PreOK r l l.length L
 act:∀ i x,l[i]?=some x→ActOK p r l i x
 len:l.length≤100
 eo:(epAt l l.length).o.length=0
 ep:(epAt l l.length).p.length=0
 el:(epAt l l.length).l < 0
theorem walkG_ok {p:Pg} {r:Nat} {l:List Act} (hl:l.length≤100):∀(n i:Nat) (L:Ln),i+n=l.length→PreOK r l i L→(∀ j x,j < i→l[j]?=some x→ActOK p r l j x)→(walkG p r l i (l.drop i) L).1.2=0→LnOK p r l (walkG p r l i (l.drop i) L).2
 | 0,i,L,hn,h,ha,h0=>by
  have:i=l.length:=by omega
  subst this
  rw[List.drop_length,walkG] at h0 ⊢
  split at h0
  ·cases h0
  ·rename_i hc
   rw[if_neg hc]
   rw[h.e] at hc
   exact⟨h,fun i x hx=>ha i x (gEs.1 hx).1 hx,hl,by omega,by omega,by omega⟩
 | n+1,i,L,hn,h,ha,h0=>by
  have hi:i < l.length:=by omega
  rw[walkG_drop hi] at h0 ⊢
  split at h0
  ·rename_i hc
   exact absurd h0 hc
  ·rename_i hc
   rw[if_neg hc]
   obtain⟨h1,h2⟩:=stepW_pre (gEg hi) h (Decidable.not_not.1 hc)
   refine walkG_ok hl n (i+1) _ (by omega) h2 (fun j x hj hx=>?_) h0
   by_cases e:j=i
   ·subst e
    rw[gEg hi] at hx
    injection hx with hx
    subst hx
    exact h1
   ·exact ha j x (by omega) hx
theorem walkP_ok {p:Pg} {r:Nat} {l:List Act} (h:(walkP p r l).1.2=0):LnOK p r l (walkP p r l).2:=by
 unfold walkP at *
 split at h
 ·cases h
 ·rename_i hl
  rw[if_neg hl]
  exact walkG_ok (by omega) l.length 0 ln0 (by omega) (.zero r l) (fun j x hj=>absurd hj (Nat.not_lt_zero j)) h
structure CkOK (p:Pg) (ls:List Ln):Prop where
 c1:1≤p.cells
 c64:p.cells≤64
 n1:0 < p.acts.length
 n64:p.acts.length≤64
 len:ls.length=p.acts.length
 ln:∀ r l L,p.acts[r]?=some l→ls[r]?=some L→LnOK p r l L
theorem chkG_ok {p:Pg}:∀(n k:Nat) (ls:List Ln),k+n=p.acts.length→ls.length=k→(∀ r l L,p.acts[r]?=some l→ls[r]?=some L→LnOK p r l L)→(chkG p k (p.acts.drop k) ls).1.2=0→(chkG p k (p.acts.drop k) ls).2.length=p.acts.length∧∀ r l L,p.acts[r]?=some l→(chkG p k (p.acts.drop k) ls).2[r]?=some L→LnOK p r l L
 | 0,k,ls,hn,hl,ha,h0=>by
  have:k=p.acts.length:=by omega
  subst this
  rw[List.drop_length,chkG]
  exact⟨hl,ha⟩
 | n+1,k,ls,hn,hl,ha,h0=>by
  have hk:k < p.acts.length:=by omega
  rw[chkG_drop hk] at h0 ⊢
  split at h0
  ·rename_i hc
   exact absurd h0 hc
  ·rename_i hc
   rw[if_neg hc]
   have hw:=walkP_ok (Decidable.not_not.1 hc)
   refine chkG_ok n (k+1) _ (by omega) (by simp[hl]) (fun r l L h1 h2=>?_) h0
   by_cases e:r < ls.length
   ·rw[List.getElem?_append_left e] at h2
    exact ha r l L h1 h2
   ·rw[List.getElem?_append_right (by omega)] at h2
    have:r=k:=by
     have:=(gEs.1 h2).1
     simp at this
     omega
    subst this
    rw[hl,Nat.sub_self] at h2
    injection h2 with h2
    rw[gEg hk] at h1
    injection h1 with h1
    rw[← h2,← h1]
    exact hw
theorem chkP_ok {p:Pg} (h:(chkP p).1.2=0):CkOK p (chkP p).2:=by
 unfold chkP at *
 split at h
 ·cases h
 rename_i h1
 rw[if_neg h1]
 split at h
 ·cases h
 rename_i h2
 rw[if_neg h2]
 obtain⟨q1,q2⟩:=chkG_ok p.acts.length 0 [] (by omega) rfl (fun r l L _ h=>by simp at h) h
 exact⟨by omega,by omega,by omega,by omega,q1,q2⟩
def plN (r i:Nat):AV:=.agg [.sc (.int .i64 (r:Int)),.sc (.int .i64 (i:Int))]
instance (r i:Nat):PV (plN r i):=by unfold plN; infer_instance
theorem actsR_get {l:List Act} {i:Nat} {x:Act} (h:l[i]?=some x):rowIx (actsR l) (i:Int)=some (actR x):=by
 obtain⟨h1,h2⟩:=gEs.1 h
 rw[actsR_ix l i h1,h2]
theorem progR_get {p:List (List Act)} {r:Nat} {l:List Act} (h:p[r]?=some l):rowIx (progR p) (r:Int)=some [.list 7 (actsR l)]:=by
 obtain⟨h1,h2⟩:=gEs.1 h
 rw[progR_ix p r h1,h2]
theorem linesR_get {ls:List Ln} {r:Nat} {L:Ln} (h:ls[r]?=some L):rowIx (linesR ls) (r:Int)=some (lnR L):=by
 obtain⟨h1,h2⟩:=gEs.1 h
 rw[linesR_ix ls r h1,h2]
theorem act_ok (p:Pg) (ls:List Ln) {r i:Nat} {l:List Act} {x:Act} (hr:p.acts[r]?=some l) (hi:l[i]?=some x):PureRun Tryz.prog 37 [ckV p ls,plN r i] (.agg (actR x)):=by
 refine PureRun.mkI cF37 (nlB rfl) ?_
 have h1:=progR_get hr
 have h2:=actsR_get hi
 unfold ckV plN
 unfold actR at h2 ⊢
 refine walkX ?_
 refine DK.nil ⟨by kernel_rfl,?_⟩
 refine walkX ?_
 exact EndP.w
def mutP (l:List Act) (w:Int) (L:List Nat):List Nat:=L.filter fun i=>match l[i]? with
 | some x=>decide (w∈x.g)
 | none=>false
theorem mutP_snoc {l:List Act} {w:Int} {L:List Nat} {k:Nat} {x:Act} (hk:k < L.length) (hx:l[L[k]]?=some x):mutP l w (L.take (k+1))=mutP l w (L.take k)++if w∈x.g then[L[k]] else[]:=by
 unfold mutP
 rw[List.take_succ_eq_append_getElem hk,List.filter_append]
 congr 1
 by_cases h:w∈x.g
 ·rw[if_pos h]; simp[hx,h]
 ·rw[if_neg h]; simp[hx,h]
theorem mutP_len (l:List Act) (w:Int) (L:List Nat):(mutP l w L).length≤L.length:=List.length_filter_le _ _
set_option maxHeartbeats 8000000 in
theorem mutual_ok (p:Pg) (ls:List Ln) {r:Nat} {l:List Act} (w:Int) (L:List Nat) (hr:p.acts[r]?=some l) (hL:∀ i∈L,i < l.length) (hl:L.length≤100) (hg:∀ x∈l,x.g.length≤9223372036854775807):
  PureRun Tryz.prog 100 [ckV p ls,.sc (.int .i64 (r:Int)),.sc (.int .i64 w),.list 1 (natsR L)] (.list 1 (natsR (mutP l w L))):=by
 refine PureRun.mkI cF100 (nlB rfl) ?_
 have h1:=progR_get hr
 have e0:=natsR_len L
 unfold ckV
 refine walkX ?_
 rw[e0]
 refine AWP.loop (fun k:Nat=>[(0,.cptr [.sc (.int .i64 p.cells),.list 1 (progR p.acts),.tmap formsE,.list 10 (linesR ls)]),(1,.sc (.int .i64 (r:Int))),(2,.sc (.int .i64 w)),(9,.hsl 0 0 0 (mutP l w (L.take k)).length),(12,.list 1 (natsR L)),(13,.sc (.int .i64 (L.length:Int))),(14,.sc (.int .i64 (k:Int)))])
  (fun k=>[[.cells 1 (natsR (mutP l w (L.take k)))]]) (fun k=>k≤L.length) (fun k=>L.length - k) 0 (Nat.zero_le _) ?_ ?_
 ·exact Sub.w [1] [[(0,0)]]
 rintro k hk
 refine walkX ?_
 refine AWP.condD rfl (fun h=>?_) (fun h=>?_)
 ·have h2:=natsR_ix L k h
  have hlt:=hL _ (List.getElem_mem h)
  have hx:=gEg hlt
  have hgx:=hg _ (List.getElem_mem hlt)
  have hm:=mutP_snoc (w:=w) h hx
  have hml:=mutP_len l w (L.take k)
  rw[List.length_take] at hml
  generalize l[L[k]]=x at *
  generalize L[k]=i at *
  have h3:=actsR_get hx
  have hc:=contains_ok x.g w hgx
  unfold actR at h3
  have e1:=natsR_len (mutP l w (L.take k))
  refine walkX ?_
  by_cases hw:w∈x.g
  ·rw[if_pos hw] at hm
   rw[dTr hw]
   refine walkX ?_
   refine⟨k+1,by omega,by omega,?_⟩
   rw[hm,natsR_snoc,List.length_append]
   exact Sub.w [] [[(2,0)]]
  ·rw[if_neg hw,List.append_nil] at hm
   rw[dFa hw]
   refine walkX ?_
   refine⟨k+1,by omega,by omega,?_⟩
   rw[hm]
   exact Sub.w [] [[(0,0)]]
 ·have hk2:k=L.length:=by omega
  subst hk2
  rw[List.take_length]
  have e1:=natsR_len (mutP l w L)
  refine walkX ?_
  exact EndP.w
abbrev Pl:=Nat×Nat
def plR (x:Pl):List AV:=[.sc (.int .i64 (x.1:Int)),.sc (.int .i64 (x.2:Int))]
instance (x:Pl):PR (plR x):=by unfold plR; infer_instance
def plsR (l:List Pl):List (List AV):=l.map plR
theorem plsR_len (l:List Pl):(plsR l).length=l.length:=by simp[plsR]
instance (l:List Pl):PRs (plsR l):=inferInstanceAs (PRs (l.map plR))
theorem plsR_ix (l:List Pl) (k:Nat) (h:k < l.length):rowIx (plsR l) (k:Int)=some (plR l[k]):=rowIx_map plR l k h
theorem plsR_snoc (l:List Pl) (x:Pl):plsR (l++[x])=plsR l++[plR x]:=by simp[plsR]
def posN (i:Nat) (l:List Nat):Nat:=(idxE (i:Int) (l.map fun j:Nat=>(j:Int))).toNat
theorem posN_mem {i:Nat} {l:List Nat} (h:i∈l):idxE (i:Int) (l.map fun j:Nat=>(j:Int))=(posN i l:Nat)∧posN i l < l.length:=by
 have h1:=idxE_mem (i:Int) (l.map fun j:Nat=>(j:Int))
 have h2:(i:Int)∈l.map fun j:Nat=>(j:Int):=List.mem_map.2 ⟨i,h,rfl⟩
 have h3:=h1.1.2 h2
 rw[List.length_map] at h1
 unfold posN
 omega
theorem indexN_ok (l:List Nat) (i:Nat) (hl:l.length≤1000000) (h:i∈l):PureRun Tryz.prog 99 [.list 1 (natsR l),.sc (.int .i64 (i:Int))] (.sc (.int .i64 (posN i l:Nat))):=by
 have:=index_ok (l.map fun j:Nat=>(j:Int)) i (by rw[List.length_map]; omega)
 rw[← natsR_I,(posN_mem h).1] at this
 exact this
theorem grpE_ok {n r:Nat}:∀ {g seen:List Int},grpE n r seen g=0→(∀ b∈g,0≤b∧b < (n:Int)∧b≠(r:Int)∧b∉seen)∧g.Nodup
 | [],_,_=>⟨fun _ h=>(by cases h),List.nodup_nil⟩
 | b::g,seen,h=>by
  unfold grpE at h
  split at h
  ·cases h
  split at h
  ·cases h
  rename_i h1 h2
  obtain⟨q1,q2⟩:=grpE_ok h
  refine⟨fun c hc=>?_,List.nodup_cons.2 ⟨fun hb=>(q1 b hb).2.2.2 (by simp),q2⟩⟩
  rcases List.mem_cons.1 hc with rfl | hc
  ·exact⟨by omega,by omega,fun e=>h1 (.inr (.inr e)),h2⟩
  ·obtain⟨a1,a2,a3,a4⟩:=q1 c hc
   exact⟨a1,a2,a3,fun hs=>a4 (by simp[hs])⟩
theorem ActOK.grp {p:Pg} {r:Nat} {l:List Act} {i:Nat} {x:Act} (h:ActOK p r l i x) (hk:x.k=9∨x.k=10):0 < x.g.length∧(∀ b∈x.g,0≤b∧b < (p.acts.length:Int)∧b≠(r:Int))∧x.g.Nodup:=by
 have hf:=h.f
 have h1:hasRank x.k=false:=by unfold hasRank; apply dFa; omega
 have h2:hasAt x.k=false:=by unfold hasAt; apply dFa; omega
 have h3:hasOp x.k=false:=by unfold hasOp; apply dFa; omega
 have h4:hasGrp x.k=true:=by unfold hasGrp; exact dTr hk
 unfold fieldsE fieldsB at hf
 rw[h1,h2,h3,h4,if_neg (by simp),if_neg (by simp),if_neg (by simp),if_pos rfl] at hf
 split at hf
 ·cases hf
 ·rename_i h0
  obtain⟨q1,q2⟩:=grpE_ok hf
  exact⟨by omega,fun b hb=>⟨(q1 b hb).1,(q1 b hb).2.1,(q1 b hb).2.2.1⟩,q2⟩
def fenF (ls:List Ln) (r k b:Nat):Option Pl:=match ls[b]? with
 | some L=>if b≠r then(L.fe[k]?).map fun j=>(b,j) else none
 | none=>none
def fenP (ls:List Ln) (r i:Nat) (L:Ln):List Pl:=(List.range ls.length).filterMap (fenF ls r (posN i L.fe))
theorem fm_range {F:Nat→Option Pl} {k:Nat}:(List.range (k+1)).filterMap F=(List.range k).filterMap F++(F k).toList:=by
 rw[List.range_succ,List.filterMap_append]
 cases h:F k<;>simp[h]
theorem fm_len {α β:Type} (F:α→Option β) (l:List α):(l.filterMap F).length≤l.length:=List.length_filterMap_le _ _
set_option maxHeartbeats 16000000 in
theorem partners_fence (p:Pg) (ls:List Ln) {r i:Nat} {l:List Act} {x:Act} {L:Ln} (hr:p.acts[r]?=some l) (hi:l[i]?=some x) (hL:ls[r]?=some L) (hx:x.k=8) (hm:i∈L.fe) (hf:∀ L∈ls,L.fe.length≤100) (hn:ls.length≤64):
  PureRun Tryz.prog 56 [ckV p ls,plN r i] (.tup [.list 2 (plsR (fenP ls r i L)),.sc (.int .i64 ((ls.length - 1:Nat):Int))]):=by
 refine PureRun.mkI cF56 (nlB rfl) ?_
 have hact:=act_ok p ls hr hi
 have h1:=linesR_get hL
 have e0:=linesR_len ls
 have hls:0 < ls.length:=by have:=(gEs.1 hL).1; omega
 have hix:=indexN_ok L.fe i (by have:=hf L (List.mem_of_getElem? hL); omega) hm
 unfold fenP
 generalize posN i L.fe=k0 at *
 unfold ckV plN actR at *
 rw[hx] at hact
 dsimp only[lnR,epR,List.cons_append,List.nil_append] at h1
 refine walkX ?_
 refine DK.nil ⟨by kernel_rfl,?_⟩
 refine walkX ?_
 rw[e0]
 refine AWP.loop (fun b:Nat=>[(0,.cptr [.sc (.int .i64 p.cells),.list 1 (progR p.acts),.tmap formsE,.list 10 (linesR ls)]),(3,.cptr [.sc (.int .i64 (r:Int)),.sc (.int .i64 (i:Int))]),(6,.hsl 0 0 0 ((List.range b).filterMap (fenF ls r k0)).length),(8,.sc (.int .i64 (k0:Int))),(44,.list 10 (linesR ls)),(45,.sc (.int .i64 (ls.length:Int))),(46,.sc (.int .i64 (b:Int)))])
  (fun b=>[[.cells 2 (plsR ((List.range b).filterMap (fenF ls r k0)))]]) (fun b=>b≤ls.length) (fun b=>ls.length - b) 0 (Nat.zero_le _) ?_ ?_
 ·exact Sub.w [2] [[(2,0)]]
 rintro b hb
 refine walkX ?_
 refine AWP.condD rfl (fun h=>?_) (fun h=>?_)
 ·have hLb:=gEg h
  have hfb:=hf _ (List.getElem_mem h)
  have h2:=linesR_get hLb
  have hs:fenF ls r k0 b=if b≠r then(ls[b].fe[k0]?).map fun j=>(b,j) else none:=by unfold fenF; rw[hLb]
  have hr1:=fm_range (F:=fenF ls r k0) (k:=b)
  have hlen:=fm_len (fenF ls r k0) (List.range b)
  rw[List.length_range] at hlen
  generalize ls[b]=M at *
  generalize (List.range b).filterMap (fenF ls r k0)=out at *
  have e1:=plsR_len out
  have e2:=natsR_len M.fe
  dsimp only[lnR,epR,List.cons_append,List.nil_append] at h2
  refine walkX ?_
  by_cases hbr:b=r
  ·rw[if_neg (by simpa using hbr)] at hs
   rw[hs] at hr1
   rw[show(!decide (b=r))=false by simpa using hbr]
   refine walkX ?_
   refine⟨b+1,by omega,by omega,?_⟩
   rw[hr1]
   dsimp only[Option.toList]
   rw[List.append_nil]
   exact Sub.w [] [[(0,0)]]
  ·rw[if_pos hbr] at hs
   rw[show(!decide (b=r))=true by simpa using hbr]
   refine walkX ?_
   rw[e2]
   by_cases hk:k0 < M.fe.length
   ·rw[gEg hk,Option.map_some] at hs
    rw[hs] at hr1
    dsimp only[Option.toList] at hr1
    have h3:=natsR_ix M.fe k0 hk
    generalize M.fe[k0]=j at *
    rw[dTr hk]
    refine walkX ?_
    refine⟨b+1,by omega,by omega,?_⟩
    rw[hr1,plsR_snoc,List.length_append]
    dsimp only[plR]
    exact Sub.w [] [[(3,0)]]
   ·rw[List.getElem?_eq_none (by omega),Option.map_none] at hs
    rw[hs] at hr1
    dsimp only[Option.toList] at hr1
    rw[List.append_nil] at hr1
    rw[dFa hk]
    refine walkX ?_
    refine⟨b+1,by omega,by omega,?_⟩
    rw[hr1]
    exact Sub.w [] [[(0,0)]]
 ·have hb2:b=ls.length:=by omega
  subst hb2
  generalize (List.range ls.length).filterMap (fenF ls r k0)=out at *
  have e1:=plsR_len out
  refine walkX ?_
  rw[e0]
  refine walkX ?_
  refine DK.nil ⟨by kernel_rfl,?_⟩
  refine walkX ?_
  exact EndP.w
structure LK (p:Pg) (ls:List Ln):Prop where
 len:ls.length=p.acts.length
 n:ls.length≤64
 st:∀(r:Nat) (l:List Act) (L:Ln),p.acts[r]?=some l→ls[r]?=some L→(∀ i∈L.st,i < l.length)∧(∀ i∈L.po,i < l.length)∧L.st.length≤100∧L.po.length≤100
 g:∀ l∈p.acts,∀ x∈l,x.g.length≤9223372036854775807
def staF (p:Pg) (ls:List Ln) (r i:Nat) (l:List Act) (L:Ln) (b:Int):Option Pl:=match p.acts[b.toNat]?,ls[b.toNat]? with
 | some m,some M=>((mutP m (r:Int) M.po)[posN i (mutP l b L.st)]?).map fun j=>(b.toNat,j)
 | _,_=>none
def staP (p:Pg) (ls:List Ln) (r i:Nat) (l:List Act) (L:Ln) (x:Act):List Pl:=x.g.filterMap (staF p ls r i l L)
theorem fm_take {α β:Type} {F:α→Option β} {l:List α} {k:Nat} (h:k < l.length):(l.take (k+1)).filterMap F=(l.take k).filterMap F++(F l[k]).toList:=by
 rw[List.take_succ_eq_append_getElem h,List.filterMap_append]
 cases h:F l[k]<;>simp[h]
theorem mutP_mem {l:List Act} {b:Int} {L:List Nat} {i:Nat} {x:Act} (h:i∈L) (hi:l[i]?=some x) (hb:b∈x.g):i∈mutP l b L:=by
 unfold mutP
 rw[List.mem_filter]
 exact⟨h,by rw[hi]; exact dTr hb⟩
set_option maxHeartbeats 16000000 in
theorem partners_start (p:Pg) (ls:List Ln) {r i:Nat} {l:List Act} {x:Act} {L:Ln} (hK:LK p ls) (hr:p.acts[r]?=some l) (hi:l[i]?=some x) (hL:ls[r]?=some L) (hx:x.k=10) (hm:i∈L.st) (h64:x.g.length≤64) (hg:∀ b∈x.g,0≤b∧b < (p.acts.length:Int)):
  PureRun Tryz.prog 56 [ckV p ls,plN r i] (.tup [.list 2 (plsR (staP p ls r i l L x)),.sc (.int .i64 (x.g.length:Int))]):=by
 refine PureRun.mkI cF56 (nlB rfl) ?_
 have hact:=act_ok p ls hr hi
 have h1:=linesR_get hL
 have e0:=linesR_len ls
 have eg:=intsR_len x.g
 have hgl:=hK.g l (List.mem_of_getElem? hr) x (List.mem_of_getElem? hi)
 obtain⟨k1,k2,k3,k4⟩:=hK.st r l L hr hL
 have hmut:=fun w=>mutual_ok p ls w L.st hr k1 k3 (hK.g l (List.mem_of_getElem? hr))
 unfold staP
 unfold ckV plN actR at *
 rw[hx] at hact
 dsimp only[lnR,epR,List.cons_append,List.nil_append] at h1
 refine walkX ?_
 refine DK.nil ⟨by kernel_rfl,?_⟩
 refine walkX ?_
 rw[eg]
 refine AWP.loop (fun k:Nat=>[(0,.cptr [.sc (.int .i64 p.cells),.list 1 (progR p.acts),.tmap formsE,.list 10 (linesR ls)]),(3,.cptr [.sc (.int .i64 (r:Int)),.sc (.int .i64 (i:Int))]),(6,.hsl 0 0 0 ((x.g.take k).filterMap (staF p ls r i l L)).length),(7,.cptr [.sc (.bool L.e.f),.list 1 (intsR L.e.o),.list 1 (intsR L.e.p),.sc (.int .i64 L.e.l),.tmap (accE L.acc),.list 1 (natsR L.fe),.list 1 (natsR L.st),.list 1 (natsR L.po),.tmap (mapE L.co),.tmap (mapE L.wt)]),(11,.list 1 (intsR x.g)),(86,.list 1 (intsR x.g)),(87,.sc (.int .i64 (x.g.length:Int))),(88,.sc (.int .i64 (k:Int)))])
  (fun k=>[[.cells 2 (plsR ((x.g.take k).filterMap (staF p ls r i l L)))]]) (fun k=>k≤x.g.length) (fun k=>x.g.length - k) 0 (Nat.zero_le _) ?_ ?_
 ·exact Sub.w [2] [[(2,0)]]
 rintro k hk
 refine walkX ?_
 refine AWP.condD rfl (fun h=>?_) (fun h=>?_)
 ·have hb:=intsR_ix x.g k h
  have hbm:=List.getElem_mem h
  have hr1:=fm_take (F:=staF p ls r i l L) h
  have hlen:=fm_len (staF p ls r i l L) (x.g.take k)
  rw[List.length_take] at hlen
  generalize x.g[k]=b at *
  obtain⟨hb1,hb2⟩:=hg b hbm
  obtain⟨bn,rfl⟩:∃ bn:Nat,b=(bn:Int):=⟨b.toNat,by omega⟩
  have hbn:bn < p.acts.length:=by omega
  have hbl:bn < ls.length:=by rw[hK.len]; exact hbn
  have hM1:=gEg hbn
  have hM2:=gEg hbl
  have hs:staF p ls r i l L (bn:Int)=((mutP p.acts[bn] (r:Int) ls[bn].po)[posN i (mutP l (bn:Int) L.st)]?).map fun j=>(bn,j):=by
   unfold staF
   rw[Int.toNat_natCast,hM1,hM2]
  obtain⟨q1,q2,q3,q4⟩:=hK.st bn _ _ hM1 hM2
  have hmb:=mutual_ok p ls (r:Int) ls[bn].po hM1 q2 q4 (hK.g _ (List.getElem_mem hbn))
  have hml:=mutP_len l (bn:Int) L.st
  have hmm:=mutP_len p.acts[bn] (r:Int) ls[bn].po
  have h2:=linesR_get hM2
  have hix:=indexN_ok (mutP l (bn:Int) L.st) i (by omega) (mutP_mem hm hi hbm)
  have hpos:=(posN_mem (mutP_mem hm hi hbm)).2
  generalize ls[bn]=M at *
  generalize p.acts[bn]=m at *
  have hmu:=hmut (bn:Int)
  unfold ckV at hmb hmu
  generalize mutP m (r:Int) M.po=mb at *
  generalize mutP l (bn:Int) L.st=ma at *
  generalize posN i ma=k0 at *
  generalize (x.g.take k).filterMap (staF p ls r i l L)=out at *
  have e1:=plsR_len out
  have e2:=natsR_len mb
  dsimp only[lnR,epR,List.cons_append,List.nil_append] at h2
  refine walkX ?_
  refine DK.nil ⟨by kernel_rfl,?_⟩
  refine walkX ?_
  refine DK.nil ⟨by kernel_rfl,?_⟩
  refine walkX ?_
  rw[e2]
  by_cases hk0:k0 < mb.length
  ·rw[gEg hk0,Option.map_some] at hs
   rw[hs] at hr1
   dsimp only[Option.toList] at hr1
   have h3:=natsR_ix mb k0 hk0
   generalize mb[k0]=j at *
   rw[dTr hk0]
   refine walkX ?_
   refine⟨k+1,by omega,by omega,?_⟩
   rw[hr1,plsR_snoc,List.length_append]
   dsimp only[plR]
   exact Sub.w [] [[(4,0)]]
  ·rw[List.getElem?_eq_none (by omega),Option.map_none] at hs
   rw[hs] at hr1
   dsimp only[Option.toList] at hr1
   rw[List.append_nil] at hr1
   rw[dFa hk0]
   refine walkX ?_
   refine⟨k+1,by omega,by omega,?_⟩
   rw[hr1]
   exact Sub.w [] [[(0,0)]]
 ·have hb2:k=x.g.length:=by omega
  subst hb2
  rw[List.take_length]
  generalize x.g.filterMap (staF p ls r i l L)=out at *
  have e1:=plsR_len out
  refine walkX ?_
  rw[eg]
  exact EndP.w
def waiF (p:Pg) (ls:List Ln) (r q:Nat) (l:List Act) (L:Ln) (b:Int):Option Pl:=match p.acts[b.toNat]?,ls[b.toNat]? with
 | some m,some M=>((mutP m (r:Int) M.st)[posN q (mutP l b L.po)]?).map fun j=>(b.toNat,(lookN j M.co).getD 0)
 | _,_=>none
def waiP (p:Pg) (ls:List Ln) (r q:Nat) (l:List Act) (L:Ln) (y:Act):List Pl:=y.g.filterMap (waiF p ls r q l L)
set_option maxHeartbeats 16000000 in
theorem partners_wait (p:Pg) (ls:List Ln) {r i q:Nat} {l:List Act} {x y:Act} {L:Ln} (hK:LK p ls) (hr:p.acts[r]?=some l) (hi:l[i]?=some x) (hL:ls[r]?=some L) (hx:x.k=12) (hq:lookN i L.wt=some q) (hy:l[q]?=some y) (hm:q∈L.po) (h64:y.g.length≤64) (hg:∀ b∈y.g,0≤b∧b < (p.acts.length:Int)):
  PureRun Tryz.prog 56 [ckV p ls,plN r i] (.tup [.list 2 (plsR (waiP p ls r q l L y)),.sc (.int .i64 (y.g.length:Int))]):=by
 refine PureRun.mkI cF56 (nlB rfl) ?_
 have hact:=act_ok p ls hr hi
 have h1:=linesR_get hL
 have e0:=linesR_len ls
 have eg:=intsR_len y.g
 have hgl:=hK.g l (List.mem_of_getElem? hr) y (List.mem_of_getElem? hy)
 obtain⟨k1,k2,k3,k4⟩:=hK.st r l L hr hL
 have hmut:=fun w=>mutual_ok p ls w L.po hr k2 k4 (hK.g l (List.mem_of_getElem? hr))
 have hpr:=progR_get hr
 have har:=actsR_get hy
 have hwt:mfind .i64 (i:Int) (mapE L.wt)=some (some (.sc (.int .i64 (q:Int)))):=by rw[mfind_map,hq]; rfl
 unfold waiP
 unfold ckV plN actR at *
 rw[hx] at hact
 dsimp only[lnR,epR,List.cons_append,List.nil_append] at h1
 refine walkX ?_
 refine DK.nil ⟨by kernel_rfl,?_⟩
 refine walkX ?_
 refine Reg.o rfl (dstep_lookC rfl rfl hwt) ?_
 refine walkX ?_
 refine DK.nil ⟨by kernel_rfl,?_⟩
 refine walkX ?_
 rw[eg]
 refine AWP.loop (fun k:Nat=>[(0,.cptr [.sc (.int .i64 p.cells),.list 1 (progR p.acts),.tmap formsE,.list 10 (linesR ls)]),(3,.cptr [.sc (.int .i64 (r:Int)),.sc (.int .i64 (i:Int))]),(6,.hsl 0 0 0 ((y.g.take k).filterMap (waiF p ls r q l L)).length),(7,.cptr [.sc (.bool L.e.f),.list 1 (intsR L.e.o),.list 1 (intsR L.e.p),.sc (.int .i64 L.e.l),.tmap (accE L.acc),.list 1 (natsR L.fe),.list 1 (natsR L.st),.list 1 (natsR L.po),.tmap (mapE L.co),.tmap (mapE L.wt)]),(16,.sc (.int .i64 (q:Int))),(17,.list 1 (intsR y.g)),(152,.list 1 (intsR y.g)),(153,.sc (.int .i64 (y.g.length:Int))),(154,.sc (.int .i64 (k:Int)))])
  (fun k=>[[.cells 2 (plsR ((y.g.take k).filterMap (waiF p ls r q l L)))]]) (fun k=>k≤y.g.length) (fun k=>y.g.length - k) 0 (Nat.zero_le _) ?_ ?_
 ·exact Sub.w [2] [[(3,0)]]
 rintro k hk
 refine walkX ?_
 refine AWP.condD rfl (fun h=>?_) (fun h=>?_)
 ·have hb:=intsR_ix y.g k h
  have hbm:=List.getElem_mem h
  have hr1:=fm_take (F:=waiF p ls r q l L) h
  have hlen:=fm_len (waiF p ls r q l L) (y.g.take k)
  rw[List.length_take] at hlen
  generalize y.g[k]=b at *
  obtain⟨hb1,hb2⟩:=hg b hbm
  obtain⟨bn,rfl⟩:∃ bn:Nat,b=(bn:Int):=⟨b.toNat,by omega⟩
  have hbn:bn < p.acts.length:=by omega
  have hbl:bn < ls.length:=by rw[hK.len]; exact hbn
  have hM1:=gEg hbn
  have hM2:=gEg hbl
  have hs:waiF p ls r q l L (bn:Int)=((mutP p.acts[bn] (r:Int) ls[bn].st)[posN q (mutP l (bn:Int) L.po)]?).map fun j=>(bn,(lookN j ls[bn].co).getD 0):=by
   unfold waiF
   rw[Int.toNat_natCast,hM1,hM2]
  obtain⟨q1,q2,q3,q4⟩:=hK.st bn _ _ hM1 hM2
  have hmb:=mutual_ok p ls (r:Int) ls[bn].st hM1 q1 q3 (hK.g _ (List.getElem_mem hbn))
  have hml:=mutP_len l (bn:Int) L.po
  have hmm:=mutP_len p.acts[bn] (r:Int) ls[bn].st
  have h2:=linesR_get hM2
  have hix:=indexN_ok (mutP l (bn:Int) L.po) q (by omega) (mutP_mem hm hy hbm)
  have hpos:=(posN_mem (mutP_mem hm hy hbm)).2
  generalize ls[bn]=M at *
  generalize p.acts[bn]=m at *
  have hmu:=hmut (bn:Int)
  unfold ckV at hmb hmu
  generalize mutP m (r:Int) M.st=mb at *
  generalize mutP l (bn:Int) L.po=ma at *
  generalize posN q ma=k0 at *
  generalize (y.g.take k).filterMap (waiF p ls r q l L)=out at *
  have e1:=plsR_len out
  have e2:=natsR_len mb
  dsimp only[lnR,epR,List.cons_append,List.nil_append] at h2
  refine walkX ?_
  refine DK.nil ⟨by kernel_rfl,?_⟩
  refine walkX ?_
  rw[e2]
  by_cases hk0:k0 < mb.length
  ·rw[gEg hk0,Option.map_some] at hs
   rw[hs] at hr1
   dsimp only[Option.toList] at hr1
   have h3:=natsR_ix mb k0 hk0
   generalize mb[k0]=j at *
   rw[dTr hk0]
   have hco:mfind .i64 (j:Int) (mapE M.co)=some ((lookN j M.co).map fun a:Nat=>.sc (.int .i64 (a:Int))):=mfind_map j M.co
   generalize lookN j M.co=oc at *
   cases oc with
   | none=>
    dsimp only[Option.getD,Option.map] at hr1 hco
    refine walkX ?_
    refine DK.o rfl (dstep_lookC rfl rfl hco) ?_
    refine walkX ?_
    refine DK.nil ⟨by kernel_rfl,?_⟩
    refine walkX ?_
    refine⟨k+1,by omega,by omega,?_⟩
    rw[hr1,plsR_snoc,List.length_append]
    dsimp only[plR]
    exact Sub.w [] [[(2,17)]]
   | some c=>
    dsimp only[Option.getD,Option.map] at hr1 hco
    refine walkX ?_
    refine DK.o rfl (dstep_lookC rfl rfl hco) ?_
    refine walkX ?_
    refine DK.nil ⟨by kernel_rfl,?_⟩
    refine walkX ?_
    refine⟨k+1,by omega,by omega,?_⟩
    rw[hr1,plsR_snoc,List.length_append]
    dsimp only[plR]
    exact Sub.w [] [[(2,17)]]
  ·rw[List.getElem?_eq_none (by omega),Option.map_none] at hs
   rw[hs] at hr1
   dsimp only[Option.toList] at hr1
   rw[List.append_nil] at hr1
   rw[dFa hk0]
   refine walkX ?_
   refine⟨k+1,by omega,by omega,?_⟩
   rw[hr1]
   exact Sub.w [] [[(0,0)]]
 ·have hb2:k=y.g.length:=by omega
  subst hb2
  rw[List.take_length]
  generalize y.g.filterMap (waiF p ls r q l L)=out at *
  have e1:=plsR_len out
  refine walkX ?_
  rw[eg]
  exact EndP.w
set_option maxHeartbeats 8000000 in
theorem partners_none (p:Pg) (ls:List Ln) {r i:Nat} {l:List Act} {x:Act} {L:Ln} (hr:p.acts[r]?=some l) (hi:l[i]?=some x) (hL:ls[r]?=some L) (h8:x.k≠8) (h10:x.k≠10) (h12:x.k≠12):
  PureRun Tryz.prog 56 [ckV p ls,plN r i] (.tup [.list 2 [],.sc (.int .i64 0)]):=by
 refine PureRun.mkI cF56 (nlB rfl) ?_
 have hact:=act_ok p ls hr hi
 have h1:=linesR_get hL
 unfold ckV plN actR at *
 dsimp only[lnR,epR,List.cons_append,List.nil_append] at h1
 refine walkX ?_
 refine DK.nil ⟨by kernel_rfl,?_⟩
 refine walkX ?_
 rw[show(x.k == 8)=false by simpa using h8]
 refine walkX ?_
 rw[show(x.k == 10)=false by simpa using h10]
 refine walkX ?_
 rw[show(x.k == 12)=false by simpa using h12]
 refine walkX ?_
 exact EndP.w
theorem afP_p (k:Nat) (e:Ep) (x:Act):(afP k e x).p=if k=9 then x.g else if k=12 then[] else e.p:=by
 unfold afP
 split<;>first | rfl | (rename_i h1 h2 h3 h4 h5 h6 h7 h8; rw[if_neg (fun e=>h2 e),if_neg (fun e=>h5 e)])
theorem epAt_p (l:List Act):∀ i:Nat,(epAt l i).p=[]∨∃ y,0 < (idxs 9 l i).length∧l[(idxs 9 l i).getLastD 0]?=some y∧y.k=9∧(epAt l i).p=y.g
 | 0=>.inl rfl
 | i+1=>by
  have ih:=epAt_p l i
  rw[epAt,idxs_succ]
  cases hx:l[i]? with
  | none=>
   have hk:kAt l i=0:=by unfold kAt; rw[hx]
   rw[if_neg (by omega),List.append_nil]
   exact ih
  | some x=>
   have hk:=kAt_get hx
   simp only
   by_cases h6:6≤x.k
   ·rw[if_pos h6,afP_p]
    by_cases h9:x.k=9
    ·rw[if_pos (by omega),if_pos (by omega)]
     right
     refine⟨x,by simp,?_,h9,rfl⟩
     rw[getLastD_snoc]
     exact hx
    ·rw[if_neg (by omega),if_neg (show¬ kAt l i=9 by omega),List.append_nil]
     split
     ·exact .inl rfl
     ·exact ih
   ·rw[if_neg h6,if_neg (by omega),List.append_nil]
    exact ih
theorem idxs_len (k:Int) (l:List Act) (n:Nat):(idxs k l n).length≤n:=by
 unfold idxs
 refine Nat.le_trans (List.length_filter_le _ _) ?_
 rw[List.length_range]
 exact Nat.le_refl _
theorem CkOK.get {p:Pg} {ls:List Ln} (h:CkOK p ls) {r:Nat} {l:List Act} (hr:p.acts[r]?=some l):∃ L,ls[r]?=some L∧LnOK p r l L:=by
 have:=(gEs.1 hr).1
 have hl:r < ls.length:=by rw[h.len]; exact this
 exact⟨ls[r],gEg hl,h.ln r l _ hr (gEg hl)⟩
theorem CkOK.lk {p:Pg} {ls:List Ln} (h:CkOK p ls) (hp:POK p):LK p ls:=by
 refine⟨h.len,by rw[h.len]; exact h.n64,fun r l L hr hL=>?_,hp⟩
 have hl:=h.ln r l L hr hL
 have:=hl.len
 have h1:=idxs_len 10 l l.length
 have h2:=idxs_len 9 l l.length
 rw[hl.pre.st,hl.pre.po]
 exact⟨fun i hi=>(idxs_mem.1 hi).1,fun i hi=>(idxs_mem.1 hi).1,by omega,by omega⟩
theorem nodup_lenI:∀(n:Nat) (l:List Int),l.Nodup→(∀ x∈l,0≤x∧x < n)→l.length≤n
 | 0,[],_,_=>Nat.le_refl _
 | 0,x::l,_,h=>by have:=h x (by simp); omega
 | n+1,l,hn,h=>by
  have h1:=nodup_lenI n (l.filter fun x=>decide (x≠(n:Int))) (hn.filter _) fun x hx=>by
   obtain⟨a,b⟩:=List.mem_filter.1 hx
   have:=h x a
   have b:x≠(n:Int):=of_decide_eq_true b
   omega
  have h2:l.length≤(l.filter fun x=>decide (x≠(n:Int))).length+1:=by
   by_cases hm:(n:Int)∈l
   ·have e1:l.erase (n:Int)=l.filter fun x=>decide (x≠(n:Int)):=by
     rw[hn.erase_eq_filter]
     exact List.filter_congr fun x _=>by simp[Bool.beq_eq_decide_eq,bne]
    have:=List.length_erase_of_mem hm
    rw[← e1]
    omega
   ·have:l.filter (fun x=>decide (x≠(n:Int)))=l:=List.filter_eq_self.2 fun x hx=>dTr fun e=>hm (e▸hx)
    rw[this]
    omega
  omega
theorem nodup_len {g:List Int} {n:Nat} (h:g.Nodup) (hg:∀ b∈g,0≤b∧b < (n:Int)):g.length≤n:=nodup_lenI n g h hg
theorem wt_look {l:List Act} {i:Nat} (hi:i < l.length) (hk:kAt l i=12):lookN i ((idxs 12 l l.length).map fun c=>(c,(idxs 9 l c).getLastD 0))=some ((idxs 9 l i).getLastD 0):=by
 have hm:i∈idxs 12 l l.length:=idxs_mem.2 ⟨hi,hk⟩
 generalize idxs 12 l l.length=L at hm
 induction L with
 | nil=>cases hm
 | cons a L ih=>
  rw[List.map_cons,lookN]
  by_cases h:i=a
  ·rw[if_pos h,h]
  ·rw[if_neg h]
   exact ih ((List.mem_cons.1 hm).resolve_left h)
def partP (p:Pg) (ls:List Ln) (r i:Nat):List Pl×Nat:=match p.acts[r]?,ls[r]? with
 | some l,some L=>match l[i]? with
  | some x=>if x.k=8 then(fenP ls r i L,ls.length - 1)
   else if x.k=10 then(staP p ls r i l L x,x.g.length)
   else if x.k=12 then match l[(idxs 9 l i).getLastD 0]? with
    | some y=>(waiP p ls r ((idxs 9 l i).getLastD 0) l L y,y.g.length)
    | none=>([],0)
   else([],0)
  | none=>([],0)
 | _,_=>([],0)
theorem idxs_sub {k:Int} {l:List Act} {i n q:Nat} (h:q∈idxs k l i) (hi:i≤n):q∈idxs k l n:=by
 have:=idxs_mem.1 h
 exact idxs_mem.2 ⟨by omega,this.2⟩
theorem partners_ok {p:Pg} {ls:List Ln} (hC:CkOK p ls) (hp:POK p) {r i:Nat} {l:List Act} {x:Act} (hr:p.acts[r]?=some l) (hi:l[i]?=some x):
  PureRun Tryz.prog 56 [ckV p ls,plN r i] (.tup [.list 2 (plsR (partP p ls r i).1),.sc (.int .i64 ((partP p ls r i).2:Int))]):=by
 obtain⟨L,hL,hO⟩:=hC.get hr
 have hK:=hC.lk hp
 have hil:=(gEs.1 hi).1
 have hk:=kAt_get hi
 have ha:=hO.act i x hi
 unfold partP
 rw[hr,hL]
 simp only[hi]
 by_cases h8:x.k=8
 ·rw[if_pos h8]
  refine partners_fence p ls hr hi hL h8 ?_ (fun M hM=>?_) hK.n
  ·rw[hO.pre.fe]
   exact idxs_mem.2 ⟨hil,by omega⟩
  ·obtain⟨b,hb,rfl⟩:=List.getElem_of_mem hM
   have hb2:b < p.acts.length:=by rw[← hC.len]; exact hb
   have hm:=hC.ln b _ _ (gEg hb2) (gEg hb)
   rw[hm.pre.fe]
   have:=idxs_len 8 p.acts[b] p.acts[b].length
   have:=hm.len
   omega
 rw[if_neg h8]
 by_cases h10:x.k=10
 ·rw[if_pos h10]
  obtain⟨g1,g2,g3⟩:=ha.grp (.inr h10)
  have:=nodup_len g3 fun b hb=>⟨(g2 b hb).1,(g2 b hb).2.1⟩
  have:=hC.n64
  refine partners_start p ls hK hr hi hL h10 ?_ (by omega) fun b hb=>⟨(g2 b hb).1,(g2 b hb).2.1⟩
  rw[hO.pre.st]
  exact idxs_mem.2 ⟨hil,by omega⟩
 rw[if_neg h10]
 by_cases h12:x.k=12
 ·rw[if_pos h12]
  have hal:=ha.al (by unfold isRem; apply dFa; omega)
  rw[show x.k.toNat=12 by omega] at hal
  have hp0:0 < (epAt l i).p.length:=of_decide_eq_true (Bool.and_eq_true_iff.1 hal).1
  rcases epAt_p l i with e | ⟨y,y1,y2,y3,y4⟩
  ·rw[e] at hp0
   cases hp0
  rw[y2]
  have hq:=getLastD_mem y1
  have hqi:=idxs_mem.1 hq
  obtain⟨g1,g2,g3⟩:=(hO.act _ y y2).grp (.inl y3)
  have:=nodup_len g3 fun b hb=>⟨(g2 b hb).1,(g2 b hb).2.1⟩
  have:=hC.n64
  refine partners_wait p ls hK hr hi hL h12 ?_ y2 ?_ (by omega) fun b hb=>⟨(g2 b hb).1,(g2 b hb).2.1⟩
  ·rw[hO.pre.wt]
   exact wt_look hil (by omega)
  ·rw[hO.pre.po]
   exact idxs_sub hq (by omega)
 rw[if_neg h12]
 exact partners_none p ls hr hi hL h8 h10 h12
def knR (a:List Nat):List AV:=a.map fun n:Nat=>.sc (.int .i64 (n:Int))
instance (a:List Nat):PR (knR a):=inferInstanceAs (PR (a.map fun n:Nat=>AV.sc (.int .i64 (n:Int))))
theorem knR_len (a:List Nat):(knR a).length=a.length:=by simp[knR]
theorem knR_get {a:List Nat} {b:Nat} (h:b < a.length):(knR a)[b]?=some (.sc (.int .i64 (a[b]:Int))):=by simp[knR,h]
theorem knR_set (a:List Nat) (b n:Nat):(knR a).set b (.sc (.int .i64 (n:Int)))=knR (a.set b n):=by simp[knR,List.map_set]
theorem knR_cell1 (a:List Nat):(knR a).all AV.cell1=true:=by
 rw[List.all_eq_true]
 intro c hc
 obtain⟨n,_,rfl⟩:=List.mem_map.1 hc
 rfl
def kmax (a b:List Nat):List Nat:=List.zipWith max a b
theorem kmax_len {a b:List Nat} (h:a.length=b.length):(kmax a b).length=a.length:=by simp[kmax,h]
def kpre (a b:List Nat) (j:Nat):List Nat:=(kmax a b).take j++a.drop j
theorem kpre_len {a b:List Nat} {j:Nat} (h:a.length=b.length) (hj:j≤a.length):(kpre a b j).length=a.length:=by
 unfold kpre
 rw[List.length_append,List.length_take,List.length_drop,kmax_len h]
 omega
theorem kpre_get {a b:List Nat} {j:Nat} (h:a.length=b.length) (hj:j < a.length):(kpre a b j)[j]?=some a[j]:=by
 unfold kpre
 rw[List.getElem?_append_right (by rw[List.length_take,kmax_len h]; omega),List.length_take,kmax_len h,Nat.min_eq_left (by omega),Nat.sub_self,List.getElem?_drop]
 simp[hj]
theorem kpre_succ {a b:List Nat} {j:Nat} (h:a.length=b.length) (hj:j < a.length):(kpre a b j).set j (max a[j] (b[j]'(by omega)))=kpre a b (j+1):=by
 unfold kpre
 have h1:((kmax a b).take j).length=j:=by rw[List.length_take,kmax_len h]; omega
 rw[List.set_append_right _ _ (by omega),h1,Nat.sub_self,List.drop_eq_getElem_cons hj,List.set_cons_zero,List.take_succ_eq_append_getElem (by rw[kmax_len h]; exact hj),List.append_assoc]
 congr 1
 simp[kmax]
theorem kpre_all {a b:List Nat} (h:a.length=b.length):kpre a b a.length=kmax a b:=by
 unfold kpre
 rw[List.drop_length,List.append_nil,List.take_of_length_le (by rw[kmax_len h]; exact Nat.le_refl _)]
theorem cellsEq_kn:∀(a b:List Nat),a.length=b.length→∀ ks:List Go.Av.LK,ks=List.replicate a.length .i→cellsEq ks (a.map fun n:Nat=>Value.int .i64 (n:Int)) (b.map fun n:Nat=>Value.int .i64 (n:Int))=some (decide (a=b))
 | [],[],_,ks,h=>by subst h; rfl
 | x::a,y::b,h,ks,hk=>by
  subst hk
  have ih:=cellsEq_kn a b (by simpa using h) _ rfl
  rw[List.length_cons,List.replicate_succ,List.map_cons,List.map_cons]
  simp only[cellsEq,leafEq,decide_true]
  rw[ih]
  simp only[oIn]
  rw[Bool.eq_iff_iff]
  simp
  intro _
  constructor<;>omega
theorem scs_kn (a:List Nat):scs (knR a)=some (a.map fun n:Nat=>Value.int .i64 (n:Int)):=by
 induction a with
 | nil=>rfl
 | cons x a ih=>
  show(match scs (knR a) with | some q=>some (Value.int .i64 (x:Int)::q) | none=>none)=_
  rw[ih]
  rfl
theorem dstep_neK {g i:Nat} {fr:Fr} {H:Heap} {x y:Operand} {a b:List Nat} {ks:List Go.Av.LK} (hx:ev fr x=.agg (knR a)) (hy:ev fr y=.agg (knR b)) (hl:a.length=b.length) (hk:ks=List.replicate a.length .i):
  dstep g i (.xop (.eqAgg true ks) [x,y]) fr H=some (.sc (.bool (!decide (a=b))),H):=by
 simp only[dstep,avals,List.map_cons,List.map_nil,hx,hy,xstep,flatOf,scs_kn,cellsEq_kn a b hl ks hk,xpure]
 simp
theorem set_self' {α:Type} {l:List α} {q:Nat} {a:α} (h:l[q]?=some a):l.set q a=l:=by
 obtain⟨h1,rfl⟩:=gEs.1 h
 exact List.set_getElem_self h1
theorem join1 (rows:List (List Nat)) (q:Nat) (a b:List Nat) (ha:a.length=64) (hb:b.length=64) (hq:rows[q]?=some a):
  CallOK Tryz.prog 57 [.ptr 0 0 q 0,.agg (knR b)] [[.cells 64 (rows.map knR)]] fun res H'=>res=.sc (.bool (!decide (kmax a b=a)))∧H'=[[.cells 64 ((rows.set q (kmax a b)).map knR)]]:=by
 refine CallOK.of cF57 ?_ (nlB rfl)
 have e1:=knR_len a
 rw[ha] at e1
 have e2:=knR_len b
 rw[hb] at e2
 have c1:=knR_cell1 a
 have c2:=knR_cell1 b
 have hq1:(rows.map knR)[q]?=some (knR a):=by rw[List.getElem?_map,hq]; rfl
 refine AWP.seq ?_
 refine AWP.region ?_
 refine Reg.o rfl (dstep_boxN rfl c2 e2) ?_
 refine walkX ?_
 have hqr:q < rows.length:=(gEs.1 hq).1
 refine AWP.loop (fun j:Nat=>[(0,.ptr 0 0 q 0),(5,.cptr (knR a)),(11,.agg (knR b)),(12,.sc (.int .i64 (j:Int)))]) (fun j=>[[.cells 64 ((rows.set q (kpre a b j)).map knR)]]) (fun j=>j≤64) (fun j=>64 - j) 0 (Nat.zero_le _) ?_ ?_
 ·have hz:rows.set q (kpre a b 0)=rows:=by
   have:kpre a b 0=a:=by unfold kpre; simp
   rw[this]
   exact set_self' hq
  rw[hz]
  exact Sub.w [] [[(0,0)]]
 rintro j hj
 refine walkX ?_
 refine AWP.condD rfl (fun h=>?_) (fun h=>?_)
 ·have hb1:=knR_get (a:=b) (b:=j) (by omega)
  have hrow:((rows.set q (kpre a b j)).map knR)[q]?=some (knR (kpre a b j)):=by simp[hqr]
  have hk:=kpre_len (a:=a) (b:=b) (j:=j) (by omega) (by omega)
  have hc:(knR (kpre a b j))[j]?=some (.sc (.int .i64 (a[j]:Int))):=by
   have:=kpre_get (a:=a) (b:=b) (j:=j) (by omega) (by omega)
   simp[knR,this]
  have hs:=kpre_succ (a:=a) (b:=b) (j:=j) (by omega) (by omega)
  have hl64:j < (knR (kpre a b j)).length:=by rw[knR_len]; omega
  generalize b[j]=y at *
  generalize a[j]=z at *
  refine walkX ?_
  refine Reg.o rfl (dstep_idxVal rfl rfl rfl h hb1) ?_
  refine walkX ?_
  refine DK.nil ⟨by kernel_rfl,?_⟩
  refine walkX ?_
  refine⟨j+1,by omega,by omega,?_⟩
  have hset:((rows.set q (kpre a b j)).map knR).set q ((knR (kpre a b j)).set j (.sc (.int .i64 ((max z y:Nat):Int))))=(rows.set q (kpre a b (j+1))).map knR:=by
   rw[knR_set,hs,← List.map_set,List.set_set]
  exact Sub.w [] [[(0,0)]]
 ·have hj2:j=64:=by omega
  subst hj2
  have hka:kpre a b 64=kmax a b:=by
   have:=kpre_all (a:=a) (b:=b) (by omega)
   rwa[ha] at this
  rw[hka]
  have hkm:=kmax_len (a:=a) (b:=b) (by omega)
  have e3:=knR_len (kmax a b)
  rw[hkm,ha] at e3
  have hrow:((rows.set q (kmax a b)).map knR)[q]?=some (knR (kmax a b)):=by simp[hqr]
  refine walkX ?_
  refine DK.o rfl (dstep_ldNC rfl (Nat.le_of_eq e1.symm) (List.take_of_length_le (Nat.le_of_eq e1))) ?_
  refine DK.o rfl (dstep_neK rfl rfl hkm (by rw[hkm,ha]; rfl)) ?_
  refine walkX ?_
  refine DK.nil ⟨by kernel_rfl,?_⟩
  refine walkX ?_
  exact endW [[(0,0)]] (⟨rfl,rfl⟩)
theorem join_at {H:Heap} {g i:Nat} {rows:List (List Nat)} {q:Nat} {a b:List Nat} (hx:hget H g i=some (.cells 64 (rows.map knR))) (ha:a.length=64) (hb:b.length=64) (hq:rows[q]?=some a):
  CallOK Tryz.prog 57 [.ptr g i q 0,.agg (knR b)] H fun res H'=>res=.sc (.bool (!decide (kmax a b=a)))∧H'=hset H g i (.cells 64 ((rows.set q (kmax a b)).map knR)):=by
 have hp:∀ rows:List (List Nat),PureB (.cells 64 (rows.map knR)):=fun rows r hr=>by
  obtain⟨x,_,rfl⟩:=List.mem_map.1 hr
  exact pr (knR x)
 refine(CallOK.via1 (args:=[.ptr g i q 0,.agg (knR b)]) (args':=[.ptr 0 0 q 0,.agg (knR b)]) g i (R:=fun res y=>res=.sc (.bool (!decide (kmax a b=a)))∧y=.cells 64 ((rows.set q (kmax a b)).map knR)) ((join1 rows q a b ha hb hq).mono ?_) hx (hp rows) ⟨.ptr _ _ _ _ _ _ rfl,.pure (pv (.agg (knR b))),trivial⟩).mono ?_
 ·rintro res H' ⟨rfl,rfl⟩
  exact⟨_,rfl,.sc _,hp _,rfl,rfl⟩
 ·rintro res H' ⟨y,rfl,rfl,rfl⟩
  exact⟨rfl,rfl⟩
def umB (es:List (List Int×AV)):Blk:=match es with
 | []=>.map []
 | e::l=>.umap 2 (e::l)
theorem umB_uins (c:List Int) (v:AV) (es:List (List Int×AV)):umB (uins c v es)=.umap 2 (uins c v es):=by
 cases es with
 | nil=>rfl
 | cons e l=>
  obtain⟨d,y⟩:=e
  unfold uins
  split<;>rfl
theorem umB_to {T:AV→AV→Prop} {ρ:Nat→Nat→Option (Nat×Nat)} {es:List (List Int×AV)} (h:∀ x∈es,Pure x.2):ToB T ρ (umB es) (umB es):=by
 cases es with
 | nil=>exact ToB.mapE rfl fun x hx=>by cases hx
 | cons e l=>exact .umap _ _ h
theorem dstep_lookU2 {g i:Nat} {fr:Fr} {H:Heap} {z:AV} {x ix:Operand} {g' i':Nat} {p q:Int} {es:List (List Int×AV)} {v:AV} (hx:ev fr x=.mref g' i') (hk:ev fr ix=.agg [.sc (.int .i64 p),.sc (.int .i64 q)]) (hh:hget H g' i'=some (umB es)) (hv:(ufind [p,q] es).getD z=v):
  dstep g i (.xop (.lookF [.i,.i] z false) [x,ix]) fr H=some (v,H):=by
 have e1:flatOf (.agg [.sc (.int .i64 p),.sc (.int .i64 q)])=some [.int .i64 p,.int .i64 q]:=rfl
 have e2:∃ r,cellsEq [.i,.i] [.int .i64 p,.int .i64 q] [.int .i64 p,.int .i64 q]=some r:=⟨_,rfl⟩
 obtain⟨r,e2⟩:=e2
 have e3:ukey [.int .i64 p,.int .i64 q]=some [p,q]:=rfl
 subst hv
 cases es with
 | nil=>
  have hh:hget H g' i'=some (.map []):=hh
  simp only[dstep,avals,List.map_cons,List.map_nil,xstep,hk,e1,e2,hx,mlookF,hh,mfindF]
  rfl
 | cons e l=>
  have hh:hget H g' i'=some (.umap 2 (e::l)):=hh
  have e4:Nat.beq [p,q].length 2=true:=rfl
  simp only[dstep,avals,List.map_cons,List.map_nil,xstep,hk,e1,e2,hx,mlookF,hh,e3,e4]
  cases ufind [p,q] (e::l)<;>rfl
theorem dstep_insU2 {g i:Nat} {fr:Fr} {H:Heap} {m ix x:Operand} {g' i':Nat} {p q:Int} {es:List (List Int×AV)} {v:AV} (hx:ev fr m=.mref g' i') (hk:ev fr ix=.agg [.sc (.int .i64 p),.sc (.int .i64 q)]) (hv:ev fr x=v) (hh:hget H g' i'=some (umB es)) (hf:ufind [p,q] es=none):
  dstep g i (.insF [.i,.i] m ix x) fr H=some (.undef,hset H g' i' (umB (uins [p,q] v es))):=by
 have e1:flatOf (.agg [.sc (.int .i64 p),.sc (.int .i64 q)])=some [.int .i64 p,.int .i64 q]:=rfl
 have e2:∃ r,cellsEq [.i,.i] [.int .i64 p,.int .i64 q] [.int .i64 p,.int .i64 q]=some r:=⟨_,rfl⟩
 obtain⟨r,e2⟩:=e2
 have e3:ukey [.int .i64 p,.int .i64 q]=some [p,q]:=rfl
 rw[umB_uins]
 cases es with
 | nil=>
  have hh:hget H g' i'=some (.map []):=hh
  simp only[dstep,hk,e1,e2,hx,hh,e3,hv]
  rfl
 | cons e l=>
  have hh:hget H g' i'=some (.umap 2 (e::l)):=hh
  have e4:Nat.beq [p,q].length 2=true:=rfl
  simp only[dstep,hk,e1,e2,hx,hh,e3,e4,hf,hv]
def oB (o:Nat→List (List Nat)) (b:Nat):Blk:=.cells 64 ((o b).map knR)
instance (rows:List (List Nat)):PRs (rows.map knR):=inferInstance
def ordH (n:Nat) (g:Nat→AV) (m:Nat) (o:Nat→List (List Nat)) (es:List (List Int×AV)):Heap:=[[.cells 1 (row1 n g)],fam m (oB o),[umB es]]
theorem Sub.oH {N:Nat} {fr fr':Fr} {H:Heap} {n m:Nat} {g g':Nat→AV} {o:Nat→List (List Nat)} {es:List (List Int×AV)} (h0:hget H 0 0=some (.cells 1 (row1 n g))) (h1:∀ b,b < m→hget H 1 b=some (oB o b)) (h2:hget H 2 0=some (umB es)) (hp:∀ x∈es,Pure x.2)
  (hg:∀ b,b < n→To (ToT (H++gh []) H.length (notK [.c [(0,0)],.w 1 m [],.c [(2,0)]])) (rho (idK [.c [(0,0)],.w 1 m [],.c [(2,0)]])) (g b) (g' b)) (h5:ToAll (ToT (H++gh []) H.length (notK [.c [(0,0)],.w 1 m [],.c [(2,0)]])) (rho (idK [.c [(0,0)],.w 1 m [],.c [(2,0)]])) fr fr'):
  Sub 0 N fr H fr' (ordH n g' m o es):=by
 have e:H++gh []=H:=List.append_nil _
 refine Sub.toK [] [.c [(0,0)],.w 1 m [],.c [(2,0)]] h5 ⟨⟨⟨_,by rw[e]; exact h0,ToB.row1 hg⟩,trivial⟩,famTo.ofFam (fun b hb=>⟨_,by rw[e]; exact h1 b hb,ToB.rows rfl (prs _)⟩),⟨⟨_,by rw[e]; exact h2,umB_to hp⟩,trivial⟩,trivial⟩ trivial
theorem Sub.oS {N:Nat} {fr fr':Fr} {H:Heap} {n m:Nat} {g g':Nat→AV} {o:Nat→List (List Nat)} {es:List (List Int×AV)} {q:Nat×Nat} (h0:hget H 0 0=some (.cells 1 (row1 n g))) (h1:∀ b,b < m→hget H 1 b=some (oB o b)) (hq:hget H q.1 q.2=some (oB o m)) (h2:hget H 2 0=some (umB es)) (hp:∀ x∈es,Pure x.2) (hok:okK [.c [(0,0)],.w 1 m [q],.c [(2,0)]]=true)
  (hg:∀ b,b < n→To (ToT (H++gh []) H.length (notK [.c [(0,0)],.w 1 m [q],.c [(2,0)]])) (rho (idK [.c [(0,0)],.w 1 m [q],.c [(2,0)]])) (g b) (g' b)) (h5:ToAll (ToT (H++gh []) H.length (notK [.c [(0,0)],.w 1 m [q],.c [(2,0)]])) (rho (idK [.c [(0,0)],.w 1 m [q],.c [(2,0)]])) fr fr'):
  Sub 0 N fr H fr' (ordH n g' (m+1) o es):=by
 have e:H++gh []=H:=List.append_nil _
 refine Sub.toK [] [.c [(0,0)],.w 1 m [q],.c [(2,0)]] h5 ⟨⟨⟨_,by rw[e]; exact h0,ToB.row1 hg⟩,trivial⟩,famTo.famS (fun b hb=>⟨_,by rw[e]; exact h1 b hb,ToB.rows rfl (prs _)⟩) (by rw[e]; exact hq) (ToB.rows rfl (prs _)),⟨⟨_,by rw[e]; exact h2,umB_to hp⟩,trivial⟩,trivial⟩ trivial hok
theorem fam_put {m k:Nat} {o:Nat→List (List Nat)} {x:List (List Nat)}:(fam m (oB o)).set k (.cells 64 (x.map knR))=fam m (oB fun b=>if b=k then x else o b):=by
 rw[fam_set]
 refine fam_congr fun j _=>?_
 by_cases h:j=k<;>simp[h,oB]
def z64:List Nat:=List.replicate 64 0
def lenA (p:Pg) (b:Nat):Nat:=((p.acts[b]?).getD []).length
theorem lenA_get {p:Pg} {r:Nat} {l:List Act} (h:p.acts[r]?=some l):lenA p r=l.length:=by unfold lenA; rw[h]; rfl
def rowsI (r len j:Nat):List (List Nat):=(List.range (len+1)).map fun i=>if i≤j then z64.set r i else z64
theorem rowsI_len (r len j:Nat):(rowsI r len j).length=len+1:=by simp[rowsI]
theorem z64_set0 {r:Nat}:z64.set r 0=z64:=by
 unfold z64
 apply List.ext_getElem?
 intro i
 rw[List.getElem?_set]
 by_cases h:r=i
 ·subst h
  rw[if_pos rfl,List.length_replicate]
  by_cases h2:r < 64
  ·rw[if_pos h2,List.getElem?_replicate,if_pos h2]
  ·rw[if_neg h2,List.getElem?_eq_none (by rw[List.length_replicate]; omega)]
 ·rw[if_neg h]
theorem rowsI_zero (r len:Nat):rowsI r len 0=List.replicate (len+1) z64:=by
 unfold rowsI
 rw[List.eq_replicate_iff]
 refine⟨by simp,fun x hx=>?_⟩
 obtain⟨i,_,rfl⟩:=List.mem_map.1 hx
 split
 ·rename_i h
  have:i=0:=by omega
  subst this
  exact z64_set0
 ·rfl
theorem rowsI_get {r len j i:Nat} (hi:i < len+1):(rowsI r len j)[i]?=some (if i≤j then z64.set r i else z64):=by
 unfold rowsI
 rw[List.getElem?_map,List.getElem?_range hi]
 rfl
theorem rowsI_succ {r len j:Nat} (hj:j < len):(rowsI r len j).set (j+1) (z64.set r (j+1))=rowsI r len (j+1):=by
 apply List.ext_getElem?
 intro i
 rw[List.getElem?_set]
 by_cases h:j+1=i
 ·subst h
  rw[if_pos rfl,rowsI_len,if_pos (by omega),rowsI_get (by omega),if_pos (Nat.le_refl _)]
 ·rw[if_neg h]
  by_cases hi:i < len+1
  ·rw[rowsI_get hi,rowsI_get hi]
   by_cases h2:i≤j
   ·rw[if_pos h2,if_pos (by omega)]
   ·rw[if_neg h2,if_neg (by omega)]
  ·rw[List.getElem?_eq_none (by rw[rowsI_len]; omega),List.getElem?_eq_none (by rw[rowsI_len]; omega)]
theorem zrow64:zrow [(64,.int .i64 0)]=knR z64:=rfl
theorem zrows64 (n:Nat):List.replicate n (zrow [(64,.int .i64 0)])=(List.replicate n z64).map knR:=by rw[zrow64,List.map_replicate]
def ordI (p:Pg) (b:Nat):List (List Nat):=rowsI b (lenA p b) (lenA p b)
structure FU (p:Pg) (ls:List Ln) (r i:Nat) (es:List (List Int×AV)):Prop where
 f:∀ a j:Nat,ufind [(a:Int),(j:Int)] es=if (a < r∨a=r∧j≤i)∧1≤j∧j≤lenA p a then some (.list 2 (plsR (partP p ls a (j - 1)).1)) else none
 p:∀ x∈es,Pure x.2
theorem ufind_self (c:List Int) (x:AV):∀ es:List (List Int×AV),ufind c es=none→ufind c (uins c x es)=some x
 | [],_=>by simp[uins,ufind]
 | (d,y)::es,h=>by
  unfold ufind at h
  split at h
  ·cases h
  ·rename_i hd
   unfold uins
   split
   ·simp[ufind]
   ·unfold ufind
    rw[hd]
    exact ufind_self c x es h
theorem uins_pure {c:List Int} {v:AV} (hv:Pure v):∀ {es:List (List Int×AV)},(∀ x∈es,Pure x.2)→∀ x∈uins c v es,Pure x.2
 | [],_,x,hx=>by rw[List.mem_singleton.1 hx]; exact hv
 | (d,y)::es,h,x,hx=>by
  unfold uins at hx
  split at hx
  ·rcases List.mem_cons.1 hx with rfl | hx
   ·exact hv
   ·exact h x hx
  ·rcases List.mem_cons.1 hx with rfl | hx
   ·exact h _ (by simp)
   ·exact uins_pure hv (fun x hx=>h x (by simp[hx])) x hx
theorem FU.zero (p:Pg) (ls:List Ln):FU p ls 0 0 []:=⟨fun a j=>by rw[if_neg (by omega)]; rfl,fun _ h=>by cases h⟩
theorem FU.next {p:Pg} {ls:List Ln} {r i:Nat} {es:List (List Int×AV)} (h:FU p ls r i es) (hi:lenA p r≤i):FU p ls (r+1) 0 es:=⟨fun a j=>by
 rw[h.f a j]
 by_cases c:(a < r∨a=r∧j≤i)∧1≤j∧j≤lenA p a
 ·rw[if_pos c,if_pos ⟨by omega,c.2⟩]
 ·rw[if_neg c,if_neg]
  rintro⟨c1,c2,c3⟩
  refine c ⟨?_,c2,c3⟩
  by_cases ha:a=r
  ·subst ha; omega
  ·omega,h.p⟩
theorem FU.free {p:Pg} {ls:List Ln} {r i:Nat} {es:List (List Int×AV)} (h:FU p ls r i es):ufind [(r:Int),((i+1:Nat):Int)] es=none:=by
 rw[h.f r (i+1),if_neg (by omega)]
theorem FU.step {p:Pg} {ls:List Ln} {r i:Nat} {es:List (List Int×AV)} (h:FU p ls r i es) (hi:i < lenA p r):FU p ls r (i+1) (uins [(r:Int),((i+1:Nat):Int)] (.list 2 (plsR (partP p ls r i).1)) es):=by
 refine⟨fun a j=>?_,uins_pure (.list _ _ (prs _)) h.p⟩
 by_cases c:a=r∧j=i+1
 ·obtain⟨rfl,rfl⟩:=c
  rw[ufind_self _ _ _ h.free,if_pos (by omega)]
  rfl
 ·rw[ufind_uins _ (fun e=>c (by injection e with e1 e2; injection e2 with e2 _; omega)),h.f a j]
  by_cases d:(a < r∨a=r∧j≤i)∧1≤j∧j≤lenA p a
  ·rw[if_pos d,if_pos ⟨by omega,d.2⟩]
  ·rw[if_neg d,if_neg (by omega)]
abbrev Ord:=List (List (List Nat))
def rowsO (o:Ord) (r:Nat):List (List Nat):=o.getD r []
def rowO (o:Ord) (r i:Nat):List Nat:=(rowsO o r).getD i []
def firstO (p:Pg) (ls:List Ln) (r i:Nat):List Pl:=if 1≤i∧i≤lenA p r then(partP p ls r (i - 1)).1 else[]
def fstK (k:List Nat) (x:Pl):List Nat:=k.set x.1 (max (k.getD x.1 0) (x.2+1))
def joinK (o:Ord) (k:List Nat) (b:Nat):List Nat:=if 0 < k.getD b 0 then kmax k (rowO o b (k.getD b 0 - 1)) else k
def kB (p:Pg) (ls:List Ln) (o:Ord) (r i:Nat):List Nat:=(firstO p ls r i).foldl fstK (rowO o r i)
def kC (n:Nat) (p:Pg) (ls:List Ln) (o:Ord) (r i:Nat):List Nat:=(List.range n).foldl (joinK o) (kB p ls o r i)
def newK (n:Nat) (p:Pg) (ls:List Ln) (o:Ord) (r i:Nat):List Nat:=kmax (rowO o r i) (kC n p ls o r i)
def setO (o:Ord) (r i:Nat) (k:List Nat):Ord:=o.set r ((rowsO o r).set i k)
def stepO (n:Nat) (p:Pg) (ls:List Ln) (r:Nat) (s:Bool×Ord) (i:Nat):Bool×Ord:=(s.1 || !decide (newK n p ls s.2 r i=rowO s.2 r i),setO s.2 r i (newK n p ls s.2 r i))
def rowPass (n:Nat) (p:Pg) (ls:List Ln) (s:Bool×Ord) (r:Nat):Bool×Ord:=(List.range (lenA p r+1)).foldl (stepO n p ls r) s
def passO (n:Nat) (p:Pg) (ls:List Ln) (o:Ord):Bool×Ord:=(List.range n).foldl (rowPass n p ls) (false,o)
structure OOK (p:Pg) (n:Nat) (o:Ord):Prop where
 len:o.length=n
 rows:∀ b,b < n→(rowsO o b).length=lenA p b+1
 row:∀ b i,b < n→i≤lenA p b→(rowO o b i).length=64
 bd:∀ b i c,b < n→i≤lenA p b→(rowO o b i).getD c 0≤lenA p c
def KOK (p:Pg) (k:List Nat):Prop:=k.length=64∧∀ c,k.getD c 0≤lenA p c
theorem OOK.k {p:Pg} {n:Nat} {o:Ord} (h:OOK p n o) {b i:Nat} (hb:b < n) (hi:i≤lenA p b):KOK p (rowO o b i):=⟨h.row b i hb hi,fun c=>h.bd b i c hb hi⟩
theorem getD_set {k:List Nat} {a v c:Nat} (h:a < k.length):(k.set a v).getD c 0=if a=c then v else k.getD c 0:=by
 rw[List.getD_eq_getElem?_getD,List.getElem?_set,List.getD_eq_getElem?_getD]
 by_cases e:a=c
 ·rw[if_pos e,if_pos e,if_pos h]; rfl
 ·rw[if_neg e,if_neg e]
theorem kmax_getD {a b:List Nat} (h:a.length=b.length) (c:Nat):(kmax a b).getD c 0=max (a.getD c 0) (b.getD c 0):=by
 unfold kmax
 rw[List.getD_eq_getElem?_getD,List.getD_eq_getElem?_getD,List.getD_eq_getElem?_getD,List.getElem?_zipWith]
 by_cases hc:c < a.length
 ·rw[gEg hc,gEg (show c < b.length by omega)]
  rfl
 ·rw[List.getElem?_eq_none (by omega),List.getElem?_eq_none (show b.length≤c by omega)]
  rfl
theorem KOK.fst {p:Pg} {k:List Nat} (h:KOK p k) {x:Pl} (h1:x.1 < 64) (h2:x.2 < lenA p x.1):KOK p (fstK k x):=by
 obtain⟨q1,q2⟩:=h
 refine⟨by unfold fstK; rw[List.length_set]; exact q1,fun c=>?_⟩
 unfold fstK
 rw[getD_set (by omega)]
 by_cases e:x.1=c
 ·rw[if_pos e,← e]
  have:=q2 x.1
  omega
 ·rw[if_neg e]
  exact q2 c
theorem KOK.max {p:Pg} {a b:List Nat} (ha:KOK p a) (hb:KOK p b):KOK p (kmax a b):=by
 have hl:a.length=b.length:=ha.1.trans hb.1.symm
 refine⟨(kmax_len hl).trans ha.1,fun c=>?_⟩
 rw[kmax_getD hl]
 have:=ha.2 c
 have:=hb.2 c
 omega
theorem KOK.join {p:Pg} {n:Nat} {o:Ord} (ho:OOK p n o) {k:List Nat} (h:KOK p k) {b:Nat} (hb:b < n):KOK p (joinK o k b):=by
 unfold joinK
 split
 ·have:=h.2 b
  exact h.max (ho.k hb (by omega))
 ·exact h
theorem foldl_inv {α β:Type} {f:α→β→α} {I:α→Prop}:∀ {l:List β} {a:α},I a→(∀ a b,b∈l→I a→I (f a b))→I (l.foldl f a)
 | [],_,h,_=>h
 | b::l,_,h,hf=>foldl_inv (l:=l) (hf _ b (by simp) h) fun a c hc=>hf a c (by simp[hc])
structure FOK (p:Pg) (ls:List Ln):Prop where
 m:∀ r i x,x∈firstO p ls r i→x.1 < 64∧x.2 < lenA p x.1
 l:∀ r i,(firstO p ls r i).length≤1000000
theorem KOK.kB {p:Pg} {ls:List Ln} {n:Nat} {o:Ord} (hF:FOK p ls) (ho:OOK p n o) {r i:Nat} (hr:r < n) (hi:i≤lenA p r):KOK p (kB p ls o r i):=
 foldl_inv (ho.k hr hi) fun _ x hx h=>h.fst (hF.m r i x hx).1 (hF.m r i x hx).2
theorem KOK.kC {p:Pg} {ls:List Ln} {n:Nat} {o:Ord} (hF:FOK p ls) (ho:OOK p n o) {r i:Nat} (hr:r < n) (hi:i≤lenA p r):KOK p (kC n p ls o r i):=
 foldl_inv (KOK.kB hF ho hr hi) fun _ _ hb h=>h.join ho (List.mem_range.1 hb)
theorem KOK.newK {p:Pg} {ls:List Ln} {n:Nat} {o:Ord} (hF:FOK p ls) (ho:OOK p n o) {r i:Nat} (hr:r < n) (hi:i≤lenA p r):KOK p (newK n p ls o r i):=
 (ho.k hr hi).max (KOK.kC hF ho hr hi)
theorem rowsO_set {o:Ord} {r b:Nat} {x:List (List Nat)} (h:r < o.length):rowsO (o.set r x) b=if b=r then x else rowsO o b:=by
 unfold rowsO
 rw[List.getD_eq_getElem?_getD,List.getElem?_set,List.getD_eq_getElem?_getD]
 by_cases e:r=b
 ·rw[if_pos e,if_pos e.symm,if_pos h]; rfl
 ·rw[if_neg e,if_neg (fun q=>e q.symm)]
theorem rowO_set {o:Ord} {r i b j:Nat} {k:List Nat} (h:r < o.length) (hi:i < (rowsO o r).length):rowO (setO o r i k) b j=if b=r∧j=i then k else rowO o b j:=by
 unfold rowO setO
 rw[rowsO_set h]
 by_cases e:b=r
 ·subst e
  rw[if_pos rfl,List.getD_eq_getElem?_getD,List.getElem?_set,List.getD_eq_getElem?_getD]
  by_cases e2:i=j
  ·rw[if_pos e2,if_pos hi,if_pos ⟨rfl,e2.symm⟩]; rfl
  ·rw[if_neg e2,if_neg (fun q=>e2 q.2.symm)]
 ·rw[if_neg e,if_neg (fun q=>e q.1)]
theorem OOK.set {p:Pg} {n:Nat} {o:Ord} (h:OOK p n o) {r i:Nat} {k:List Nat} (hr:r < n) (hi:i≤lenA p r) (hk:KOK p k):OOK p n (setO o r i k):=by
 have h1:r < o.length:=by rw[h.len]; exact hr
 have h2:i < (rowsO o r).length:=by rw[h.rows r hr]; omega
 refine⟨by unfold setO; rw[List.length_set]; exact h.len,fun b hb=>?_,fun b j hb hj=>?_,fun b j c hb hj=>?_⟩
 ·unfold setO
  rw[rowsO_set h1]
  split
  ·rename_i e
   rw[e,List.length_set]
   exact h.rows r hr
  ·exact h.rows b hb
 ·rw[rowO_set h1 h2]
  split
  ·exact hk.1
  ·exact h.row b j hb hj
 ·rw[rowO_set h1 h2]
  split
  ·exact hk.2 c
  ·exact h.bd b j c hb hj
theorem OOK.step {p:Pg} {ls:List Ln} {n:Nat} (hF:FOK p ls) {s:Bool×Ord} (h:OOK p n s.2) {r i:Nat} (hr:r < n) (hi:i≤lenA p r):OOK p n (stepO n p ls r s i).2:=
 h.set hr hi (KOK.newK hF h hr hi)
def sumO (o:Ord):Nat:=(o.map fun rows=>(rows.map List.sum).sum).sum
theorem sum_set:∀ {l:List Nat} {i v:Nat} (h:i < l.length),(l.set i v).sum+l[i]=l.sum+v
 | x::l,0,v,_=>by simp; omega
 | x::l,i+1,v,h=>by
  have:=sum_set (l:=l) (i:=i) (v:=v) (by simpa using h)
  simp only[List.set_cons_succ,List.sum_cons,List.getElem_cons_succ]
  omega
theorem sumO_set {o:Ord} {r i:Nat} {k:List Nat} (h:r < o.length) (hi:i < (rowsO o r).length):sumO (setO o r i k)+(rowO o r i).sum=sumO o+k.sum:=by
 have e1:rowsO o r=o[r]:=by unfold rowsO; rw[List.getD_eq_getElem?_getD,gEg h]; rfl
 have hi':i < o[r].length:=by rw[← e1]; exact hi
 have e2:rowO o r i=o[r][i]:=by unfold rowO; rw[e1,List.getD_eq_getElem?_getD,gEg hi']; rfl
 unfold sumO setO
 rw[e2,e1,List.map_set,List.map_set]
 have h1:=sum_set (l:=o.map fun rows=>(rows.map List.sum).sum) (i:=r) (v:=((o[r].map List.sum).set i k.sum).sum) (by rw[List.length_map]; exact h)
 have h2:=sum_set (l:=o[r].map List.sum) (i:=i) (v:=k.sum) (by rw[List.length_map]; exact hi')
 simp only[List.getElem_map] at h1 h2
 omega
theorem kmax_sum:∀ {a b:List Nat},a.length=b.length→a.sum≤(kmax a b).sum∧(kmax a b≠a→a.sum < (kmax a b).sum)
 | [],[],_=>⟨Nat.le_refl _,fun h=>absurd rfl h⟩
 | x::a,y::b,h=>by
  obtain⟨h1,h2⟩:=kmax_sum (a:=a) (b:=b) (by simpa using h)
  have e:kmax (x::a) (y::b)=max x y::kmax a b:=rfl
  rw[e]
  simp only[List.sum_cons]
  refine⟨by omega,fun hne=>?_⟩
  by_cases hx:max x y=x
  ·have:=h2 fun e2=>hne (by rw[hx,e2])
   omega
  ·omega
theorem stepO_sum {p:Pg} {ls:List Ln} {n:Nat} (hF:FOK p ls) {s:Bool×Ord} (h:OOK p n s.2) {r i:Nat} (hr:r < n) (hi:i≤lenA p r):
  sumO s.2≤sumO (stepO n p ls r s i).2∧((stepO n p ls r s i).1=true→s.1=true∨sumO s.2 < sumO (stepO n p ls r s i).2):=by
 have h1:r < s.2.length:=by rw[h.len]; exact hr
 have h2:i < (rowsO s.2 r).length:=by rw[h.rows r hr]; omega
 have hs:=sumO_set (k:=newK n p ls s.2 r i) h1 h2
 have hl:(rowO s.2 r i).length=(kC n p ls s.2 r i).length:=(h.row r i hr hi).trans (KOK.kC hF h hr hi).1.symm
 obtain⟨k1,k2⟩:=kmax_sum hl
 have e:newK n p ls s.2 r i=kmax (rowO s.2 r i) (kC n p ls s.2 r i):=rfl
 show sumO s.2≤sumO (setO s.2 r i (newK n p ls s.2 r i))∧((s.1 || !decide (newK n p ls s.2 r i=rowO s.2 r i))=true→_)
 rw[← e] at k1 k2
 refine⟨by omega,fun hm=>?_⟩
 by_cases c:newK n p ls s.2 r i=rowO s.2 r i
 ·rw[dTr c] at hm
  left
  simpa using hm
 ·right
  have:=k2 c
  show sumO s.2 < sumO (setO s.2 r i (newK n p ls s.2 r i))
  omega
structure PInv (p:Pg) (n S:Nat) (s:Bool×Ord):Prop where
 ok:OOK p n s.2
 ge:S≤sumO s.2
 gt:s.1=true→S < sumO s.2
theorem PInv.step {p:Pg} {ls:List Ln} {n S:Nat} (hF:FOK p ls) {s:Bool×Ord} (h:PInv p n S s) {r i:Nat} (hr:r < n) (hi:i≤lenA p r):PInv p n S (stepO n p ls r s i):=by
 obtain⟨h1,h2⟩:=stepO_sum hF h.ok hr hi
 refine⟨h.ok.step hF hr hi,Nat.le_trans h.ge h1,fun e=>?_⟩
 rcases h2 e with e2 | e2
 ·exact Nat.lt_of_lt_of_le (h.gt e2) h1
 ·exact Nat.lt_of_le_of_lt h.ge e2
theorem PInv.row {p:Pg} {ls:List Ln} {n S:Nat} (hF:FOK p ls) {s:Bool×Ord} (h:PInv p n S s) {r:Nat} (hr:r < n):PInv p n S (rowPass n p ls s r):=
 foldl_inv h fun _ i hi h=>h.step hF hr (by have:=List.mem_range.1 hi; omega)
theorem PInv.pass {p:Pg} {ls:List Ln} {n:Nat} (hF:FOK p ls) {o:Ord} (h:OOK p n o):PInv p n (sumO o) (passO n p ls o):=
 foldl_inv (I:=PInv p n (sumO o)) ⟨h,Nat.le_refl _,fun e=>by cases e⟩ fun _ r hr h=>h.row hF (List.mem_range.1 hr)
theorem sum_le:∀ {l:List Nat} {m:Nat},(∀ x∈l,x≤m)→l.sum≤l.length * m
 | [],_,_=>Nat.zero_le _
 | x::l,m,h=>by
  have:=sum_le (l:=l) (m:=m) fun y hy=>h y (by simp[hy])
  have:=h x (by simp)
  simp only[List.sum_cons,List.length_cons,Nat.add_mul]
  omega
def SOK (p:Pg):Prop:=∀ b,lenA p b≤100
theorem sumO_le {p:Pg} {n:Nat} {o:Ord} (hS:SOK p) (h:OOK p n o):sumO o≤n * 646400:=by
 unfold sumO
 have h1:∀ x∈o.map (fun rows=>(rows.map List.sum).sum),x≤646400:=fun x hx=>by
  obtain⟨rows,hr,rfl⟩:=List.mem_map.1 hx
  obtain⟨b,hb,rfl⟩:=List.getElem_of_mem hr
  have hb2:b < n:=by rw[← h.len]; exact hb
  have e1:rowsO o b=o[b]:=by unfold rowsO; rw[List.getD_eq_getElem?_getD,gEg hb]; rfl
  have hl:=h.rows b hb2
  rw[e1] at hl
  have h2:∀ x∈o[b].map List.sum,x≤6400:=fun x hx=>by
   obtain⟨row,hr,rfl⟩:=List.mem_map.1 hx
   obtain⟨i,hi,rfl⟩:=List.getElem_of_mem hr
   have e2:rowO o b i=o[b][i]:=by unfold rowO; rw[e1,List.getD_eq_getElem?_getD,gEg hi]; rfl
   obtain⟨k1,k2⟩:=h.k hb2 (show i≤lenA p b by omega)
   rw[e2] at k1 k2
   have h3:∀ x∈o[b][i],x≤100:=fun x hx=>by
    obtain⟨c,hc,rfl⟩:=List.getElem_of_mem hx
    have:=k2 c
    rw[List.getD_eq_getElem?_getD,gEg hc] at this
    have:=hS c
    simp only[Option.getD_some] at *
    omega
   have:=sum_le h3
   rw[k1] at this
   exact this
  have:=sum_le h2
  rw[List.length_map,hl] at this
  have:=hS b
  have h4:(lenA p b+1) * 6400≤101 * 6400:=Nat.mul_le_mul_right _ (by omega)
  omega
 have:=sum_le h1
 rw[List.length_map,h.len] at this
 exact this
def ordGo (n:Nat) (p:Pg) (ls:List Ln):Nat→Ord→Ord
 | 0,o=>o
 | f+1,o=>if (passO n p ls o).1=true then ordGo n p ls f (passO n p ls o).2 else(passO n p ls o).2
def ordS (p:Pg) (n:Nat):Ord:=(List.range n).map (ordI p)
def ordP (n:Nat) (p:Pg) (ls:List Ln):Ord:=ordGo n p ls (n * 646400+1) (ordS p n)
theorem ordS_rows {p:Pg} {n b:Nat} (h:b < n):rowsO (ordS p n) b=ordI p b:=by
 unfold rowsO ordS
 rw[List.getD_eq_getElem?_getD,List.getElem?_map,List.getElem?_range h]
 rfl
theorem z64_len:z64.length=64:=List.length_replicate
theorem z64_get (c:Nat):z64.getD c 0=0:=by
 unfold z64
 rw[List.getD_eq_getElem?_getD,List.getElem?_replicate]
 split<;>rfl
theorem ordS_ok (p:Pg) {n:Nat} (hn:n≤64):OOK p n (ordS p n):=by
 have h1:∀ b,b < n→∀ i,i≤lenA p b→rowO (ordS p n) b i=z64.set b i:=fun b hb i hi=>by
  unfold rowO
  rw[ordS_rows hb]
  unfold ordI
  rw[List.getD_eq_getElem?_getD,rowsI_get (by omega),if_pos hi]
  rfl
 refine⟨by simp[ordS],fun b hb=>by rw[ordS_rows hb]; exact rowsI_len _ _ _,fun b i hb hi=>?_,fun b i c hb hi=>?_⟩
 ·rw[h1 b hb i hi,List.length_set]; rfl
 ·rw[h1 b hb i hi,getD_set (by rw[z64_len]; omega)]
  split
  ·rename_i e
   rw[← e]; exact hi
  ·rw[z64_get]; exact Nat.zero_le _
end Go.Proofs.YtkjoolaahocgdaaGreat
