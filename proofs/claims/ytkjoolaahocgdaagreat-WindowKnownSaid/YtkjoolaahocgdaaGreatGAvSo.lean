import Derived.Test.YtkjoolaahocgdaaGreatGAvL2
import Derived.Test.YtkjoolaahocgdaaGreatGAvF
import Derived.Test.YtkjoolaahocgdaaGreatGAvO
import Derived.Test.YtkjoolaahocgdaaGreatGAv22
import Derived.Test.YtkjoolaahocgdaaGreatGAvR
import Derived.Shelf.SlSortCmp.NoneTotal
namespace Go.Av
set_option maxRecDepth 20000
theorem GC {P:Program} {op:Op} {x:Operand} (h:JD P op=some (.mop .next [x])):op=.next x false:=by
 unfold JD at h
 split at h
 ·revert h; split<;>simp
 ·simp only[oIn,IOp.mop.injEq,List.cons.injEq,and_true,true_and] at h
  subst h
  rfl
 all_goals (revert h; (repeat' split)<;>simp; done)
set_option maxHeartbeats 1000000 in
theorem KP {P:Program} {op:Op} {e:MOp} {xs:List Operand} (h:J7 P op=some (.mop e xs)):False:=by
 unfold J7 at h
 split at h
 all_goals (revert h; (repeat' split)<;>simp; done)
set_option maxHeartbeats 1000000 in
theorem LH {P:Program} {op:Op} {e:MOp} {xs:List Operand} (h:cop P op=some (.mop e xs)):False:=by
 unfold cop at h
 split at h
 all_goals (revert h; (repeat' split)<;>simp; done)
theorem GR {P:Program} {op:Op} {x:Operand} (h:xF P op=some (.op (.mop .next [x]))):op=.next x false:=by
 unfold xF at h
 split at h
 ·rename_i io hx
  simp only[oIn,IAct.op.injEq] at h
  subst h
  exact GC hx
 split at h
 ·rename_i io hx
  simp only[oIn,IAct.op.injEq] at h
  subst h
  exact(KP hx).elim
 ·unfold BP at h
  split at h
  ·cases h
  ·cases h
  ·simp only[Option.map_eq_some_iff,IAct.op.injEq] at h
   obtain⟨a,ha,rfl⟩:=h
   exact(LH ha).elim
theorem Reg.next {P:Program} {N k:Nat} {xs:List IOper} {fr:Fr} {H:Heap} {K:Fr→Heap→Prop} {d:Nat} {gd:Option (Nat×Bool)} {x:Operand} {g i:Nat} {cur:Option (Value×AV)} {es:List (Value×AV)} (hg:gok fr gd=some true)
  (hx:ev fr x=.ptr g i 0 0) (hh:hget H g i=some (.it cur es))
  (h0:es=[]→Reg P N k xs ((d,.tup [.sc (.bool false)])::fr) H K)
  (h1:∀ l1 y l2,es=l1++y::l2→Reg P N k xs ((d,.tup [.sc (.bool true),.sc y.1,y.2])::fr) (bH H g i (.it (some y) (l1++l2))) K):
  Reg P N k (⟨some d,gd,.op (.mop .next [x])⟩::xs) fr H K:=by
 intro ops l hm M J tmps w hF hH hM Q hQ
 cases l with
 | nil=>exact hm.elim
 | cons i0 l=>
  obtain⟨⟨o0,ho,hc⟩,hm'⟩:=hm
  obtain⟨c1,c2,c3⟩:=gP hc
  have hw:=fX hF c2 hg
  have hop:=GR c3
  have rx:=bA (ds:=[]) hF x
  rw[hx] at rx
  simp only[wpOps,ho,hw,if_true]
  left
  generalize hcv:Act.eval ⟨tmps,[]⟩ x=cv at rx
  cases rx with
  | ptr _ _ _ _ β lc hJ hb=>
   rw[Nat.zero_mul] at hcv
   obtain⟨ob,e1,e2⟩:=hH.its hh hJ hb
   rcases E6 (P:=P) hM e1 e2 o0.type with⟨e3,hrun⟩ | ⟨l1,l2,y,e,w1,ob',e3,hw1,hrun,e4,e5,e6,e7⟩
   ·have hrun2:(execOp (Act.eval ⟨tmps,[]⟩) o0).run P w=.ok (.value (.tuple #[.bool false])) w:=by simp[execOp,hop,hcv,hrun]
    simp only[Oper.wp,hrun2,Oper.upon]
    rw[eV]
    exact h0 e3 ops l hm' M J _ w (hF.put c1 (.tup _ _ rfl fun j c v a b=>by
     cases j with
     | zero=>simp at a b; subst a; subst b; exact .sc _
     | succ j=>simp at a)) hH hM Q hQ
   ·have hrun2:(execOp (Act.eval ⟨tmps,[]⟩) o0).run P w=.ok (.value (.tuple #[.bool true,e.key,e.val])) (ChangeMaps.setBlock w1 β ob'):=by simp[execOp,hop,hcv,hrun]
    have s1:bL k M J H w M J H w1:=by
     rcases hw1 with rfl | rfl
     ·exact .refl k hH hM
     ·exact bL.drew k hH hM rfl rfl rfl rfl
    have hw1h:w1.heap[β]?=some ob:=by rcases hw1 with rfl | rfl<;>exact e1
    have s2:bL k M J H w1 M J (bH H g i (.it (some y) (l1++l2))) (ChangeMaps.setBlock w1 β ob'):=by
     refine bL.write k s1.hrep s1.mrep g i lc β _ hh rfl hJ hb ob' _ (fun _=>⟨β,ob',hb,?_,e7⟩) rfl rfl rfl rfl
     show(w1.heap.setIfInBounds β ob')[β]?=some ob'
     simp[cO hw1h]
    simp only[Oper.wp,hrun2,Oper.upon]
    rw[eV]
    have st:=s1.trans s2
    refine h1 l1 y l2 e3 ops l hm' M J _ _ (hF.put c1 (.tup _ _ rfl fun j c v a b=>?_)) st.hrep st.mrep Q fun a' w'' hp=>hQ a' w'' ?_
    ·match j with
     | 0=>simp at a b; subst a; subst b; exact .sc _
     | 1=>simp at a b; subst a; subst b; rw[← e4]; exact .sc _
     | 2=>simp at a b; subst a; subst b; exact e5
     | j+3=>simp at a
    ·obtain⟨M2,J2,fr2,H2,q1,q2,q3,q4⟩:=hp
     exact⟨M2,J2,fr2,H2,st.trans q1,q2,q3,q4⟩
theorem Sub.trunc {k N:Nat} {fr:Fr} {H:Heap} {g i sz:Nat} {rows:List (List AV)} (n:Nat) (hg:hget H g i=some (.cells sz rows)):Sub k N fr H fr (bH H g i (.cells sz (rows.take n))):=by
 intro M J tmps w hF hH hM
 have hget:=fun g' i'=>bB H g i (.cells sz (rows.take n)) g' i' (.inl (by rw[hg]; rfl))
 have hlive:∀ g' i',bK (bH H g i (.cells sz (rows.take n))) g' i'→bK H g' i':=by
  rintro g' i' ⟨y,hy,hyl⟩
  rw[hget] at hy
  by_cases e:g'=g∧i'=i
  ·obtain⟨rfl,rfl⟩:=e; exact⟨_,hg,rfl⟩
  ·rw[if_neg e] at hy; exact⟨y,hy,hyl⟩
 have hle:(rows.take n).length * sz≤rows.length * sz:=Nat.mul_le_mul_right _ (by rw[List.length_take]; omega)
 have htake:∀(q:Nat) (r:List AV),(rows.take n)[q]?=some r→rows[q]?=some r:=fun q r h=>by
  rw[List.getElem?_take] at h
  split at h
  ·exact h
  ·cases h
 refine⟨M,J,⟨fun _ _ h=>h,fun _ _ _ _ h=>h,⟨?_,?_,?_,?_⟩,hM,rfl,.refl _,rfl,Nat.le_refl _,fun _ _ h _=>h,fun _ _ h=>.inl h,fun g' i' l β h1 h2 h3=>.inl ⟨g',i',l,hlive g' i' h1,h2,h3⟩,fun _ r h=>⟨r,h,rfl⟩⟩,hF⟩
 ·intro g' i' x hx hl
  rw[hget] at hx
  by_cases e:g'=g∧i'=i
  ·obtain⟨rfl,rfl⟩:=e
   rw[if_pos ⟨rfl,rfl⟩] at hx
   injection hx with hx
   subst hx
   obtain⟨l,h1,h2,h3,h4⟩:=hH.blk _ _ _ hg rfl
   refine⟨l,h1,h2,fun q r hq=>h3 q r (htake q r hq),?_⟩
   cases e:l.blk with
   | none=>rw[e] at h4; subst h4; simp
   | some β=>
    rw[e] at h4
    obtain⟨cs,t,a,b,c,o,d⟩:=h4
    exact⟨cs,t,a,b,by omega,fun j v hj=>o j v (by omega),fun q r j c v hq=>d q r j c v (htake q r hq)⟩
  ·rw[if_neg e] at hx
   exact hH.blk _ _ _ hx hl
 ·intro g1 i1 g2 i2 l1 l2 β a b
  exact hH.inj g1 i1 g2 i2 l1 l2 β (hlive _ _ a) (hlive _ _ b)
 ·intro g' i' l β a
  exact hH.out g' i' l β (hlive _ _ a)
 ·intro g' i' l a
  refine⟨?_,(hH.dom g' i' l a).2⟩
  rw[hget]
  split
  ·rfl
  ·exact(hH.dom g' i' l a).1
end Go.Av
namespace Go.Av
end Go.Av
namespace Go.Av
inductive FK where
 | c (ps:List (Nat×Nat))
 | w (g n:Nat) (ps:List (Nat×Nat))
 | r (g n k:Nat) (p:Nat×Nat)
def FK.l:FK→List (Nat×Nat)
 | .c ps=>ps
 | .w g n ps=>(List.range n).map (fun i=>(g,i))++ps
 | .r g n k p=>(List.range n).map fun i=>if i=k then p else(g,i)
def FK.ps:FK→List (Nat×Nat)
 | .c ps=>ps
 | .w _ _ ps=>ps
 | .r _ _ _ p=>[p]
def FK.gs:FK→List Nat
 | .c _=>[]
 | .w g _ _=>[g]
 | .r g _ _ _=>[g]
def idK (ks:List FK):List (List (Nat×Nat)):=ks.map FK.l
def fG (ks:List FK) (g i:Nat):Bool:=!(DO (g,i) (ks.map FK.ps).flatten || (ks.map FK.gs).flatten.any fun x=>Nat.beq g x)
def FA:List Nat→Bool
 | []=>true
 | x::l=>!(l.any fun y=>Nat.beq x y) && FA l
def okK (ks:List FK):Bool:=qS (ks.map FK.ps).flatten && (FA (ks.map FK.gs).flatten && (ks.map FK.ps).flatten.all fun p=>!((ks.map FK.gs).flatten.any fun x=>Nat.beq p.1 x))
theorem uW:∀ {l:List Nat},FA l=true→l.Nodup
 | [],_=>List.nodup_nil
 | x::l,h=>by
  simp only[FA,Bool.and_eq_true,Bool.not_eq_true'] at h
  refine List.nodup_cons.2 ⟨fun hm=>?_,uW h.2⟩
  have:(l.any fun y=>Nat.beq x y)=true:=List.any_eq_true.2 ⟨x,hm,by simp⟩
  rw[this] at h
  cases h.1
theorem FK.mem {k:FK} {p:Nat×Nat} (h:p∈k.l):p∈k.ps∨p.1∈k.gs:=by
 cases k with
 | c ps=>exact .inl h
 | w g n ps=>
  rcases List.mem_append.1 h with h | h
  ·obtain⟨i,_,rfl⟩:=List.mem_map.1 h
   exact .inr (by simp[FK.gs])
  ·exact .inl h
 | r g n k p=>
  obtain⟨i,_,e⟩:=List.mem_map.1 h
  split at e
  ·exact .inl (by rw[← e]; simp[FK.ps])
  ·exact .inr (by rw[← e]; simp[FK.gs])
theorem GY {ks:List FK} (h:okK ks=true):(idK ks).flatten.Nodup:=by
 unfold okK at h
 simp only[Bool.and_eq_true] at h
 obtain⟨g1,g2,g3⟩:=h
 have h1:=oQ g1
 have h2:=uW g2
 rw[List.all_eq_true] at g3
 have h3:∀ p∈(ks.map FK.ps).flatten,p.1∉(ks.map FK.gs).flatten:=fun p hp hg=>by
  have:=g3 p hp
  rw[show((ks.map FK.gs).flatten.any fun x=>Nat.beq p.1 x)=true from List.any_eq_true.2 ⟨p.1,hg,by simp⟩] at this
  cases this
 clear g1 g2 g3
 unfold idK
 induction ks with
 | nil=>exact List.nodup_nil
 | cons k ks ih=>
  simp only[List.map_cons,List.flatten_cons] at h1 h2 h3 ⊢
  obtain⟨a1,a2,a3⟩:=List.nodup_append.1 h1
  obtain⟨b1,b2,b3⟩:=List.nodup_append.1 h2
  refine List.nodup_append.2 ⟨?_,ih a2 b2 fun p hp hg=>h3 p (List.mem_append_right _ hp) (List.mem_append_right _ hg),?_⟩
  ·cases k with
   | c ps=>exact a1
   | w g n ps=>
    refine List.nodup_append.2 ⟨?_,a1,?_⟩
    ·refine List.pairwise_map.2 (List.nodup_range.imp fun hne e=>hne ?_)
     exact(Prod.mk.inj e).2
    ·rintro p hp q hq rfl
     obtain⟨i,_,rfl⟩:=List.mem_map.1 hp
     exact h3 (g,i) (List.mem_append_left _ hq) (List.mem_append_left _ (by simp[FK.gs]))
   | r g n j p=>
    have h4:=h3 p (List.mem_append_left _ (by simp[FK.ps]))
    have h5:p.1≠g:=fun e=>h4 (List.mem_append_left _ (by rw[e]; simp[FK.gs]))
    refine List.pairwise_map.2 (List.nodup_range.imp fun {a b} hne e=>hne ?_)
    split at e
    ·rename_i e1
     split at e
     ·rename_i e2
      rw[e1,e2]
     ·exact absurd (congrArg Prod.fst e) h5
    ·split at e
     ·exact absurd (congrArg Prod.fst e).symm h5
     ·exact(Prod.mk.inj e).2
  ·rintro p hp q hq rfl
   obtain⟨f,hf,hpf⟩:=List.mem_flatten.1 hq
   obtain⟨k',hk',rfl⟩:=List.mem_map.1 hf
   rcases FK.mem hp with h | h<;>rcases FK.mem hpf with h' | h'
   ·exact a3 p h p (List.mem_flatten.2 ⟨_,List.mem_map.2 ⟨k',hk',rfl⟩,h'⟩) rfl
   ·exact h3 p (List.mem_append_left _ h) (List.mem_append_right _ (List.mem_flatten.2 ⟨_,List.mem_map.2 ⟨k',hk',rfl⟩,h'⟩))
   ·exact h3 p (List.mem_append_right _ (List.mem_flatten.2 ⟨_,List.mem_map.2 ⟨k',hk',rfl⟩,h'⟩)) (List.mem_append_left _ h)
   ·exact b3 p.1 h p.1 (List.mem_flatten.2 ⟨_,List.mem_map.2 ⟨k',hk',rfl⟩,h'⟩) rfl
theorem MD {ks:List FK} {p:Nat×Nat} (h:p∈(idK ks).flatten):fG ks p.1 p.2=false:=by
 obtain⟨f,hf,hpf⟩:=List.mem_flatten.1 h
 obtain⟨k,hk,rfl⟩:=List.mem_map.1 hf
 unfold fG
 rcases FK.mem hpf with h | h
 ·rw[AO.2 (List.mem_flatten.2 ⟨_,List.mem_map.2 ⟨k,hk,rfl⟩,h⟩)]
  rfl
 ·rw[show((ks.map FK.gs).flatten.any fun x=>Nat.beq p.1 x)=true from List.any_eq_true.2 ⟨p.1,List.mem_flatten.2 ⟨_,List.mem_map.2 ⟨k,hk,rfl⟩,h⟩,by simp⟩]
  simp
inductive NI (j:Nat) (F:List Blk):FK→Prop
 | c (ps:List (Nat×Nat)) (h:(ps.zipIdx.all fun x=>Nat.beq x.1.1 j && Nat.beq x.1.2 x.2)=true) (h':Nat.ble F.length ps.length=true):NI j F (.c ps)
 | w (n:Nat) (ps:List (Nat×Nat)) (h:F.length≤n):NI j F (.w j n ps)
def sT:Nat→Nat→List FK→Heap→Prop
 | _,0,_,_=>True
 | j,k+1,f::r,F::H=>NI j F f∧sT (j+1) k r H
 | _,_+1,_,_=>False
theorem xY:∀(k j:Nat) {ks:List FK} {H:Heap},sT j k ks H→∀ g i,g < k→(hget H g i).isSome→rho (idK ks) g i=some (j+g,i)
 | 0,_,_,_,_,g,_,hg,_=>by omega
 | k+1,j,[],_,h,_,_,_,_=>h.elim
 | k+1,j,_::_,[],h,_,_,_,_=>h.elim
 | k+1,j,f::r,F::H,⟨h1,h2⟩,0,i,_,hs=>by
  have hi:i < F.length:=by
   have:(F[i]?).isSome:=hs
   exact(gEs.1 (Option.isSome_iff_exists.1 this).choose_spec).1
  show f.l[i]?=some (j+0,i)
  cases h1 with
  | c ps h h'=>
   have hip:i < ps.length:=Nat.lt_of_lt_of_le hi (nlB h')
   rw[List.all_eq_true] at h
   have:=h (ps[i],i) (by rw[List.mem_zipIdx_iff_getElem?]; exact gEg hip)
   simp only[Bool.and_eq_true] at this
   show ps[i]?=_
   rw[gEg hip]
   exact congrArg some (Prod.ext (Nat.eq_of_beq_eq_true this.1) (Nat.eq_of_beq_eq_true this.2))
  | w n ps h=>
   show((List.range n).map (fun i=>(j,i))++ps)[i]?=_
   rw[List.getElem?_append_left (by simp; omega),List.getElem?_map,List.getElem?_range (by omega)]
   rfl
 | k+1,j,f::r,F::H,⟨h1,h2⟩,g+1,i,hg,hs=>by
  have:=xY k (j+1) h2 g i (by omega) hs
  rw[show j+(g+1)=j+1+g by omega]
  exact this
theorem c9 {ks:List FK} {g g' n i:Nat} {ps:List (Nat×Nat)} (h:ks[g]?=some (.w g' n ps)) (hi:i < n):rho (idK ks) g i=some (g',i):=by
 unfold rho idK
 rw[List.getElem?_map,h]
 show((List.range n).map (fun i=>(g',i))++ps)[i]?=_
 rw[List.getElem?_append_left (by simp; omega),List.getElem?_map,List.getElem?_range (by omega)]
 rfl
theorem wC {ks:List FK} {g g' n i:Nat} {ps:List (Nat×Nat)} {p:Nat×Nat} (h:ks[g]?=some (.w g' n ps)) (hi:ps[i]?=some p):rho (idK ks) g (n+i)=some p:=by
 unfold rho idK
 rw[List.getElem?_map,h]
 show((List.range n).map (fun i=>(g',i))++ps)[n+i]?=_
 rw[List.getElem?_append_right (by simp)]
 simpa using hi
theorem rho_r {ks:List FK} {g g' n k i:Nat} {p:Nat×Nat} (h:ks[g]?=some (.r g' n k p)) (hi:i < n):rho (idK ks) g i=some (if i=k then p else(g',i)):=by
 unfold rho idK
 rw[List.getElem?_map,h]
 show((List.range n).map fun i=>if i=k then p else(g',i))[i]?=_
 rw[List.getElem?_map,List.getElem?_range (by omega)]
 rfl
theorem nH.listK {T:AV→AV→Prop} {k:Nat} {H H2 H':Heap} {ks:List FK} (h1:sT 0 k ks H) (h3:okK ks=true) (h4:aS (ToB T (rho (idK ks))) H (idK ks) H')
  (hk:∀ g i,(hget H2 g i).isSome=(hget H g i).isSome) (hs:∀ p∈(idK ks).flatten,hget H2 p.1 p.2=hget H p.1 p.2):nH T (rho (idK ks)) k H2 H':=by
 obtain⟨hl,hf⟩:=pM h4
 have hnd:=GY h3
 generalize hids:idK ks=ids at *
 refine⟨fun g i hg hi=>?_,fun g i g' i' p hp hp'=>?_,fun g i x hx _=>?_,fun g i p hp _=>?_⟩
 ·rw[hk] at hi
  have:=xY k 0 h1 g i hg hi
  rw[Nat.zero_add,hids] at this
  exact this
 ·unfold rho at hp hp'
  split at hp
  ·rename_i f e
   split at hp'
   ·rename_i f' e'
    unfold List.Nodup at hnd
    rw[List.pairwise_flatten] at hnd
    by_cases hgg:g=g'
    ·subst hgg
     rw[e] at e'
     injection e' with e'
     subst e'
     refine⟨rfl,?_⟩
     have hn:=hnd.1 f (List.mem_of_getElem? e)
     have hi:=(gEs.1 hp).1
     exact(List.getElem?_inj hi hn).1 (hp.trans hp'.symm)
    ·exfalso
     have hpw:=hnd.2
     rw[List.pairwise_iff_getElem] at hpw
     have hg1:=(gEs.1 e).1
     have hg2:=(gEs.1 e').1
     have v1:=(gEs.1 e).2
     have v2:=(gEs.1 e').2
     rcases Nat.lt_or_gt_of_ne hgg with hlt | hgt
     ·have:=hpw g g' hg1 hg2 hlt
      rw[v1,v2] at this
      exact this p (List.mem_of_getElem? hp) p (List.mem_of_getElem? hp') rfl
     ·have:=hpw g' g hg2 hg1 hgt
      rw[v1,v2] at this
      exact this p (List.mem_of_getElem? hp') p (List.mem_of_getElem? hp) rfl
   ·cases hp'
  ·cases hp
 ·unfold hget at hx
  split at hx
  ·rename_i f e
   have hg:=(gEs.1 e).1
   have e':ids[g]?=some ids[g]:=gEg (by omega)
   obtain⟨q1,q2⟩:=lO (hf g _ _ e' e)
   have hi:=(gEs.1 hx).1
   have e2:ids[g][i]?=some ids[g][i]:=gEg (by omega)
   obtain⟨y,r1,r2⟩:=q2 i _ x e2 hx
   have hr:rho ids g i=some ids[g][i]:=by simp only[rho,e']; exact e2
   exact⟨ids[g][i].1,ids[g][i].2,y,hr,(hs _ (E8 hr)).trans r1,r2⟩
  ·cases hx
 ·unfold rho at hp
  split at hp
  ·rename_i f e
   have hg:=(gEs.1 e).1
   have e':H'[g]?=some H'[g]:=gEg (by omega)
   obtain⟨q1,_⟩:=lO (hf g _ _ e e')
   have hi:=(gEs.1 hp).1
   simp only[hget,e',gEg (show i < H'[g].length by omega)]
   rfl
  ·cases hp
section
variable {k N:Nat} {fr fr':Fr} {H H':Heap} {ks:List FK} {szs:List Nat}
theorem B9 {M J} {w:World} (hH:bJ M J H w.heap) (hM:bT M w.heap) (h1:sT 0 k ks (H++gh szs)) (h3:okK ks=true)
  (h4:aS (ToB (ToT (H++gh szs) H.length (fG ks)) (rho (idK ks))) (H++gh szs) (idK ks) H'):
  ∃ M' J',bL k M J H w M' J' H' w∧∀ a b v,To (ToT (H++gh szs) H.length (fG ks)) (rho (idK ks)) a b→Rep M J a v→Rep M' J' b v:=by
 obtain⟨s1,x1,t1⟩:=bL.ghost (k:=k) hH hM (tD.gh H szs)
 obtain⟨s2,x2,t2⟩:=bL.frz (k:=k) s1.hrep s1.mrep (mO.killS (fG ks) (H++gh szs))
 have hT:∀ a b v,ToT (H++gh szs) H.length (fG ks) a b→Rep (M.freeze (J.ghost H (H++gh szs)) (H++gh szs) (fG ks) w.heap) (J.ghost H (H++gh szs)) a v →
   Rep (M.freeze (J.ghost H (H++gh szs)) (H++gh szs) (fG ks) w.heap) (J.ghost H (H++gh szs)) b v:=by
  intro a b v h hv
  cases h with
  | fz h=>
   refine t2 a b v h ?_
   cases h with
   | hsl g i start len sz rows hS h hl=>
    cases hv with
    | hsl _ _ _ _ cap β l hJ hb hc hlc=>exact .hsl _ _ _ _ cap β l hJ hb hc hlc
    | hslNil _ _ a0 l hJ hb=>exact .hslNil _ _ a0 l hJ hb
   | ptr g i row off sz rows r hS h hr=>
    cases hv with
    | ptr _ _ _ _ β l hJ hb=>exact .ptr _ _ _ _ β l hJ hb
   | mref g i es hS h=>
    cases hv with
    | mref _ _ β l hJ hb=>exact .mref _ _ β l hJ hb
  | gh g sz hg h'=>
   cases hv
   refine .hslNil g 0 _ ⟨none,sz,0⟩ ?_ rfl
   have:hget H g 0=none:=by
    cases e:hget H g 0 with
    | none=>rfl
    | some y=>
     have:=kA (by rw[e]; rfl:(hget H g 0).isSome)
     have:=nlB hg
     omega
   unfold Inj.ghost
   rw[this,h']
  | nil sz=>cases hv; exact .nilList sz none 0
 have hn:nH (ToT (H++gh szs) H.length (fG ks)) (rho (idK ks)) k (killS (fG ks) (H++gh szs)) H':=by
  refine nH.listK h1 h3 h4 (fun g i=>by rw[iQ,Option.isSome_map]) fun p hp=>?_
  rw[iQ,MD hp]
  cases hget (H++gh szs) p.1 p.2<;>rfl
 refine⟨_,_,bL.to hT (s1.trans s2) hn,fun a b v h hv=>To.rep hT h ?_⟩
 exact(hv.ext x1).ext x2
theorem Sub.toK (szs:List Nat) (ks:List FK) (h5:aB (ToT (H++gh szs) H.length (fG ks)) (rho (idK ks)) fr fr')
  (h4:aS (ToB (ToT (H++gh szs) H.length (fG ks)) (rho (idK ks))) (H++gh szs) (idK ks) H') (h1:sT 0 k ks (H++gh szs)) (h3:okK ks=true:=by rfl):Sub k N fr H fr' H':=by
 intro M J tmps w hF hH hM
 obtain⟨M',J',q1,q2⟩:=B9 (szs:=szs) hH hM h1 h3 h4
 exact⟨M',J',q1,hF.1,fun t=>q2 _ _ _ (h5.get t) (hF.2 t)⟩
theorem gY.toK {a b:AV} (szs:List Nat) (ks:List FK) (h5:To (ToT (H++gh szs) H.length (fG ks)) (rho (idK ks)) a b)
  (h4:aS (ToB (ToT (H++gh szs) H.length (fG ks)) (rho (idK ks))) (H++gh szs) (idK ks) H') (h1:sT 0 k ks (H++gh szs)) (h3:okK ks=true:=by rfl):gY k H a H' b:=by
 intro M J v w hv hH hM
 obtain⟨M',J',q1,q2⟩:=B9 (szs:=szs) hH hM h1 h3 h4
 exact⟨M',J',q1,q2 _ _ _ h5 hv⟩
theorem endKs {rs:List nI} {e:Exit} {R:AV→Heap→Prop} {res res':AV} {H2:Heap} (ks:List FK) (hR:R res' H2) (he:e=.normal∨e=.ret) (hres:hN fr H rs=some res)
  (h5:To (ToT (H++gh []) H.length (fG ks)) (rho (idK ks)) res res') (h4:aS (ToB (ToT (H++gh []) H.length (fG ks)) (rho (idK ks))) (H++gh []) (idK ks) H2) (h1:sT 0 k ks (H++gh [])) (h3:okK ks=true:=by rfl):
  (e=.normal∨e=.ret)∧∃ res res' H2,hN fr H rs=some res∧gY k H res H2 res'∧R res' H2:=⟨he,res,res',H2,hres,gY.toK [] ks h5 h4 h1 h3,hR⟩
end
section
variable {R:Blk→Blk→Prop} {H:Heap}
theorem aY.range {g n:Nat} {f:Nat→Blk} {ps:List (Nat×Nat)} {xs:List Blk} (h:∀ i,i < n→∃ y,hget H g i=some y∧R y (f i)) (h':aY R H ps xs):aY R H ((List.range n).map (fun i=>(g,i))++ps) (fam n f++xs):=by
 unfold fam
 have key:∀(l:List Nat),(∀ i∈l,∃ y,hget H g i=some y∧R y (f i))→aY R H (l.map (fun i=>(g,i))++ps) (l.map f++xs):=by
  intro l
  induction l with
  | nil=>exact fun _=>h'
  | cons i l ih=>exact fun h=>⟨h i (by simp),ih fun j hj=>h j (by simp[hj])⟩
 exact key _ fun i hi=>h i (List.mem_range.1 hi)
theorem aY.ofFam {g n:Nat} {f:Nat→Blk} (h:∀ i,i < n→∃ y,hget H g i=some y∧R y (f i)):aY R H (FK.w g n []).l (fam n f):=by
 have:=aY.range (f:=f) (ps:=[]) (xs:=[]) h trivial
 rw[List.append_nil (fam n f)] at this
 exact this
theorem aY.ofR {g n k:Nat} {p:Nat×Nat} {f:Nat→Blk} (h:∀ i,i < n→i≠k→∃ y,hget H g i=some y∧R y (f i)) (h':k < n→∃ y,hget H p.1 p.2=some y∧R y (f k)):aY R H (FK.r g n k p).l (fam n f):=by
 unfold FK.l fam
 have key:∀(l:List Nat),(∀ i∈l,i < n)→aY R H (l.map fun i=>if i=k then p else(g,i)) (l.map f):=by
  intro l
  induction l with
  | nil=>exact fun _=>trivial
  | cons i l ih=>
   intro hl
   refine⟨?_,ih fun j hj=>hl j (by simp[hj])⟩
   have hi:=hl i (by simp)
   show ∃ y,hget H (if i=k then p else(g,i)).1 (if i=k then p else(g,i)).2=some y∧R y (f i)
   by_cases e:i=k
   ·subst e
    rw[if_pos rfl]
    exact h' hi
   ·rw[if_neg e]
    exact h i hi e
 exact key _ fun i hi=>List.mem_range.1 hi
theorem aY.famS {g n:Nat} {f:Nat→Blk} {p:Nat×Nat} {y:Blk} (h:∀ i,i < n→∃ y,hget H g i=some y∧R y (f i)) (h':hget H p.1 p.2=some y) (hy:R y (f n)):aY R H (FK.w g n [p]).l (fam (n+1) f):=by
 have:=aY.range (f:=f) (ps:=[p]) (xs:=[f n]) h ⟨⟨y,h',hy⟩,trivial⟩
 unfold Av.fam at *
 rw[List.range_succ,List.map_append]
 exact this
end
theorem rS {n k:Nat} {f:Nat→Blk} {x:Blk}:(fam n f).set k x=fam n fun j=>if j=k then x else f j:=by
 apply List.ext_getElem?
 intro j
 unfold fam
 rw[List.getElem?_set]
 by_cases hj:j < n
 ·rw[List.getElem?_map,List.getElem?_map,List.getElem?_range hj]
  simp only[Option.map_some,List.length_map,List.length_range]
  by_cases h:k=j
  ·subst h
   simp[hj]
  ·rw[if_neg h,if_neg (fun e=>h e.symm)]
 ·rw[List.getElem?_map,List.getElem?_map,List.getElem?_eq_none (show(List.range n).length≤j by rw[List.length_range]; omega)]
  simp
  omega
theorem fD {n:Nat} {f f':Nat→Blk} (h:∀ k,k < n→f k=f' k):fam n f=fam n f':=List.map_congr_left fun k hk=>by rw[h k (List.mem_range.1 hk)]
end Go.Av
namespace Go.Av
def idH (H:Heap) (g i:Nat):Option (Nat×Nat):=match (hget H g i).isSome with
 | true=>some (g,i)
 | false=>none
theorem l9 {H:Heap} {g i:Nat} {p:Nat×Nat} (h:idH H g i=some p):(hget H g i).isSome=true∧p=(g,i):=by
 unfold idH at h
 split at h
 ·rename_i e
  injection h with h
  exact⟨e,h.symm⟩
 ·cases h
theorem jQ {H:Heap} {g i:Nat} (h:(hget H g i).isSome=true):idH H g i=some (g,i):=by
 unfold idH
 rw[h]
theorem BN {H:Heap} {g i:Nat} (h:¬ (hget H g i).isSome=true):idH H g i=none:=by
 unfold idH
 rw[show(hget H g i).isSome=false by simpa using h]
structure wQ (H0 H:Heap):Prop where
 len:H.length=H0.length
 dom:∀ g i,(hget H g i).isSome=(hget H0 g i).isSome
 blk:∀ g i x,hget H g i=some x→x.live=true∧dC (idH H0) x x
theorem dO {H:Heap} {g i:Nat} (h:(hget H g i).isSome=true):g < H.length:=by
 unfold hget at h
 split at h
 ·rename_i f hf; exact(gEs.1 hf).1
 ·cases h
theorem aQ.more {P:Program} {f:FuncId} {args:List AV} {H0:Heap} (G:Heap) {R:AV→Heap→Prop} (hc:wQ H0 H0) (h:aQ P f args H0 fun res H'=>bQ res∧wQ H0 H'∧R res H') (ha:∀ a∈args,Ren (idH H0) a a):
  aQ P f args (H0++G) fun res H'=>∃ H1,H'=H1++G∧R res H1:=by
 refine aQ.via (idH H0) (idH H0) h rfl (fun j a b e1 e2=>?_) (fun a b p e=>?_) (fun a b q e=>?_) (fun a b y e=>?_) (fun a b p e=>?_) fun res H' hr=>?_
 ·rw[e1] at e2
  injection e2 with e2
  subst e2
  exact ha a (List.mem_of_getElem? e1)
 ·obtain⟨h1,rfl⟩:=l9 e
  exact jQ h1
 ·obtain⟨h1,rfl⟩:=l9 e
  exact jQ h1
 ·have hs:(hget H0 a b).isSome=true:=by rw[e]; rfl
  obtain⟨h1,h2⟩:=hc.blk a b y e
  exact⟨h1,(a,b),y,jQ hs,by rw[cH (dO hs)]; exact e,h2⟩
 ·exact(l9 e).1
 ·obtain⟨hp,hcl,hR⟩:=hr
  refine⟨fun a b e=>by rw[← hcl.dom]; exact e,res,H'++G,.pure hp,fun a b z hz hzl=>?_,fun a b e=>?_,H',rfl,hR⟩
  ·by_cases hl:a < H'.length
   ·rw[cH hl] at hz
    have hs:(hget H0 a b).isSome=true:=by rw[← hcl.dom,hz]; rfl
    exact .inl ⟨(a,b),z,jQ hs,hz,(hcl.blk a b z hz).2⟩
   ·refine .inr ⟨BN fun hs=>hl (by rw[hcl.len]; exact dO hs),?_⟩
    rw[cM (by omega)] at hz
    rw[cM (by rw[hcl.len] at hl; omega),← hcl.len]
    exact hz
  ·by_cases hl:a < H0.length
   ·rw[cH hl] at e
    rw[cH (by rw[hcl.len]; exact hl),hcl.dom]
    exact e
   ·rw[cM (by omega)] at e
    rw[cM (by rw[hcl.len]; omega),hcl.len]
    exact e
end Go.Av
namespace Go.Av
def sg (ρ':Nat→Nat→Option (Nat×Nat)) (m n a b:Nat):Option (Nat×Nat):=match Nat.blt a m with
 | true=>ρ' a b
 | false=>some (a - m+n,b)
theorem sg_lt {ρ':Nat→Nat→Option (Nat×Nat)} {m n a b:Nat} (h:a < m):sg ρ' m n a b=ρ' a b:=by
 have e:Nat.blt a m=true:=by simpa[Nat.blt_eq] using h
 simp only[sg,e]
theorem sg_ge {ρ':Nat→Nat→Option (Nat×Nat)} {m n a b:Nat} (h:m≤a):sg ρ' m n a b=some (a - m+n,b):=by
 have e:Nat.blt a m=false:=by
  apply Bool.eq_false_iff.2
  intro q
  have:a < m:=by simpa[Nat.blt_eq] using q
  omega
 simp only[sg,e]
theorem aQ.grow {P:Program} {f:FuncId} {args args':List AV} {H0 H:Heap} {R R':AV→Heap→Prop} (ρ ρ':Nat→Nat→Option (Nat×Nat)) (h:aQ P f args' H0 R)
  (hl:args.length=args'.length) (hargs:∀(j:Nat) a b,args[j]?=some a→args'[j]?=some b→Ren ρ a b)
  (hρ:∀ g i p,ρ g i=some p→ρ' p.1 p.2=some (g,i)) (hρ':∀ g i q,ρ' g i=some q→ρ q.1 q.2=some (g,i))
  (h0:∀ g i x,hget H0 g i=some x→x.live=true∧∃ p y,ρ g i=some p∧hget H p.1 p.2=some y∧dC ρ y x)
  (hdom:∀ g i p,ρ g i=some p→(hget H0 g i).isSome)
  (hR:∀ res H',R res H'→(∀ g i,g < H0.length→(hget H' g i).isSome→(hget H0 g i).isSome)∧∃ res' H'',Ren (sg ρ' H.length H0.length) res res' ∧
   (∀ g i x,hget H'' g i=some x→x.live=true→(∃ q y,sg ρ' H.length H0.length g i=some q∧hget H' q.1 q.2=some y∧dC (sg ρ' H.length H0.length) y x)∨(sg ρ' H.length H0.length g i=none∧hget H g i=some x)) ∧
   (∀ g i,(hget H g i).isSome→(hget H'' g i).isSome)∧(∀ g i,H0.length≤g→(hget H' g i).isSome→(hget H'' (g - H0.length+H.length) i).isSome)∧R' res' H''):aQ P f args H R':=by
 refine⟨h.1,fun M J w cargs e1 e2 hH hM=>?_⟩
 have hlt:∀ {H:Heap} {g i:Nat},(hget H g i).isSome→g < H.length:=fun hs=>dO hs
 have hJ1:∀ g i l,J.via ρ g i=some l→∃ p,ρ g i=some p∧J p.1 p.2=some l:=by
  intro g i l hl
  unfold Inj.via at hl
  split at hl
  ·rename_i g' i' e; exact⟨(g',i'),e,hl⟩
  ·cases hl
 have hlive0:∀ g i l,bK H0 g i→J.via ρ g i=some l→∃ p,ρ g i=some p∧J p.1 p.2=some l∧bK H p.1 p.2:=by
  rintro g i l ⟨x,hx,hxl⟩ hJ
  obtain⟨_,p,y,p1,p2,p3⟩:=h0 g i x hx
  obtain⟨p',q1,q2⟩:=hJ1 g i l hJ
  rw[p1] at q1
  injection q1 with q1
  subst q1
  exact⟨p,p1,q2,y,p2,p3.live hxl⟩
 have hH0:bJ M (J.via ρ) H0 w.heap:=by
  refine⟨fun g i x hx hxl=>?_,fun g i g' i' l l' β a b c d e f=>?_,fun g i l β a b c=>?_,fun g i l a=>?_⟩
  ·obtain⟨_,p,y,p1,p2,p3⟩:=h0 g i x hx
   obtain⟨l,q1,q2⟩:=hH.blk p.1 p.2 y p2 (p3.live hxl)
   exact⟨l,by rw[Inj.via_some (g':=p.1) (i':=p.2) p1]; exact q1,q2.ren p3⟩
  ·obtain⟨p,p1,p2,p3⟩:=hlive0 g i l a c
   obtain⟨q,q1,q2,q3⟩:=hlive0 g' i' l' b d
   obtain⟨r1,r2⟩:=hH.inj _ _ _ _ l l' β p3 q3 p2 q2 e f
   have hpq:p=q:=Prod.ext r1 r2
   subst hpq
   have:=(hρ g i p p1).symm.trans (hρ g' i' p q1)
   injection this with this
   injection this with t1 t2
   exact⟨t1,t2⟩
  ·obtain⟨p,p1,p2,p3⟩:=hlive0 g i l a b
   exact hH.out _ _ l β p3 p2 c
  ·obtain⟨p,p1,p2⟩:=hJ1 g i l a
   exact⟨hdom g i p p1,(hH.dom _ _ l p2).2⟩
 refine(h.2 M (J.via ρ) w cargs (by omega) (fun j c v hc hv=>?_) hH0 hM).mono ?_
 ·obtain⟨a,ha⟩:=bG hl hc
  exact(e2 j a v ha hv).ren (hargs j a c ha hc)
 rintro e w' ⟨v,M',J',res,H',rfl,s,hres,hr⟩
 obtain⟨hd,res',H'',r1,r2,r3,r3b,r4⟩:=hR res H' hr
 -- the caller's old numbers are of the callee's old blocks
 have hq:∀ g i q,ρ' g i=some q→q.1 < H0.length∧g < H.length:=fun g i q e=>by
  have h1:=hρ' g i q e
  have h2:=hdom _ _ _ h1
  obtain⟨x,hx⟩:=Option.isSome_iff_exists.1 h2
  obtain⟨_,p,y,p1,p2,_⟩:=h0 _ _ x hx
  rw[h1] at p1
  injection p1 with p1
  subst p1
  exact⟨hlt h2,hlt (by rw[p2]; rfl)⟩
 have hJ':∀ g i l,g < H0.length→J' g i=some l→∃ p,ρ g i=some p∧J p.1 p.2=some l:=by
  intro g i l hg hl
  have hs:=hd g i hg (s.hrep.dom g i l hl).1
  obtain⟨x,hx⟩:=Option.isSome_iff_exists.1 hs
  obtain⟨hxl,p,y,p1,p2,p3⟩:=h0 g i x hx
  obtain⟨l1,q1,_⟩:=hH0.blk g i x hx hxl
  have:=s.j g i l1 hg q1
  rw[hl] at this
  injection this with this
  subst this
  obtain⟨p',t1,t2⟩:=hJ1 g i l q1
  exact⟨p',t1,t2⟩
 let J2:Inj:=fun a b=>if a < H.length then J a b else J' (a - H.length+H0.length) b
 have k1:∀ {a b:Nat} {l:Loc},a < H.length→J2 a b=some l→J a b=some l:=fun {a b l} h e=>by
  have:(if a < H.length then J a b else J' (a - H.length+H0.length) b)=some l:=e
  rwa[if_pos h] at this
 have k2:∀ {a b:Nat} {l:Loc},¬ a < H.length→J2 a b=some l→J' (a - H.length+H0.length) b=some l:=fun {a b l} h e=>by
  have:(if a < H.length then J a b else J' (a - H.length+H0.length) b)=some l:=e
  rwa[if_neg h] at this
 have k3:∀ {a b:Nat} {l:Loc},J a b=some l→J2 a b=some l:=fun {a b l} e=>by
  show(if a < H.length then J a b else J' (a - H.length+H0.length) b)=some l
  rw[if_pos (hlt (hH.dom a b l e).1)]
  exact e
 have hback:Ext M' (J'.via (sg ρ' H.length H0.length)) M' J2:=⟨fun _ _ h=>h,fun g i l hl=>by
  by_cases hg:g < H.length
  ·unfold Inj.via at hl
   rw[sg_lt hg] at hl
   split at hl
   ·rename_i g' i' e
    obtain⟨p,p1,p2⟩:=hJ' g' i' l (hq _ _ _ e).1 hl
    have:=hρ' g i _ e
    rw[p1] at this
    injection this with this
    subst this
    exact k3 p2
   ·cases hl
  ·unfold Inj.via at hl
   rw[sg_ge (by omega)] at hl
   show(if g < H.length then J g i else J' (g - H.length+H0.length) i)=some l
   rw[if_neg hg]
   exact hl⟩
 have hfwd:Ext M J M' J2:=⟨s.m,fun _ _ _ h=>k3 h⟩
 have hother:∀ g i l β,ρ' g i=none→bK H g i→J g i=some l→l.blk=some β→∀ g0 i0 l0,bK H0 g0 i0→J.via ρ g0 i0=some l0→l0.blk≠some β:=by
  intro g i l β hn hlv hJ hb g0 i0 l0 a b c
  obtain⟨p,p1,p2,p3⟩:=hlive0 g0 i0 l0 a b
  obtain⟨t1,t2⟩:=hH.inj _ _ _ _ l l0 β hlv p3 hJ p2 hb c
  have:=hρ g0 i0 p p1
  rw[← t1,← t2,hn] at this
  cases this
 have hlive':∀ g i l β,bK H'' g i→J2 g i=some l→l.blk=some β→(∃ q,sg ρ' H.length H0.length g i=some q∧bK H' q.1 q.2∧J' q.1 q.2=some l)∨(g < H.length∧ρ' g i=none∧bK H g i∧J g i=some l):=by
  rintro g i l β ⟨x,hx,hxl⟩ hJ hb
  rcases r2 g i x hx hxl with⟨q,y,q1,q2,q3⟩ | ⟨q1,q2⟩
  ·left
   refine⟨q,q1,⟨y,q2,q3.live hxl⟩,?_⟩
   by_cases hg:g < H.length
   ·rw[sg_lt hg] at q1
    obtain⟨l',t1,_⟩:=s.hrep.blk q.1 q.2 y q2 (q3.live hxl)
    obtain⟨p,p1,p2⟩:=hJ' _ _ _ (hq _ _ _ q1).1 t1
    have:=hρ' g i q q1
    rw[p1] at this
    injection this with this
    subst this
    rw[k1 hg hJ] at p2
    injection p2 with p2
    subst p2
    exact t1
   ·rw[sg_ge (by omega)] at q1
    injection q1 with q1
    subst q1
    exact k2 hg hJ
  ·by_cases hg:g < H.length
   ·rw[sg_lt hg] at q1
    exact .inr ⟨hg,q1,⟨x,q2,hxl⟩,k1 hg hJ⟩
   ·rw[sg_ge (by omega)] at q1
    cases q1
 refine⟨v,M',J2,res',H'',rfl,⟨s.m,fun _ _ _ _ h=>k3 h,⟨?_,?_,?_,?_⟩,s.mrep,s.os,s.tape,s.output,s.size,?_,?_,?_,s.bk⟩,(hres.ren r1).ext hback,r4⟩
 ·intro g i x hx hxl
  rcases r2 g i x hx hxl with⟨q,y,q1,q2,q3⟩ | ⟨q1,q2⟩
  ·obtain⟨l,t1,t2⟩:=s.hrep.blk q.1 q.2 y q2 (q3.live hxl)
   refine⟨l,hback.j g i l (by rw[Inj.via_some (g':=q.1) (i':=q.2) q1]; exact t1),(t2.ren q3).ext hback fun _ _=>rfl⟩
  ·have hg:g < H.length:=by
    refine Decidable.byContradiction fun hg=>?_
    rw[sg_ge (by omega)] at q1
    cases q1
   rw[sg_lt hg] at q1
   obtain⟨l,t1,t2⟩:=hH.blk g i x q2 hxl
   refine⟨l,k3 t1,t2.ext hfwd fun β hβ=>?_⟩
   have hb:=(hH.dom g i l t1).2 β hβ
   rw[Array.getElem?_eq_getElem hb]
   exact s.frame β _ (Array.getElem?_eq_getElem hb) (hother g i l β q1 ⟨x,q2,hxl⟩ t1 hβ)
 ·intro g i g' i' l l' β a b c d e f
  rcases hlive' g i l β a c e with⟨q,q1,q2,q3⟩ | ⟨q0,q1,q2,q3⟩<;>rcases hlive' g' i' l' β b d f with⟨p,p1,p2,p3⟩ | ⟨p0,p1,p2,p3⟩
  ·obtain⟨t1,t2⟩:=s.hrep.inj _ _ _ _ l l' β q2 p2 q3 p3 e f
   have hpq:q=p:=Prod.ext t1 t2
   subst hpq
   by_cases hg:g < H.length<;>by_cases hg':g' < H.length
   ·rw[sg_lt hg] at q1
    rw[sg_lt hg'] at p1
    have:=(hρ' g i q q1).symm.trans (hρ' g' i' q p1)
    injection this with this
    injection this with t1 t2
    exact⟨t1,t2⟩
   ·rw[sg_lt hg] at q1
    rw[sg_ge (by omega)] at p1
    have:=(hq _ _ _ q1).1
    injection p1 with p1
    rw[← p1] at this
    simp only at this
    omega
   ·rw[sg_ge (by omega)] at q1
    rw[sg_lt hg'] at p1
    have:=(hq _ _ _ p1).1
    injection q1 with q1
    rw[← q1] at this
    simp only at this
    omega
   ·rw[sg_ge (by omega)] at q1 p1
    rw[← q1] at p1
    injection p1 with p1
    injection p1 with t1 t2
    exact⟨by omega,t2.symm⟩
  ·exfalso
   rcases s.live _ _ l β q2 q3 e with⟨g0,i0,l0,u1,u2,u3⟩ | u
   ·exact hother g' i' l' β p1 p2 p3 f g0 i0 l0 u1 u2 u3
   ·have:=(hH.dom g' i' l' p3).2 β f; omega
  ·exfalso
   rcases s.live _ _ l' β p2 p3 f with⟨g0,i0,l0,u1,u2,u3⟩ | u
   ·exact hother g i l β q1 q2 q3 e g0 i0 l0 u1 u2 u3
   ·have:=(hH.dom g i l q3).2 β e; omega
  ·exact hH.inj g i g' i' l l' β q2 p2 q3 p3 e f
 ·intro g i l β a b c
  rcases hlive' g i l β a b c with⟨q,q1,q2,q3⟩ | ⟨q0,q1,q2,q3⟩
  ·exact s.hrep.out _ _ l β q2 q3 c
  ·cases e:M' β with
   | none=>rfl
   | some o=>
    exfalso
    rcases s.fresh β o e with u | u | ⟨g0,i0,l0,u1,u2,u3⟩
    ·rw[hH.out g i l β q2 q3 c] at u; cases u
    ·have:=(hH.dom g i l q3).2 β c; omega
    ·exact hother g i l β q1 q2 q3 c g0 i0 l0 u1 u2 u3
 ·intro g i l a
  by_cases hg:g < H.length
  ·have:=hH.dom g i l (k1 hg a)
   exact⟨r3 g i this.1,fun β hβ=>Nat.lt_of_lt_of_le (this.2 β hβ) s.size⟩
  ·have:=s.hrep.dom _ _ l (k2 hg a)
   have h1:=r3b _ i (by omega) this.1
   rw[show g - H.length+H0.length - H0.length+H.length=g by omega] at h1
   exact⟨h1,this.2⟩
 ·intro β o ho hn
  refine s.frame β o ho fun g0 i0 l0 a b c=>?_
  obtain⟨p,p1,p2,p3⟩:=hlive0 g0 i0 l0 a b
  exact hn _ _ l0 p3 p2 c
 ·intro β o ho
  rcases s.fresh β o ho with u | u | ⟨g0,i0,l0,u1,u2,u3⟩
  ·exact .inl u
  ·exact .inr (.inl u)
  ·obtain⟨p,p1,p2,p3⟩:=hlive0 g0 i0 l0 u1 u2
   exact .inr (.inr ⟨_,_,l0,p3,p2,u3⟩)
 ·intro g i l β a b c
  rcases hlive' g i l β a b c with⟨q,q1,q2,q3⟩ | ⟨q0,q1,q2,q3⟩
  ·rcases s.live _ _ l β q2 q3 c with⟨g0,i0,l0,u1,u2,u3⟩ | u
   ·obtain⟨p,p1,p2,p3⟩:=hlive0 g0 i0 l0 u1 u2
    exact .inl ⟨_,_,l0,p3,p2,u3⟩
   ·exact .inr u
  ·exact .inl ⟨g,i,l,q2,q3,c⟩
theorem aQ.ins {P:Program} {f:FuncId} {args:List AV} {H0:Heap} (G:Heap) {R R':AV→Heap→Prop} (h:aQ P f args H0 R) (hc:wQ H0 H0) (ha:∀ a∈args,Ren (idH H0) a a)
  (hR:∀ res H',R res H'→∃ res' H1 X H1' X',H'=H1++X∧H1.length=H0.length∧H1'.length=H0.length∧(∀ g i,(hget H1 g i).isSome→(hget H0 g i).isSome)∧Ren (sg (idH H0) (H0++G).length H0.length) res res' ∧
   (∀ g i x,hget H1' g i=some x→x.live=true→∃ y,hget H1 g i=some y∧(hget H0 g i).isSome∧dC (sg (idH H0) (H0++G).length H0.length) y x)∧(∀ g i,(hget H0 g i).isSome→(hget H1' g i).isSome) ∧
   (∀ g i x,hget X' g i=some x→x.live=true→∃ y,hget X g i=some y∧dC (sg (idH H0) (H0++G).length H0.length) y x)∧(∀ g i,(hget X g i).isSome→(hget X' g i).isSome)∧R' res' (H1'++G++X')):aQ P f args (H0++G) R':=by
 refine aQ.grow (idH H0) (idH H0) h rfl (fun j a b e1 e2=>?_) (fun a b p e=>?_) (fun a b q e=>?_) (fun a b y e=>?_) (fun a b p e=>?_) fun res H' hr=>?_
 ·rw[e1] at e2
  injection e2 with e2
  subst e2
  exact ha a (List.mem_of_getElem? e1)
 ·obtain⟨h1,rfl⟩:=l9 e
  exact jQ h1
 ·obtain⟨h1,rfl⟩:=l9 e
  exact jQ h1
 ·have hs:(hget H0 a b).isSome=true:=by rw[e]; rfl
  obtain⟨h1,h2⟩:=hc.blk a b y e
  exact⟨h1,(a,b),y,jQ hs,by rw[cH (dO hs)]; exact e,h2⟩
 ·exact(l9 e).1
 ·obtain⟨res',H1,X,H1',X',rfl,l1,l1',d1,q1,q2,q3,q4,q5,q6⟩:=hR res H' hr
  have hm:(H0++G).length=H0.length+G.length:=List.length_append
  have hm1:(H1'++G).length=H0.length+G.length:=by rw[List.length_append,l1']
  refine⟨fun g i hg hs=>?_,res',H1'++G++X',q1,fun g i x hx hl=>?_,fun g i hs=>?_,fun g i hg hs=>?_,q6⟩
  ·rw[cH (by omega)] at hs
   exact d1 g i hs
  ·by_cases g1:g < H0.length
   ·rw[List.append_assoc,cH (by omega)] at hx
    obtain⟨y,y1,y2,y3⟩:=q2 g i x hx hl
    refine .inl ⟨(g,i),y,?_,by rw[cH (by omega)]; exact y1,y3⟩
    rw[sg_lt (by omega)]
    exact jQ y2
   ·by_cases g2:g < (H0++G).length
    ·refine .inr ⟨?_,?_⟩
     ·rw[sg_lt g2]
      exact BN fun hs=>g1 (dO hs)
     ·rw[cH (by rw[List.length_append]; omega),cM (by omega)] at hx
      rw[cM (by omega),← l1']
      exact hx
    ·rw[cM (by rw[List.length_append]; omega)] at hx
     obtain⟨y,y1,y2⟩:=q4 _ i x hx hl
     refine .inl ⟨_,y,sg_ge (by omega),?_,y2⟩
     simp only
     rw[cM (by omega)]
     rw[← y1]
     congr 1
     omega
  ·by_cases g1:g < H0.length
   ·rw[cH g1] at hs
    rw[List.append_assoc,cH (by omega)]
    exact q3 g i hs
   ·rw[cM (by omega)] at hs
    rw[cH (by rw[List.length_append]; have:=dO hs; omega),cM (by omega),l1']
    exact hs
  ·rw[cM (by omega)] at hs
   rw[cM (by rw[List.length_append]; omega)]
   have:=q5 _ i hs
   rw[← this]
   congr 2
   omega
end Go.Av
namespace Go.Av
section
variable {g i:Nat} {fr:Fr} {H:Heap}
theorem EO {sz:Nat} {x hi:Operand} {k:IntKind} {q:Nat} {rows rows':List (List AV)} (hx:ev fr x=.list sz rows) (hh:ev fr hi=.sc (.int k (q:Int))) (hq:q≤rows.length) (he:rows.take q=rows'):
  aH g i (.slice sz x none (some hi) none) fr H=some (.list sz rows',H):=by
 have e0:Nat.ble 0 q=true:=Nat.ble_eq_true_of_le (Nat.zero_le _)
 have e1:Nat.ble q rows.length=true:=Nat.ble_eq_true_of_le hq
 have e2:Nat.ble rows.length rows.length=true:=Nat.ble_eq_true_of_le (Nat.le_refl _)
 have e3:cY fr rows.length none (some hi) none=some (0,q):=by
  simp only[cY,fI,hh]
  show(match Nat.ble 0 q && (Nat.ble q rows.length && Nat.ble rows.length rows.length) && true with | true=>some (0,q) | false=>none)=_
  rw[e0,e1,e2]
  rfl
 have e4:Nat.beq sz sz=true:=by simp
 simp only[aH,hx,e4,e3,Nat.sub_zero,List.drop_zero,he]
theorem BW {sz:Nat} {x lo:Operand} {k:IntKind} {q:Nat} {rows rows':List (List AV)} (hx:ev fr x=.list sz rows) (hh:ev fr lo=.sc (.int k (q:Int))) (hq:q≤rows.length) (he:rows.drop q=rows'):
  aH g i (.slice sz x (some lo) none none) fr H=some (.list sz rows',H):=by
 have e1:Nat.ble q rows.length=true:=Nat.ble_eq_true_of_le hq
 have e2:Nat.ble rows.length rows.length=true:=Nat.ble_eq_true_of_le (Nat.le_refl _)
 have e3:cY fr rows.length (some lo) none none=some (q,rows.length):=by
  simp only[cY,fI,hh]
  show(match Nat.ble q rows.length && (Nat.ble rows.length rows.length && Nat.ble rows.length rows.length) && true with | true=>some (q,rows.length) | false=>none)=_
  rw[e1,e2]
  rfl
 have e4:Nat.beq sz sz=true:=by simp
 have e5:(rows.drop q).take (rows.length - q)=rows':=by rw[List.take_of_length_le (by rw[List.length_drop]; exact Nat.le_refl _),he]
 simp only[aH,hx,e4,e3,e5]
theorem bS {z:AV} {k:IntKind} {x ix:Operand} {n:Int} {es:List (Value×AV)} {ok:Bool} {r:Option AV} (hx:ev fr x=.tmap es) (hi:ev fr ix=.sc (.int k n)) (hm:d5 k n es=some r):
  aH g i (.lookup z k x ix ok) fr H=qG z ok H (some r):=by
 simp only[aH,hi,hx,rN,hm,decide_true]
theorem iZ {k:IntKind} {m ix x:Operand} {g' i':Nat} {n:Int} {es:List (Value×AV)} {v:AV} (hx:ev fr m=.mref g' i') (hi:ev fr ix=.sc (.int k n)) (hv:ev fr x=v) (hh:hget H g' i'=some (.map es)) (hm:d5 k n es=some none):
  aH g i (.mapUpdate k m ix x) fr H=some (.undef,bH H g' i' (.map (es++[(.int k n,v)]))):=by
 rw[← hv]
 exact yZ hx hi hh hm
theorem DP {k:IntKind} {m ix x:Operand} {g' i':Nat} {n:Int} {es:List (Value×AV)} {o v:AV} (hm:ev fr m=.mref g' i') (hi:ev fr ix=.sc (.int k n)) (hv:ev fr x=v) (hh:hget H g' i'=some (.map es)) (hf:d5 k n es=some (some o)):
  aH g i (.mapUpdate k m ix x) fr H=some (.undef,bH H g' i' (.map (xA n v es))):=by
 subst hv
 simp only[aH,hm,hi,decide_true,hh,hf]
theorem C9 {k:IntKind} {m ix:Operand} {g' i':Nat} {n:Int} {es:List (Value×AV)} {r:Option AV} (hx:ev fr m=.mref g' i') (hi:ev fr ix=.sc (.int k n)) (hh:hget H g' i'=some (.map es)) (hm:d5 k n es=some r):
  aH g i (.mop (.del k) [m,ix]) fr H=some (.tup [],bH H g' i' (.map (nD n es))):=by
 simp only[aH,aX,List.map_cons,List.map_nil,gT,hx,hi,decide_true,hh,hm]
theorem vN {x:Operand} {cs:List AV} {n:Nat} (hx:(ev fr x).cs=some cs) (h1:cs.all AV.cell1=true) (hn:cs.length=n):aH g i (.box x) fr H=some (.ptr g i 0 0,bH H g i (.cells n [cs])):=by
 subst hn
 simp only[aH,hx,h1]
theorem DC {sz:Nat} {x y:Operand} {k:IntKind} {g' i' st L l:Nat} {rows:List (List AV)} (hx:ev fr x=.hsl g' i' st L) (hy:ev fr y=.sc (.int k (l:Int))) (hh:hget H g' i'=some (.cells sz rows)) (h1:l≤L):
  aH g i (.slice sz x none (some y) none) fr H=some (.hsl g' i' st l,H):=by
 have e1:cY fr L none (some y) none=some (0,l):=by
  have b1:Nat.ble l L=true:=by simpa using h1
  have b2:Nat.ble L L=true:=by simp
  have b0:Nat.ble 0 l=true:=by simp
  have b3:fI fr L (some y)=some l:=by simp only[fI,hy]
  have b4:fI fr 0 none=some 0:=rfl
  have b5:fI fr L none=some L:=rfl
  simp only[cY,b3,b4,b5,b0,b1,b2]
  rfl
 have e2:Nat.beq sz sz=true:=by simp
 have e3:Nat.beq 0 0=true:=rfl
 simp only[aH,hx,hh,e2,e1]
theorem EQ {sz:Nat} {x y:Operand} {k:IntKind} {g' i' st L l:Nat} {rows:List (List AV)} (hx:ev fr x=.hsl g' i' st L) (hy:ev fr y=.sc (.int k (l:Int))) (hh:hget H g' i'=some (.cells sz rows)) (h0:0 < l) (h1:l < L):
  aH g i (.slice sz x (some y) none none) fr H=some (.hsl g' i' (st+l) (L - l),H):=by
 have e1:cY fr L (some y) none none=some (l,L):=by
  have b1:Nat.ble l L=true:=by simpa using Nat.le_of_lt h1
  have b2:Nat.ble L L=true:=by simp
  show(match fI fr 0 (some y),fI fr L none,fI fr L none with
   | some l,some h,some m=>match Nat.ble l h && (Nat.ble h m && Nat.ble m L) && ((none:Option Operand).isNone || (none:Option Operand).isSome) with
    | true=>some (l,h)
    | false=>none
   | _,_,_=>none)=_
  have b3:fI fr 0 (some y)=some l:=by simp only[fI,hy]
  rw[b3]
  show(match Nat.ble l L && (Nat.ble L L && Nat.ble L L) && true with
    | true=>some (l,L)
    | false=>none)=_
  rw[b1,b2]
  rfl
 have e2:Nat.beq sz sz=true:=by simp
 have e3:Nat.beq l 0=false:=Bool.eq_false_iff.2 fun h=>by have:=Nat.eq_of_beq_eq_true h; omega
 have e4:Nat.beq l L=false:=Bool.eq_false_iff.2 fun h=>by have:=Nat.eq_of_beq_eq_true h; omega
 simp only[aH,hx,hh,e2,e1,e3,e4]
end
theorem Sub.put {k N:Nat} {fr:Fr} {H:Heap} {t:Nat} {v:AV} (h:Le (fr.get t) v):Sub k N fr H ((t,v)::fr) H:=by
 intro M J tmps w hF hH hM
 refine⟨M,J,.refl k hH hM,hF.1,fun u=>?_⟩
 have key:Le (fr.get u) (Fr.get ((t,v)::fr) u):=by
  show Le (fr.get u) (match Nat.beq t u with | true=>v | false=>Fr.get fr u)
  split
  ·rename_i e
   have:t=u:=Nat.eq_of_beq_eq_true e
   subst this
   exact h
  ·exact Le.refl _
 exact key M J _ (hF.2 u)
theorem Reg.fn {P:Program} {N k:Nat} {xs:List IOper} {fr:Fr} {H:Heap} {K:Fr→Heap→Prop} {f:FuncId} (t:Nat) (h1:fr.get t=.sc (.func (.func f) #[] #[])) (h:Reg P N k xs ((t,.clo (.func f) [] [])::fr) H K):Reg P N k xs fr H K:=
 Reg.sub (Sub.put (by rw[h1]; exact Le.func f)) h
def aG:List Nat→dB→dB
 | [],c=>c
 | 0::l,.seq a _=>aG l a
 | _::l,.seq _ b=>aG l b
 | 0::l,.cond _ a _=>aG l a
 | _::l,.cond _ _ b=>aG l b
 | _::l,.block _ a=>aG l a
 | _::l,.loop a=>aG l a
 | _,c=>c
end Go.Av
namespace Go.Av
open Go.Proofs Go.Shelf Go.RowKit Go.Lib Go.Sort
theorem CZ {w w':World} (hos:w'.os=w.os) (ht:o8 w w') (ho:w'.output=w.output) (hz:w.heap.size≤w'.heap.size) (h:∀(β:Nat) o,w.heap[β]?=some o→w'.heap[β]?=some o):
  ∃ q os,w'=grow (w.drewN q) os:=by
 obtain⟨h1,h2⟩:=ht
 refine⟨w'.drawn - w.drawn,w'.heap.extract w.heap.size w'.heap.size,?_⟩
 have e:w'.heap=w.heap++w'.heap.extract w.heap.size w'.heap.size:=by
  apply Array.ext_getElem?
  intro i
  rw[Array.getElem?_append]
  by_cases hi:i < w.heap.size
  ·rw[if_pos hi]
   obtain⟨o,hoo⟩:∃ o,w.heap[i]?=some o:=⟨_,Array.getElem?_eq_getElem hi⟩
   rw[hoo]
   exact h i o hoo
  ·rw[if_neg hi,Array.getElem?_extract]
   simp only[Nat.min_self]
   by_cases hi2:i < w'.heap.size
   ·rw[if_pos (by omega),show w.heap.size+(i - w.heap.size)=i by omega]
   ·rw[if_neg (by omega),Array.getElem?_eq_none (by omega)]
 obtain⟨hp,tp,dr,o,out⟩:=w
 obtain⟨hp',tp',dr',o',out'⟩:=w'
 simp only at hos h1 h2 ho e
 subst hos; subst h1; subst ho
 unfold grow World.drewN
 simp only
 rw[show dr+(dr' - dr)=dr' by omega,← e]
theorem FO {M:Mem} {J:Inj} (vs:List Value):Rep M J (.agg (vs.map .sc)) (.agg vs.toArray):=by
 refine .agg _ _ (by simp) fun j c v hc hv=>?_
 rw[List.getElem?_map] at hc
 rw[List.getElem?_toArray] at hv
 rw[hv] at hc
 injection hc with hc
 subst hc
 exact .sc _
theorem EM {P:Program} {g:Nat} {α:Type} [Inhabited α] {enc:α→List Value} {k:Nat} {cf:α→α→Int} (h:∀ x y,aD P g [.agg ((enc x).map .sc),.agg ((enc y).map .sc)] (.sc (.int .i64 (cf x y)))) (blk off size:Nat) (w:World):CmpLays P g #[] enc k cf blk off size w:=by
 intro m os dk hs x y
 have h2:=(h x y).2 (fun _=>none) (fun _ _=>none) (sortWorldK enc k w blk off m dk os) #[.agg (enc x).toArray,.agg (enc y).toArray] rfl (fun j c v hc hv=>by
  match j,hc,hv with
  | 0,hc,hv=>simp at hc hv; subst hc; subst hv; exact FO _
  | 1,hc,hv=>simp at hc hv; subst hc; subst hv; exact FO _
  | j+2,hc,_=>simp at hc) (fun _ _ h=>by cases h)
 rw[Array.append_empty]
 refine h2.mono ?_
 rintro e w' ⟨cv,M',rfl,h1,h2,h3,h4,h5,h6,h7,h8,h9⟩
 have:=(h9 (fun _ _=>none)).sc_inv
 subst this
 exact⟨rfl,CZ h3 h4 h5 h6 h7⟩
theorem uU {α:Type} [Inhabited α] {enc:α→List Value} {k:Nat} (hk:∀ x,(enc x).length=k) {d:Array α} {i j:Nat} {x:α} {v:Value} (hx:d[i]?=some x) (hv:(enc x)[j]?=some v):i * k+j < d.size * k∧(flatK enc k d)[i * k+j]! = v:=by
 have hi:i < d.size:=(Array.getElem?_eq_some_iff.1 hx).1
 have hj:j < k:=by rw[← hk x]; exact(gEs.1 hv).1
 have h1:i * k+j < d.size * k:=by
  have:=Nat.mul_le_mul_right k (show i+1≤d.size from hi)
  rw[Nat.add_mul,Nat.one_mul] at this
  omega
 refine⟨h1,?_⟩
 rw[get_flatK _ _ _ _ h1]
 have e1:(i * k+j) / k=i:=(blk_iff k i (i * k+j) (by omega)).1 ⟨by omega,by omega⟩
 have e2:(i * k+j) % k=j:=by rw[Nat.mul_comm,Nat.mul_add_mod,Nat.mod_eq_of_lt hj]
 rw[e1,e2]
 have:d[i]! = x:=by rw[getElem!_pos d i hi]; exact(Array.getElem?_eq_some_iff.1 hx).2
 rw[this,List.getElem!_eq_getElem?_getD,hv]
 rfl
theorem rC {F cs:Array Value} {j:Nat} (hj:j < F.size) (hc:j < cs.size):(putCells id 0 F cs)[j]?=some F[j]!:=by
 unfold putCells
 rw[Array.getElem?_mapIdx,Array.getElem?_eq_getElem hc]
 simp[hj]
set_option maxHeartbeats 4000000 in
theorem aQ.sortFunc {P:Program} {ρ:Go.Shelf.Ren} {α:Type} [Inhabited α] (L:SlLaysF0.n6 P ρ) (k:Nat) (aE:∀ w,(isAgg (ρ.t 24)).run P w=.ok true w) (zE:∀ w,(Go.sizeOf (ρ.t 24)).run P w=.ok k w) (enc:α→List Value) (hk:∀ x,(enc x).length=k) (h1:∀ x,∀ v∈enc x,v.oneCell'=true) (cf:α→α→Int) (hO:SWO (ltOf cf)) (hT:∀ x y,(ltOf cf) x y=false→(ltOf cf) y x=false→x=y)
  (g:Nat) (eg:∀ args w,(callFunc g args).run P w=.ok (.enter g args) w) (hf:Callable P (ρ.f 6)) (hcmp:∀ x y,aD P g [.agg ((enc x).map .sc),.agg ((enc y).map .sc)] (.sc (.int .i64 (cf x y)))) (l:List α) (hl:l.length < 4611686018427387904):
  aQ P (ρ.f 6) [.hsl 0 0 0 l.length,.clo (.func g) [] []] [[.cells k (l.map fun x=>(enc x).map .sc)]] fun res H'=>res=.tup []∧H'=[[.cells k ((l.mergeSort fun x y=>!(ltOf cf) y x).map fun x=>(enc x).map .sc)]]:=by
 refine⟨hf,fun M J w cargs ha hr hH hM=>?_⟩
 obtain⟨c0,c1,rfl⟩:∃ c0 c1,cargs=#[c0,c1]:=by
  obtain⟨l⟩:=cargs
  match l,ha with
  | [a,b],_=>exact⟨a,b,rfl⟩
 have r0:=hr 0 _ c0 rfl rfl
 have r1:=hr 1 _ c1 rfl rfl
 cases r1 with
 | clo _ _ _ cfs ccs hf1 hc1 _ _=>
 obtain rfl:cfs=#[]:=Array.eq_empty_of_size_eq_zero (by simpa using hf1.symm)
 obtain rfl:ccs=#[]:=Array.eq_empty_of_size_eq_zero (by simpa using hc1.symm)
 have hlen:(l.mergeSort fun x y=>!(ltOf cf) y x).length=l.length:=List.length_mergeSort _
 obtain⟨lc,hJ,hB⟩:=hH.blk 0 0 _ rfl rfl
 generalize hn:l.length=n at r0
 cases r0 with
 | hslNil _ _ a l' hJ' hb=>
  obtain rfl:l=[]:=List.eq_nil_of_length_eq_zero hn
  refine(AnyF.slices_SortFunc_none L a 0 _ w).mono ?_
  rintro e w' ⟨rfl,rfl⟩
  exact⟨_,M,J,.tup [],_,rfl,.refl _ hH hM,.tup _ _ rfl (fun j c v hc=>by cases hc),rfl,by simp⟩
 | hsl _ _ _ _ cap β lc' hJ' hb hc hlc=>
  obtain rfl:lc'=lc:=by rw[hJ] at hJ'; injection hJ' with e; exact e.symm
  unfold gZ at hB
  rw[hb] at hB
  obtain⟨hsz,hrows,cs,ty,hheap,hcs,hle,hone,hrep⟩:=hB
  rw[List.length_map] at hle hone
  obtain rfl:=hn
  have hcell:∀ j,j < l.length * k→cs[j]?=some ((flatK enc k l.toArray)[j]!):=fun j hj=>by
   have k0:0 < k:=by
    rcases Nat.eq_zero_or_pos k with h | h
    ·subst h; simp at hj
    ·exact h
   have hi:j / k < l.length:=Nat.div_lt_of_lt_mul (by rw[Nat.mul_comm]; exact hj)
   have hjc:j < cs.size:=by omega
   have hm:j % k < (enc l[j / k]).length:=by rw[hk]; exact Nat.mod_lt _ k0
   have e0:j / k * k+j % k=j:=Nat.div_add_mod' j k
   have h5:=hrep (j / k) ((enc l[j / k]).map .sc) (j % k) (.sc ((enc l[j / k])[j % k])) cs[j] (by rw[List.getElem?_map,gEg hi]; rfl) (by rw[List.getElem?_map,gEg hm]; rfl) (by rw[e0]; exact Array.getElem?_eq_getElem hjc)
   have h6:=uU hk (d:=l.toArray) (i:=j / k) (j:=j % k) (x:=l[j / k]) (v:=(enc l[j / k])[j % k]) (by rw[List.getElem?_toArray]; exact gEg hi) (gEg hm)
   rw[e0] at h6
   rw[Array.getElem?_eq_getElem hjc,h5.sc_inv,h6.2]
  have hHK:HoldsK enc k w β 0 l.toArray:=fun j hj=>by
   rw[size_flatK,List.size_toArray] at hj
   unfold World.cell? World.frozen?
   simp only[Nat.zero_add]
   rw[hheap]
   refine⟨?_,?_⟩
   ·simp only[Option.isSome_none,Bool.false_eq_true,if_false]
    exact hcell j hj
   ·simp
  have hbl:β < w.heap.size:=(Array.getElem?_eq_some_iff.1 hheap).1
  have hcon:=AnyQ.slices_SortFunc_total L k aE zE enc hk h1 cf hO g #[] β 0 cap l.toArray w eg (EM hcmp β 0 _ w) hHK hbl (by rw[List.size_toArray]; exact hl) hT
  rw[List.size_toArray] at hcon
  rw[Nat.zero_mul]
  refine hcon.mono ?_
  rintro e w' ⟨rfl,nn,os,rfl⟩
  have hlen:(l.mergeSort fun x y=>!(ltOf cf) y x).length=l.length:=List.length_mergeSort _
  generalize (l.mergeSort fun x y=>!(ltOf cf) y x)=m at hlen
  have hFs:(flatK enc k m.toArray).size=l.length * k:=by rw[size_flatK,List.size_toArray,hlen]
  have hcsz:l.length * k≤cs.size:=by omega
  have s1:bL 1 M J [[.cells k (l.map fun x=>(enc x).map .sc)]] w M J (bH [[.cells k (l.map fun x=>(enc x).map .sc)]] 0 0 (.cells k (m.map fun x=>(enc x).map .sc))) (putRowK enc k (Sort.ahead w nn) β 0 m.toArray):=by
   refine bL.write 1 hH hM 0 0 lc' β _ rfl rfl hJ hb (.cells (putCells id 0 (flatK enc k m.toArray) cs) ty (0,0)) _ (fun _=>?_) ?_ rfl rfl rfl
   ·unfold gZ
    rw[hb]
    refine⟨hsz,fun i r hr=>?_,putCells id 0 (flatK enc k m.toArray) cs,ty,?_,?_,?_,fun j v hj hv=>?_,fun i r j c v hr hc hv=>?_⟩
    ·rw[List.getElem?_map] at hr
     obtain⟨x,_,rfl⟩:=Option.map_eq_some_iff.1 hr
     rw[List.length_map,hk]
    ·show(w.heap.modify β (onCells (putCells id 0 (flatK enc k m.toArray))))[β]?=_
     rw[Array.getElem?_modify,if_pos rfl,hheap]
     rfl
    ·unfold putCells
     rw[Array.size_mapIdx]
     exact hcs
    ·rw[List.length_map,hlen]; exact hle
    ·rw[List.length_map] at hj
     have k0:0 < k:=by
      rcases Nat.eq_zero_or_pos k with h | h
      ·subst h; simp at hj
      ·exact h
     have hi:j / k < m.length:=Nat.div_lt_of_lt_mul (by rw[Nat.mul_comm]; exact hj)
     have hm:j % k < (enc m[j / k]).length:=by rw[hk]; exact Nat.mod_lt _ k0
     have h6:=uU hk (d:=m.toArray) (i:=j / k) (j:=j % k) (x:=m[j / k]) (v:=(enc m[j / k])[j % k]) (by rw[List.getElem?_toArray]; exact gEg hi) (gEg hm)
     rw[Nat.div_add_mod'] at h6
     rw[hlen] at hj
     rw[rC (by omega) (by omega),h6.2] at hv
     injection hv with hv
     subst hv
     exact h1 _ _ (List.getElem_mem hm)
    ·rw[List.getElem?_map] at hr
     obtain⟨x,hx,rfl⟩:=Option.map_eq_some_iff.1 hr
     rw[List.getElem?_map] at hc
     obtain⟨u,hu,rfl⟩:=Option.map_eq_some_iff.1 hc
     have h6:=uU hk (d:=m.toArray) (i:=i) (j:=j) (x:=x) (v:=u) (by rw[List.getElem?_toArray]; exact hx) hu
     rw[List.size_toArray,hlen] at h6
     rw[rC (by omega) (by omega),h6.2] at hv
     injection hv with hv
     subst hv
     exact .sc _
   ·show w.heap.modify β (onCells (putCells id 0 (flatK enc k m.toArray)))=_
    apply Array.ext_getElem?
    intro γ
    rw[Array.getElem?_modify,Array.getElem?_setIfInBounds]
    by_cases e:β=γ
    ·subst e
     rw[if_pos rfl,if_pos rfl,if_pos hbl,hheap]
     rfl
    ·rw[if_neg e,if_neg e]
  have s2:bL 1 M J (bH [[.cells k (l.map fun x=>(enc x).map .sc)]] 0 0 (.cells k (m.map fun x=>(enc x).map .sc))) (putRowK enc k (Sort.ahead w nn) β 0 m.toArray) M J (bH [[.cells k (l.map fun x=>(enc x).map .sc)]] 0 0 (.cells k (m.map fun x=>(enc x).map .sc))) (sortWorldK enc k w β 0 nn m.toArray os):=by
   have hold:∀(γ:Nat) o,(putRowK enc k (Sort.ahead w nn) β 0 m.toArray).heap[γ]?=some o→(sortWorldK enc k w β 0 nn m.toArray os).heap[γ]?=some o:=fun γ o h=>by
    show((putRowK enc k (Sort.ahead w nn) β 0 m.toArray).heap++os)[γ]?=some o
    rw[Array.getElem?_append,if_pos (Array.getElem?_eq_some_iff.1 h).1]
    exact h
   refine aD.step 1 s1.hrep (fun _ _ h=>h) (fun γ o h=>hold γ o (s1.mrep γ o h)) rfl (.refl _) rfl ?_ hold (fun _ _ h=>.inl h)
   show _≤((putRowK enc k (Sort.ahead w nn) β 0 m.toArray).heap++os).size
   rw[Array.size_append]
   omega
  exact⟨_,M,J,.tup [],_,rfl,s1.trans s2,.tup _ _ rfl (fun j c v hc=>by cases hc),rfl,rfl⟩
end Go.Av
