import Derived.Test.YtgdocflpobncmaaGreatGFiB1
import Derived.Test.YtgdocflpobncmaaGreatGAvP
import Derived.Test.YtgdocflpobncmaaGreatGAvI
namespace Go.Proofs.YtgdocflpobncmaaGreat
open Go.Av Go.Proofs
set_option maxRecDepth 20000
def pos (p:Nat×Nat):List (Nat×Nat)→Option Nat
 | []=>none
 | q::r=>if p=q then some 0 else(pos p r).map (·+1)
theorem nG {p q:Nat×Nat} {r:List (Nat×Nat)}:pos p (q::r)=if p=q then some 0 else(pos p r).map (·+1):=rfl
theorem nV {p:Nat×Nat}:∀ {ps:List (Nat×Nat)} {j:Nat},pos p ps=some j→ps[j]?=some p
 | q::r,j,h=>by
  rw[nG] at h
  split at h
  ·rename_i e
   injection h with h
   subst h e
   rfl
  ·cases e:pos p r with
   | none=>rw[e] at h; cases h
   | some i=>
    rw[e] at h
    injection h with h
    subst h
    have:=nV (ps:=r) e
    exact this
theorem z5 {p:Nat×Nat}:∀ {ps:List (Nat×Nat)} {j:Nat},ps.Nodup→ps[j]?=some p→pos p ps=some j
 | q::r,0,_,h=>by
  injection h with h
  subst h
  rw[nG,if_pos rfl]
 | q::r,j+1,hn,h=>by
  have hm:p∈r:=List.mem_of_getElem? h
  have hne:p≠q:=fun e=>(List.nodup_cons.1 hn).1 (e▸hm)
  rw[nG,if_neg hne,z5 (List.nodup_cons.1 hn).2 h]
  rfl
def bkR (n:Nat) (ps:List (Nat×Nat)):Nat→Nat→Option (Nat×Nat)
 | 0,0=>some (0,0)
 | 1,0=>some (1,0)
 | 2,i=>if i < n then some (2,i) else none
 | 3,i=>if i < n then some (3,i) else none
 | g+4,0=>ps[g]?
 | _,_+1=>none
def bkL (n:Nat) (ps:List (Nat×Nat)):Nat→Nat→Option (Nat×Nat)
 | 0,0=>some (0,0)
 | 1,0=>some (1,0)
 | 2,i=>if i < n then some (2,i) else none
 | 3,i=>if i < n then some (3,i) else none
 | g+4,i=>(pos (g+4,i) ps).map fun j=>(j+4,0)
 | _,_+1=>none
theorem J7 {n:Nat} {ps:List (Nat×Nat)} (hnd:ps.Nodup) (hge:∀ p∈ps,4≤p.1) {g i:Nat} {p:Nat×Nat} (h:bkR n ps g i=some p):bkL n ps p.1 p.2=some (g,i):=by
 unfold bkR at h
 split at h
 ·injection h with h; subst h; rfl
 ·injection h with h; subst h; rfl
 ·split at h
  ·rename_i hi
   injection h with h; subst h
   show(if _ then _ else _)=_
   rw[if_pos hi]
  ·cases h
 ·split at h
  ·rename_i hi
   injection h with h; subst h
   show(if _ then _ else _)=_
   rw[if_pos hi]
  ·cases h
 ·rename_i g
  have h4:=hge p (List.mem_of_getElem? h)
  obtain⟨a,c⟩:=p
  obtain⟨a,rfl⟩:∃ a',a=a'+4:=⟨a - 4,by simp at h4; omega⟩
  show(pos (a+4,c) ps).map _=_
  rw[z5 hnd h]
  rfl
 ·cases h
theorem JV {n:Nat} {ps:List (Nat×Nat)} {g i:Nat} {q:Nat×Nat} (h:bkL n ps g i=some q):bkR n ps q.1 q.2=some (g,i):=by
 unfold bkL at h
 split at h
 ·injection h with h; subst h; rfl
 ·injection h with h; subst h; rfl
 ·split at h
  ·rename_i hi
   injection h with h; subst h
   show(if _ then _ else _)=_
   rw[if_pos hi]
  ·cases h
 ·split at h
  ·rename_i hi
   injection h with h; subst h
   show(if _ then _ else _)=_
   rw[if_pos hi]
  ·cases h
 ·revert h
  rename_i i0
  intro h
  cases e:pos (i0+4,i) ps with
  | none=>rw[e] at h; cases h
  | some j=>
   rw[e] at h
   injection h with h
   subst h
   exact nV e
 ·cases h
def aM (l:List Blk):Heap:=l.map fun x=>[x]
theorem gC {l:List Blk} {g i:Nat}:hget (aM l) g i=if i=0 then l[g]? else none:=by
 unfold hget aM
 rw[List.getElem?_map]
 cases e:l[g]? with
 | none=>cases i<;>rfl
 | some x=>cases i<;>rfl
def oH (X:Heap):List (Nat×Nat)→List Blk→Heap
 | p::ps,x::xs=>oH (aJ X (p.1 - 4) p.2 x) ps xs
 | _,_=>X
theorem mL:∀(ps:List (Nat×Nat)) (xs:List Blk) (X:Heap),ps.Nodup→(∀ p∈ps,4≤p.1∧(hget X (p.1 - 4) p.2).isSome)→∀ g i,hget (oH X ps xs) g i=match pos (g+4,i) ps with
  | some j=>match xs[j]? with
   | some x=>some x
   | none=>hget X g i
  | none=>hget X g i
 | [],_,_,_,_,_,_=>rfl
 | p::ps,[],X,_,_,g,i=>by
  show hget X g i=_
  cases pos (g+4,i) (p::ps)<;>rfl
 | p::ps,x::xs,X,hn,hp,g,i=>by
  have h1:=hp p (by simp)
  have hok':hok X (p.1 - 4) p.2:=.inl h1.2
  show hget (oH (aJ X (p.1 - 4) p.2 x) ps xs) g i=_
  rw[mL ps xs _ (List.nodup_cons.1 hn).2 (fun q hq=>⟨(hp q (by simp[hq])).1,by
   rw[aK _ _ _ _ _ _ hok']
   split
   ·rfl
   ·exact(hp q (by simp[hq])).2⟩) g i,aK _ _ _ _ _ _ hok']
  rw[nG]
  by_cases e:(g+4,i)=p
  ·subst e
   have hno:pos (g+4,i) ps=none:=by
    cases e:pos (g+4,i) ps with
    | none=>rfl
    | some j=>exact absurd (List.mem_of_getElem? (nV e)) (List.nodup_cons.1 hn).1
   rw[hno,if_pos rfl,if_pos (by simp)]
   rfl
  ·rw[if_neg e,if_neg (fun h=>e (Prod.ext (by have:=h1.1; simp; omega) h.2))]
   cases pos (g+4,i) ps<;>rfl
theorem jS:∀(ps:List (Nat×Nat)) (xs:List Blk) (X:Heap),(∀ p∈ps,(hget X (p.1 - 4) p.2).isSome)→(oH X ps xs).length=X.length
 | [],_,_,_=>rfl
 | _::_,[],_,_=>rfl
 | p::ps,x::xs,X,hp=>by
  have h1:=hp p (by simp)
  show(oH (aJ X (p.1 - 4) p.2 x) ps xs).length=_
  rw[jS ps xs _ (fun q hq=>by
   rw[aK _ _ _ _ _ _ (.inl h1)]
   split
   ·rfl
   ·exact hp q (by simp[hq])),gE _ _ _ _ h1]
theorem nF {b:Bk} {lg:Nat} {X:Heap} {g i:Nat}:hget (aE b lg X) (g+4) i=hget X g i:=rfl
theorem uO {b:Bk} {lg:Nat} {X:Heap}:(aE b lg X).length=X.length+4:=rfl
section
variable {ρ:Nat→Nat→Option (Nat×Nat)}
theorem bJ.boxB {b:Bk} {lg lg':Nat} (r1:ρ 1 0=some (1,0)) (r2:ρ lg' 0=some (lg,0)):bJ ρ (.cells 8 [boxB b lg]) (.cells 8 [YtgdocflpobncmaaGreat.boxB b lg']):=
 bJ.one ⟨.hsl _ _ _ _ _ _ r1,.sc _,.hsl _ _ _ _ _ _ r2,.sc _,.pure (.list _ _ (prs _)),.sc _,.sc _,.sc _,trivial⟩
theorem bJ.disksR {b:Bk} (r2:∀ s,s < b.n→ρ 2 s=some (2,s)) (r3:∀ s,s < b.n→ρ 3 s=some (3,s)):bJ ρ (.cells 5 (disksR b)) (.cells 5 (disksR b)):=by
 refine .cells _ _ _ rfl (fun i r r' a b=>by rw[a] at b; injection b with b; rw[b]) fun i r r' j x y a a' c c'=>?_
 rw[a] at a'
 injection a' with a'
 subst a'
 rw[c] at c'
 injection c' with c'
 subst c'
 have hi:=(gEs.1 a).1
 rw[bV] at hi
 rw[bL hi] at a
 injection a with a
 subst a
 have:cB ρ (hO b i) (hO b i):=⟨.hsl _ _ _ _ _ _ (r2 i hi),.hsl _ _ _ _ _ _ (r3 i hi),.sc _,.sc _,.sc _,trivial⟩
 exact this.spec.2 j x x c c
end
theorem aD.bkG {f:FuncId} {args args0:List AV} {b:Bk} {lg:Nat} {X:Heap} {E0:List Blk} (ps:List (Nat×Nat)) {R0 R':AV→Heap→Prop}
  (h:aD Tryz.prog f args0 (aE b 4 (aM (lateB b::E0))) R0) (hps:ps.length=E0.length) (hnd:((lg,0)::ps).Nodup) (hlg:4≤lg) (hge:∀ p∈ps,4≤p.1) (hlate:hget X (lg - 4) 0=some (lateB b))
  (ha:cB (bkR b.n ((lg,0)::ps)) args args0)
  (hE:∀(j:Nat) p x,ps[j]?=some p→E0[j]?=some x→x.live=true∧∃ y,hget X (p.1 - 4) p.2=some y∧bJ (bkR b.n ((lg,0)::ps)) y x)
  (hR:∀ res H',R0 res H'→∃(b':Bk) (E' Y' N N':List Blk) (res':AV),b'.n=b.n∧H'=aE b' (5+E0.length) (aM (.dead::E'++lateB b'::N))∧E'.length=E0.length∧Y'.length=E0.length∧N'.length=N.length ∧
   Ren (fY (X.length+4) (E0.length+5) (bkL b.n ((lg,0)::ps))) res res' ∧
   (∀(j:Nat) x y,E'[j]?=some x→Y'[j]?=some y→bJ (fY (X.length+4) (E0.length+5) (bkL b.n ((lg,0)::ps))) x y) ∧
   (∀(j:Nat) x y,N[j]?=some x→N'[j]?=some y→bJ (fY (X.length+4) (E0.length+5) (bkL b.n ((lg,0)::ps))) x y)∧R' res' (aE b' (X.length+4) (oH X ((lg,0)::ps) (.dead::Y')++aM (lateB b'::N')))):
  aD Tryz.prog f args (aE b lg X) R':=by
 have hgeA:∀ p∈(lg,0)::ps,4≤p.1:=fun p hp=>by
  rcases List.mem_cons.1 hp with rfl | hp
  ·exact hlg
  ·exact hge p hp
 have hin:∀ p∈(lg,0)::ps,(hget X (p.1 - 4) p.2).isSome:=fun p hp=>by
  rcases List.mem_cons.1 hp with rfl | hp
  ·rw[hlate]; rfl
  ·obtain⟨j,hj⟩:=List.mem_iff_getElem?.1 hp
   have hjl:=(gEs.1 hj).1
   obtain⟨_,y,hy,_⟩:=hE j p E0[j] hj (gEg (by omega))
   rw[hy]; rfl
 have hL0:(aE b 4 (aM (lateB b::E0))).length=E0.length+5:=by simp[uO,aM]
 refine aD.viaG (bkR b.n ((lg,0)::ps)) (bkL b.n ((lg,0)::ps)) h ha.spec.1 (fun j a c e1 e2=>ha.spec.2 j a c e1 e2) (fun g i p hp=>J7 hnd hgeA hp) (fun g i q hq=>JV hq) (fun g i x hx=>?_) (fun g i p hp=>?_) fun res H' hr=>?_
 ·match g with
  | 0=>match i with
   | 0=>
    injection (show some _=some x from hx) with hx
    subst hx
    exact⟨rfl,(0,0),_,rfl,rfl,bJ.boxB rfl rfl⟩
   | i+1=>cases hx
  | 1=>match i with
   | 0=>
    injection (show some _=some x from hx) with hx
    subst hx
    exact⟨rfl,(1,0),_,rfl,rfl,bJ.disksR (fun s hs=>if_pos hs) fun s hs=>if_pos hs⟩
   | i+1=>cases hx
  | 2=>
   have hi:i < b.n:=by
    have:=(gEs.1 (show(fam b.n _)[i]?=some x from hx)).1
    rwa[c9] at this
   rw[A6 hi] at hx
   injection hx with hx
   subst hx
   exact⟨rfl,(2,i),_,if_pos hi,A6 hi,bJ.pure _ _ (prs _)⟩
  | 3=>
   have hi:i < b.n:=by
    have:=(gEs.1 (show(fam b.n _)[i]?=some x from hx)).1
    rwa[c9] at this
   rw[AE hi] at hx
   injection hx with hx
   subst hx
   exact⟨rfl,(3,i),_,if_pos hi,AE hi,bJ.pure _ _ (prs _)⟩
  | g+4=>
   rw[nF,gC] at hx
   split at hx
   ·rename_i e
    subst e
    match g with
    | 0=>
     injection (show some _=some x from hx) with hx
     subst hx
     refine⟨rfl,(lg,0),lateB b,rfl,?_,bJ.pure _ _ (prs _)⟩
     obtain⟨l,rfl⟩:∃ l,lg=l+4:=⟨lg - 4,by omega⟩
     exact hlate
    | g+1=>
     replace hx:E0[g]?=some x:=hx
     have hg:=(gEs.1 hx).1
     have hpj:ps[g]?=some ps[g]:=gEg (by omega)
     obtain⟨hl,y,hy,hb⟩:=hE g _ x hpj hx
     refine⟨hl,ps[g],y,hpj,?_,hb⟩
     have:=hge ps[g] (List.getElem_mem _)
     obtain⟨l,hl⟩:∃ l,ps[g].1=l+4:=⟨ps[g].1 - 4,by omega⟩
     rw[hl] at hy ⊢
     exact hy
   ·cases hx
 ·match g with
  | 0=>match i with
   | 0=>rfl
   | i+1=>cases hp
  | 1=>match i with
   | 0=>rfl
   | i+1=>cases hp
  | 2=>
   have hi:i < b.n:=by
    by_cases hi:i < b.n
    ·exact hi
    ·rw[show bkR b.n ((lg,0)::ps) 2 i=none from if_neg hi] at hp; cases hp
   rw[A6 hi]; rfl
  | 3=>
   have hi:i < b.n:=by
    by_cases hi:i < b.n
    ·exact hi
    ·rw[show bkR b.n ((lg,0)::ps) 3 i=none from if_neg hi] at hp; cases hp
   rw[AE hi]; rfl
  | g+4=>match i with
   | 0=>
    rw[nF,gC,if_pos rfl]
    have:=(gEs.1 (show((lg,0)::ps)[g]?=some p from hp)).1
    rw[List.length_cons] at this
    rw[gEg (by rw[List.length_cons]; omega)]
    rfl
   | i+1=>cases hp
 ·obtain⟨b',E',Y',N,N',res',hn,rfl,hE',hY',hN',hres,hren,hrenN,hr'⟩:=hR res H' hr
  rw[hL0,uO]
  have hlate':∀ {g i:Nat},g=X.length+4→i=0→fY (X.length+4) (E0.length+5) (bkL b.n ((lg,0)::ps)) g i=some (5+E0.length,0):=fun e1 e2=>by
   subst e1 e2
   rw[fG (Nat.le_refl _)]
   congr 2
   omega
  have hlt:∀ {g i:Nat},g < X.length+4→fY (X.length+4) (E0.length+5) (bkL b.n ((lg,0)::ps)) g i=bkL b.n ((lg,0)::ps) g i:=fun h=>fA h
  refine⟨fun g i hg hs=>?_,res',_,hres,fun g i x hx hxl=>?_,fun g i hs=>?_,fun g i hg hs=>?_,hr'⟩
  ·match g with
   | 0=>match i with
    | 0=>rfl
    | i+1=>exact hs
   | 1=>match i with
    | 0=>rfl
    | i+1=>exact hs
   | 2=>
    have hs':((fam b'.n fun s=>Blk.cells 64 (dR b'.k (b'.dur s)))[i]?).isSome:=hs
    have:=(gEs.1 (Option.isSome_iff_exists.1 hs').choose_spec).1
    rw[c9,hn] at this
    rw[A6 this]; rfl
   | 3=>
    have hs':((fam b'.n fun s=>Blk.cells 64 (dR b'.k (b'.now s)))[i]?).isSome:=hs
    have:=(gEs.1 (Option.isSome_iff_exists.1 hs').choose_spec).1
    rw[c9,hn] at this
    rw[AE this]; rfl
   | g+4=>
    rw[nF,gC] at hs ⊢
    split at hs
    ·rename_i e
     rw[if_pos e]
     rw[gEg (by rw[List.length_cons]; omega)]
     rfl
    ·cases hs
  ·match g with
   | 0=>match i with
    | 0=>
     injection (show some _=some x from hx) with hx
     subst hx
     left
     refine⟨(0,0),_,hlt (by omega),rfl,bJ.boxB (hlt (by omega)) (hlate' rfl rfl)⟩
    | i+1=>cases hx
   | 1=>match i with
    | 0=>
     injection (show some _=some x from hx) with hx
     subst hx
     left
     refine⟨(1,0),_,hlt (by omega),rfl,bJ.disksR (fun s hs=>(hlt (by omega)).trans (if_pos (by rw[← hn]; exact hs))) fun s hs=>(hlt (by omega)).trans (if_pos (by rw[← hn]; exact hs))⟩
    | i+1=>cases hx
   | 2=>
    have hi:i < b'.n:=by
     have:=(gEs.1 (show(fam b'.n _)[i]?=some x from hx)).1
     rwa[c9] at this
    rw[A6 hi] at hx
    injection hx with hx
    subst hx
    left
    exact⟨(2,i),_,(hlt (by omega)).trans (if_pos (by rw[← hn]; exact hi)),A6 hi,bJ.pure _ _ (prs _)⟩
   | 3=>
    have hi:i < b'.n:=by
     have:=(gEs.1 (show(fam b'.n _)[i]?=some x from hx)).1
     rwa[c9] at this
    rw[AE hi] at hx
    injection hx with hx
    subst hx
    left
    exact⟨(3,i),_,(hlt (by omega)).trans (if_pos (by rw[← hn]; exact hi)),AE hi,bJ.pure _ _ (prs _)⟩
   | g+4=>
    rw[nF] at hx
    have hpl:=jS ((lg,0)::ps) (.dead::Y') X hin
    by_cases hg:g < X.length
    ·rw[b7 (by rw[hpl]; exact hg),mL _ _ _ hnd (fun p hp=>⟨hgeA p hp,hin p hp⟩)] at hx
     cases e:pos (g+4,i) ((lg,0)::ps) with
     | none=>
      rw[e] at hx
      right
      refine⟨by omega,?_,hx⟩
      show(pos (g+4,i) ((lg,0)::ps)).map _=none
      rw[e]; rfl
     | some j=>
      rw[e] at hx
      have hj:=(gEs.1 (nV e)).1
      rw[List.length_cons] at hj
      left
      match j with
      | 0=>
       injection (show some _=some x from hx) with hx
       subst hx
       cases hxl
      | j+1=>
       have hy:Y'[j]?=some Y'[j]:=gEg (by omega)
       have hx':(match Y'[j]? with | some x=>some x | none=>hget X g i)=some x:=hx
       rw[hy] at hx'
       injection hx' with hx'
       subst hx'
       have hE2:E'[j]?=some E'[j]:=gEg (by omega)
       refine⟨(j+1+4,0),E'[j],?_,?_,hren j _ _ hE2 hy⟩
       ·rw[hlt (by omega)]
        show(pos (g+4,i) ((lg,0)::ps)).map _=_
        rw[e]; rfl
       ·rw[nF,gC,if_pos rfl]
        show(E'++lateB b'::N)[j]?=_
        rw[List.getElem?_append_left (by omega)]
        exact hE2
    ·rw[bZ (by rw[hpl]; omega),hpl,gC] at hx
     split at hx
     ·rename_i e
      subst e
      obtain⟨q,rfl⟩:∃ q,g=X.length+q:=⟨g - X.length,by omega⟩
      rw[Nat.add_sub_cancel_left] at hx
      left
      have hgr:fY (X.length+4) (E0.length+5) (bkL b.n ((lg,0)::ps)) (X.length+q+4) 0=some (5+E0.length+q,0):=by
       rw[fG (by omega)]
       congr 2
       omega
      have hgo:∀ {y:Blk},(lateB b'::N)[q]?=some y→hget (aE b' (5+E0.length) (aM (Blk.dead::E'++lateB b'::N))) (5+E0.length+q) 0=some y:=fun {y} hy=>by
       rw[show 5+E0.length+q=(E0.length+q+1)+4 by omega,nF,gC,if_pos rfl]
       show(E'++lateB b'::N)[E0.length+q]?=_
       rw[List.getElem?_append_right (by omega),hE',Nat.add_sub_cancel_left]
       exact hy
      cases q with
      | zero=>
       injection (show some _=some x from hx) with hx
       subst hx
       exact⟨_,lateB b',hgr,hgo rfl,bJ.pure _ _ (prs _)⟩
      | succ q=>
       replace hx:N'[q]?=some x:=hx
       have hq:=(gEs.1 hx).1
       have hy:N[q]?=some N[q]:=gEg (by omega)
       exact⟨_,N[q],hgr,hgo hy,hrenN q _ _ hy hx⟩
     ·cases hx
  ·match g with
   | 0=>match i with
    | 0=>rfl
    | i+1=>exact hs
   | 1=>match i with
    | 0=>rfl
    | i+1=>exact hs
   | 2=>
    have hs':((fam b.n fun s=>Blk.cells 64 (dR b.k (b.dur s)))[i]?).isSome:=hs
    have:=(gEs.1 (Option.isSome_iff_exists.1 hs').choose_spec).1
    rw[c9,← hn] at this
    rw[A6 this]; rfl
   | 3=>
    have hs':((fam b.n fun s=>Blk.cells 64 (dR b.k (b.now s)))[i]?).isSome:=hs
    have:=(gEs.1 (Option.isSome_iff_exists.1 hs').choose_spec).1
    rw[c9,← hn] at this
    rw[AE this]; rfl
   | g+4=>
    rw[nF] at hs ⊢
    have hpl:=jS ((lg,0)::ps) (.dead::Y') X hin
    have hg:=c8 hs
    rw[b7 (by rw[hpl]; exact hg),mL _ _ _ hnd (fun p hp=>⟨hgeA p hp,hin p hp⟩)]
    cases e:pos (g+4,i) ((lg,0)::ps) with
    | none=>exact hs
    | some j=>
     show(match (Blk.dead::Y')[j]? with | some x=>some x | none=>hget X g i).isSome
     cases (Blk.dead::Y')[j]? with
     | none=>exact hs
     | some x=>rfl
  ·obtain⟨q,rfl⟩:∃ q,g=q+(X.length+4):=⟨g - (X.length+4),by omega⟩
   rw[show q+(X.length+4) - (X.length+4)+(E0.length+5)=(q+E0.length+1)+4 by omega,nF,gC] at hs
   have hpl:=jS ((lg,0)::ps) (.dead::Y') X hin
   rw[show q+(X.length+4)=(q+X.length)+4 by omega,nF,bZ (by rw[hpl]; omega),hpl,show q+X.length - X.length=q by omega]
   rw[gC]
   split at hs
   ·rename_i e
    rw[if_pos e]
    have h2:((E'++lateB b'::N)[q+E0.length]?).isSome:=hs
    rw[List.getElem?_append_right (by omega),hE',Nat.add_sub_cancel] at h2
    have h3:=(gEs.1 (Option.isSome_iff_exists.1 h2).choose_spec).1
    rw[List.length_cons] at h3
    rw[gEg (by rw[List.length_cons]; omega)]
    rfl
   ·cases hs
theorem aD.bk0 {f:FuncId} {args args0:List AV} {b b':Bk} {lg:Nat} {X:Heap} {v:AV} (h:aD Tryz.prog f args0 (aE b 4 (aM [lateB b])) fun res H'=>res=v∧H'=aE b' 5 (aM [.dead,lateB b']))
  (hn:b'.n=b.n) (hv:aX v) (hlate:hget X (lg - 4) 0=some (lateB b)) (ha:cB (bkR b.n [(lg,0)]) args args0) (hlg:4≤lg:=by decide):
  aD Tryz.prog f args (aE b lg X) fun res H'=>res=v∧H'=aE b' (X.length+4) (aJ X (lg - 4) 0 .dead++[[lateB b']]):=by
 refine aD.bkG (E0:=[]) [] h rfl (by simp) hlg (by simp) hlate ha (fun j p x h=>by simp at h) fun res H' hr=>?_
 obtain⟨rfl,rfl⟩:=hr
 exact⟨b',[],[],[],[],res,hn,rfl,rfl,rfl,rfl,.pure hv,fun j x y h=>by simp at h,fun j x y h=>by simp at h,rfl,rfl⟩
theorem aD.bk1 {f:FuncId} {args args0:List AV} {b b':Bk} {lg dg:Nat} {X:Heap} {v:AV} {d:Blk} (h:aD Tryz.prog f args0 (aE b 4 (aM [lateB b,d])) fun res H'=>res=v∧H'=aE b' 6 (aM [.dead,d,lateB b']))
  (hn:b'.n=b.n) (hv:aX v) (hp:fI d) (hlate:hget X (lg - 4) 0=some (lateB b)) (hd:hget X (dg - 4) 0=some d) (ha:cB (bkR b.n [(lg,0),(dg,0)]) args args0) (hlg:4≤lg:=by decide) (hdg:4≤dg:=by decide) (hne:lg≠dg:=by decide):
  aD Tryz.prog f args (aE b lg X) fun res H'=>res=v∧H'=aE b' (X.length+4) (aJ (aJ X (lg - 4) 0 .dead) (dg - 4) 0 d++[[lateB b']]):=by
 refine aD.bkG (E0:=[d]) [(dg,0)] h rfl (by simp[hne]) hlg (by simp[hdg]) hlate ha (fun j p x h1 h2=>?_) fun res H' hr=>?_
 ·cases j with
  | zero=>
   injection h1 with h1
   injection h2 with h2
   subst h1 h2
   exact⟨hp.live,d,hd,hp.ren⟩
  | succ j=>simp at h1
 ·obtain⟨rfl,rfl⟩:=hr
  refine⟨b',[d],[d],[],[],res,hn,rfl,rfl,rfl,rfl,.pure hv,fun j x y h1 h2=>?_,fun j x y h=>by simp at h,rfl,rfl⟩
  cases j with
  | zero=>
   injection h1 with h1
   injection h2 with h2
   subst h1 h2
   exact hp.ren
  | succ j=>simp at h1
def o7 (d:Nat→Nat→Nat→Nat) (s a:Nat) (f:Nat→Nat):Nat→Nat→Nat→Nat:=fun x y=>if x=s then(if y=a then f else d x y) else d x y
structure BOK (b:Bk) (c:Nat):Prop where
 n0:0 < b.n
 n8:b.n≤8
 k0:2≤b.k
 k8:b.k≤512
 late:∀ w∈b.late,w.1 < b.n∧w.2.1 < b.k
 ll:b.late.length≤c
 wr:∀ s,b.wr s≤c
 fl:b.fails≤c
 st:b.stores≤c
 f0:-1≤b.fuse
 f1:b.fuse≤1000000
 pl:b.picks.length≤256
 p8:∀ n∈b.picks,n < 256
theorem wT (l:List Nat) (k:Nat) (h:k < l.length):iD (byR l) (k:Int)=some [.sc (.int .u8 (l[k]:Nat))]:=kY (fun n:Nat=>[.sc (.int .u8 (n:Int))]) l k h
theorem vR {l:List (Nat×Nat×(Nat→Nat))} {k:Nat} (h:k < l.length):(kK l)[k]?=some (.sc (.int .i64 (l[k].1:Nat))::.sc (.int .i64 (l[k].2.1:Nat))::bR l[k].2.2):=by simp[kK,h]
def CV (x k:Nat):Bool:=!decide ((BitVec.ofInt IntKind.u8.bits (x:Int) &&& BitVec.ofInt IntKind.u8.bits (IntKind.u8.wrap (1 * 2 ^ min ((k % 8:Nat):Int).toNat IntKind.u8.bits))).toNat % 256=0)
def tN (pk:List Nat) (k:Nat):Bool:=decide (0 < pk.length) && CV ((pk[k / 8 % pk.length]?).getD 0) k
theorem EZ {pk:List Nat} {k:Nat} (h:0 < pk.length):tN pk k=CV (pk[k / 8 % pk.length]'(Nat.mod_lt _ h)) k:=by
 unfold tN
 rw[dTr h,gEg (Nat.mod_lt _ h)]
 rfl
def sX (pk:List Nat):Nat→List (Nat×Nat×(Nat→Nat))→(Nat→Nat→Nat→Nat)→(Nat→Nat→Nat→Nat)
 | _,[],d=>d
 | k,w::r,d=>sX pk (k+1) r (if tN pk k=true then o7 d w.1 w.2.1 w.2.2 else d)
theorem sU (pk:List Nat) (w:Nat×Nat×(Nat→Nat)):∀(l:List (Nat×Nat×(Nat→Nat))) (k:Nat) (d:Nat→Nat→Nat→Nat),sX pk k (l++[w]) d=if tN pk (k+l.length)=true then o7 (sX pk k l d) w.1 w.2.1 w.2.2 else sX pk k l d
 | [],_,_=>rfl
 | x::l,k,d=>by
  show sX pk (k+1) (l++[w]) _=_
  rw[sU pk w l (k+1),show k+1+l.length=k+(x::l).length by simp; omega]
  rfl
def nQ (b:Bk) (pk:List Nat) (i:Nat):Nat→Nat→Nat→Nat:=sX pk 0 (b.late.take i) b.dur
theorem EW {b:Bk} {pk:List Nat} {i:Nat} (h:i < b.late.length):nQ b pk (i+1)=if tN pk i=true then o7 (nQ b pk i) b.late[i].1 b.late[i].2.1 b.late[i].2.2 else nQ b pk i:=by
 unfold nQ
 rw[List.take_add_one,gEg h]
 show sX pk 0 (b.late.take i++[b.late[i]]) b.dur=_
 rw[sU,List.length_take,Nat.min_eq_left (by omega),Nat.zero_add]
def kQ (b:Bk) (pk:List Nat):Bk:={ b with dur:=nQ b pk b.late.length,now:=nQ b pk b.late.length,late:=[],picks:=[],fuse:=-1,down:=true,fails:=b.fails+1 }
theorem jC {n:Nat} {f g:Nat→Blk} (h:∀ i,i < n→f i=g i):fam n f=fam n g:=by
 unfold fam
 exact List.map_congr_left fun i hi=>h i (List.mem_range.1 hi)
theorem CZ {b:Bk} {lg:Nat} {X:Heap} {s a:Nat} {f:Nat→Nat}:aJ (aE b lg X) 2 s (.cells 64 ((dR b.k (b.dur s)).set a (bR f)))=aE { b with dur:=o7 b.dur s a f } lg X:=by
 show _::_::(fam b.n _).set s _::_::X=_::_::fam b.n _::_::X
 rw[wZ,FV]
 congr 3
 refine jC fun j _=>?_
 by_cases e:j=s
 ·subst e
  rw[if_pos rfl]
  unfold o7
  simp
 ·rw[if_neg e]
  unfold o7
  simp[e]
theorem J6 {b:Bk} {lg:Nat} {X:Heap} {s a:Nat} {f:Nat→Nat}:aJ (aE b lg X) 3 s (.cells 64 ((dR b.k (b.now s)).set a (bR f)))=aE { b with now:=o7 b.now s a f } lg X:=by
 show _::_::_::(fam b.n _).set s _::X=_::_::_::fam b.n _::X
 rw[wZ,FV]
 congr 4
 refine jC fun j _=>?_
 by_cases e:j=s
 ·subst e
  rw[if_pos rfl]
  unfold o7
  simp
 ·rw[if_neg e]
  unfold o7
  simp[e]
theorem KH {b:Bk} {lg:Nat} {X:Heap} {s:Nat} {d:Nat→Nat→Nat}:aJ (aE b lg X) 3 s (.cells 64 (dR b.k d))=aE { b with now:=fun x=>if x=s then d else b.now x } lg X:=by
 show _::_::_::(fam b.n _).set s _::X=_::_::_::fam b.n _::X
 rw[wZ]
 congr 4
 refine jC fun j _=>?_
 by_cases e:j=s
 ·subst e
  rw[if_pos rfl]
  simp
 ·rw[if_neg e]
  simp[e]
theorem tW {g i:Nat} {fr:Fr} {H:Heap} {x y:Operand} {sz g' i' g2 i2 L:Nat} {rows1 rows2:List (List AV)} (hL:0 < L) (hx:ev fr x=.hsl g' i' 0 L) (hy:ev fr y=.hsl g2 i2 0 L) (hh:hget H g' i'=some (.cells sz rows1)) (hh2:hget H g2 i2=some (.cells sz rows2)) (h1:rows1.length=L) (h2:rows2.length=L):
  aC g i (.mop (.copy sz) [x,y]) fr H=some (.sc (.int .i64 (L:Nat)),aJ H g' i' (.cells sz rows2)):=by
 obtain⟨L,rfl⟩:∃ m,L=m+1:=⟨L - 1,by omega⟩
 have e1:Nat.ble (0+(L+1)) rows1.length=true:=Nat.ble_eq_true_of_le (by omega)
 have e2:Nat.ble (0+(L+1)) rows2.length=true:=Nat.ble_eq_true_of_le (by omega)
 have e3:Nat.beq sz sz=true:=by simp
 simp only[aC,avals,List.map_cons,List.map_nil,cN,hx,hy,dW,cM,hh,hh2,e1,e2,e3,Bool.and_self,List.drop_zero,List.take_zero,List.nil_append]
 rw[List.take_of_length_le (show rows2.length≤L+1 by omega),h2,Nat.min_self,List.take_of_length_le (by omega),List.drop_eq_nil_of_le (by omega),List.append_nil]
theorem KK {b:Bk} {c:Nat} (hb:BOK b c) (hc:c≤1000000000) (pk:List Nat) (_hp:pk.length≤256):aD Tryz.prog 120 [.ptr 0 0 0 0,.list 1 (byR pk)] (aE b 4 (aM [lateB b])) fun res H'=>res=.tup []∧H'=aE (kQ b pk) 5 (aM [.dead,lateB (kQ b pk)]):=by
 refine aD.of LV ?_ (nlB rfl)
 have hll:=hb.ll
 refine aB ?_
 refine AWP.loop (fun i:Nat=>[(0,.ptr 0 0 0 0),(1,.list 1 (byR pk)),(11,.hsl 4 0 0 b.late.length),(12,.sc (.int .i64 (b.late.length:Nat))),(13,.sc (.int .i64 (i:Nat)))]) (fun i=>aE { b with dur:=nQ b pk i } 4 (aM [lateB b])) (fun i=>i≤b.late.length) (fun i=>b.late.length - i) 0 (Nat.zero_le _) ?_ ?_
 ·(refine Sub.keep ?_; repeat' (first | exact trivial | exact Le.refl _ | refine⟨?_,?_⟩))
 ·rintro i hi
  refine aB ?_
  refine AWP.condD rfl (fun h=>?_) (fun h=>?_)
  ·have hw:=hb.late b.late[i] (List.getElem_mem _)
   have hg:=vR h
   have hd:=EW (pk:=pk) h
   generalize b.late[i]=w at *
   obtain⟨wr,hwr⟩:∃ wr,wr=.sc (.int .i64 (w.1:Nat))::.sc (.int .i64 (w.2.1:Nat))::bR w.2.2:=⟨_,rfl⟩
   have hwl:wr.length=66:=by rw[hwr]; simp[bX]
   have hwp:PR wr:=⟨fun c hc=>by
    rw[hwr] at hc
    rcases List.mem_cons.1 hc with rfl | hc
    ·exact .sc _
    rcases List.mem_cons.1 hc with rfl | hc
    ·exact .sc _
    exact pr _ c hc⟩
   rw[← hwr] at hg
   have hwc:wr.all AV.cell1=true:=by
    rw[hwr]
    simp[AV.cell1,Value.oneCell',fD]
   refine aB ?_
   refine Reg.o rfl (bH rfl rfl (show hget (aE _ 4 (aM [lateB b])) 4 0=some (.cells 66 (kK b.late)) from rfl) h (by rw[oP])) ?_
   refine dC ?_
   refine AWP.sub (fr':=[(0,.ptr 0 0 0 0),(1,.list 1 (byR pk)),(4,.sc (.int .i64 (i:Nat))),(5,.cptr wr),(11,.hsl 4 0 0 b.late.length),(12,.sc (.int .i64 (b.late.length:Nat))),(13,.sc (.int .i64 (i:Nat)))]) (H':=aE { b with dur:=nQ b pk i } 4 (aM [lateB b])) ?_ ?_
   ·refine Sub.bk [] [[(4,0)]] [] ?_ ?_
    ·(all_goals exact bO)
    ·(all_goals exact bO)
   refine aB ?_
   rw[show(byR pk).length=pk.length from hU pk]
   by_cases hpk:0 < pk.length
   ·rw[dTr hpk]
    refine dC ?_
    have hrow:=wT pk _ (Nat.mod_lt (i / 8) hpk)
    have hpb:=EZ (k:=i) hpk
    refine dC ?_
    refine DK.nil ⟨by kernel_rfl,?_⟩
    refine AWP.condN (tN pk i=true) rfl ?_ (fun hp=>?_) (fun hp=>?_)
    ·rw[hpb]
     show _=decide (CV _ _=true)
     rw[Bool.decide_eq_true]
     unfold CV
     rfl
    ·rw[if_pos hp] at hd
     rw[hwr]
     refine aB ?_
     refine DK.o rfl (bH rfl rfl (show hget (aE _ 4 (aM [lateB b]++_)) 1 0=some (.cells 5 (disksR b)) from rfl) hw.1 (by rw[bV])) ?_
     refine dC ?_
     refine DK.o rfl (bF rfl (show hget (aE _ 4 (aM [lateB b]++_)) 1 0=some (.cells 5 (disksR b)) from rfl) (bL hw.1) dk0) ?_
     refine dC ?_
     refine DK.o rfl (bH rfl rfl (show hget (aE { b with dur:=nQ b pk i } 4 (aM [lateB b]++_)) 2 w.1=_ from cD hw.1) hw.2 (by rw[iJ])) ?_
     refine dC ?_
     refine DK.on rfl ((k7 (cs:=bR w.2.2) rfl (by show AV.agg (List.take 64 (bR w.2.2))=.agg (bR w.2.2); rw[List.take_of_length_le (Nat.le_of_eq (bX _))]) (show hget (aE { b with dur:=nQ b pk i } 4 (aM [lateB b]++_)) 2 w.1=_ from cD hw.1) (oD hw.2) (bX _) (bX _) (fD _)).trans
      (congrArg (fun H=>some (AV.undef,H)) (CZ (b:={ b with dur:=nQ b pk i }) (X:=aM [lateB b]++_)))) ?_
     refine DK.nil ⟨by kernel_rfl,?_⟩
     refine aB ?_
     refine⟨i+1,by omega,by omega,?_⟩
     rw[hd]
     refine Sub.bk [] [[(4,0)]] [] ?_ ?_
     ·(all_goals exact bO)
     ·(all_goals exact bO)
    ·rw[if_neg hp] at hd
     refine aB ?_
     refine⟨i+1,by omega,by omega,?_⟩
     rw[hd]
     refine Sub.bk [] [[(4,0)]] [] ?_ ?_
     ·(all_goals exact bO)
     ·(all_goals exact bO)
   ·rw[dFa hpk]
    refine dC ?_
    refine DK.nil ⟨by kernel_rfl,?_⟩
    refine aB ?_
    rw[if_neg (by unfold tN; rw[dFa hpk]; simp)] at hd
    refine⟨i+1,by omega,by omega,?_⟩
    rw[hd]
    refine Sub.bk [] [[(4,0)]] [] ?_ ?_
    ·(all_goals exact bO)
    ·(all_goals exact bO)
  ·obtain rfl:i=b.late.length:=by omega
   refine aB ?_
   refine AWP.loop (fun m:Nat=>[(0,.ptr 0 0 0 0),(55,.sc (.int .i64 (b.n:Nat))),(56,.sc (.int .i64 (m:Nat)))]) (fun m=>aE { b with dur:=nQ b pk b.late.length,now:=fun s=>if s < m then nQ b pk b.late.length s else b.now s } 4 (aM [lateB b])) (fun m=>m≤b.n) (fun m=>b.n - m) 0 (Nat.zero_le _) ?_ ?_
   ·refine Sub.trans (Sub.keep (fr':=[(0,.ptr 0 0 0 0),(55,.sc (.int .i64 (b.n:Nat))),(56,.sc (.int .i64 (0:Nat)))]) ?_) ?_
    ·repeat' (first | exact trivial | exact Le.refl _ | refine⟨?_,?_⟩)
    ·simp only[Nat.not_lt_zero,if_false]
     exact Sub.refl _ _ _ _
   rintro m hm
   have hn8:=hb.n8
   have hk0:=hb.k0
   obtain⟨D,hD⟩:∃ D,D=nQ b pk b.late.length:=⟨_,rfl⟩
   rw[← hD]
   refine aB ?_
   refine AWP.condD rfl (fun h=>?_) (fun h=>?_)
   ·obtain⟨b1,hb1⟩:∃ b1,b1={ b with dur:=D,now:=fun s=>if s < m then D s else b.now s }:=⟨_,rfl⟩
    have h1:m < b1.n:=by rw[hb1]; exact h
    have h2:0 < b1.k:=by rw[hb1]; show 0 < b.k; omega
    rw[← hb1]
    refine aB ?_
    refine DK.o rfl (bH rfl rfl (show hget (aE b1 4 (aM [lateB b]++_)) 1 0=some (.cells 5 (disksR b1)) from rfl) h1 (by rw[bV])) ?_
    refine dC ?_
    refine DK.o rfl (bF rfl (show hget (aE b1 4 (aM [lateB b]++_)) 1 0=some (.cells 5 (disksR b1)) from rfl) (bL h1) dk1) ?_
    refine dC ?_
    refine DK.o rfl (bH rfl rfl (show hget (aE b1 4 (aM [lateB b]++_)) 1 0=some (.cells 5 (disksR b1)) from rfl) h1 (by rw[bV])) ?_
    refine dC ?_
    refine DK.o rfl (bF rfl (show hget (aE b1 4 (aM [lateB b]++_)) 1 0=some (.cells 5 (disksR b1)) from rfl) (bL h1) dk0) ?_
    refine dC ?_
    refine DK.o rfl ((tW h2 rfl rfl (show hget (aE b1 4 (aM [lateB b]++_)) 3 m=_ from cD h1) (show hget (aE b1 4 (aM [lateB b]++_)) 2 m=_ from cD h1) (iJ _ _) (iJ _ _)).trans (congrArg (fun H=>some (AV.sc (.int .i64 (b1.k:Nat)),H)) (KH (X:=aM [lateB b]++_)))) ?_
    refine DK.nil ⟨by kernel_rfl,?_⟩
    refine aB ?_
    refine⟨m+1,by omega,by omega,?_⟩
    have e:{ b1 with now:=fun x=>if x=m then b1.dur m else b1.now x }={ b with dur:=D,now:=fun s=>if s < m+1 then D s else b.now s }:=by
     rw[hb1]
     simp only[Bk.mk.injEq,true_and,and_true]
     funext s
     by_cases e:s=m
     ·subst e; simp
     ·by_cases e2:s < m
      ·rw[if_neg e,if_pos e2,if_pos (by omega)]
      ·rw[if_neg e,if_neg e2,if_neg (by omega)]
    rw[e]
    refine Sub.bk [] [[(4,0)]] [] ?_ ?_
    ·(all_goals exact bO)
    ·(all_goals exact bO)
   ·obtain rfl:m=b.n:=by omega
    have e:aE { b with dur:=D,now:=fun s=>if s < b.n then D s else b.now s } 4 (aM [lateB b])=aE { b with dur:=D,now:=D } 4 (aM [lateB b]):=by
     unfold aE
     congr 4
     exact jC fun s hs=>by
      show Blk.cells 64 (dR b.k (if s < b.n then D s else b.now s))=_
      rw[if_pos hs]
    rw[e]
    have hfl:=hb.fl
    refine aB ?_
    refine qX (kQ b pk) (r0:=[.hsl 1 0 0 b.n,.sc (.int .i64 (b.k:Nat)),.sc (.slice none 0 0),.sc (.int .i64 (-1)),.sc (.slice none 0 0),.sc (.bool true),.sc (.int .i64 (IntKind.i64.wrap ((b.fails:Int)+1))),.sc (.int .i64 (b.stores:Nat))]) 5 (X:=aM [lateB b]) (aM [.dead,lateB (kQ b pk)]) [66] [[(4,0)],[(5,0)]] [4] (e0:=?_) (res':=.tup []) ?_ ?_ ?_
    ·unfold kQ
     rw[← hD]
     rfl
    ·exact⟨rfl,rfl⟩
    ·((all_goals (repeat' (first | exact aO.nil | exact aI.nil | exact bD.nil | exact ToL.nil | exact ToR.nil | refine aO.cons ?_ ?_ | refine aI.cons ?_ ?_ | refine f8 ?_ ?_ | exact To.undef _ | exact To.sc _ | exact To.hslL rfl rfl | exact To.asl _ _ _ _ _ _ _ rfl | refine To.ifc _ _ _ ?_ | exact To.ptrO rfl rfl rfl | exact To.mrefO rfl | exact To.nil rfl rfl rfl | exact wt1 | exact To.nilL | refine To.int ?_ | refine To.bool ?_ | refine To.hslL rfl ?_ | refine wt2 rfl ?_ ?_ ?_ | refine To.tupL ?_ | refine To.aggL ?_ | refine To.cptrL ?_ | refine To.fzp rfl rfl rfl ?_ | refine To.fzm rfl rfl ?_ | refine To.cloL ?_ ?_ | refine wt3 ?_ | refine wt4 ?_ | exact wt5 | refine wt6 ?_ | refine ToB.one ?_ | exact wt7 | ((with_reducible apply ToL.consE); case e9=>rfl) | refine wt8 ?_ | refine ToL.cons ?_ ?_ | exact wt11 | refine wt9 ?_ ?_ | refine wt12 ?_ | (with_reducible rfl) | assumption)); all_goals (first | rfl | assumption | (simp; done) | (simp; omega) | (rw[wrap_small (by omega) (by omega)]; done) | (rw[wrap_small (by omega) (by omega)]; omega) | (refine congrArg Nat.cast ?_; assumption) | skip)))
     exact ED (by omega)
    ·exact⟨⟨⟨_,rfl,.dead _⟩,trivial⟩,⟨⟨_,rfl,ToB.rows rfl (prs _)⟩,trivial⟩,trivial⟩
def eQ (b:Bk):Bool×Bk:=if b.fuse=0 then(true,kQ b b.picks) else(false,if 0 < b.fuse then { b with fuse:=b.fuse - 1 } else b)
theorem yA {b:Bk} {c:Nat} (hb:BOK b c) (hc:c≤1000000000):aD Tryz.prog 119 [.ptr 0 0 0 0] (aE b 4 (aM [lateB b])) fun res H'=>res=.sc (.bool (eQ b).1)∧H'=aE (eQ b).2 5 (aM [.dead,lateB (eQ b).2]):=by
 refine aD.of LH ?_ (nlB rfl)
 unfold eQ
 have h0:=hb.f0
 have h1:=hb.f1
 refine aB ?_
 refine AWP.condN (b.fuse=0) rfl (by rfl) (fun h=>?_) (fun h=>?_)
 ·rw[if_pos h]
  refine aB ?_
  refine Reg.c (Nat.le_refl _) rfl ((KK hb hc b.picks hb.pl).mono ?_); rintro res H' ⟨rfl,rfl⟩; try (refine aB ?_)
  exact cZ ⟨rfl,rfl⟩
 ·rw[if_neg h]
  refine aB ?_
  refine AWP.condN (0 < b.fuse) rfl (by rfl) (fun h2=>?_) (fun h2=>?_)
  ·rw[if_pos h2]
   refine aB ?_
   refine qX { b with fuse:=b.fuse - 1 } (r0:=[.hsl 1 0 0 b.n,.sc (.int .i64 (b.k:Nat)),.hsl 4 0 0 b.late.length,.sc (.int .i64 (IntKind.i64.wrap (b.fuse - 1))),.list 1 (byR b.picks),.sc (.bool b.down),.sc (.int .i64 (b.fails:Nat)),.sc (.int .i64 (b.stores:Nat))]) 5 (X:=aM [lateB b]) (aM [.dead,lateB b]) [] [[(4,0)],[(4,0)]] [4] (e0:=rfl) (res':=.sc (.bool false)) ⟨rfl,rfl⟩ ?_ ?_
   ·(all_goals exact bO)
   ·exact⟨⟨⟨_,rfl,.dead _⟩,trivial⟩,⟨⟨_,rfl,ToB.rows rfl (prs _)⟩,trivial⟩,trivial⟩
  ·rw[if_neg h2]
   refine aB ?_
   refine c7 5 (aM [.dead,lateB b]) [[(4,0)],[(4,0)]] [4] (res':=.sc (.bool false)) ⟨rfl,rfl⟩ ?_
   ·exact⟨⟨⟨_,rfl,.dead _⟩,trivial⟩,⟨⟨_,rfl,ToB.rows rfl (prs _)⟩,trivial⟩,trivial⟩
theorem FZ {b:Bk} {c:Nat} (hb:BOK b c) (pk:List Nat):BOK (kQ b pk) (c+1):=
 ⟨hb.n0,hb.n8,hb.k0,hb.k8,fun w hw=>by simp[kQ] at hw,Nat.zero_le _,fun s=>Nat.le_succ_of_le (hb.wr s),Nat.succ_le_succ hb.fl,Nat.le_succ_of_le hb.st,by simp[kQ],by simp[kQ],Nat.zero_le _,fun n hn=>by simp[kQ] at hn⟩
theorem BOK.le {b:Bk} {c c':Nat} (hb:BOK b c) (h:c≤c'):BOK b c':=
 ⟨hb.n0,hb.n8,hb.k0,hb.k8,hb.late,Nat.le_trans hb.ll h,fun s=>Nat.le_trans (hb.wr s) h,Nat.le_trans hb.fl h,Nat.le_trans hb.st h,hb.f0,hb.f1,hb.pl,hb.p8⟩
theorem qH {b:Bk} {c:Nat} (hb:BOK b c):BOK (eQ b).2 (c+1):=by
 unfold eQ
 split
 ·exact FZ hb _
 ·split
  ·rename_i h
   have h1:=hb.f1
   refine { hb.le (Nat.le_succ c) with f0:=?_,f1:=?_ }
   ·show -1≤b.fuse - 1
    omega
   ·show b.fuse - 1≤1000000
    omega
  ·exact hb.le (Nat.le_succ c)
theorem vZ (b:Bk):(eQ b).2.n=b.n:=by
 unfold eQ
 split
 ·rfl
 ·split<;>rfl
theorem zR (b:Bk):(eQ b).2.k=b.k:=by
 unfold eQ
 split
 ·rfl
 ·split<;>rfl
def writeP (b:Bk) (s a:Nat) (f:Nat→Nat):Bk:={ b with wr:=fun x=>if x=s then b.wr x+1 else b.wr x,now:=o7 b.now s a f,late:=b.late++[(s,a,f)] }
def cX (b:Bk) (s a:Nat) (f:Nat→Nat):Int×Bk:=if b.down=true then(22,b) else if b.lost s=true then(19,b) else(if (eQ (writeP b s a f)).1=true then 22 else 0,(eQ (writeP b s a f)).2)
theorem uH {b:Bk} {c:Nat} (hb:BOK b c) {s a:Nat} (hs:s < b.n) (ha:a < b.k) (f:Nat→Nat):BOK (writeP b s a f) (c+1):=by
 refine { hb.le (Nat.le_succ c) with late:=fun w hw=>?_,ll:=?_,wr:=fun x=>?_ }
 ·rcases List.mem_append.1 (show w∈b.late++[(s,a,f)] from hw) with h | h
  ·exact hb.late w h
  ·rw[List.mem_singleton.1 h]
   exact⟨hs,ha⟩
 ·show(b.late++[(s,a,f)]).length≤c+1
  rw[List.length_append]
  exact Nat.succ_le_succ hb.ll
 ·show(if x=s then b.wr x+1 else b.wr x)≤c+1
  have:=hb.wr x
  split<;>omega
theorem iU {b:Bk} {c:Nat} (hb:BOK b c) {s a:Nat} (hs:s < b.n) (ha:a < b.k) (f:Nat→Nat):BOK (cX b s a f).2 (c+2):=by
 unfold cX
 split
 ·exact hb.le (by omega)
 ·split
  ·exact hb.le (by omega)
  ·exact qH (uH hb hs ha f)
theorem EG {b:Bk} {s:Nat}:(disksR b).set s ((hO b s).set 4 (.sc (.int .i64 ((b.wr s+1:Nat):Int))))=disksR { b with wr:=fun x=>if x=s then b.wr x+1 else b.wr x }:=by
 apply List.ext_getElem?
 intro j
 rw[List.getElem?_set]
 by_cases e:s=j
 ·subst e
  rw[if_pos rfl]
  by_cases h:s < b.n
  ·have h':s < ({ b with wr:=fun x=>if x=s then b.wr x+1 else b.wr x }:Bk).n:=h
   rw[bV,if_pos h,bL h']
   show _=some [_,_,_,_,AV.sc (.int .i64 (((if s=s then b.wr s+1 else b.wr s):Nat):Int))]
   rw[if_pos rfl]
   rfl
  ·rw[bV,if_neg h,List.getElem?_eq_none (by rw[bV]; exact Nat.le_of_not_lt h)]
 ·rw[if_neg e]
  by_cases h:j < b.n
  ·have h':j < ({ b with wr:=fun x=>if x=s then b.wr x+1 else b.wr x }:Bk).n:=h
   rw[bL h,bL h']
   unfold hO
   show some [_,_,_,_,AV.sc (.int .i64 ((b.wr j:Nat):Int))]=some [_,_,_,_,AV.sc (.int .i64 (((if j=s then b.wr j+1 else b.wr j):Nat):Int))]
   rw[if_neg (Ne.symm e)]
  ·rw[List.getElem?_eq_none (by rw[bV]; omega),List.getElem?_eq_none (by rw[bV]; exact Nat.le_of_not_lt h)]
theorem MN {b:Bk} {lg:Nat} {X:Heap} {s:Nat}:aJ (aE b lg X) 1 0 (.cells 5 ((disksR b).set s ((hO b s).set 4 (.sc (.int .i64 ((b.wr s+1:Nat):Int))))))=aE { b with wr:=fun x=>if x=s then b.wr x+1 else b.wr x } lg X:=by
 rw[EG]
 rfl
theorem sG {b:Bk} {c:Nat} (hb:BOK b c) (hc:c < 1000000000) {s a:Nat} (hs:s < b.n) (ha:a < b.k) {rows:List (List AV)} [PRs rows] {row:Nat} {f:Nat→Nat} (hr:rows[row]?=some (bR f)):
  aD Tryz.prog 56 [.ptr 0 0 0 0,.sc (.int .i64 (s:Nat)),.sc (.int .i64 (a:Nat)),.asl 5 0 row 0 64] (aE b 4 (aM [lateB b,.cells 64 rows])) fun res H'=>res=.sc (.int .i64 (cX b s a f).1)∧H'=aE (cX b s a f).2 6 (aM [.dead,.cells 64 rows,lateB (cX b s a f).2]):=by
 refine aD.of cF56 ?_ (nlB rfl)
 unfold cX
 have hk8:=hb.k8
 refine aB ?_
 refine Reg.c (Nat.le_refl _) rfl ((oF hb.n0 hs).mono ?_); rintro res H' ⟨rfl,rfl⟩; try (refine aB ?_)
 rw[dFa (show¬ b.k≤a by omega)]
 refine aB ?_
 cases hd:b.down with
 | true=>
  refine aB ?_
  refine c7 6 (aM [.dead,.cells 64 rows,lateB b]) [[(4,0)],[(5,0)],[(4,0)]] [4] (res':=.sc (.int .i64 22)) ⟨rfl,rfl⟩ ?_
  ·exact⟨⟨⟨_,rfl,.dead _⟩,trivial⟩,⟨⟨_,rfl,ToB.rows rfl (prs _)⟩,trivial⟩,⟨⟨_,rfl,ToB.rows rfl (prs _)⟩,trivial⟩,trivial⟩
 | false=>
  refine aB ?_
  refine Reg.o rfl (bF rfl sO (bL hs) dk2) ?_
  refine aB ?_
  cases hl:b.lost s with
  | true=>
   refine aB ?_
   refine c7 6 (aM [.dead,.cells 64 rows,lateB b]) [[(4,0)],[(5,0)],[(4,0)]] [4] (res':=.sc (.int .i64 19)) ⟨rfl,rfl⟩ ?_
   ·exact⟨⟨⟨_,rfl,.dead _⟩,trivial⟩,⟨⟨_,rfl,ToB.rows rfl (prs _)⟩,trivial⟩,⟨⟨_,rfl,ToB.rows rfl (prs _)⟩,trivial⟩,trivial⟩
  | false=>
   have hwr:=hb.wr s
   refine aB ?_
   refine Reg.o rfl (bF rfl sO (bL hs) dk4) ?_
   refine aB ?_
   refine Reg.on rfl ((dS rfl rfl sO (bL hs) (by decide:4 < 5) rfl).trans (congrArg (fun H=>some (AV.undef,H)) MN)) ?_
   obtain⟨b1,hb1⟩:∃ b1,b1={ b with wr:=fun x=>if x=s then b.wr x+1 else b.wr x }:=⟨_,rfl⟩
   have hs1:s < b1.n:=by rw[hb1]; exact hs
   have ha1:a < b1.k:=by rw[hb1]; exact ha
   have hbl:=bX f
   rw[← hb1]
   refine aB ?_
   refine DK.o rfl (bF rfl (show hget (aE b1 4 (aM [lateB b,.cells 64 rows]++_)) 1 0=some (.cells 5 (disksR b1)) from rfl) (bL hs1) dk1) ?_
   refine dC ?_
   refine DK.o rfl (bH rfl rfl (show hget (aE b1 4 (aM [lateB b,.cells 64 rows]++_)) 3 s=_ from cD hs1) ha1 (by rw[iJ])) ?_
   refine dC ?_
   refine DK.on rfl ((k7 (cs:=bR f) rfl rfl (show hget (aE b1 4 (aM [lateB b,.cells 64 rows]++_)) 3 s=_ from cD hs1) (oD ha1) (bX _) (bX _) (fD _)).trans
    (congrArg (fun H=>some (AV.undef,H)) (J6 (X:=aM [lateB b,.cells 64 rows]++_)))) ?_
   refine DK.nil ⟨by kernel_rfl,?_⟩
   obtain⟨b2,hb2⟩:∃ b2,b2={ b1 with now:=o7 b1.now s a f }:=⟨_,rfl⟩
   rw[← hb2]
   have hlb:lateB b=lateB b2:=by rw[hb2,hb1]; rfl
   have hll:(kK b2.late).length=b2.late.length:=oP _
   have hl2:b2.late.length≤c:=by rw[hb2,hb1]; exact hb.ll
   refine AWP.sub (fr':=[(0,.ptr 0 0 0 0),(1,.sc (.int .i64 (s:Nat))),(2,.sc (.int .i64 (a:Nat))),(3,.asl 5 0 row 0 64)]) (H':=aE b2 4 (aM [lateB b2,.cells 64 rows])) ?_ ?_
   ·rw[← hlb]
    refine Sub.bk [] [[(4,0)],[(5,0)]] [] ?_ ?_
    ·(all_goals exact bO)
    ·(all_goals exact bO)
   refine aB ?_
   refine DK.nil ⟨by kernel_rfl,?_⟩
   have hb3:b2={ writeP b s a f with late:=b.late }:=by rw[hb2,hb1]; rfl
   have hlen:b2.late.length=b.late.length:=by rw[hb3]
   refine AWP.sub (fr':=[(0,.ptr 0 0 0 0)]) (H':=aE (writeP b s a f) 6 (aM [.dead,.cells 64 rows,lateB (writeP b s a f)])) ?_ ?_
   ·rw[hb3]
    refine Sub.bkR (writeP b s a f) (r0:=[.hsl 1 0 0 b.n,.sc (.int .i64 (b.k:Nat)),.hsl 6 12 0 (b.late.length+1),.sc (.int .i64 b.fuse),.list 1 (byR b.picks),.sc (.bool b.down),.sc (.int .i64 (b.fails:Nat)),.sc (.int .i64 (b.stores:Nat))])
     [] [[(4,0)],[(5,0)],[(6,12)]] [4] rfl ?_ ?_ ?_
    ·((all_goals (repeat' (first | exact aO.nil | exact aI.nil | exact bD.nil | exact ToL.nil | exact ToR.nil | refine aO.cons ?_ ?_ | refine aI.cons ?_ ?_ | refine f8 ?_ ?_ | exact To.undef _ | exact To.sc _ | exact To.hslL rfl rfl | exact To.asl _ _ _ _ _ _ _ rfl | refine To.ifc _ _ _ ?_ | exact To.ptrO rfl rfl rfl | exact To.mrefO rfl | exact To.nil rfl rfl rfl | exact wt1 | exact To.nilL | refine To.int ?_ | refine To.bool ?_ | refine To.hslL rfl ?_ | refine wt2 rfl ?_ ?_ ?_ | refine To.tupL ?_ | refine To.aggL ?_ | refine To.cptrL ?_ | refine To.fzp rfl rfl rfl ?_ | refine To.fzm rfl rfl ?_ | refine To.cloL ?_ ?_ | refine wt3 ?_ | refine wt4 ?_ | exact wt5 | refine wt6 ?_ | refine ToB.one ?_ | exact wt7 | ((with_reducible apply ToL.consE); case e9=>rfl) | refine wt8 ?_ | refine ToL.cons ?_ ?_ | exact wt11 | refine wt9 ?_ ?_ | refine wt12 ?_ | (with_reducible rfl) | assumption)); all_goals (first | rfl | assumption | (simp; done) | (simp; omega) | (rw[wrap_small (by omega) (by omega)]; done) | (rw[wrap_small (by omega) (by omega)]; omega) | (refine congrArg Nat.cast ?_; assumption) | skip)))
     show _=(b.late++[_]).length
     rw[List.length_append]
     rfl
    ·(all_goals exact bO)
    ·exact⟨⟨⟨_,rfl,.dead _⟩,trivial⟩,⟨⟨_,rfl,ToB.rows rfl (prs _)⟩,trivial⟩,⟨⟨_,rfl,ToB.rows (by show kK b.late++[_]=_; simp[writeP,kK]; rfl) (prs _)⟩,trivial⟩,trivial⟩
   refine aB ?_
   refine Reg.c (nlB rfl) rfl ((aD.bk0 (args:=[.ptr 0 0 0 0]) (yA (uH hb hs ha f) (by omega)) (vZ _) (.sc _) rfl ⟨.ptr _ _ _ _ _ _ rfl,trivial⟩).mono ?_)
   rintro res H' ⟨rfl,rfl⟩
   generalize eQ (writeP b s a f)=r
   obtain⟨r1,r2⟩:=r
   cases r1 with
   | true=>
    refine aB ?_
    refine c7 6 (aM [.dead,.cells 64 rows,lateB r2]) [[(4,0)],[(5,0)],[(7,0)]] [4] (res':=.sc (.int .i64 22)) ⟨rfl,rfl⟩ ?_
    ·exact⟨⟨⟨_,rfl,.dead _⟩,trivial⟩,⟨⟨_,rfl,ToB.rows rfl (prs _)⟩,trivial⟩,⟨⟨_,rfl,ToB.rows rfl (prs _)⟩,trivial⟩,trivial⟩
   | false=>
    refine aB ?_
    refine c7 6 (aM [.dead,.cells 64 rows,lateB r2]) [[(4,0)],[(5,0)],[(7,0)]] [4] (res':=.sc (.int .i64 0)) ⟨rfl,rfl⟩ ?_
    ·exact⟨⟨⟨_,rfl,.dead _⟩,trivial⟩,⟨⟨_,rfl,ToB.rows rfl (prs _)⟩,trivial⟩,⟨⟨_,rfl,ToB.rows rfl (prs _)⟩,trivial⟩,trivial⟩
theorem gB (b:Bk) (s a:Nat) (f:Nat→Nat):(cX b s a f).2.n=b.n:=by
 unfold cX
 split
 ·rfl
 ·split
  ·rfl
  ·exact vZ _
theorem kF (b:Bk) (s a:Nat) (f:Nat→Nat):(cX b s a f).2.k=b.k:=by
 unfold cX
 split
 ·rfl
 ·split
  ·rfl
  ·exact zR _
def jX (b:Bk) (i:Nat):Nat→Nat→Nat→Nat:=(b.late.take i).foldl (fun d w=>o7 d w.1 w.2.1 w.2.2) b.dur
theorem zF {b:Bk} {i:Nat} (h:i < b.late.length):jX b (i+1)=o7 (jX b i) b.late[i].1 b.late[i].2.1 b.late[i].2.2:=by
 unfold jX
 rw[List.take_add_one,gEg h]
 show List.foldl _ _ (b.late.take i++[b.late[i]])=_
 rw[List.foldl_append]
 rfl
def flushP (b:Bk):Bk:={ b with dur:=jX b b.late.length,late:=[] }
def bN (b:Bk):Int×Bk:=if b.down=true then(22,b) else if (eQ b).1=true then(22,(eQ b).2) else(0,flushP (eQ b).2)
theorem DW {b:Bk} {c:Nat} (hb:BOK b c):BOK (flushP b) c:=
 ⟨hb.n0,hb.n8,hb.k0,hb.k8,fun w hw=>by simp[flushP] at hw,Nat.zero_le _,hb.wr,hb.fl,hb.st,hb.f0,hb.f1,hb.pl,hb.p8⟩
theorem k6 {b:Bk} {c:Nat} (hb:BOK b c):BOK (bN b).2 (c+1):=by
 unfold bN
 split
 ·exact hb.le (by omega)
 ·split
  ·exact qH hb
  ·exact DW (qH hb)
theorem g5 (b:Bk):(bN b).2.n=b.n:=by
 unfold bN
 split
 ·rfl
 ·split
  ·exact vZ _
  ·exact vZ b
theorem mS (b:Bk):(bN b).2.k=b.k:=by
 unfold bN
 split
 ·rfl
 ·split
  ·exact zR _
  ·exact zR b
theorem mV {b:Bk} {c:Nat} (hb:BOK b c) (hc:c < 1000000000):aD Tryz.prog 60 [.ptr 0 0 0 0] (aE b 4 (aM [lateB b])) fun res H'=>res=.sc (.int .i64 (bN b).1)∧H'=aE (bN b).2 5 (aM [.dead,lateB (bN b).2]):=by
 refine aD.of cF60 ?_ (nlB rfl)
 unfold bN
 refine aB ?_
 refine Reg.c (Nat.le_refl _) rfl ((uW hb.n0).mono ?_); rintro res H' ⟨rfl,rfl⟩; try (refine aB ?_)
 cases hd:b.down with
 | true=>
  refine aB ?_
  refine c7 5 (aM [.dead,lateB b]) [[(4,0)],[(4,0)]] [4] (res':=.sc (.int .i64 22)) ⟨rfl,rfl⟩ ?_
  ·exact⟨⟨⟨_,rfl,.dead _⟩,trivial⟩,⟨⟨_,rfl,ToB.rows rfl (prs _)⟩,trivial⟩,trivial⟩
 | false=>
  refine aB ?_
  refine Reg.c (Nat.le_refl _) rfl ((yA hb (by omega)).mono ?_); rintro res H' ⟨rfl,rfl⟩; try (refine aB ?_)
  have hb1:=qH hb
  generalize eQ b=r at *
  obtain⟨r1,r2⟩:=r
  cases r1 with
  | true=>
   refine aB ?_
   exact cZ ⟨rfl,rfl⟩
  | false=>
   replace hb1:BOK r2 (c+1):=hb1
   have hll:=hb1.ll
   refine aB ?_
   refine AWP.loop (fun i:Nat=>[(0,.ptr 0 0 0 0),(21,.hsl 5 0 0 r2.late.length),(22,.sc (.int .i64 (r2.late.length:Nat))),(23,.sc (.int .i64 (i:Nat)))]) (fun i=>aE { r2 with dur:=jX r2 i } 5 (aM [.dead,lateB r2])) (fun i=>i≤r2.late.length) (fun i=>r2.late.length - i) 0 (Nat.zero_le _) ?_ ?_
   ·(refine Sub.keep ?_; repeat' (first | exact trivial | exact Le.refl _ | refine⟨?_,?_⟩))
   rintro i hi
   refine aB ?_
   refine AWP.condD rfl (fun h=>?_) (fun h=>?_)
   ·have hw:=hb1.late r2.late[i] (List.getElem_mem _)
    have hg:=vR h
    have hdd:=zF h
    generalize r2.late[i]=w at *
    obtain⟨wr,hwr⟩:∃ wr,wr=.sc (.int .i64 (w.1:Nat))::.sc (.int .i64 (w.2.1:Nat))::bR w.2.2:=⟨_,rfl⟩
    have hwl:wr.length=66:=by rw[hwr]; simp[bX]
    have hwp:PR wr:=⟨fun c hc=>by
     rw[hwr] at hc
     rcases List.mem_cons.1 hc with rfl | hc
     ·exact .sc _
     rcases List.mem_cons.1 hc with rfl | hc
     ·exact .sc _
     exact pr _ c hc⟩
    rw[← hwr] at hg
    have hwc:wr.all AV.cell1=true:=by
     rw[hwr]
     simp[AV.cell1,Value.oneCell',fD]
    refine aB ?_
    refine Reg.o rfl (bH rfl rfl (show hget (aE _ 5 (aM [.dead,lateB r2])) 5 0=some (.cells 66 (kK r2.late)) from rfl) h (by rw[oP])) ?_
    refine dC ?_
    refine AWP.sub (fr':=[(0,.ptr 0 0 0 0),(4,.cptr wr),(21,.hsl 5 0 0 r2.late.length),(22,.sc (.int .i64 (r2.late.length:Nat))),(23,.sc (.int .i64 (i:Nat)))]) (H':=aE { r2 with dur:=jX r2 i } 5 (aM [.dead,lateB r2])) ?_ ?_
    ·refine Sub.bk [] [[(4,0)],[(5,0)]] [] ?_ ?_
     ·(all_goals exact bO)
     ·exact⟨⟨⟨_,rfl,.dead _⟩,trivial⟩,⟨⟨_,rfl,ToB.rows rfl (prs _)⟩,trivial⟩,trivial⟩
    rw[hwr]
    refine aB ?_
    refine DK.o rfl (bH rfl rfl (show hget (aE _ 5 (aM [.dead,lateB r2]++_)) 1 0=some (.cells 5 (disksR r2)) from rfl) hw.1 (by rw[bV])) ?_
    refine dC ?_
    refine DK.o rfl (bF rfl (show hget (aE _ 5 (aM [.dead,lateB r2]++_)) 1 0=some (.cells 5 (disksR r2)) from rfl) (bL hw.1) dk0) ?_
    refine dC ?_
    refine DK.o rfl (bH rfl rfl (show hget (aE { r2 with dur:=jX r2 i } 5 (aM [.dead,lateB r2]++_)) 2 w.1=_ from cD hw.1) hw.2 (by rw[iJ])) ?_
    refine dC ?_
    refine DK.on rfl ((k7 (cs:=bR w.2.2) rfl (by show AV.agg (List.take 64 (bR w.2.2))=.agg (bR w.2.2); rw[List.take_of_length_le (Nat.le_of_eq (bX _))]) (show hget (aE { r2 with dur:=jX r2 i } 5 (aM [.dead,lateB r2]++_)) 2 w.1=_ from cD hw.1) (oD hw.2) (bX _) (bX _) (fD _)).trans
     (congrArg (fun H=>some (AV.undef,H)) (CZ (b:={ r2 with dur:=jX r2 i }) (X:=aM [.dead,lateB r2]++_)))) ?_
    refine DK.nil ⟨by kernel_rfl,?_⟩
    refine aB ?_
    refine⟨i+1,by omega,by omega,?_⟩
    rw[hdd]
    refine Sub.bk [] [[(4,0)],[(5,0)]] [] ?_ ?_
    ·(all_goals exact bO)
    ·exact⟨⟨⟨_,rfl,.dead _⟩,trivial⟩,⟨⟨_,rfl,ToB.rows rfl (prs _)⟩,trivial⟩,trivial⟩
   ·obtain rfl:i=r2.late.length:=by omega
    refine aB ?_
    refine qX (flushP r2) (r0:=[.hsl 1 0 0 r2.n,.sc (.int .i64 (r2.k:Nat)),.sc (.slice none 0 0),.sc (.int .i64 r2.fuse),.list 1 (byR r2.picks),.sc (.bool r2.down),.sc (.int .i64 (r2.fails:Nat)),.sc (.int .i64 (r2.stores:Nat))]) 5 (X:=aM [.dead,lateB r2]) (aM [.dead,lateB (flushP r2)]) [66] [[(4,0)],[(6,0)]] [] (e0:=rfl) (res':=.sc (.int .i64 0)) ⟨rfl,rfl⟩ ?_ ?_
    ·(all_goals exact bO)
    ·exact⟨⟨⟨_,rfl,.dead _⟩,trivial⟩,⟨⟨_,rfl,ToB.rows rfl (prs _)⟩,trivial⟩,trivial⟩
theorem hasW : hasN 49 "Write" nT = true := by kernel_rfl
theorem tX {g i:Nat} {fr:Fr} {H:Heap} {x:Operand} {name:String} {t:TypeId} {a:AV} {cs:List AV} {T:List (Nat×List String)} (hx:ev fr x=.clo (.method name) [.ifc t a] cs) (h:hasN t name T=true):
  aC g i (.mop (.nilM T) [x]) fr H=some (.clo (.method name) [.ifc t a] cs,H):=by
 simp only[aC,avals,List.map_cons,List.map_nil,cN,hx,h]
theorem gQ (e:Int):(e != 0)=decide (¬ e=0):=by by_cases h:e=0<;>simp[h]
def gF (a:Nat) (f:Nat→Nat):Nat→Nat→Bk→Int×Bk
 | 0,_,b=>(0,b)
 | r+1,s,b=>if hN b (s:Int)=true then(if (cX b s a f).1=0 then gF a f r (s+1) (cX b s a f).2 else cX b s a f) else gF a f r (s+1) b
def bE (b:Bk) (a:Nat) (f:Nat→Nat):Int×Bk:=gF a f b.n 0 b
theorem iY {a:Nat} {f:Nat→Nat}:∀ {r s:Nat} {b:Bk} {c:Nat},BOK b c→s+r≤b.n→a < b.k→BOK (gF a f r s b).2 (c+2 * r)∧(gF a f r s b).2.n=b.n∧(gF a f r s b).2.k=b.k
 | 0,_,_,_,hb,_,_=>⟨hb,rfl,rfl⟩
 | r+1,s,b,c,hb,hs,ha=>by
  unfold gF
  split
  ·have h1:=iU hb (show s < b.n by omega) ha f
   have h2:=gB b s a f
   have h3:=kF b s a f
   split
   ·obtain⟨q1,q2,q3⟩:=iY (a:=a) (f:=f) (r:=r) (s:=s+1) h1 (by omega) (by omega)
    exact⟨q1.le (by omega),q2.trans h2,q3.trans h3⟩
   ·exact⟨h1.le (by omega),h2,h3⟩
  ·obtain⟨q1,q2,q3⟩:=iY (a:=a) (f:=f) (r:=r) (s:=s+1) hb (by omega) ha
   exact⟨q1.le (by omega),q2,q3⟩
theorem xJ {b:Bk} {c:Nat} (hb:BOK b c) (hc:c < 100000000) {a:Nat} (ha:a < b.k) (f:Nat→Nat):
  aD Tryz.prog 81 [.ifc 49 (.ptr 0 0 0 0),.sc (.int .i64 (a:Nat)),.agg (bR f)] (aE b 4 (aM [lateB b])) fun res H'=>res=.sc (.int .i64 (bE b a f).1)∧H'=aE (bE b a f).2 5 (aM [.dead,lateB (bE b a f).2]):=by
 refine aD.of cF81 ?_ (nlB rfl)
 have hbl:=bX f
 have hbc:=fD f
 have hn8:=hb.n8
 refine aB ?_
 refine Reg.cv (by first | exact Nat.le_refl _ | exact nlB rfl) rfl rfl ((fL hb.n0).mono ?_); rintro res H' ⟨rfl,rfl⟩; try (refine aB ?_)
 refine AWP.loop2 (fun(s:Nat) (b1:Bk)=>[(0,.ifc 49 (.ptr 0 0 0 0)),(1,.sc (.int .i64 (a:Nat))),(5,.ptr 5 0 0 0),(10,.sc (.int .i64 (b.n:Nat))),(11,.sc (.int .i64 (s:Nat)))]) (fun s b1=>aE b1 6 (aM [.dead,.cells 64 [bR f],lateB b1]))
  (fun s b1=>s≤b.n∧gF a f (b.n - s) s b1=bE b a f∧BOK b1 (c+2 * s)∧b1.n=b.n∧b1.k=b.k) (fun s b1=>b.n - s) 0 b ⟨Nat.zero_le _,rfl,hb,rfl,rfl⟩ ?_ ?_
 ·refine Sub.bk [] [[(4,0)],[(5,0)],[(4,0)]] [4] ?_ ?_
  ·(all_goals exact bO)
  ·exact⟨⟨⟨_,rfl,.dead _⟩,trivial⟩,⟨⟨_,rfl,ToB.rows rfl (prs _)⟩,trivial⟩,⟨⟨_,rfl,ToB.rows rfl (prs _)⟩,trivial⟩,trivial⟩
 rintro s b1 ⟨hs,he,h1,hn,hk⟩
 refine aB ?_
 refine AWP.condD rfl (fun h=>?_) (fun h=>?_)
 ·have hs1:s < b1.n:=by omega
  refine aB ?_
  refine Reg.cv (by first | exact Nat.le_refl _ | exact nlB rfl) rfl rfl ((qN h1.n0 (s:Int)).mono ?_); rintro res H' ⟨rfl,rfl⟩; try (refine aB ?_)
  obtain⟨m,hm⟩:∃ m,b.n - s=m+1:=⟨b.n - s - 1,by omega⟩
  rw[hm] at he
  unfold gF at he
  cases hg:hN b1 (s:Int) with
  | false=>
   rw[hg,if_neg (by simp)] at he
   refine aB ?_
   refine⟨s+1,b1,⟨by omega,by rw[← he,show b.n - (s+1)=m by omega],h1.le (by omega),hn,hk⟩,by omega,?_⟩
   (refine Sub.keep ?_; repeat' (first | exact trivial | exact Le.refl _ | refine⟨?_,?_⟩))
  | true=>
   rw[hg,if_pos rfl] at he
   refine d5 ?_
   refine AWP.dkm 7 _ jY rfl rfl (by kernel_rfl) (by kernel_rfl) (by kernel_rfl) ?_
   refine aB ?_
   refine DK.o rfl (tX rfl hasW) ?_
   refine aB ?_
   refine DK.nil ⟨by kernel_rfl,?_⟩
   refine Reg.cv (nlB rfl) rfl rfl ((aD.bk1 (args:=[.ptr 0 0 0 0,.sc (.int .i64 (s:Nat)),.sc (.int .i64 (a:Nat)),.asl 5 0 0 0 64]) (dg:=5) (d:=.cells 64 [bR f]) (sG h1 (by omega) hs1 (by omega) (row:=0) (f:=f) rfl) (gB _ _ _ _) (.sc _) ?_ rfl rfl ⟨.ptr _ _ _ _ _ _ rfl,.sc _,.sc _,.asl _ _ _ _ _ _ _ rfl,trivial⟩).mono ?_)
   ·intro r hr c hc
    rw[List.mem_singleton.1 hr] at hc
    exact pr _ c hc
   rintro res H' ⟨rfl,rfl⟩
   have hw1:=iU h1 hs1 (show a < b1.k by omega) f
   have hw2:=gB b1 s a f
   have hw3:=kF b1 s a f
   generalize cX b1 s a f=w at *
   obtain⟨e,b2⟩:=w
   refine aB ?_
   refine DK.nil ⟨by kernel_rfl,?_⟩
   refine aB ?_
   refine AWP.condN (¬ e=0) rfl (gQ e) (fun h0=>?_) (fun h0=>?_)
   ·rw[if_neg h0] at he
    rw[← he]
    refine aB ?_
    refine c7 5 (aM [.dead,lateB b2]) [[(4,0)],[(8,0)]] [] (res':=.sc (.int .i64 e)) ⟨rfl,rfl⟩ ?_
    ·exact⟨⟨⟨_,rfl,.dead _⟩,trivial⟩,⟨⟨_,rfl,ToB.rows rfl (prs _)⟩,trivial⟩,trivial⟩
   ·replace h0:e=0:=Decidable.byContradiction h0
    rw[if_pos h0] at he
    refine aB ?_
    refine⟨s+1,b2,⟨by omega,by rw[← he,show b.n - (s+1)=m by omega],hw1.le (by omega),by rw[← hn,← hw2],by rw[← hk,← hw3]⟩,by omega,?_⟩
    refine Sub.bk [] [[(4,0)],[(5,0)],[(8,0)]] [] ?_ ?_
    ·(all_goals exact bO)
    ·exact⟨⟨⟨_,rfl,.dead _⟩,trivial⟩,⟨⟨_,rfl,ToB.rows rfl (prs _)⟩,trivial⟩,⟨⟨_,rfl,ToB.rows rfl (prs _)⟩,trivial⟩,trivial⟩
 ·obtain rfl:s=b.n:=by omega
  rw[Nat.sub_self] at he
  rw[← he]
  refine aB ?_
  refine c7 5 (aM [.dead,lateB b1]) [[(4,0)],[(6,0)]] [] (res':=.sc (.int .i64 0)) ⟨rfl,rfl⟩ ?_
  ·exact⟨⟨⟨_,rfl,.dead _⟩,trivial⟩,⟨⟨_,rfl,ToB.rows rfl (prs _)⟩,trivial⟩,trivial⟩
theorem tK {g i:Nat} {fr:Fr} {H:Heap} {x ix:Operand} {k:IntKind} {q g' i' row off len:Nat} (hx:ev fr x=.asl g' i' row off len) (hi:ev fr ix=.sc (.int k (q:Int))) (hq:q < len):aC g i (.idxSl 1 x ix) fr H=some (.ptr g' i' row (off+q),H):=by
 have e:Nat.blt q len=true:=by simpa[Nat.blt_eq] using hq
 show(match ev fr ix with
  | .sc (.int _ n)=>_
  | _=>none)=_
 rw[hi]
 show(match ev fr x with
  | .list s rows=>_
  | .hsl g' i' start len=>_
  | .asl g' i' row off len=>_
  | _=>none)=_
 rw[hx]
 show(match Nat.beq 1 1 && Nat.blt q len with
  | true=>some (AV.ptr g' i' row (off+q),H)
  | false=>none)=_
 rw[e]
 rfl
theorem A9 (x:Int):∃ m:Nat,IntKind.u8.wrap x=(m:Int):=by
 refine⟨(IntKind.u8.wrap x).toNat,?_⟩
 have:0≤IntKind.u8.wrap x:=by
  show 0≤x % 2 ^ 8
  omega
 omega
theorem AJ {f:Nat→Nat} {q m:Nat}:(bR f).set q (.sc (.int .u8 (m:Nat)))=bR fun j=>if j=q then m else f j:=by
 apply List.ext_getElem?
 intro j
 rw[List.getElem?_set]
 by_cases e:q=j
 ·subst e
  rw[if_pos rfl]
  by_cases h:q < 64
  ·rw[bX,if_pos h,mH h,if_pos rfl]
  ·rw[bX,if_neg h,List.getElem?_eq_none (by rw[bX]; omega)]
 ·rw[if_neg e]
  by_cases h:j < 64
  ·rw[mH h,mH h,if_neg (Ne.symm e)]
  ·rw[List.getElem?_eq_none (by rw[bX]; omega),List.getElem?_eq_none (by rw[bX]; omega)]
theorem DT {g i:Nat} {fr:Fr} {H:Heap} {a x:Operand} {g' i' off m:Nat} {f:Nat→Nat} (ha:ev fr a=.ptr g' i' 0 off) (hx:ev fr x=.sc (.int .u8 (m:Nat))) (hh:hget H g' i'=some (.cells 64 [bR f])) (ho:off < 64):
  aC g i (.store 1 a x) fr H=some (.undef,aJ H g' i' (.cells 64 [bR fun j=>if j=off then m else f j])):=by
 rw[dS ha (by rw[hx]; rfl) hh rfl (by rw[bX]; exact ho) rfl,AJ]
 rfl
theorem jG (f:Nat→Nat):fI (.cells 64 [bR f]):=fun r hr c hc=>by
 rw[List.mem_singleton.1 hr] at hc
 exact pr _ c hc
def C4 (n i:Nat):Nat:=(IntKind.u8.wrap ((n:Int).fdiv (2 ^ min ((8 * i:Nat):Int).toNat IntKind.u64.bits))).toNat
theorem F6 (n i:Nat):IntKind.u8.wrap ((n:Int).fdiv (2 ^ min ((8 * i:Nat):Int).toNat IntKind.u64.bits))=(C4 n i:Nat):=by
 obtain⟨m,hm⟩:=A9 ((n:Int).fdiv (2 ^ min ((8 * i:Nat):Int).toNat IntKind.u64.bits))
 unfold C4
 rw[hm]
 rfl
def jB (off n i:Nat) (f:Nat→Nat):Nat→Nat:=fun j=>if off≤j∧j < off+i then C4 n (j - off) else f j
theorem NC (off n:Nat) (f:Nat→Nat):jB off n 0 f=f:=by
 funext j
 unfold jB
 rw[if_neg (by omega)]
theorem EF (off n i:Nat) (f:Nat→Nat):(fun j=>if j=off+i then C4 n i else jB off n i f j)=jB off n (i+1) f:=by
 funext j
 unfold jB
 by_cases e:j=off+i
 ·subst e
  rw[if_pos rfl,if_pos (by omega),Nat.add_sub_cancel_left]
 ·rw[if_neg e]
  by_cases h:off≤j∧j < off+i
  ·rw[if_pos h,if_pos (by omega)]
  ·rw[if_neg h,if_neg (by omega)]
theorem GL (f:Nat→Nat) {off:Nat} (ho:off+8≤64) (n:Nat):aD Tryz.prog 149 [.asl 0 0 0 off 8,.sc (.int .u64 (n:Nat))] [[.cells 64 [bR f]]] fun res H'=>∃ y,H'=[[y]]∧aX res∧fI y∧(res=.tup []∧y=.cells 64 [bR (jB off n 8 f)]):=by
 refine aD.of K7 ?_ (nlB rfl)
 refine aB ?_
 refine AWP.loop (fun i:Nat=>[(0,.asl 0 0 0 off 8),(1,.sc (.int .u64 (n:Nat))),(5,.sc (.int .i64 (i:Nat)))]) (fun i=>[[.cells 64 [bR (jB off n i f)]]]) (fun i=>i≤8) (fun i=>8 - i) 0 (Nat.zero_le _) ?_ ?_
 ·rw[NC]
  (refine Sub.keep ?_; repeat' (first | exact trivial | exact Le.refl _ | refine⟨?_,?_⟩))
 rintro i hi
 have hl:=bX (jB off n i f)
 refine aB ?_
 refine AWP.condN (i < 8) rfl (by rfl) (fun h=>?_) (fun h=>?_)
 ·refine aB ?_
  rw[F6]
  refine Reg.o rfl (tK (q:=i) rfl rfl h) ?_
  refine Reg.on rfl (DT rfl rfl rfl (by omega)) ?_
  rw[EF]
  refine aB ?_
  refine⟨i+1,by omega,by omega,?_⟩
  (refine Sub.keep ?_; repeat' (first | exact trivial | exact Le.refl _ | refine⟨?_,?_⟩))
 ·obtain rfl:i=8:=by omega
  refine aB ?_
  refine⟨by first | exact .inl rfl | exact .inr rfl,.tup [],.tup [],_,rfl,cQ.refl _ _ _,_,rfl,?_,jG _,rfl,rfl⟩
  exact pv _
def A4 (f:Nat→Nat) (off:Nat):Nat→Nat
 | 0=>14695981039346656037
 | i+1=>(BitVec.ofInt IntKind.u64.bits ((A4 f off i:Nat):Int) ^^^ BitVec.ofInt IntKind.u64.bits ((f (off+i) % 18446744073709551616:Nat):Int)).toNat % (2 ^ IntKind.u64.bits:Int).natAbs * 1099511628211 % 18446744073709551616
theorem L9 (f:Nat→Nat) {off len:Nat} (ho:off+len≤64):aD Tryz.prog 146 [.asl 0 0 0 off len] [[.cells 64 [bR f]]] fun res H'=>∃ y,H'=[[y]]∧aX res∧fI y∧(res=.sc (.int .u64 (A4 f off len:Nat))∧y=.cells 64 [bR f]):=by
 refine aD.of LJ ?_ (nlB rfl)
 refine aB ?_
 refine AWP.loop (fun i:Nat=>[(6,.asl 0 0 0 off len),(7,.sc (.int .i64 (len:Nat))),(3,.sc (.int .u64 (A4 f off i:Nat))),(8,.sc (.int .i64 (i:Nat)))]) (fun i=>[[.cells 64 [bR f]]]) (fun i=>i≤len) (fun i=>len - i) 0 (Nat.zero_le _) ?_ ?_
 ·(refine Sub.keep ?_; repeat' (first | exact trivial | exact Le.refl _ | refine⟨?_,?_⟩))
 rintro i hi
 refine aB ?_
 refine AWP.condD rfl (fun h=>?_) (fun h=>?_)
 ·refine aB ?_
  refine Reg.o rfl (tK (q:=i) rfl rfl h) ?_
  refine Reg.o rfl (bF rfl rfl rfl (mH (by omega))) ?_
  refine aB ?_
  refine⟨i+1,by omega,by omega,?_⟩
  refine Sub.keep ⟨Le.refl _,Le.refl _,?_,Le.refl _,trivial⟩
  exact Le.refl _
 ·obtain rfl:i=len:=by omega
  refine aB ?_
  refine⟨by first | exact .inl rfl | exact .inr rfl,_,.sc (.int .u64 (A4 f off i:Nat)),_,rfl,cQ.refl _ _ _,_,rfl,.sc _,jG _,rfl,rfl⟩
def rootR (n:Nat) (sec:Nat→Bool):List AV:=.sc (.int .u64 (n:Nat))::mC 256 sec
theorem cK (n:Nat) (sec:Nat→Bool):(rootR n sec).length=257:=by simp[rootR,fX]
theorem E7 (n:Nat) (s:Nat→Bool):(mC n s).all AV.cell1=true:=by
 rw[List.all_eq_true]
 intro c hc
 obtain⟨j,_,rfl⟩:=List.mem_map.1 hc
 rfl
theorem fJ (n:Nat) (sec:Nat→Bool):(rootR n sec).all AV.cell1=true:=by
 unfold rootR
 rw[List.all_cons,E7]
 rfl
instance (n:Nat) (sec:Nat→Bool):PR (rootR n sec):=by unfold rootR; infer_instance
def orI (x k:Nat):Int:=IntKind.u8.wrap ((BitVec.ofInt IntKind.u8.bits (x:Int) ||| BitVec.ofInt IntKind.u8.bits (IntKind.u8.wrap (1 * 2 ^ min ((k % 8:Nat):Int).toNat IntKind.u8.bits))).toNat:Nat)
def orB (x k:Nat):Nat:=(orI x k).toNat
theorem ME (x k:Nat):orI x k=(orB x k:Nat):=by
 obtain⟨m,hm⟩:=A9 ((BitVec.ofInt IntKind.u8.bits (x:Int) ||| BitVec.ofInt IntKind.u8.bits (IntKind.u8.wrap (1 * 2 ^ min ((k % 8:Nat):Int).toNat IntKind.u8.bits))).toNat:Nat)
 unfold orB
 rw[show orI x k=(m:Int) from hm]
 rfl
def nM (sec:Nat→Bool) (f:Nat→Nat):Nat→(Nat→Nat)
 | 0=>f
 | i+1=>if sec i=true then(fun j=>if j=8+i / 8 then orB (nM sec f i (8+i / 8)) i else nM sec f i j) else nM sec f i
def d9 (n:Nat) (sec:Nat→Bool):Nat→Nat := 
 let g:=nM sec (jB 0 n 8 fun _=>0) 256
 jB 56 (A4 g 0 56) 8 g
theorem MB:dQ [(64,Value.int IntKind.u8 0)]=bR fun _=>0:=rfl
theorem EI (n:Nat) (sec:Nat→Bool):aF Tryz.prog 117 [.agg (rootR n sec)] (.agg (bR (d9 n sec))):=by
 refine aF.mkI K9 (nlB rfl) ?_
 have hl:=cK n sec
 have hc:=fJ n sec
 refine d5 ?_
 refine AWP.sub (fr':=[(1,.cptr (rootR n sec)),(2,.ptr 0 0 0 0),(3,.ptr 1 0 0 0)]) (H':=[[.cells 64 [bR fun _=>0]],[.cells 64 [bR fun _=>0]]]) ?_ ?_
 ·(apply Sub.to [] [[(1,0)],[(2,0)]]; all_goals (repeat' (first | exact aO.nil | exact aI.nil | exact bD.nil | exact ToL.nil | exact ToR.nil | refine aO.cons ?_ ?_ | refine aI.cons ?_ ?_ | refine f8 ?_ ?_ | exact To.undef _ | exact To.sc _ | exact To.hslL rfl rfl | exact To.asl _ _ _ _ _ _ _ rfl | refine To.ifc _ _ _ ?_ | exact To.ptrO rfl rfl rfl | exact To.mrefO rfl | exact To.nil rfl rfl rfl | exact wt1 | exact To.nilL | refine To.int ?_ | refine To.bool ?_ | refine To.hslL rfl ?_ | refine wt2 rfl ?_ ?_ ?_ | refine To.tupL ?_ | refine To.aggL ?_ | refine To.cptrL ?_ | refine To.fzp rfl rfl rfl ?_ | refine To.fzm rfl rfl ?_ | refine To.cloL ?_ ?_ | refine wt3 ?_ | refine wt4 ?_ | exact wt5 | refine wt6 ?_ | refine ToB.one ?_ | exact wt7 | ((with_reducible apply ToL.consE); case e9=>rfl) | refine wt8 ?_ | refine ToL.cons ?_ ?_ | exact wt11 | refine wt9 ?_ ?_ | refine wt12 ?_ | (with_reducible rfl) | assumption)); all_goals (first | rfl | assumption | (simp; done) | (simp; omega) | (rw[wrap_small (by omega) (by omega)]; done) | (rw[wrap_small (by omega) (by omega)]; omega) | (refine congrArg Nat.cast ?_; assumption) | skip))
 refine AWP.dkl rfl jY ?_
 refine aB ?_
 refine DK.nil ⟨by kernel_rfl,?_⟩
 refine Reg.c (Nat.zero_le _) rfl ((aD.via1 (args:=[.asl 1 0 0 0 8,.sc (.int .u64 (n:Nat))]) 1 0 (GL (fun _=>0) (off:=0) (by decide) n) rfl (jG _) ⟨.asl _ _ _ _ _ _ _ rfl,.sc _,trivial⟩).mono ?_)
 rintro res H' ⟨y,rfl,rfl,rfl⟩
 refine aB ?_
 refine AWP.loop (fun i:Nat=>[(11,.agg (mC 256 sec)),(2,.ptr 0 0 0 0),(3,.ptr 1 0 0 0),(12,.sc (.int .i64 (i:Nat)))]) (fun i=>[[.cells 64 [bR fun _=>0]],[.cells 64 [bR (nM sec (jB 0 n 8 fun _=>0) i)]]]) (fun i=>i≤256) (fun i=>256 - i) 0 (Nat.zero_le _) ?_ ?_
 ·(apply Sub.to [] [[(0,0)],[(1,0)]]; all_goals (repeat' (first | exact aO.nil | exact aI.nil | exact bD.nil | exact ToL.nil | exact ToR.nil | refine aO.cons ?_ ?_ | refine aI.cons ?_ ?_ | refine f8 ?_ ?_ | exact To.undef _ | exact To.sc _ | exact To.hslL rfl rfl | exact To.asl _ _ _ _ _ _ _ rfl | refine To.ifc _ _ _ ?_ | exact To.ptrO rfl rfl rfl | exact To.mrefO rfl | exact To.nil rfl rfl rfl | exact wt1 | exact To.nilL | refine To.int ?_ | refine To.bool ?_ | refine To.hslL rfl ?_ | refine wt2 rfl ?_ ?_ ?_ | refine To.tupL ?_ | refine To.aggL ?_ | refine To.cptrL ?_ | refine To.fzp rfl rfl rfl ?_ | refine To.fzm rfl rfl ?_ | refine To.cloL ?_ ?_ | refine wt3 ?_ | refine wt4 ?_ | exact wt5 | refine wt6 ?_ | refine ToB.one ?_ | exact wt7 | ((with_reducible apply ToL.consE); case e9=>rfl) | refine wt8 ?_ | refine ToL.cons ?_ ?_ | exact wt11 | refine wt9 ?_ ?_ | refine wt12 ?_ | (with_reducible rfl) | assumption)); all_goals (first | rfl | assumption | (simp; done) | (simp; omega) | (rw[wrap_small (by omega) (by omega)]; done) | (rw[wrap_small (by omega) (by omega)]; omega) | (refine congrArg Nat.cast ?_; assumption) | skip))
 rintro i hi
 refine aB ?_
 refine AWP.condN (i < 256) rfl (by rfl) (fun h=>?_) (fun h=>?_)
 ·refine aB ?_
  refine Reg.o rfl (v6 rfl rfl rfl h (gX h)) ?_
  refine aB ?_
  have hle:8+i / 8 < 64:=by omega
  cases hs:sec i with
  | true=>
   refine aB ?_
   refine DK.o rfl (bF rfl rfl rfl (mH hle)) ?_
   refine aB ?_
   refine DK.nil ⟨by kernel_rfl,?_⟩
   refine aB ?_
   refine⟨i+1,by omega,by omega,?_⟩
   rw[show nM sec (jB 0 n 8 fun _=>0) (i+1)=(fun j=>if j=8+i / 8 then orB (nM sec (jB 0 n 8 fun _=>0) i (8+i / 8)) i else nM sec (jB 0 n 8 fun _=>0) i j) by show(if sec i=true then _ else _)=_; rw[hs]; rfl]
   (apply Sub.to [] [[(0,0)],[(1,0)]]; all_goals (repeat' (first | exact aO.nil | exact aI.nil | exact bD.nil | exact ToL.nil | exact ToR.nil | refine aO.cons ?_ ?_ | refine aI.cons ?_ ?_ | refine f8 ?_ ?_ | exact To.undef _ | exact To.sc _ | exact To.hslL rfl rfl | exact To.asl _ _ _ _ _ _ _ rfl | refine To.ifc _ _ _ ?_ | exact To.ptrO rfl rfl rfl | exact To.mrefO rfl | exact To.nil rfl rfl rfl | exact wt1 | exact To.nilL | refine To.int ?_ | refine To.bool ?_ | refine To.hslL rfl ?_ | refine wt2 rfl ?_ ?_ ?_ | refine To.tupL ?_ | refine To.aggL ?_ | refine To.cptrL ?_ | refine To.fzp rfl rfl rfl ?_ | refine To.fzm rfl rfl ?_ | refine To.cloL ?_ ?_ | refine wt3 ?_ | refine wt4 ?_ | exact wt5 | refine wt6 ?_ | refine ToB.one ?_ | exact wt7 | ((with_reducible apply ToL.consE); case e9=>rfl) | refine wt8 ?_ | refine ToL.cons ?_ ?_ | exact wt11 | refine wt9 ?_ ?_ | refine wt12 ?_ | (with_reducible rfl) | assumption)); all_goals (first | rfl | assumption | (simp; done) | (simp; omega) | (rw[wrap_small (by omega) (by omega)]; done) | (rw[wrap_small (by omega) (by omega)]; omega) | (refine congrArg Nat.cast ?_; assumption) | skip))
   show[(bR _).set (8+i / 8) (.sc (.int .u8 (orI _ i)))]=_
   rw[ME,AJ]
  | false=>
   refine aB ?_
   refine⟨i+1,by omega,by omega,?_⟩
   rw[show nM sec (jB 0 n 8 fun _=>0) (i+1)=nM sec (jB 0 n 8 fun _=>0) i by show(if sec i=true then _ else _)=_; rw[hs]; rfl]
   (refine Sub.keep ?_; repeat' (first | exact trivial | exact Le.refl _ | refine⟨?_,?_⟩))
 ·obtain rfl:i=256:=by omega
  refine d5 ?_
  refine AWP.lin [(true,0),(true,1),(false,2),(false,3)] jY (by kernel_rfl) (by kernel_rfl) ?_
  refine I1 ?_
  refine RT.cc (Nat.zero_le _) rfl (aD.via1 (args:=[.asl 1 0 0 0 56]) 1 0 (L9 (nM sec (jB 0 n 8 fun _=>0) 256) (off:=0) (len:=56) (by decide)) rfl (jG _) ⟨.asl _ _ _ _ _ _ _ rfl,trivial⟩) ?_
  rintro res H' ⟨y,rfl,rfl,rfl⟩
  refine⟨(by repeat (first | exact trivial | exact dE.refl _ _ | refine And.intro rfl ?_)),?_⟩
  refine I1 ?_
  refine RT.cc (Nat.zero_le _) rfl (aD.via1 (args:=[.asl 1 0 0 56 8,.sc (.int .u64 (A4 (nM sec (jB 0 n 8 fun _=>0) 256) 0 56:Nat))]) 1 0 (GL (nM sec (jB 0 n 8 fun _=>0) 256) (off:=56) (by decide) (A4 (nM sec (jB 0 n 8 fun _=>0) 256) 0 56)) rfl (jG _) ⟨.asl _ _ _ _ _ _ _ rfl,.sc _,trivial⟩) ?_
  rintro res H' ⟨y,rfl,rfl,rfl⟩
  refine⟨(by repeat (first | exact trivial | exact dE.refl _ _ | refine And.intro rfl ?_)),?_⟩
  refine I1 ?_
  refine aB ?_
  refine fM.mk (.inr rfl) rfl rfl ?_
  exact To.pure (pv (AV.agg (bR (d9 n sec))))
end Go.Proofs.YtgdocflpobncmaaGreat
