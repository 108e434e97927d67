import Derived.Test.YtgdocflpobncmaaGreatGAvMv
import Derived.Test.YtgdocflpobncmaaGreatGAvQ
import Derived.Test.YtgdocflpobncmaaGreatGAvL
import Derived.Test.YtgdocflpobncmaaGreatGAvZ
namespace Go.Av
section
variable {g i:Nat} {fr:Fr} {H:Heap}
theorem iQ {z:AV} {k:IntKind} {x ix:Operand} {n:Int} {es:List (Value×AV)} {ok:Bool} {r:Option AV} (hx:ev fr x=.tmap es) (hi:ev fr ix=.sc (.int k n)) (hm:cS k n es=some r):
  aC g i (.lookup z k x ix ok) fr H=lB z ok H (some r):=by
 simp only[aC,hi,hx,kL,hm,decide_true]
theorem gF {z:AV} {k:IntKind} {x ix:Operand} {g' i':Nat} {n:Int} {es:List (Value×AV)} {ok:Bool} {r:Option AV} (hx:ev fr x=.mref g' i') (hi:ev fr ix=.sc (.int k n)) (hh:hget H g' i'=some (.map es)) (hm:cS k n es=some r):
  aC g i (.lookup z k x ix ok) fr H=lB z ok H (some r):=by
 simp only[aC,hi,hx,kL,hh,hm,decide_true]
theorem r8 {k:IntKind} {m ix x:Operand} {g' i':Nat} {n:Int} {es:List (Value×AV)} {v:AV} (hx:ev fr m=.mref g' i') (hi:ev fr ix=.sc (.int k n)) (hv:ev fr x=v) (hh:hget H g' i'=some (.map es)) (hm:cS k n es=some none):
  aC g i (.mapUpdate k m ix x) fr H=some (.undef,aK H g' i' (.map (es++[(.int k n,v)]))):=by
 rw[← hv]
 exact xI hx hi hh hm
theorem rF {k:IntKind} {m ix x:Operand} {g' i':Nat} {n:Int} {es:List (Value×AV)} {o v:AV} (hm:ev fr m=.mref g' i') (hi:ev fr ix=.sc (.int k n)) (hv:ev fr x=v) (hh:hget H g' i'=some (.map es)) (hf:cS k n es=some (some o)):
  aC g i (.mapUpdate k m ix x) fr H=some (.undef,aK H g' i' (.map (qN n v es))):=by
 subst hv
 simp only[aC,hm,hi,decide_true,hh,hf]
theorem BI {x:Operand} {cs:List AV} {n:Nat} (hx:(ev fr x).cs=some cs) (h1:cs.all AV.cell1=true) (hn:cs.length=n):aC g i (.box x) fr H=some (.ptr g i 0 0,aK H g i (.cells n [cs])):=by
 subst hn
 simp only[aC,hx,h1]
end
theorem Sub.put {k N:Nat} {fr:Fr} {H:Heap} {t:Nat} {v:AV} (h:Le (fr.get t) v):Sub k N fr H ((t,v)::fr) H:=by
 intro M J tmps w hF hH hM
 refine⟨M,J,.refl k hH hM,hF.1,fun u=>?_⟩
 have key:Le (fr.get u) (Fr.get ((t,v)::fr) u):=by
  show Le (fr.get u) (match Nat.beq t u with | true=>v | false=>Fr.get fr u)
  split
  ·rename_i e
   have:t=u:=Nat.eq_of_beq_eq_true e
   subst this
   exact h
  ·exact Le.refl _
 exact key M J _ (hF.2 u)
theorem Reg.fn {P:Program} {N k:Nat} {xs:List IOper} {fr:Fr} {H:Heap} {K:Fr→Heap→Prop} {f:FuncId} (t:Nat) (h1:fr.get t=.sc (.func (.func f) #[] #[])) (h:Reg P N k xs ((t,.clo (.func f) [] [])::fr) H K):Reg P N k xs fr H K:=
 Reg.sub (Sub.put (by rw[h1]; exact Le.func f)) h
def hG:List Nat→bJ→bJ
 | [],c=>c
 | 0::l,.seq a _=>hG l a
 | _::l,.seq _ b=>hG l b
 | 0::l,.cond _ a _=>hG l a
 | _::l,.cond _ _ b=>hG l b
 | _::l,.block _ a=>hG l a
 | _::l,.loop a=>hG l a
 | _,c=>c
end Go.Av
namespace Go.Av
theorem AWP.dky {P:Program} {N k:Nat} {fr:Fr} {H:Heap} {Q:Exit→Fr→Heap→Prop} {zs:List IOper} {af:List (List Nat)} (n:Nat) {d:Option Nat} {gd:Option (Nat×Bool)} {f:Cal} {args:List Operand} (fr1:Fr) (H1:Heap) (hp:P.follows .mixedOrders=true)
  (hz:zs=zs.take n++⟨d,gd,.callV f args⟩::zs.drop (n+1)) (hl:(zs.take n).length=n)
  (hlow:qO 0 af=true) (h1:((List.range n).all fun j=>i8 af af.length j n)=true) (h2:((List.range (zs.drop (n+1)).length).all fun j=>i8 af af.length n (n+1+j))=true)
  (h:DK P H.length 0 (zs.take n) fr (H++[List.replicate (zs.take n).length .dead]) [] fun R1 fr0 H0=>uP af 0 R1 0 R1=true∧Sub k N fr0 H0 fr1 H1)
  (hy:gok fr1 gd=some true∧k≤H1.length∧∃ g i,evC P fr1 f=.yld g i∧cZ P g i (avals fr1 args) H1 fun b H2=>
   DK P H2.length 0 (zs.drop (n+1)) (fr1.put d (.sc (.bool b))) (H2++[List.replicate (zs.drop (n+1)).length .dead]) [] fun R2 fr3 H3=>uP af (n+1) R2 0 R2=true∧Q .normal fr3 H3):AWP P N k (.draw zs af) Q fr H:=by
 obtain⟨R1,fr0,H0,hr,hs,hsub⟩:=h
 rw[List.reverse_nil,List.nil_append] at hs
 obtain⟨k1,k2,g,i,k3,k4⟩:=hy
 refine AWP.drawYld (R1:=R1) (fr0:=fr0) (H0:=H0) (fr1:=fr1) (H1:=H1) hz hp hlow (fun j hj=>?_) (fun j hj=>?_) hr (.of hs) hsub ⟨k1,k2,g,i,k3,k4.mono fun b H2 hk=>?_⟩
 ·rw[hl] at hj ⊢
  exact List.all_eq_true.1 h1 j (List.mem_range.2 hj)
 ·rw[hl]
  exact List.all_eq_true.1 h2 j (List.mem_range.2 hj)
 ·obtain⟨R2,fr3,H3,hr2,hs2,hq⟩:=hk
  rw[List.reverse_nil,List.nil_append] at hs2
  exact⟨R2,fr3,H3,hr2,by rw[hl]; exact .of hs2,hq⟩
end Go.Av
namespace Go.Av
noncomputable def dfL (f:AV→Option AV) (l:List AV):Option (List AV):=List.rec (motive:=fun _=>Option (List AV)) (some []) (fun a _ ih=>match f a with
 | some b=>match ih with
  | some r=>some (b::r)
  | none=>none
 | none=>none) l
noncomputable def dfR (f:AV→Option AV) (l:List (List AV)):Option (List (List AV)):=List.rec (motive:=fun _=>Option (List (List AV))) (some []) (fun a _ ih=>match dfL f a with
 | some b=>match ih with
  | some r=>some (b::r)
  | none=>none
 | none=>none) l
noncomputable def dfA (H:Heap) (f:AV→Option AV) (a:AV):Option AV:=
 match a with
 | .undef=>some .undef
 | .sc v=>some (.sc v)
 | .one=>some .one
 | .agg cs=>match dfL f cs with
  | some r=>some (.agg r)
  | none=>none
 | .tup cs=>match dfL f cs with
  | some r=>some (.tup r)
  | none=>none
 | .cptr cs=>match dfL f cs with
  | some r=>some (.cptr r)
  | none=>none
 | .list sz rows=>match dfR f rows with
  | some r=>some (.list sz r)
  | none=>none
 | .clo fn fs cs=>match dfL f fs with
  | some r=>match dfL f cs with
   | some q=>some (.clo fn r q)
   | none=>none
  | none=>none
 | .hsl g i s l=>match kW H g i with
  | some (.cells sz rows)=>match Nat.ble (s+l) rows.length with
   | true=>match dfR f ((rows.drop s).take l) with
    | some r=>some (.list sz r)
    | none=>none
   | false=>none
  | _=>none
 | .ptr g i row 0=>match kW H g i with
  | some (.cells _ rows)=>match kV rows row with
   | some r=>match dfL f r with
    | some q=>some (.cptr q)
    | none=>none
   | none=>none
  | _=>none
 | _=>none
noncomputable def dfz (H:Heap) (n:Nat):AV→Option AV:=
 Nat.rec (motive:=fun _=>AV→Option AV) (fun _=>none) (fun _ ih a=>dfA H ih a) n
section
variable {H:Heap} {n:Nat}
abbrev DF (H:Heap) (n:Nat) (a b:AV):Prop:=To (ToT H n (bW [])) (rho []) a b∧aW b
theorem fF {f:AV→Option AV} (hf:∀ a b,f a=some b→DF H n a b):∀(l m:List AV),dfL f l=some m→ToL (ToT H n (bW [])) (rho []) l m∧∀ c∈m,aW c
 | [],m,h=>by injection h with h; subst h; exact⟨ToL.nil,fun c hc=>by cases hc⟩
 | a::l,m,h=>by
  replace h:(match f a with | some b=>(match dfL f l with | some r=>some (b::r) | none=>none) | none=>none)=some m:=h
  split at h
  ·rename_i b e1
   split at h
   ·rename_i r e2
    injection h with h
    subst h
    obtain⟨h1,h2⟩:=hf a b e1
    obtain⟨h3,h4⟩:=fF hf l r e2
    exact⟨ToL.cons h1 h3,fun c hc=>by
     rcases List.mem_cons.1 hc with rfl | hc
     ·exact h2
     ·exact h4 c hc⟩
   ·cases h
  ·cases h
theorem tM {f:AV→Option AV} (hf:∀ a b,f a=some b→DF H n a b):∀(l m:List (List AV)),dfR f l=some m→ToR (ToT H n (bW [])) (rho []) l m∧∀ r∈m,∀ c∈r,aW c
 | [],m,h=>by injection h with h; subst h; exact⟨ToR.nil,fun c hc=>by cases hc⟩
 | a::l,m,h=>by
  replace h:(match dfL f a with | some b=>(match dfR f l with | some r=>some (b::r) | none=>none) | none=>none)=some m:=h
  split at h
  ·rename_i b e1
   split at h
   ·rename_i r e2
    injection h with h
    subst h
    obtain⟨h1,h2⟩:=fF hf a b e1
    obtain⟨h3,h4⟩:=tM hf l r e2
    exact⟨ToR.cons h1 h3,fun c hc=>by
     rcases List.mem_cons.1 hc with rfl | hc
     ·exact h2
     ·exact h4 c hc⟩
   ·cases h
  ·cases h
theorem sD:∀(d:Nat) (a b:AV),dfz H d a=some b→DF H n a b
 | 0,a,b,h=>by cases h
 | d+1,a,b,h=>by
  have ih:=sD d
  replace h:dfA H (dfz H d) a=some b:=h
  unfold dfA at h
  split at h
  ·injection h with h; subst h; exact⟨.undef _,.undef⟩
  ·injection h with h; subst h; exact⟨.sc _,.sc _⟩
  ·injection h with h; subst h; exact⟨.one,.one⟩
  ·split at h
   ·rename_i r e
    injection h with h; subst h
    obtain⟨h1,h2⟩:=fF ih _ _ e
    exact⟨To.aggL h1,.agg _ h2⟩
   ·cases h
  ·split at h
   ·rename_i r e
    injection h with h; subst h
    obtain⟨h1,h2⟩:=fF ih _ _ e
    exact⟨To.tupL h1,.tup _ h2⟩
   ·cases h
  ·split at h
   ·rename_i r e
    injection h with h; subst h
    obtain⟨h1,h2⟩:=fF ih _ _ e
    exact⟨To.cptrL h1,.cptr _ h2⟩
   ·cases h
  ·split at h
   ·rename_i r e
    injection h with h; subst h
    obtain⟨h1,h2⟩:=tM ih _ _ e
    exact⟨To.listR h1,.list _ _ h2⟩
   ·cases h
  ·split at h
   ·rename_i r e
    split at h
    ·rename_i q e2
     injection h with h; subst h
     obtain⟨h1,h2⟩:=fF ih _ _ e
     obtain⟨h3,h4⟩:=fF ih _ _ e2
     exact⟨To.cloL h1 h3,.clo _ _ _ h2 h4⟩
    ·cases h
   ·cases h
  ·rename_i g i s l
   rw[eE] at h
   split at h
   ·rename_i sz rows e
    split at h
    ·rename_i hb
     split at h
     ·rename_i r e2
      injection h with h; subst h
      obtain⟨h1,h2⟩:=tM ih _ _ e2
      exact⟨.base (.fz (.hsl g i s l sz rows rfl e (nlB hb))) (To.listR h1),.list _ _ h2⟩
     ·cases h
    ·cases h
   ·cases h
  ·rename_i g i row
   rw[eE] at h
   split at h
   ·rename_i sz rows e
    rw[eK] at h
    split at h
    ·rename_i r e1
     split at h
     ·rename_i q e2
      injection h with h; subst h
      obtain⟨h1,h2⟩:=fF ih _ _ e2
      exact⟨To.fzp e rfl e1 (To.cptrL h1),.cptr _ h2⟩
     ·cases h
    ·cases h
   ·cases h
  ·cases h
theorem PL (d:Nat) (H:Heap) (a b:AV) (h:dfz H d a=some b):d4 0 H a [] b∧aW b:=by
 obtain⟨h1,h2⟩:=sD (n:=H.length) d a b h
 refine⟨?_,h2⟩
 have e:H++gh []=H:=List.append_nil H
 refine d4.to (k:=0) [] [] (by rw[e]; exact h1) ?_ rfl rfl rfl
 exact aI.nil
end
noncomputable def FT.toFr (T:FT):(Nat→Nat)→Fr→Fr:=
 FT.rec (motive:=fun _=>(Nat→Nat)→Fr→Fr) (fun _ r=>r)
  (fun v _ _ ihl ihr pos r=>match v with
   | .undef=>ihl (fun n=>pos (Nat.succ (Nat.mul 2 n))) (ihr (fun n=>pos (Nat.succ (Nat.succ (Nat.mul 2 n)))) r)
   | v=>(pos 0,v)::ihl (fun n=>pos (Nat.succ (Nat.mul 2 n))) (ihr (fun n=>pos (Nat.succ (Nat.succ (Nat.mul 2 n)))) r)) T
theorem FT.toFr_mem:∀(T:FT) (pos:Nat→Nat) (r:Fr) (x:Nat×AV),x∈T.toFr pos r→x∈r∨∃ n,x.1=pos n∧T.get n=x.2:=by
 intro T
 induction T with
 | leaf=>intro pos r x h; exact .inl h
 | node v l rr ihl ihr=>
  intro pos r x h
  have key:x∈FT.toFr l (fun n=>pos (Nat.succ (Nat.mul 2 n))) (FT.toFr rr (fun n=>pos (Nat.succ (Nat.succ (Nat.mul 2 n)))) r)→x∈r∨∃ n,x.1=pos n∧(FT.node v l rr).get n=x.2:=by
   intro h
   rcases ihl _ _ _ h with h | ⟨n,h1,h2⟩
   ·rcases ihr _ _ _ h with h | ⟨n,h1,h2⟩
    ·exact .inl h
    ·refine .inr ⟨Nat.succ (Nat.succ (Nat.mul 2 n)),h1,?_⟩
     show(match Nat.beq (Nat.mod (Nat.succ (Nat.mul 2 n)) 2) 0 with | true=>l.get (Nat.div (Nat.succ (Nat.mul 2 n)) 2) | false=>rr.get (Nat.div (Nat.succ (Nat.mul 2 n)) 2))=x.2
     have e1:Nat.mod (Nat.succ (Nat.mul 2 n)) 2=1:=by show(2 * n+1) % 2=1; omega
     have e2:Nat.div (Nat.succ (Nat.mul 2 n)) 2=n:=by show(2 * n+1) / 2=n; omega
     rw[e1,e2]
     exact h2
   ·refine .inr ⟨Nat.succ (Nat.mul 2 n),h1,?_⟩
    show(match Nat.beq (Nat.mod (Nat.mul 2 n) 2) 0 with | true=>l.get (Nat.div (Nat.mul 2 n) 2) | false=>rr.get (Nat.div (Nat.mul 2 n) 2))=x.2
    have e1:Nat.mod (Nat.mul 2 n) 2=0:=by show(2 * n) % 2=0; omega
    have e2:Nat.div (Nat.mul 2 n) 2=n:=by show(2 * n) / 2=n; omega
    rw[e1,e2]
    exact h2
  have key2:x∈((pos 0,v)::FT.toFr l (fun n=>pos (Nat.succ (Nat.mul 2 n))) (FT.toFr rr (fun n=>pos (Nat.succ (Nat.succ (Nat.mul 2 n)))) r))→x∈r∨∃ n,x.1=pos n∧(FT.node v l rr).get n=x.2:=by
   intro h
   rcases List.mem_cons.1 h with rfl | h
   ·exact .inr ⟨0,rfl,rfl⟩
   ·exact key h
  cases v<;>first | exact key h | exact key2 h
theorem FT.toFr_sub:∀(T:FT) (pos:Nat→Nat) (r:Fr) (x:Nat×AV),x∈r→x∈T.toFr pos r:=by
 intro T
 induction T with
 | leaf=>intro pos r x h; exact h
 | node v l rr ihl ihr=>
  intro pos r x h
  have key:=ihl (fun n=>pos (Nat.succ (Nat.mul 2 n))) _ x (ihr (fun n=>pos (Nat.succ (Nat.succ (Nat.mul 2 n)))) r x h)
  cases v<;>first | exact key | exact List.mem_cons_of_mem _ key
theorem FT.mem_toFr:∀(T:FT) (pos:Nat→Nat) (r:Fr) (n:Nat),T.get n≠.undef→(pos n,T.get n)∈T.toFr pos r:=by
 intro T
 induction T with
 | leaf=>intro pos r n h; exact absurd (by cases n<;>rfl) h
 | node v l rr ihl ihr=>
  intro pos r n h
  have cons:∀ {x:Nat×AV},x∈FT.toFr l (fun n=>pos (Nat.succ (Nat.mul 2 n))) (FT.toFr rr (fun n=>pos (Nat.succ (Nat.succ (Nat.mul 2 n)))) r)→x∈FT.toFr (.node v l rr) pos r:=by
   intro x hx
   cases v<;>first | exact hx | exact List.mem_cons_of_mem _ hx
  cases n with
  | zero=>
   replace h:v≠.undef:=h
   show(pos 0,v)∈_
   cases v<;>first | exact absurd rfl h | exact List.mem_cons_self ..
  | succ m=>
   have hg:(FT.node v l rr).get (m+1)=match Nat.beq (Nat.mod m 2) 0 with | true=>l.get (Nat.div m 2) | false=>rr.get (Nat.div m 2):=rfl
   rw[hg] at h ⊢
   cases hb:Nat.beq (Nat.mod m 2) 0 with
   | true=>
    rw[hb] at h
    have e:=Nat.eq_of_beq_eq_true hb
    have:=ihl (fun n=>pos (Nat.succ (Nat.mul 2 n))) (FT.toFr rr (fun n=>pos (Nat.succ (Nat.succ (Nat.mul 2 n)))) r) (Nat.div m 2) h
    have e2:Nat.succ (Nat.mul 2 (Nat.div m 2))=m+1:=by
     show 2 * (m / 2)+1=m+1
     have:m % 2=0:=e
     omega
    simp only[e2] at this
    exact cons this
   | false=>
    rw[hb] at h
    have:=ihr (fun n=>pos (Nat.succ (Nat.succ (Nat.mul 2 n)))) r (Nat.div m 2) h
    have e2:Nat.succ (Nat.succ (Nat.mul 2 (Nat.div m 2)))=m+1:=by
     show 2 * (m / 2)+2=m+1
     have:¬ m % 2=0:=fun e=>by
      have:Nat.beq (Nat.mod m 2) 0=true:=by
       show Nat.beq (m % 2) 0=true
       rw[e]; rfl
      rw[this] at hb; cases hb
     omega
    simp only[e2] at this
    exact cons (FT.toFr_sub l _ _ _ this)
noncomputable def FT.fr (T:FT):Fr:=T.toFr (fun n=>n) []
theorem FT.fr_le {T:FT} {fr:Fr} (h:AgT fr T):∀ x∈T.fr,Le (fr.get x.1) x.2:=by
 intro x hx
 rcases FT.toFr_mem T _ _ x hx with h0 | ⟨n,h1,h2⟩
 ·simp at h0
 ·rw[h1,h n,h2]
  exact fun _ _ _ h=>h
theorem FT.fr_ag (T:FT):AgT T.fr T:=by
 have get_mem:∀(l:Fr) (t:Nat),Fr.get l t=.undef∨(t,Fr.get l t)∈l:=by
  intro l t
  induction l with
  | nil=>exact .inl rfl
  | cons p l ih=>
   obtain⟨d,v⟩:=p
   show(match Nat.beq d t with | true=>v | false=>Fr.get l t)=.undef∨(t,(match Nat.beq d t with | true=>v | false=>Fr.get l t))∈_
   cases hb:Nat.beq d t with
   | true=>
    have:=Nat.eq_of_beq_eq_true hb
    subst this
    exact .inr (List.mem_cons_self ..)
   | false=>
    rcases ih with h | h
    ·exact .inl h
    ·exact .inr (List.mem_cons_of_mem _ h)
 have mem_get:∀(l:Fr) (t:Nat) (v:AV),(t,v)∈l→(t,Fr.get l t)∈l:=by
  intro l t v h
  induction l with
  | nil=>cases h
  | cons p l ih=>
   obtain⟨d,u⟩:=p
   show(t,(match Nat.beq d t with | true=>u | false=>Fr.get l t))∈_
   cases hb:Nat.beq d t with
   | true=>
    have:=Nat.eq_of_beq_eq_true hb
    subst this
    exact List.mem_cons_self ..
   | false=>
    rcases List.mem_cons.1 h with h | h
    ·injection h with h1 h2
     subst h1
     simp at hb
    ·exact List.mem_cons_of_mem _ (ih h)
 have val:∀(t:Nat) (v:AV),(t,v)∈T.fr→T.get t=v:=by
  intro t v h
  rcases FT.toFr_mem T _ _ _ h with h0 | ⟨n,h1,h2⟩
  ·simp at h0
  ·simp only at h1 h2
   rw[h1,h2]
 intro t
 by_cases hu:T.get t=.undef
 ·rcases get_mem T.fr t with h | h
  ·rw[h,hu]
  ·exact(val _ _ h).symm
 ·have:=FT.mem_toFr T (fun n=>n) [] t hu
  exact(val _ _ (mem_get _ _ _ this)).symm
noncomputable def JM (l:Fr):FT→Option FT:=
 List.rec (motive:=fun _=>FT→Option FT) (fun T=>some T) (fun p _ ih T=>match ih T with
  | some T'=>T'.putK p.1 p.2
  | none=>none) l
theorem yX:∀(l:Fr) (T T':FT) (fr:Fr),JM l T=some T'→AgT fr T→AgT (l++fr) T'
 | [],T,T',fr,h,ha=>by injection h with h; subst h; exact ha
 | p::l,T,T',fr,h,ha=>by
  replace h:(match JM l T with | some T'=>T'.putK p.1 p.2 | none=>none)=some T':=h
  split at h
  ·rename_i T1 e
   exact(yX l T T1 fr e ha).putK h
  ·cases h
theorem pU:∀(l:List (Nat×AV)) (fr:Fr),putL fr l=l.reverse++fr
 | [],fr=>rfl
 | p::l,fr=>by
  show putL (p::fr) l=_
  rw[pU l,List.reverse_cons,List.append_assoc]
  rfl
noncomputable def GA (call:bN) (k:Nat) (ys:List IOper) (d:Option Nat) (gd:Option (Nat×Bool)) (f:Cal) (args:List Operand) (other:XR):RR→XR
 | .out T H=>match gd with
  | none=>match kY T f with
   | .yld g i=>match call.yl g i (mapK T args) H with
    | some (b,H')=>Bool.rec (motive:=fun _=>XR) .stuck (jX d (.sc (.bool b)) T H' (iG call k ys)).x (Nat.ble k (cJ H))
    | none=>.stuck
   | _=>other
  | some _=>other
 | .stuck=>other
noncomputable def PB (call:bN) (k:Nat) (zs:List IOper) (T:FT) (H:Heap):XR:=
 match mE zs with
 | some (xs,⟨d,gd,.callV f args⟩,ys)=>GA call k ys d gd f args (iG call k zs T H).x (iG call k xs T H)
 | _=>(iG call k zs T H).x
noncomputable def CT (call:bN) (af:List (List Nat)) (s:Nat) (ys:List IOper) (d:Option Nat) (T:FT) (r:Option (Bool×Heap)):XR:=
 match r with
 | some (b,H)=>match d with
  | none=>gV af s ys (iK call (cJ H) ys 0 T (H++[List.replicate ys.length .dead]))
  | some t=>match T.putK t (.sc (.bool b)) with
   | some T'=>gV af s ys (iK call (cJ H) ys 0 T' (H++[List.replicate ys.length .dead]))
   | none=>.stuck
 | none=>.stuck
noncomputable def D2 (call:bN) (k:Nat) (af:List (List Nat)) (xs ys:List IOper) (d:Option Nat) (gd:Option (Nat×Bool)) (f:Cal) (args:List Operand) (other:XR):DR→XR
 | .out R T H=>match gd with
  | none=>match kY T f with
   | .yld g i=>match (HE af (cJ xs) (cJ ys) && tQ af 0 xs R) && Nat.ble k (cJ H) with
    | true=>CT call af (Nat.succ (cJ xs)) ys d T (call.yl g i (mapK T args) H)
    | false=>.stuck
   | _=>other
  | some _=>other
 | .stuck=>other
noncomputable def GT (call:bN) (k:Nat) (zs:List IOper) (af:List (List Nat)) (T:FT) (H:Heap):XR:=
 match mE zs with
 | some (xs,⟨d,gd,.callV f args⟩,ys)=>D2 call k af xs ys d gd f args (CE call k zs af T H) (iK call (cJ H) xs 0 T (H++[List.replicate xs.length .dead]))
 | _=>CE call k zs af T H
noncomputable def DQ (T:FT) (h:Nat) (r:Option (AV×Heap)):XR:=
 match r with
 | some (_,H')=>match kW H' h 0 with
  | some (.lp _ _ st pe)=>match st with
   | .busy=>.stuck
   | _=>match lV H' h 0 .dead with
    | some H2=>match pe with
     | none=>.out .normal T H2
     | some .ret=>.out .ret T H2
     | some (.exit id)=>.out (.exit id) T H2
     | _=>.stuck
    | none=>.stuck
  | _=>.stuck
 | none=>.stuck
noncomputable def BD (call:bN) (N k:Nat) (f:Operand) (ps:List Nat) (qs:Array Tmp) (ra rb:Code) (T:FT) (H:Heap):XR:=
 match T.evK f with
 | .clo (.func g) fs cs=>match Nat.ble k (cJ H) && List.all ps (Nat.blt · N) with
  | true=>match lV H (cJ H) 0 (.lp ⟨N,qs,ra,rb⟩ T.fr .ready none) with
   | some H1=>DQ T (cJ H) (call.run g (fs++[.yld (cJ H) 0]++cs) H1)
   | none=>.stuck
  | false=>.stuck
 | _=>.stuck
noncomputable def iJ (call:bN) (N k fuel:Nat) (c:bJ):FT→Heap→XR:=
 bJ.rec (motive:=fun _=>FT→Heap→XR)
  (fun T H=>.out .normal T H)
  (fun xs T H=>PB call k xs T H)
  (fun xs af T H=>GT call k xs af T H)
  (fun _ _ a b T H=>HJ b (a T H))
  (fun c _ _ a b T H=>F9 (a T H) (b T H) (T.evK c))
  (fun id _ a T H=>GR id (a T H))
  (fun _ a T H=>C6 a fuel T H)
  (fun f ps _ _ qs ra rb _ _ T H=>BD call N k f ps qs ra rb T H)
  (fun id T H=>.out (.exit id) T H)
  (fun T H=>.out .ret T H)
  (fun _ _=>.stuck) c
def YOK (P:Program) (call:bN):Prop:=∀ g i args H b H',call.yl g i args H=some (b,H')→cZ P g i args H fun b' H2=>b'=b∧H2=H'
section
variable {P:Program} {N k fuel:Nat} {call:bN}
theorem BK (hcall:cC P call) (hy:YOK P call) {zs:List IOper} {T:FT} {H:Heap} {e:Exit} {T':FT} {H':Heap} (h:PB call k zs T H=.out e T' H') {fr:Fr} (ha:AgT fr T) {Q:Exit→Fr→Heap→Prop} (hQ:∀ fr',AgT fr' T'→Q e fr' H'):
  AWP P N k (.region zs) Q fr H:=by
 have other:∀ {e:Exit} {T':FT} {H':Heap},(iG call k zs T H).x=.out e T' H'→(∀ fr',AgT fr' T'→Q e fr' H')→AWP P N k (.region zs) Q fr H:=by
  intro e T' H' h hQ
  obtain⟨rfl,hr⟩:=RR.x_out h
  exact AWP.region (j8 hcall hQ zs T H fr hr ha)
 unfold PB at h
 split at h
 ·rename_i xs d gd f args ys hs
  unfold GA at h
  split at h
  ·rename_i T1 H1 hr
   split at h
   ·split at h
    ·rename_i g i hc
     split at h
     ·rename_i b H2 hyl
      cases hk:Nat.ble k (cJ H1) with
      | false=>rw[hk] at h; cases h
      | true=>
       rw[hk] at h
       replace h:(jX d (.sc (.bool b)) T1 H2 (iG call k ys)).x=.out e T' H':=h
       obtain⟨rfl,h9⟩:=RR.x_out h
       clear h
       refine AWP.rG hs (j8 hcall (fun fr1 ha1=>?_) xs T H fr hr ha)
       refine⟨rfl,by rw[← bM]; exact nlB hk,g,i,?_,?_⟩
       ·cases f with
        | tmp t=>
         simp only[kY,FT.getK_eq] at hc
         show qL P (fr1.get t)=_
         rw[ha1 t]
         split at hc
         ·cases hc
         ·rw[hc]
          rfl
        | meth r name tbl=>
         simp only[kY] at hc
         split at hc
         ·split at hc<;>cases hc
         ·cases hc
       ·rw[ha1.mapK]
        refine(hy g i _ H1 b H2 hyl).mono ?_
        rintro b' H3 ⟨rfl,rfl⟩
        obtain⟨T2,h1,h2⟩:=cN h9 ha1
        exact j8 hcall hQ ys T2 _ _ h2 h1
     ·cases h
    ·exact other h hQ
   ·exact other h hQ
  ·exact other h hQ
 ·exact other h hQ
theorem JT {f:Cal} {T:FT} {fr:Fr} (ha:AgT fr T) {g i:Nat} (hc:kY T f=.yld g i):evC P fr f=.yld g i:=by
 cases f with
 | tmp t=>
  simp only[kY,FT.getK_eq] at hc
  show qL P (fr.get t)=_
  rw[ha t]
  split at hc
  ·cases hc
  ·rw[hc]
   rfl
 | meth r name tbl=>
  simp only[kY] at hc
  split at hc
  ·split at hc<;>cases hc
  ·cases hc
theorem w7 {af:List (List Nat)} {s:Nat} {ys:List IOper} {r:DR} {e:Exit} {T':FT} {H':Heap} (h:gV af s ys r=.out e T' H'):∃ R,r=.out R T' H'∧e=.normal∧tQ af s ys R=true:=by
 unfold gV at h
 split at h
 ·rename_i R T H
  cases hc:tQ af s ys R with
  | false=>rw[hc] at h; cases h
  | true=>
   rw[hc] at h
   injection h with h1 h2 h3
   subst h1; subst h2; subst h3
   exact⟨R,rfl,rfl,hc⟩
 ·cases h
theorem yL (hp:P.follows .mixedOrders=true) (hcall:cC P call) (hy:YOK P call) {zs:List IOper} {af:List (List Nat)} {T:FT} {H:Heap} {e:Exit} {T':FT} {H':Heap} (h:GT call k zs af T H=.out e T' H') {fr:Fr} (ha:AgT fr T)
  {Q:Exit→Fr→Heap→Prop} (hQ:∀ fr',AgT fr' T'→Q e fr' H'):AWP P N k (.draw zs af) Q fr H:=by
 unfold GT at h
 split at h
 ·rename_i xs d gd f args ys hs
  unfold D2 at h
  split at h
  ·rename_i R T1 H1 hr
   split at h
   ·split at h
    ·rename_i g i hc
     split at h
     ·rename_i hb
      simp only[Bool.and_eq_true] at hb
      obtain⟨⟨c0,c1⟩,hk⟩:=hb
      rw[bM] at hr hk
      simp only[HE,bM,Bool.and_eq_true,List.all_eq_true,List.mem_range] at c0
      obtain⟨fr1,k1,k2,k3⟩:=gE hcall xs 0 T _ fr R T1 H1 hr ha
      have c2:=iC c1 k1.recs.1 k3
      refine AWP.drawYld (lE hs) hp c0.1 c0.2.1 c0.2.2 k1 c2 (Sub.refl _ _ _ _) ⟨rfl,nlB hk,g,i,JT k2 hc,?_⟩
      rw[k2.mapK]
      cases hyl:call.yl g i (mapK T1 args) H1 with
      | none=>rw[hyl] at h; cases h
      | some p=>
       obtain⟨b,H2⟩:=p
       rw[hyl] at h
       refine(hy g i _ H1 b H2 hyl).mono ?_
       rintro b' H3 ⟨rfl,rfl⟩
       have fin:∀ {T2:FT},AgT (fr1.put d (.sc (.bool b'))) T2→gV af (Nat.succ (cJ xs)) ys (iK call (cJ H3) ys 0 T2 (H3++[List.replicate ys.length .dead]))=.out e T' H' →
         ∃ R2 fr3 H4,dY P H3.length 0 ys (fr1.put d (.sc (.bool b'))) (H3++[List.replicate ys.length .dead]) R2 fr3 H4∧lZ af (xs.length+1) R2∧Q .normal fr3 H4:=by
        intro T2 ha2 h
        obtain⟨R2,h1,rfl,h3⟩:=w7 h
        rw[bM] at h1
        obtain⟨fr3,j1,j2,j3⟩:=gE hcall ys 0 T2 _ _ R2 T' H' h1 ha2
        have c3:=iC h3 j1.recs.1 j3
        rw[bM] at c3
        exact⟨R2,fr3,_,j1,c3,hQ fr3 j2⟩
       simp only[CT] at h
       split at h
       ·exact fin k2 h
       ·split at h
        ·rename_i T2 e2
         exact fin (k2.putK e2) h
        ·cases h
     ·cases h
    ·exact iM hp hcall h ha hQ
   ·exact iM hp hcall h ha hQ
  ·exact iM hp hcall h ha hQ
 ·exact iM hp hcall h ha hQ
theorem EQ {Q:Exit→Fr→Heap→Prop} {T T':FT} {fr:Fr} {e:Exit} {H':Heap} (ha:AgT fr T) (hQ:∀ fr',AgT fr' T'→Q e fr' H') (o:Option Heap) (Hd:Heap) (ho:∀ H4,o=some H4→Hd=H4) (pe:Option Code)
  (h:(match o with
   | some H2=>match pe with
    | none=>XR.out .normal T H2
    | some .ret=>.out .ret T H2
    | some (.exit id)=>.out (.exit id) T H2
    | _=>.stuck
   | none=>.stuck)=.out e T' H'):match (generalizing:=false) pe with
  | none=>Q .normal fr Hd
  | some .ret=>Q .ret fr Hd
  | some (.exit id)=>Q (.exit id) fr Hd
  | _=>False:=by
 cases o with
 | none=>cases h
 | some H4=>
  rw[ho H4 rfl]
  simp only at h
  split at h
  ·injection h with h1 h2 h3
   subst h1; subst h2; subst h3
   exact hQ _ ha
  ·injection h with h1 h2 h3
   subst h1; subst h2; subst h3
   exact hQ _ ha
  ·injection h with h1 h2 h3
   subst h1; subst h2; subst h3
   exact hQ _ ha
  ·cases h
theorem wG (hcall:cC P call) {f:Operand} {ps:List Nat} {asg body:bJ} {qs:Array Tmp} {ra rb:Code} {T:FT} {H:Heap} {e:Exit} {T':FT} {H':Heap} (h:BD call N k f ps qs ra rb T H=.out e T' H') {fr:Fr} (ha:AgT fr T)
  {Q:Exit→Fr→Heap→Prop} (hQ:∀ fr',AgT fr' T'→Q e fr' H'):AWP P N k (.rangeF f ps asg body qs ra rb) Q fr H:=by
 unfold BD at h
 split at h
 ·rename_i g fs cs hf
  split at h
  ·rename_i hb
   simp only[Bool.and_eq_true] at hb
   split at h
   ·rename_i H1 hs
    have hk:k≤H.length:=by rw[← bM]; exact nlB hb.1
    have hH1:=hY _ _ _ _ _ hs
    rw[bM] at hH1 h
    subst hH1
    refine AWP.sub (Sub.le (FT.fr_le ha)) ?_
    have ha2:=T.fr_ag
    have hf2:ev T.fr f=.clo (.func g) fs cs:=by rw[ha2.evK]; exact hf
    refine AWP.rangeC hf2 hk hb.2 fun _=>?_
    unfold DQ at h
    split at h
    ·rename_i v H2 hr
     refine(hcall.run g _ _ v H2 hr).mono ?_
     rintro res H3 ⟨rfl,rfl⟩
     split at h
     ·rename_i L caps st pe hg
      rw[eE] at hg
      refine⟨L,caps,st,pe,hg,?_⟩
      cases st with
      | busy=>cases h
      | _=>exact⟨(by intro e; cases e),EQ ha2 hQ _ _ (fun H4 h4=>hY _ _ _ _ _ h4) pe h⟩
     ·cases h
    ·cases h
   ·cases h
  ·cases h
 ·cases h
theorem kP (hp:P.follows .mixedOrders=true) (hcall:cC P call) (hy:YOK P call):∀(c:bJ) (T:FT) (H:Heap) (e:Exit) (T':FT) (H':Heap),iJ call N k fuel c T H=.out e T' H'→∀ fr,AgT fr T →
  ∀(Q:Exit→Fr→Heap→Prop),(∀ fr',AgT fr' T'→Q e fr' H')→AWP P N k c Q fr H:=by
 intro c
 induction c with
 | skip=>
  intro T H e T' H' h fr ha Q hQ
  injection h with h1 h2 h3
  subst h1; subst h2; subst h3
  exact AWP.skip (hQ fr ha)
 | region xs=>
  intro T H e T' H' h fr ha Q hQ
  exact BK hcall hy h ha hQ
 | draw xs af=>
  intro T H e T' H' h fr ha Q hQ
  exact yL hp hcall hy h ha hQ
 | seq a b iha ihb=>
  intro T H e T' H' h fr ha Q hQ
  rcases yI (b:=iJ call N k fuel b) (r:=iJ call N k fuel a T H) h with⟨T1,H1,h1,h2⟩ | ⟨h1,h2⟩
  ·exact AWP.seq (iha T H _ T1 H1 h1 fr ha _ fun fr1 ha1=>ihb T1 H1 e T' H' h2 fr1 ha1 Q hQ)
  ·refine AWP.seq (iha T H _ T' H' h2 fr ha _ fun fr1 ha1=>?_)
   cases e with
   | normal=>exact absurd rfl h1
   | _=>exact hQ fr1 ha1
 | cond c a b iha ihb=>
  intro T H e T' H' h fr ha Q hQ
  replace h:F9 (iJ call N k fuel a T H) (iJ call N k fuel b T H) (T.evK c)=.out e T' H':=h
  unfold F9 at h
  split at h
  ·rename_i e1
   rw[← ha.evK] at e1
   exact AWP.condT e1 (iha T H e T' H' h fr ha Q hQ)
  ·rename_i e1
   rw[← ha.evK] at e1
   exact AWP.condF e1 (ihb T H e T' H' h fr ha Q hQ)
  ·cases h
 | block id a iha=>
  intro T H e T' H' h fr ha Q hQ
  replace h:GR id (iJ call N k fuel a T H)=.out e T' H':=h
  cases hr:iJ call N k fuel a T H with
  | stuck=>rw[hr] at h; cases h
  | out e1 T1 H1=>
   rw[hr] at h
   refine AWP.block (iha T H e1 T1 H1 hr fr ha _ fun fr1 ha1=>?_)
   cases e1 with
   | exit id'=>
    replace h:Bool.rec (motive:=fun _=>XR) (.out (.exit id') T1 H1) (.out .normal T1 H1) (Nat.beq id' id)=.out e T' H':=h
    show(match Nat.beq id' id with | true=>Q .normal | false=>Q (.exit id')) fr1 H1
    cases hb:Nat.beq id' id with
    | true=>
     rw[hb] at h
     injection h with h1 h2 h3
     subst h1; subst h2; subst h3
     exact hQ fr1 ha1
    | false=>
     rw[hb] at h
     injection h with h1 h2 h3
     subst h1; subst h2; subst h3
     exact hQ fr1 ha1
   | _=>
    injection h with h1 h2 h3
    subst h1; subst h2; subst h3
    exact hQ fr1 ha1
 | loop a iha=>
  intro T H e T' H' h fr ha Q hQ
  replace h:C6 (iJ call N k fuel a) fuel T H=.out e T' H':=h
  refine AWP.loop (σ:=Nat×FT×Heap×Fr) (fun s=>s.2.2.2) (fun s=>s.2.2.1) (fun s=>AgT s.2.2.2 s.2.1∧C6 (iJ call N k fuel a) s.1 s.2.1 s.2.2.1=.out e T' H') (fun s=>s.1) (fuel,T,H,fr) ⟨ha,h⟩ (Sub.refl _ _ _ _) ?_
  rintro⟨n,T1,H1,fr1⟩ ⟨ha1,h1⟩
  simp only at ha1 h1 ⊢
  cases n with
  | zero=>cases h1
  | succ n=>
   replace h1:HJ (C6 (iJ call N k fuel a) n) (iJ call N k fuel a T1 H1)=.out e T' H':=h1
   rcases yI h1 with⟨T2,H2,h2,h3⟩ | ⟨h2,h3⟩
   ·refine iha T1 H1 _ T2 H2 h2 fr1 ha1 _ fun fr2 ha2=>?_
    exact⟨(n,T2,H2,fr2),⟨ha2,h3⟩,Nat.lt_succ_self n,Sub.refl _ _ _ _⟩
   ·refine iha T1 H1 _ T' H' h3 fr1 ha1 _ fun fr2 ha2=>?_
    cases e with
    | normal=>exact absurd rfl h2
    | _=>exact hQ fr2 ha2
 | exit id=>
  intro T H e T' H' h fr ha Q hQ
  injection h with h1 h2 h3
  subst h1; subst h2; subst h3
  exact AWP.exit (hQ fr ha)
 | ret=>
  intro T H e T' H' h fr ha Q hQ
  injection h with h1 h2 h3
  subst h1; subst h2; subst h3
  exact AWP.ret (hQ fr ha)
 | rangeF f ps a b qs ra rb iha ihb=>
  intro T H e T' H' h fr ha Q hQ
  exact wG hcall h ha hQ
 | bad=>
  intro T H e T' H' h
  cases h
end
noncomputable def tW (a b:Bool):Bool:=Bool.rec (motive:=fun _=>Bool) false b a
theorem mZ (a b:Bool):tW a b=(a && b):=by cases a<;>rfl
noncomputable def GW (k:Nat) (a:AV):Bool:=
 match a with
 | .sc _=>true
 | a=>jD k a
noncomputable def C4 (k:Nat) (l:List AV):Bool:=List.rec (motive:=fun _=>Bool) true (fun a _ ih=>tW (GW k a) ih) l
noncomputable def G6 (k:Nat) (l:List (List AV)):Bool:=List.rec (motive:=fun _=>Bool) true (fun a _ ih=>tW (C4 k a) ih) l
noncomputable def G8 (k:Nat) (b:Blk):Bool:=
 match b with
 | .dead=>true
 | .cells _ rows=>G6 k rows
 | b=>tK k b
noncomputable def D3 (k:Nat) (l:List Blk):Bool:=List.rec (motive:=fun _=>Bool) true (fun a _ ih=>tW (G8 k a) ih) l
noncomputable def HN (k:Nat) (H:Heap):Nat→Bool:=List.rec (motive:=fun _=>Nat→Bool) (fun _=>true) (fun f _ ih n=>match n with
 | 0=>true
 | Nat.succ m=>tW (D3 k f) (ih m)) H
theorem IA (k:Nat) (a:AV):GW k a=jD k a:=by cases a<;>rfl
theorem IJ (k:Nat) (l:List AV):C4 k l=jM k l:=by
 induction l with
 | nil=>rfl
 | cons a l ih=>
  show tW (GW k a) (C4 k l)=(jD k a && jM k l)
  rw[mZ,ih,IA]
theorem HM (k:Nat) (l:List (List AV)):G6 k l=wM k l:=by
 induction l with
 | nil=>rfl
 | cons a l ih=>
  show tW (C4 k a) (G6 k l)=(jM k a && wM k l)
  rw[mZ,ih,IJ]
theorem JB (k:Nat) (b:Blk):G8 k b=tK k b:=by
 cases b with
 | cells sz rows=>exact HM k rows
 | _=>rfl
theorem JS (k:Nat) (l:List Blk):D3 k l=BB k l:=by
 induction l with
 | nil=>rfl
 | cons a l ih=>
  show tW (G8 k a) (D3 k l)=(tK k a && BB k l)
  rw[mZ,ih,JB]
theorem II (k:Nat) (H:Heap):∀ n,HN k H n=BF k n H:=by
 induction H with
 | nil=>intro n; cases n<;>rfl
 | cons f H ih=>
  intro n
  cases n with
  | zero=>rfl
  | succ n=>
   show tW (D3 k f) (HN k H n)=(BB k f && BF k n H)
   rw[mZ,ih,JS]
noncomputable def LA (k:Nat) (res:AV) (H:Heap):AV×Heap:=
 Bool.rec (motive:=fun _=>AV×Heap) (Bool.rec (motive:=fun _=>AV×Heap) (res,H) (res,H.take k) (tW (jD k res) (HN k H k))) (res,H) (Nat.ble (cJ H) (Nat.add k 150))
theorem JQ (k:Nat) (res:AV) (H:Heap):d4 k H res (LA k res H).2 (LA k res H).1:=by
 unfold LA
 rw[mZ,II]
 cases Nat.ble (cJ H) (Nat.add k 150) with
 | true=>exact .refl k H res
 | false=>
  cases e:jD k res && BF k k H with
  | false=>exact .refl k H res
  | true=>
   simp only[Bool.and_eq_true] at e
   exact .cut e.1 e.2
noncomputable def H7 (k:Nat) (H:Heap) (r:Option AV):Option (AV×Heap):=
 match r with
 | some v=>some (LA k v H)
 | none=>none
noncomputable def finM (k:Nat) (rs:List jK) (x:XR):Option (AV×Heap):=
 match x with
 | .out e T H=>match e with
  | .normal=>Bool.rec (motive:=fun _=>Option (AV×Heap)) none (H7 k H (sA (lS T H rs))) (mL T rs)
  | .ret=>Bool.rec (motive:=fun _=>Option (AV×Heap)) none (H7 k H (sA (lS T H rs))) (mL T rs)
  | _=>none
 | .stuck=>none
noncomputable def tA (call:bN) (fuel:Nat) (args:List AV) (H:Heap) (F:IFun):Option (AV×Heap):=
 match F with
 | ⟨n,code,res⟩=>match Nat.ble (cJ args) n with
  | true=>match JD args 0 (FT.full 9) with
   | some T=>finM (cJ H) res (iJ call n (cJ H) fuel code T H)
   | none=>none
  | false=>none
noncomputable def DC (call:bN) (r:Option (AV×Heap)) (H:Heap):Option (AV×Heap):=
 match r with
 | some (v,H0)=>match call.frz H0 v with
  | some b=>some (b,H)
  | none=>none
 | none=>none
def AE:AV→Bool
 | .sc _=>true
 | _=>false
def IG:AV→Bool
 | .sc _=>true
 | .tup vs=>vs.all AE
 | .agg vs=>vs.all AE
 | _=>false
theorem pI {a:AV} (h:AE a=true):Plain a:=by
 cases a<;>first | exact .sc _ | cases h
theorem xN {a:AV} (h:IG a=true):Plain a:=by
 cases a with
 | tup vs=>exact .tup _ fun c hc=>pI (List.all_eq_true.1 h c hc)
 | agg vs=>exact .agg _ fun c hc=>pI (List.all_eq_true.1 h c hc)
 | sc v=>exact .sc v
 | _=>cases h
noncomputable def MZ (call:bN) (fuel:Nat) (F:IFun) (args:List AV) (H:Heap):Option (AV×Heap):=
 match dfL (dfz H 12) args with
 | some args'=>match DC call (tA call fuel args' [] F) H with
  | some (b,_)=>match IG b with
   | true=>some (b,H)
   | false=>none
  | none=>none
 | none=>none
noncomputable def orM (a b:Option (AV×Heap)):Option (AV×Heap):=
 match a with
 | some r=>some r
 | none=>b
noncomputable def FY (tab:FuncId→Option IFun) (pz:List Nat) (call:bN) (fuel:Nat) (f:FuncId) (args:List AV) (H:Heap) (s:Option (AV×Heap)):Option (AV×Heap):=
 match s with
 | some r=>some r
 | none=>match tab f with
  | some F=>match pz.any (Nat.beq f) with
   | true=>match jM 0 args with
    | true=>DC call (tA call fuel args [] F) H
    | false=>orM (MZ call fuel F args H) (tA call fuel args H F)
   | false=>tA call fuel args H F
  | none=>none
noncomputable def zipK (ps:List Nat):List AV→Fr→Option Fr:=
 List.rec (motive:=fun _=>List AV→Fr→Option Fr) (fun as r=>match as with
  | []=>some r
  | _=>none) (fun p _ ih as r=>match as with
  | a::as=>ih as ((p,a)::r)
  | []=>none) ps
noncomputable def zN (g i:Nat) (r:XR):Option (Bool×Heap):=
 match r with
 | .out e _ H=>match kW H g i with
  | some (.lp L c .busy none)=>match e with
   | .normal=>match lV H g i (.lp L c .ready none) with
    | some H'=>some (true,H')
    | none=>none
   | .ret=>match lV H g i (.lp L c .done (some .ret)) with
    | some H'=>some (false,H')
    | none=>none
   | .exit id=>match lV H g i (.lp L c .done (some (.exit id))) with
    | some H'=>some (false,H')
    | none=>none
   | _=>none
  | _=>none
 | .stuck=>none
noncomputable def uZ (call:bN) (fuel n k g i:Nat) (body:bJ) (r:XR):Option (Bool×Heap):=
 match r with
 | .out .normal T H=>match kW H g i with
  | some (.lp L c .ready none)=>match lV H g i (.lp L c .busy none) with
   | some H1=>zN g i (iJ call n k fuel body T H1)
   | none=>none
  | _=>none
 | _=>none
noncomputable def AJ (P:Program) (call:bN) (fuel:Nat) (g i:Nat) (args:List AV) (H:Heap):Option (Bool×Heap):=
 match kW H g i with
 | some (.lp ⟨n,ps,ra,rb⟩ caps .ready none)=>match bG P n ra,bG P n rb with
  | some asg,some body=>match List.all ps.toList (Nat.blt · n) with
   | true=>match zipK ps.toList args [] with
    | some l=>match JM (l++caps) (FT.full 9) with
     | some T=>uZ call fuel n (cJ H) g i body (iJ call n (cJ H) fuel asg T H)
     | none=>none
    | none=>none
   | false=>none
  | _,_=>none
 | _=>none
noncomputable def EZ (P:Program) (sum:Caller) (tab:FuncId→Option IFun) (pz:List Nat) (fuel:Nat) (d:Nat):bN:=
 Nat.rec (motive:=fun _=>bN) ⟨fun _ _ _=>none,fun _ _=>none,fun _ _ _ _=>none,fun _ _=>none⟩
  (fun _ ih=>⟨fun f args H=>FY tab pz ih fuel f (fnA args) H (sum f (fnA args) H),oB P,AJ P ih fuel,fun H=>dfz H 12⟩) d
section
variable {P:Program} {k fuel:Nat} {call:bN}
theorem kT (hp:P.follows .mixedOrders=true) (hcall:cC P call) (hy:YOK P call) {f:FuncId} {F:IFun} (hf:aO P f=some F) {args:List AV} {H:Heap} {v:AV} {H':Heap} (h:tA call fuel args H F=some (v,H')):
  aF P f args H fun r H2=>r=v∧H2=H':=by
 obtain⟨n,code,res⟩:=F
 simp only[tA] at h
 split at h
 ·rename_i hn
  split at h
  ·rename_i T hT
   rw[bM] at hn h
   have ha:AgT (eQ 0 args) T:=by
    intro t
    rw[BS args 0 _ T hT [] (fun t=>(FT.get_full 9 t).symm) (fun t _=>rfl) t]
    cases Fr.get (eQ 0 args) t<;>rfl
   refine aF.of hf ?_ (nlB hn)
   unfold finM at h
   split at h
   ·rename_i e T1 H1 hx
    have key:Bool.rec (motive:=fun _=>Option (AV×Heap)) none (H7 H.length H1 (sA (lS T1 H1 res))) (mL T1 res)=some (v,H')→(e=.normal∨e=.ret) →
      AWP P n H.length code (fun e fr' Hx=>(e=.normal∨e=.ret)∧∃ r r' H2,kB fr' Hx res=some r∧d4 H.length Hx r H2 r'∧r'=v∧H2=H') (eQ 0 args) H:=by
     intro h he
     cases hpt:mL T1 res with
     | false=>rw[hpt] at h; cases h
     | true=>
      rw[hpt] at h
      replace h:H7 H.length H1 (sA (lS T1 H1 res))=some (v,H'):=h
      unfold H7 at h
      split at h
      ·rename_i u hu
       injection h with h
       have hs:=JQ H.length u H1
       rw[h] at hs
       refine kP hp hcall hy code T H e T1 H1 hx _ ha _ fun fr' ha'=>⟨he,u,v,H',?_,hs,rfl,rfl⟩
       unfold sA at hu
       unfold kB
       split at hu
       ·rename_i x hx'
        rw[tJ ha' res _ hpt hx']
        exact hu
       ·rename_i xs hne hx'
        rw[tJ ha' res _ hpt hx']
        injection hu with hu
        subst hu
        split
        ·rename_i e1
         injection e1 with e1
         exact absurd e1 (hne _)
        ·rename_i e1
         injection e1 with e1
         rw[e1]
        ·rename_i e1
         cases e1
       ·cases hu
      ·cases h
    split at h
    ·exact key h (.inl rfl)
    ·exact key h (.inr rfl)
    ·cases h
   ·cases h
  ·cases h
 ·cases h
theorem DZ:∀(ps:List Nat) (as:List AV) (r l:Fr),zipK ps as r=some l→as.length=ps.length∧l=(ps.zip as).reverse++r
 | [],as,r,l,h=>by
  cases as with
  | nil=>injection h with h; subst h; exact⟨rfl,rfl⟩
  | cons a as=>cases h
 | p::ps,as,r,l,h=>by
  cases as with
  | nil=>cases h
  | cons a as=>
   obtain⟨h1,h2⟩:=DZ ps as ((p,a)::r) l h
   refine⟨by simp[h1],?_⟩
   rw[h2]
   simp
theorem wP (hp:P.follows .mixedOrders=true) (hcall:cC P call) (hy:YOK P call) {g i:Nat} {args:List AV} {H:Heap} {b:Bool} {H':Heap} (h:AJ P call fuel g i args H=some (b,H')):
  cZ P g i args H fun b' H2=>b'=b∧H2=H':=by
 unfold AJ at h
 split at h
 ·rename_i n ps ra rb caps hg
  rw[eE] at hg
  split at h
  ·rename_i asg body e1 e2
   split at h
   ·rename_i hall
    split at h
    ·rename_i l hz
     split at h
     ·rename_i T hT
      obtain⟨z1,z2⟩:=DZ _ _ _ _ hz
      have hpl:putL caps (ps.toList.zip args)=l++caps:=by rw[pU,z2,List.append_nil]
      have hT0:AgT (l++caps) T:=by
       have:=yX (l++caps) (FT.full 9) T [] hT (fun t=>(FT.get_full 9 t).symm)
       rwa[List.append_nil] at this
      refine⟨⟨n,ps,ra,rb⟩,caps,n,ps.toList,asg,body,⟨rfl,rfl,hall,e1,e2⟩,hg,z1,?_⟩
      rw[hpl]
      unfold uZ at h
      split at h
      ·rename_i T1 H1 hx
       rw[bM] at hx h
       split at h
       ·rename_i L1 c1 hg1
        rw[eE] at hg1
        split at h
        ·rename_i H2 hs
         have hs2:=hY _ _ _ _ _ hs
         refine kP hp hcall hy asg T H _ T1 H1 hx _ hT0 _ fun fr1 ha1=>⟨rfl,L1,c1,hg1,?_⟩
         rw[hs2]
         unfold zN at h
         split at h
         ·rename_i e T3 H3 hx3
          refine kP hp hcall hy body T1 H2 e T3 H3 hx3 _ ha1 _ fun fr3 _=>?_
          split at h
          ·rename_i L2 c2 hg3
           rw[eE] at hg3
           refine⟨L2,c2,hg3,?_⟩
           split at h
           ·split at h
            ·rename_i H4 h4
             injection h with h
             injection h with h5 h6
             exact⟨h5,by rw[hY _ _ _ _ _ h4]; exact h6⟩
            ·cases h
           ·split at h
            ·rename_i H4 h4
             injection h with h
             injection h with h5 h6
             exact⟨h5,by rw[hY _ _ _ _ _ h4]; exact h6⟩
            ·cases h
           ·split at h
            ·rename_i H4 h4
             injection h with h
             injection h with h5 h6
             exact⟨h5,by rw[hY _ _ _ _ _ h4]; exact h6⟩
            ·cases h
           ·cases h
          ·cases h
         ·cases h
        ·cases h
       ·cases h
      ·cases h
     ·cases h
    ·cases h
   ·cases h
  ·cases h
 ·cases h
theorem BX (hp:P.follows .mixedOrders=true) {sum:Caller} (hsum:IK P sum) {tab:FuncId→Option IFun} {pz:List Nat} (htab:∀ f F,tab f=some F→aO P f=some F):∀(d:Nat),cC P (EZ P sum tab pz fuel d)∧YOK P (EZ P sum tab pz fuel d):=by
 intro d
 induction d with
 | zero=>exact⟨⟨fun f args H v H' h=>(by cases h),fun t n f h=>(by cases h),fun H a b h=>(by cases h)⟩,fun g i args H b H' h=>(by cases h)⟩
 | succ d ih=>
  refine⟨⟨fun f args H v H' h=>?_,fun t n f h=>h,fun H a b h=>PL 12 H a b h⟩,fun g i args H b H' h=>wP hp ih.1 ih.2 h⟩
  replace h:FY tab pz (EZ P sum tab pz fuel d) fuel f (fnA args) H (sum f (fnA args) H)=some (v,H'):=h
  refine aF.fnA ?_
  unfold FY at h
  split at h
  ·rename_i r e
   rw[h] at e
   exact hsum f (fnA args) H v H' e
  ·split at h
   ·rename_i F e
    split at h
    ·have pure:∀ {args':List AV} {b:AV} {H1 H2:Heap},jM 0 args'=true∨(∀ a∈args',aW a)→DC (EZ P sum tab pz fuel d) (tA (EZ P sum tab pz fuel d) fuel args' [] F) H1=some (b,H2)→aB P f args' b∧H2=H1:=by
      intro args' b H1 H2 hpu h
      unfold DC at h
      split at h
      ·rename_i v0 H0 e0
       split at h
       ·rename_i b' eb
        injection h with h
        injection h with h1 h2
        subst h1; subst h2
        obtain⟨q1,q2⟩:=ih.1.frz _ _ _ eb
        refine⟨aB.of (fun a ha=>?_) q2 ((kT hp ih.1 ih.2 (htab f F e) e0).sub (by
         rintro res H' ⟨rfl,rfl⟩
         exact⟨b',[],q1,rfl⟩)),rfl⟩
        rcases hpu with hpu | hpu
        ·exact dK _ hpu a ha
        ·exact hpu a ha
       ·cases h
      ·cases h
     split at h
     ·rename_i hb
      obtain⟨h1,rfl⟩:=pure (.inl hb) h
      exact aF.ofPure h1 _ ⟨rfl,rfl⟩
     ·unfold orM at h
      split at h
      ·rename_i r ev
       rw[h] at ev
       unfold MZ at ev
       split at ev
       ·rename_i args' ea
        split at ev
        ·rename_i b H2 eb
         split at ev
         ·rename_i hpl
          injection ev with ev
          injection ev with e1 e2
          subst e1; subst e2
          obtain⟨h1,h2⟩:=fF (n:=H.length) (fun a b hab=>sD 12 a b hab) _ _ ea
          obtain⟨h3,_⟩:=pure (.inr h2) eb
          have e:H++gh []=H:=List.append_nil H
          exact aF.view h3 (xN hpl) (by rw[e]; exact h1) ⟨rfl,rfl⟩
         ·cases ev
        ·cases ev
       ·cases ev
      ·exact kT hp ih.1 ih.2 (htab f F e) h
    ·exact kT hp ih.1 ih.2 (htab f F e) h
   ·cases h
end
end Go.Av
