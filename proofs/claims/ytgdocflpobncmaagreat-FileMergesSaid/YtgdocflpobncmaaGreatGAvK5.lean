import Derived.Test.YtgdocflpobncmaaGreatGAvV
import Derived.Test.YtgdocflpobncmaaGreatGAvG
namespace Go.Av
theorem AWP.dky {P:Program} {N k:Nat} {fr:Fr} {H:Heap} {Q:Exit→Fr→Heap→Prop} {zs:List IOper} {af:List (List Nat)} (n:Nat) {d:Option Nat} {gd:Option (Nat×Bool)} {f:Cal} {args:List Operand} (fr1:Fr) (H1:Heap) (hp:P.follows .mixedOrders=true)
  (hz:zs=zs.take n++⟨d,gd,.callV f args⟩::zs.drop (n+1)) (hl:(zs.take n).length=n)
  (hlow:qA 0 af=true) (h1:((List.range n).all fun j=>iX af af.length j n)=true) (h2:((List.range (zs.drop (n+1)).length).all fun j=>iX af af.length n (n+1+j))=true)
  (h:DK P H.length 0 (zs.take n) fr (H++[List.replicate (zs.take n).length .dead]) [] fun R1 fr0 H0=>qK af 0 R1 0 R1=true∧Sub k N fr0 H0 fr1 H1)
  (hy:gok fr1 gd=some true∧k≤H1.length∧∃ g i,evC P fr1 f=.yld g i∧dQ P g i (avals fr1 args) H1 fun b H2=>
   DK P H2.length 0 (zs.drop (n+1)) (fr1.put d (.sc (.bool b))) (H2++[List.replicate (zs.drop (n+1)).length .dead]) [] fun R2 fr3 H3=>qK af (n+1) R2 0 R2=true∧Q .normal fr3 H3):AWP P N k (.draw zs af) Q fr H:=by
 obtain⟨R1,fr0,H0,hr,hs,hsub⟩:=h;rw[List.reverse_nil,List.nil_append] at hs;obtain⟨k1,k2,g,i,k3,k4⟩:=hy;refine AWP.drawYld (R1:=R1) (fr0:=fr0) (H0:=H0) (fr1:=fr1) (H1:=H1) hz hp hlow (fun j hj=>?_) (fun j hj=>?_) hr (.of hs) hsub ⟨k1,k2,g,i,k3,k4.mono fun b H2 hk=>?_⟩
 ·rw[hl] at hj ⊢
  exact List.all_eq_true.1 h1 j (List.mem_range.2 hj)
 ·rw[hl]
  exact List.all_eq_true.1 h2 j (List.mem_range.2 hj)
 ·obtain⟨R2,fr3,H3,hr2,hs2,hq⟩:=hk
  rw[List.reverse_nil,List.nil_append] at hs2;exact⟨R2,fr3,H3,hr2,by rw[hl]; exact .of hs2,hq⟩
end Go.Av
namespace Go.Av
noncomputable def dfL (f:AV→Option AV) (l:List AV):Option (List AV):=List.rec (motive:=fun _=>Option (List AV)) (some []) (fun a _ ih=>match f a with
 | some b=>match ih with
  | some r=>some (b::r)
  | none=>none
 | none=>none) l
noncomputable def dfR (f:AV→Option AV) (l:List (List AV)):Option (List (List AV)):=List.rec (motive:=fun _=>Option (List (List AV))) (some []) (fun a _ ih=>match dfL f a with
 | some b=>match ih with
  | some r=>some (b::r)
  | none=>none
 | none=>none) l
noncomputable def dfA (H:Heap) (f:AV→Option AV) (a:AV):Option AV:=
 match a with
 | .undef=>some .undef
 | .sc v=>some (.sc v)
 | .one=>some .one
 | .agg cs=>match dfL f cs with
  | some r=>some (.agg r)
  | none=>none
 | .tup cs=>match dfL f cs with
  | some r=>some (.tup r)
  | none=>none
 | .cptr cs=>match dfL f cs with
  | some r=>some (.cptr r)
  | none=>none
 | .list sz rows=>match dfR f rows with
  | some r=>some (.list sz r)
  | none=>none
 | .clo fn fs cs=>match dfL f fs with
  | some r=>match dfL f cs with
   | some q=>some (.clo fn r q)
   | none=>none
  | none=>none
 | .hsl g i s l=>match lG H g i with
  | some (.cells sz rows)=>match Nat.ble (s+l) rows.length with
   | true=>match dfR f ((rows.drop s).take l) with
    | some r=>some (.list sz r)
    | none=>none
   | false=>none
  | _=>none
 | .ptr g i row 0=>match lG H g i with
  | some (.cells _ rows)=>match lH rows row with
   | some r=>match dfL f r with
    | some q=>some (.cptr q)
    | none=>none
   | none=>none
  | _=>none
 | _=>none
noncomputable def dfz (H:Heap) (n:Nat):AV→Option AV:=
 Nat.rec (motive:=fun _=>AV→Option AV) (fun _=>none) (fun _ ih a=>dfA H ih a) n
section
variable {H:Heap} {n:Nat}
abbrev DF (H:Heap) (n:Nat) (a b:AV):Prop:=To (ToT H n (cJ [])) (rho []) a b∧aZ b
theorem fW {f:AV→Option AV} (hf:∀ a b,f a=some b→DF H n a b):∀(l m:List AV),dfL f l=some m→ToL (ToT H n (cJ [])) (rho []) l m∧∀ c∈m,aZ c
 | [],m,h=>by injection h with h; subst h; exact⟨ToL.nil,fun c hc=>by cases hc⟩
 | a::l,m,h=>by
  replace h:(match f a with | some b=>(match dfL f l with | some r=>some (b::r) | none=>none) | none=>none)=some m:=h;split at h
  ·rename_i b e1
   split at h
   ·rename_i r e2
    injection h with h
    subst h;obtain⟨h1,h2⟩:=hf a b e1;obtain⟨h3,h4⟩:=fW hf l r e2
    exact⟨ToL.cons h1 h3,fun c hc=>by
     rcases List.mem_cons.1 hc with rfl | hc
     ·exact h2
     ·exact h4 c hc⟩
   ·cases h
  ·cases h
theorem uH {f:AV→Option AV} (hf:∀ a b,f a=some b→DF H n a b):∀(l m:List (List AV)),dfR f l=some m→ToR (ToT H n (cJ [])) (rho []) l m∧∀ r∈m,∀ c∈r,aZ c
 | [],m,h=>by injection h with h; subst h; exact⟨ToR.nil,fun c hc=>by cases hc⟩
 | a::l,m,h=>by
  replace h:(match dfL f a with | some b=>(match dfR f l with | some r=>some (b::r) | none=>none) | none=>none)=some m:=h;split at h
  ·rename_i b e1
   split at h
   ·rename_i r e2
    injection h with h
    subst h;obtain⟨h1,h2⟩:=fW hf a b e1;obtain⟨h3,h4⟩:=uH hf l r e2
    exact⟨ToR.cons h1 h3,fun c hc=>by
     rcases List.mem_cons.1 hc with rfl | hc
     ·exact h2
     ·exact h4 c hc⟩
   ·cases h
  ·cases h
theorem tD:∀(d:Nat) (a b:AV),dfz H d a=some b→DF H n a b
 | 0,a,b,h=>by cases h
 | d+1,a,b,h=>by
  have ih:=tD d;replace h:dfA H (dfz H d) a=some b:=h;unfold dfA at h;split at h
  ·injection h with h; subst h; exact⟨.undef _,.undef⟩
  ·injection h with h; subst h; exact⟨.sc _,.sc _⟩
  ·injection h with h; subst h; exact⟨.one,.one⟩
  ·split at h
   ·rename_i r e
    injection h with h; subst h
    obtain⟨h1,h2⟩:=fW ih _ _ e;exact⟨To.aggL h1,.agg _ h2⟩
   ·cases h
  ·split at h
   ·rename_i r e
    injection h with h; subst h
    obtain⟨h1,h2⟩:=fW ih _ _ e;exact⟨To.tupL h1,.tup _ h2⟩
   ·cases h
  ·split at h
   ·rename_i r e
    injection h with h; subst h
    obtain⟨h1,h2⟩:=fW ih _ _ e;exact⟨To.cptrL h1,.cptr _ h2⟩
   ·cases h
  ·split at h
   ·rename_i r e
    injection h with h; subst h
    obtain⟨h1,h2⟩:=uH ih _ _ e;exact⟨To.listR h1,.list _ _ h2⟩
   ·cases h
  ·split at h
   ·rename_i r e
    split at h
    ·rename_i q e2
     injection h with h; subst h
     obtain⟨h1,h2⟩:=fW ih _ _ e;obtain⟨h3,h4⟩:=fW ih _ _ e2;exact⟨To.cloL h1 h3,.clo _ _ _ h2 h4⟩
    ·cases h
   ·cases h
  ·rename_i g i s l
   rw[eV] at h;split at h
   ·rename_i sz rows e
    split at h
    ·rename_i hb
     split at h
     ·rename_i r e2
      injection h with h; subst h
      obtain⟨h1,h2⟩:=uH ih _ _ e2;exact⟨.base (.fz (.hsl g i s l sz rows rfl e (nlB hb))) (To.listR h1),.list _ _ h2⟩
     ·cases h
    ·cases h
   ·cases h
  ·rename_i g i row
   rw[eV] at h;split at h
   ·rename_i sz rows e
    rw[eT] at h;split at h
    ·rename_i r e1
     split at h
     ·rename_i q e2
      injection h with h; subst h
      obtain⟨h1,h2⟩:=fW ih _ _ e2;exact⟨To.fzp e rfl e1 (To.cptrL h1),.cptr _ h2⟩
     ·cases h
    ·cases h
   ·cases h
  ·cases h
theorem PK (d:Nat) (H:Heap) (a b:AV) (h:dfz H d a=some b):eO 0 H a [] b∧aZ b:=by
 obtain⟨h1,h2⟩:=tD (n:=H.length) d a b h;refine⟨?_,h2⟩;have e:H++gh []=H:=List.append_nil H;refine eO.to (k:=0) [] [] (by rw[e]; exact h1) ?_ rfl rfl rfl;exact aI.nil
end
noncomputable def FT.toFr (T:FT):(Nat→Nat)→Fr→Fr:=
 FT.rec (motive:=fun _=>(Nat→Nat)→Fr→Fr) (fun _ r=>r)
  (fun v _ _ ihl ihr pos r=>match v with
   | .undef=>ihl (fun n=>pos (Nat.succ (Nat.mul 2 n))) (ihr (fun n=>pos (Nat.succ (Nat.succ (Nat.mul 2 n)))) r)
   | v=>(pos 0,v)::ihl (fun n=>pos (Nat.succ (Nat.mul 2 n))) (ihr (fun n=>pos (Nat.succ (Nat.succ (Nat.mul 2 n)))) r)) T
theorem FT.toFr_mem:∀(T:FT) (pos:Nat→Nat) (r:Fr) (x:Nat×AV),x∈T.toFr pos r→x∈r∨∃ n,x.1=pos n∧T.get n=x.2:=by
 intro T
 induction T with
 | leaf=>intro pos r x h; exact .inl h
 | node v l rr ihl ihr=>
  intro pos r x h
  have key:x∈FT.toFr l (fun n=>pos (Nat.succ (Nat.mul 2 n))) (FT.toFr rr (fun n=>pos (Nat.succ (Nat.succ (Nat.mul 2 n)))) r)→x∈r∨∃ n,x.1=pos n∧(FT.node v l rr).get n=x.2:=by
   intro h
   rcases ihl _ _ _ h with h | ⟨n,h1,h2⟩
   ·rcases ihr _ _ _ h with h | ⟨n,h1,h2⟩
    ·exact .inl h
    ·refine .inr ⟨Nat.succ (Nat.succ (Nat.mul 2 n)),h1,?_⟩
     show(match Nat.beq (Nat.mod (Nat.succ (Nat.mul 2 n)) 2) 0 with | true=>l.get (Nat.div (Nat.succ (Nat.mul 2 n)) 2) | false=>rr.get (Nat.div (Nat.succ (Nat.mul 2 n)) 2))=x.2
     have e1:Nat.mod (Nat.succ (Nat.mul 2 n)) 2=1:=by show(2 * n+1) % 2=1; omega
     have e2:Nat.div (Nat.succ (Nat.mul 2 n)) 2=n:=by show(2 * n+1) / 2=n; omega
     rw[e1,e2];exact h2
   ·refine .inr ⟨Nat.succ (Nat.mul 2 n),h1,?_⟩
    show(match Nat.beq (Nat.mod (Nat.mul 2 n) 2) 0 with | true=>l.get (Nat.div (Nat.mul 2 n) 2) | false=>rr.get (Nat.div (Nat.mul 2 n) 2))=x.2
    have e1:Nat.mod (Nat.mul 2 n) 2=0:=by show(2 * n) % 2=0; omega
    have e2:Nat.div (Nat.mul 2 n) 2=n:=by show(2 * n) / 2=n; omega
    rw[e1,e2];exact h2
  have key2:x∈((pos 0,v)::FT.toFr l (fun n=>pos (Nat.succ (Nat.mul 2 n))) (FT.toFr rr (fun n=>pos (Nat.succ (Nat.succ (Nat.mul 2 n)))) r))→x∈r∨∃ n,x.1=pos n∧(FT.node v l rr).get n=x.2:=by
   intro h
   rcases List.mem_cons.1 h with rfl | h
   ·exact .inr ⟨0,rfl,rfl⟩
   ·exact key h
  cases v<;>first | exact key h | exact key2 h
theorem FT.toFr_sub:∀(T:FT) (pos:Nat→Nat) (r:Fr) (x:Nat×AV),x∈r→x∈T.toFr pos r:=by
 intro T
 induction T with
 | leaf=>intro pos r x h; exact h
 | node v l rr ihl ihr=>
  intro pos r x h;have key:=ihl (fun n=>pos (Nat.succ (Nat.mul 2 n))) _ x (ihr (fun n=>pos (Nat.succ (Nat.succ (Nat.mul 2 n)))) r x h)
  cases v<;>first | exact key | exact mCm _ key
theorem FT.mem_toFr:∀(T:FT) (pos:Nat→Nat) (r:Fr) (n:Nat),T.get n≠.undef→(pos n,T.get n)∈T.toFr pos r:=by
 intro T
 induction T with
 | leaf=>intro pos r n h; exact absurd (by cases n<;>rfl) h
 | node v l rr ihl ihr=>
  intro pos r n h
  have cons:∀ {x:Nat×AV},x∈FT.toFr l (fun n=>pos (Nat.succ (Nat.mul 2 n))) (FT.toFr rr (fun n=>pos (Nat.succ (Nat.succ (Nat.mul 2 n)))) r)→x∈FT.toFr (.node v l rr) pos r:=by
   intro x hx
   cases v<;>first | exact hx | exact mCm _ hx
  cases n with
  | zero=>
   replace h:v≠.undef:=h;show(pos 0,v)∈_
   cases v<;>first | exact absurd rfl h | exact List.mem_cons_self ..
  | succ m=>
   have hg:(FT.node v l rr).get (m+1)=match Nat.beq (Nat.mod m 2) 0 with | true=>l.get (Nat.div m 2) | false=>rr.get (Nat.div m 2):=rfl
   rw[hg] at h ⊢
   cases hb:Nat.beq (Nat.mod m 2) 0 with
   | true=>
    rw[hb] at h;have e:=nEb hb;have:=ihl (fun n=>pos (Nat.succ (Nat.mul 2 n))) (FT.toFr rr (fun n=>pos (Nat.succ (Nat.succ (Nat.mul 2 n)))) r) (Nat.div m 2) h
    have e2:Nat.succ (Nat.mul 2 (Nat.div m 2))=m+1:=by
     show 2 * (m / 2)+1=m+1;have:m % 2=0:=e;omega
    simp only[e2] at this;exact cons this
   | false=>
    rw[hb] at h;have:=ihr (fun n=>pos (Nat.succ (Nat.succ (Nat.mul 2 n)))) r (Nat.div m 2) h
    have e2:Nat.succ (Nat.succ (Nat.mul 2 (Nat.div m 2)))=m+1:=by
     show 2 * (m / 2)+2=m+1
     have:¬ m % 2=0:=fun e=>by
      have:Nat.beq (Nat.mod m 2) 0=true:=by
       show Nat.beq (m % 2) 0=true;rw[e]; rfl
      rw[this] at hb; cases hb
     omega
    simp only[e2] at this;exact cons (FT.toFr_sub l _ _ _ this)
noncomputable def FT.fr (T:FT):Fr:=T.toFr (fun n=>n) []
theorem FT.fr_le {T:FT} {fr:Fr} (h:AgT fr T):∀ x∈T.fr,Le (fr.get x.1) x.2:=by
 intro x hx
 rcases FT.toFr_mem T _ _ x hx with h0 | ⟨n,h1,h2⟩
 ·simp at h0
 ·rw[h1,h n,h2]
  exact fun _ _ _ h=>h
theorem FT.fr_ag (T:FT):AgT T.fr T:=by
 have get_mem:∀(l:Fr) (t:Nat),Fr.get l t=.undef∨(t,Fr.get l t)∈l:=by
  intro l t
  induction l with
  | nil=>exact .inl rfl
  | cons p l ih=>
   obtain⟨d,v⟩:=p;show(match Nat.beq d t with | true=>v | false=>Fr.get l t)=.undef∨(t,(match Nat.beq d t with | true=>v | false=>Fr.get l t))∈_
   cases hb:Nat.beq d t with
   | true=>
    have:=nEb hb;subst this;exact .inr (List.mem_cons_self ..)
   | false=>
    rcases ih with h | h
    ·exact .inl h
    ·exact .inr (mCm _ h)
 have mem_get:∀(l:Fr) (t:Nat) (v:AV),(t,v)∈l→(t,Fr.get l t)∈l:=by
  intro l t v h
  induction l with
  | nil=>cases h
  | cons p l ih=>
   obtain⟨d,u⟩:=p;show(t,(match Nat.beq d t with | true=>u | false=>Fr.get l t))∈_
   cases hb:Nat.beq d t with
   | true=>
    have:=nEb hb;subst this;exact List.mem_cons_self ..
   | false=>
    rcases List.mem_cons.1 h with h | h
    ·injection h with h1 h2
     subst h1;simp at hb
    ·exact mCm _ (ih h)
 have val:∀(t:Nat) (v:AV),(t,v)∈T.fr→T.get t=v:=by
  intro t v h
  rcases FT.toFr_mem T _ _ _ h with h0 | ⟨n,h1,h2⟩
  ·simp at h0
  ·simp only at h1 h2
   rw[h1,h2]
 intro t
 by_cases hu:T.get t=.undef
 ·rcases get_mem T.fr t with h | h
  ·rw[h,hu]
  ·exact(val _ _ h).symm
 ·have:=FT.mem_toFr T (fun n=>n) [] t hu
  exact(val _ _ (mem_get _ _ _ this)).symm
noncomputable def GY (l:Fr):FT→Option FT:=
 List.rec (motive:=fun _=>FT→Option FT) (fun T=>some T) (fun p _ ih T=>match ih T with
  | some T'=>T'.putK p.1 p.2
  | none=>none) l
theorem zI:∀(l:Fr) (T T':FT) (fr:Fr),GY l T=some T'→AgT fr T→AgT (l++fr) T'
 | [],T,T',fr,h,ha=>by injection h with h; subst h; exact ha
 | p::l,T,T',fr,h,ha=>by
  replace h:(match GY l T with | some T'=>T'.putK p.1 p.2 | none=>none)=some T':=h;split at h
  ·rename_i T1 e
   exact(zI l T T1 fr e ha).putK h
  ·cases h
theorem qZ:∀(l:List (Nat×AV)) (fr:Fr),putL fr l=l.reverse++fr
 | [],fr=>rfl
 | p::l,fr=>by
  show putL (p::fr) l=_;rw[qZ l,List.reverse_cons,List.append_assoc];rfl
noncomputable def KR (call:bT) (k:Nat) (ys:List IOper) (d:Option Nat) (gd:Option (Nat×Bool)) (f:Cal) (args:List Operand) (other:XR):RR→XR
 | .out T H=>match gd with
  | none=>match lE T f with
   | .yld g i=>match call.yl g i (mapK T args) H with
    | some (b,H')=>Bool.rec (motive:=fun _=>XR) .stuck (kQ d (.sc (.bool b)) T H' (iV call k ys)).x (Nat.ble k (cV H))
    | none=>.stuck
   | _=>other
  | some _=>other
 | .stuck=>other
noncomputable def QN (call:bT) (k:Nat) (zs:List IOper) (T:FT) (H:Heap):XR:=
 match mY zs with
 | some (xs,⟨d,gd,.callV f args⟩,ys)=>KR call k ys d gd f args (iV call k zs T H).x (iV call k xs T H)
 | _=>(iV call k zs T H).x
noncomputable def EO (call:bT) (af:List (List Nat)) (s:Nat) (ys:List IOper) (d:Option Nat) (T:FT) (r:Option (Bool×Heap)):XR:=
 match r with
 | some (b,H)=>match d with
  | none=>iQ af s ys (jJ call (cV H) ys 0 T (H++[List.replicate ys.length .dead]))
  | some t=>match T.putK t (.sc (.bool b)) with
   | some T'=>iQ af s ys (jJ call (cV H) ys 0 T' (H++[List.replicate ys.length .dead]))
   | none=>.stuck
 | none=>.stuck
noncomputable def EK (call:bT) (k:Nat) (af:List (List Nat)) (xs ys:List IOper) (d:Option Nat) (gd:Option (Nat×Bool)) (f:Cal) (args:List Operand) (other:XR):DR→XR
 | .out R T H=>match gd with
  | none=>match lE T f with
   | .yld g i=>match (G7 af (cV xs) (cV ys) && tK af 0 xs R) && Nat.ble k (cV H) with
    | true=>EO call af (Nat.succ (cV xs)) ys d T (call.yl g i (mapK T args) H)
    | false=>.stuck
   | _=>other
  | some _=>other
 | .stuck=>other
noncomputable def G9 (call:bT) (k:Nat) (zs:List IOper) (af:List (List Nat)) (T:FT) (H:Heap):XR:=
 match mY zs with
 | some (xs,⟨d,gd,.callV f args⟩,ys)=>EK call k af xs ys d gd f args (EG call k zs af T H) (jJ call (cV H) xs 0 T (H++[List.replicate xs.length .dead]))
 | _=>EG call k zs af T H
noncomputable def EQ (T:FT) (h:Nat) (r:Option (AV×Heap)):XR:=
 match r with
 | some (_,H')=>match lG H' h 0 with
  | some (.lp _ _ st pe)=>match st with
   | .busy=>.stuck
   | _=>match mO H' h 0 .dead with
    | some H2=>match pe with
     | none=>.out .normal T H2
     | some .ret=>.out .ret T H2
     | some (.exit id)=>.out (.exit id) T H2
     | _=>.stuck
    | none=>.stuck
  | _=>.stuck
 | none=>.stuck
noncomputable def BC (call:bT) (N k:Nat) (f:Operand) (ps:List Nat) (qs:Array Tmp) (ra rb:Code) (T:FT) (H:Heap):XR:=
 match T.evK f with
 | .clo (.func g) fs cs=>match Nat.ble k (cV H) && List.all ps (Nat.blt · N) with
  | true=>match mO H (cV H) 0 (.lp ⟨N,qs,ra,rb⟩ T.fr .ready none) with
   | some H1=>EQ T (cV H) (call.run g (fs++[.yld (cV H) 0]++cs) H1)
   | none=>.stuck
  | false=>.stuck
 | _=>.stuck
noncomputable def jF (call:bT) (N k fuel:Nat) (c:bL):FT→Heap→XR:=
 bL.rec (motive:=fun _=>FT→Heap→XR)
  (fun T H=>.out .normal T H)
  (fun xs T H=>QN call k xs T H)
  (fun xs af T H=>G9 call k xs af T H)
  (fun _ _ a b T H=>JT b (a T H))
  (fun c _ _ a b T H=>JM (a T H) (b T H) (T.evK c))
  (fun id _ a T H=>JI id (a T H))
  (fun _ a T H=>EH a fuel T H)
  (fun f ps _ _ qs ra rb _ _ T H=>BC call N k f ps qs ra rb T H)
  (fun id T H=>.out (.exit id) T H)
  (fun T H=>.out .ret T H)
  (fun _ _=>.stuck) c
def YOK (P:Program) (call:bT):Prop:=∀ g i args H b H',call.yl g i args H=some (b,H')→dQ P g i args H fun b' H2=>b'=b∧H2=H'
section
variable {P:Program} {N k fuel:Nat} {call:bT}
theorem BU (hcall:cN P call) (hy:YOK P call) {zs:List IOper} {T:FT} {H:Heap} {e:Exit} {T':FT} {H':Heap} (h:QN call k zs T H=.out e T' H') {fr:Fr} (ha:AgT fr T) {Q:Exit→Fr→Heap→Prop} (hQ:∀ fr',AgT fr' T'→Q e fr' H'):
  AWP P N k (.region zs) Q fr H:=by
 have other:∀ {e:Exit} {T':FT} {H':Heap},(iV call k zs T H).x=.out e T' H'→(∀ fr',AgT fr' T'→Q e fr' H')→AWP P N k (.region zs) Q fr H:=by
  intro e T' H' h hQ;obtain⟨rfl,hr⟩:=RR.x_out h;exact AWP.region (kU hcall hQ zs T H fr hr ha)
 unfold QN at h;split at h
 ·rename_i xs d gd f args ys hs
  unfold KR at h;split at h
  ·rename_i T1 H1 hr
   split at h
   ·split at h
    ·rename_i g i hc
     split at h
     ·rename_i b H2 hyl
      cases hk:Nat.ble k (cV H1) with
      | false=>rw[hk] at h; cases h
      | true=>
       rw[hk] at h;replace h:(kQ d (.sc (.bool b)) T1 H2 (iV call k ys)).x=.out e T' H':=h;obtain⟨rfl,h9⟩:=RR.x_out h;clear h;refine AWP.rG hs (kU hcall (fun fr1 ha1=>?_) xs T H fr hr ha);refine⟨rfl,by rw[← bS]; exact nlB hk,g,i,?_,?_⟩
       ·cases f with
        | tmp t=>
         simp only[lE,FT.getK_eq] at hc;show rM P (fr1.get t)=_;rw[ha1 t];split at hc
         ·cases hc
         ·rw[hc]
          rfl
        | meth r name tbl=>
         simp only[lE] at hc;split at hc
         ·split at hc<;>cases hc
         ·cases hc
       ·rw[ha1.mapK]
        refine(hy g i _ H1 b H2 hyl).mono ?_;rintro b' H3 ⟨rfl,rfl⟩;obtain⟨T2,h1,h2⟩:=dE h9 ha1;exact kU hcall hQ ys T2 _ _ h2 h1
     ·cases h
    ·exact other h hQ
   ·exact other h hQ
  ·exact other h hQ
 ·exact other h hQ
theorem KW {f:Cal} {T:FT} {fr:Fr} (ha:AgT fr T) {g i:Nat} (hc:lE T f=.yld g i):evC P fr f=.yld g i:=by
 cases f with
 | tmp t=>
  simp only[lE,FT.getK_eq] at hc;show rM P (fr.get t)=_;rw[ha t];split at hc
  ·cases hc
  ·rw[hc]
   rfl
 | meth r name tbl=>
  simp only[lE] at hc;split at hc
  ·split at hc<;>cases hc
  ·cases hc
theorem x9 {af:List (List Nat)} {s:Nat} {ys:List IOper} {r:DR} {e:Exit} {T':FT} {H':Heap} (h:iQ af s ys r=.out e T' H'):∃ R,r=.out R T' H'∧e=.normal∧tK af s ys R=true:=by
 unfold iQ at h;split at h
 ·rename_i R T H
  cases hc:tK af s ys R with
  | false=>rw[hc] at h; cases h
  | true=>
   rw[hc] at h
   injection h with h1 h2 h3
   subst h1; subst h2; subst h3;exact⟨R,rfl,rfl,hc⟩
 ·cases h
theorem AX (hp:P.follows .mixedOrders=true) (hcall:cN P call) (hy:YOK P call) {zs:List IOper} {af:List (List Nat)} {T:FT} {H:Heap} {e:Exit} {T':FT} {H':Heap} (h:G9 call k zs af T H=.out e T' H') {fr:Fr} (ha:AgT fr T)
  {Q:Exit→Fr→Heap→Prop} (hQ:∀ fr',AgT fr' T'→Q e fr' H'):AWP P N k (.draw zs af) Q fr H:=by
 unfold G9 at h;split at h
 ·rename_i xs d gd f args ys hs
  unfold EK at h;split at h
  ·rename_i R T1 H1 hr
   split at h
   ·split at h
    ·rename_i g i hc
     split at h
     ·rename_i hb
      simp only[bAe] at hb;obtain⟨⟨c0,c1⟩,hk⟩:=hb;rw[bS] at hr hk;simp only[G7,bS,bAe,List.all_eq_true,List.mem_range] at c0;obtain⟨fr1,k1,k2,k3⟩:=gX hcall xs 0 T _ fr R T1 H1 hr ha;have c2:=iJ c1 k1.recs.1 k3;refine AWP.drawYld (mA hs) hp c0.1 c0.2.1 c0.2.2 k1 c2 (Sub.refl _ _ _ _) ⟨rfl,nlB hk,g,i,KW k2 hc,?_⟩;rw[k2.mapK]
      cases hyl:call.yl g i (mapK T1 args) H1 with
      | none=>rw[hyl] at h; cases h
      | some p=>
       obtain⟨b,H2⟩:=p;rw[hyl] at h;refine(hy g i _ H1 b H2 hyl).mono ?_;rintro b' H3 ⟨rfl,rfl⟩
       have fin:∀ {T2:FT},AgT (fr1.put d (.sc (.bool b'))) T2→iQ af (Nat.succ (cV xs)) ys (jJ call (cV H3) ys 0 T2 (H3++[List.replicate ys.length .dead]))=.out e T' H' →
         ∃ R2 fr3 H4,eH P H3.length 0 ys (fr1.put d (.sc (.bool b'))) (H3++[List.replicate ys.length .dead]) R2 fr3 H4∧mX af (xs.length+1) R2∧Q .normal fr3 H4:=by
        intro T2 ha2 h;obtain⟨R2,h1,rfl,h3⟩:=x9 h;rw[bS] at h1;obtain⟨fr3,j1,j2,j3⟩:=gX hcall ys 0 T2 _ _ R2 T' H' h1 ha2;have c3:=iJ h3 j1.recs.1 j3;rw[bS] at c3;exact⟨R2,fr3,_,j1,c3,hQ fr3 j2⟩
       simp only[EO] at h;split at h
       ·exact fin k2 h
       ·split at h
        ·rename_i T2 e2
         exact fin (k2.putK e2) h
        ·cases h
     ·cases h
    ·exact jE hp hcall h ha hQ
   ·exact jE hp hcall h ha hQ
  ·exact jE hp hcall h ha hQ
 ·exact jE hp hcall h ha hQ
theorem GO {Q:Exit→Fr→Heap→Prop} {T T':FT} {fr:Fr} {e:Exit} {H':Heap} (ha:AgT fr T) (hQ:∀ fr',AgT fr' T'→Q e fr' H') (o:Option Heap) (Hd:Heap) (ho:∀ H4,o=some H4→Hd=H4) (pe:Option Code)
  (h:(match o with
   | some H2=>match pe with
    | none=>XR.out .normal T H2
    | some .ret=>.out .ret T H2
    | some (.exit id)=>.out (.exit id) T H2
    | _=>.stuck
   | none=>.stuck)=.out e T' H'):match (generalizing:=false) pe with
  | none=>Q .normal fr Hd
  | some .ret=>Q .ret fr Hd
  | some (.exit id)=>Q (.exit id) fr Hd
  | _=>False:=by
 cases o with
 | none=>cases h
 | some H4=>
  rw[ho H4 rfl];simp only at h;split at h
  ·injection h with h1 h2 h3
   subst h1; subst h2; subst h3;exact hQ _ ha
  ·injection h with h1 h2 h3
   subst h1; subst h2; subst h3;exact hQ _ ha
  ·injection h with h1 h2 h3
   subst h1; subst h2; subst h3;exact hQ _ ha
  ·cases h
theorem yG (hcall:cN P call) {f:Operand} {ps:List Nat} {asg body:bL} {qs:Array Tmp} {ra rb:Code} {T:FT} {H:Heap} {e:Exit} {T':FT} {H':Heap} (h:BC call N k f ps qs ra rb T H=.out e T' H') {fr:Fr} (ha:AgT fr T)
  {Q:Exit→Fr→Heap→Prop} (hQ:∀ fr',AgT fr' T'→Q e fr' H'):AWP P N k (.rangeF f ps asg body qs ra rb) Q fr H:=by
 unfold BC at h;split at h
 ·rename_i g fs cs hf
  split at h
  ·rename_i hb
   simp only[bAe] at hb;split at h
   ·rename_i H1 hs
    have hk:k≤H.length:=by rw[← bS]; exact nlB hb.1
    have hH1:=iN _ _ _ _ _ hs;rw[bS] at hH1 h;subst hH1;refine AWP.sub (Sub.le (FT.fr_le ha)) ?_;have ha2:=T.fr_ag
    have hf2:ev T.fr f=.clo (.func g) fs cs:=by rw[ha2.evK]; exact hf
    refine AWP.rangeC hf2 hk hb.2 fun _=>?_
    unfold EQ at h;split at h
    ·rename_i v H2 hr
     refine(hcall.run g _ _ v H2 hr).mono ?_;rintro res H3 ⟨rfl,rfl⟩;split at h
     ·rename_i L caps st pe hg
      rw[eV] at hg;refine⟨L,caps,st,pe,hg,?_⟩
      cases st with
      | busy=>cases h
      | _=>exact⟨(by intro e; cases e),GO ha2 hQ _ _ (fun H4 h4=>iN _ _ _ _ _ h4) pe h⟩
     ·cases h
    ·cases h
   ·cases h
  ·cases h
 ·cases h
theorem lR (hp:P.follows .mixedOrders=true) (hcall:cN P call) (hy:YOK P call):∀(c:bL) (T:FT) (H:Heap) (e:Exit) (T':FT) (H':Heap),jF call N k fuel c T H=.out e T' H'→∀ fr,AgT fr T →
  ∀(Q:Exit→Fr→Heap→Prop),(∀ fr',AgT fr' T'→Q e fr' H')→AWP P N k c Q fr H:=by
 intro c
 induction c with
 | skip=>
  intro T H e T' H' h fr ha Q hQ
  injection h with h1 h2 h3
  subst h1; subst h2; subst h3;exact AWP.skip (hQ fr ha)
 | region xs=>
  intro T H e T' H' h fr ha Q hQ;exact BU hcall hy h ha hQ
 | draw xs af=>
  intro T H e T' H' h fr ha Q hQ;exact AX hp hcall hy h ha hQ
 | seq a b iha ihb=>
  intro T H e T' H' h fr ha Q hQ
  rcases AC (b:=jF call N k fuel b) (r:=jF call N k fuel a T H) h with⟨T1,H1,h1,h2⟩ | ⟨h1,h2⟩
  ·exact AWP.seq (iha T H _ T1 H1 h1 fr ha _ fun fr1 ha1=>ihb T1 H1 e T' H' h2 fr1 ha1 Q hQ)
  ·refine AWP.seq (iha T H _ T' H' h2 fr ha _ fun fr1 ha1=>?_)
   cases e with
   | normal=>exact absurd rfl h1
   | _=>exact hQ fr1 ha1
 | cond c a b iha ihb=>
  intro T H e T' H' h fr ha Q hQ;replace h:JM (jF call N k fuel a T H) (jF call N k fuel b T H) (T.evK c)=.out e T' H':=h;unfold JM at h;split at h
  ·rename_i e1
   rw[← ha.evK] at e1;exact AWP.condT e1 (iha T H e T' H' h fr ha Q hQ)
  ·rename_i e1
   rw[← ha.evK] at e1;exact AWP.condF e1 (ihb T H e T' H' h fr ha Q hQ)
  ·cases h
 | block id a iha=>
  intro T H e T' H' h fr ha Q hQ;replace h:JI id (jF call N k fuel a T H)=.out e T' H':=h
  cases hr:jF call N k fuel a T H with
  | stuck=>rw[hr] at h; cases h
  | out e1 T1 H1=>
   rw[hr] at h;refine AWP.block (iha T H e1 T1 H1 hr fr ha _ fun fr1 ha1=>?_)
   cases e1 with
   | exit id'=>
    replace h:Bool.rec (motive:=fun _=>XR) (.out (.exit id') T1 H1) (.out .normal T1 H1) (Nat.beq id' id)=.out e T' H':=h;show(match Nat.beq id' id with | true=>Q .normal | false=>Q (.exit id')) fr1 H1
    cases hb:Nat.beq id' id with
    | true=>
     rw[hb] at h
     injection h with h1 h2 h3
     subst h1; subst h2; subst h3;exact hQ fr1 ha1
    | false=>
     rw[hb] at h
     injection h with h1 h2 h3
     subst h1; subst h2; subst h3;exact hQ fr1 ha1
   | _=>
    injection h with h1 h2 h3
    subst h1; subst h2; subst h3;exact hQ fr1 ha1
 | loop a iha=>
  intro T H e T' H' h fr ha Q hQ;replace h:EH (jF call N k fuel a) fuel T H=.out e T' H':=h;refine AWP.loop (σ:=Nat×FT×Heap×Fr) (fun s=>s.2.2.2) (fun s=>s.2.2.1) (fun s=>AgT s.2.2.2 s.2.1∧EH (jF call N k fuel a) s.1 s.2.1 s.2.2.1=.out e T' H') (fun s=>s.1) (fuel,T,H,fr) ⟨ha,h⟩ (Sub.refl _ _ _ _) ?_;rintro⟨n,T1,H1,fr1⟩ ⟨ha1,h1⟩;simp only at ha1 h1 ⊢
  cases n with
  | zero=>cases h1
  | succ n=>
   replace h1:JT (EH (jF call N k fuel a) n) (jF call N k fuel a T1 H1)=.out e T' H':=h1
   rcases AC h1 with⟨T2,H2,h2,h3⟩ | ⟨h2,h3⟩
   ·refine iha T1 H1 _ T2 H2 h2 fr1 ha1 _ fun fr2 ha2=>?_
    exact⟨(n,T2,H2,fr2),⟨ha2,h3⟩,Nat.lt_succ_self n,Sub.refl _ _ _ _⟩
   ·refine iha T1 H1 _ T' H' h3 fr1 ha1 _ fun fr2 ha2=>?_
    cases e with
    | normal=>exact absurd rfl h2
    | _=>exact hQ fr2 ha2
 | exit id=>
  intro T H e T' H' h fr ha Q hQ
  injection h with h1 h2 h3
  subst h1; subst h2; subst h3;exact AWP.exit (hQ fr ha)
 | ret=>
  intro T H e T' H' h fr ha Q hQ
  injection h with h1 h2 h3
  subst h1; subst h2; subst h3;exact AWP.ret (hQ fr ha)
 | rangeF f ps a b qs ra rb iha ihb=>
  intro T H e T' H' h fr ha Q hQ;exact yG hcall h ha hQ
 | bad=>
  intro T H e T' H' h
  cases h
end
noncomputable def uP (a b:Bool):Bool:=Bool.rec (motive:=fun _=>Bool) false b a
theorem oX (a b:Bool):uP a b=(a && b):=by cases a<;>rfl
noncomputable def JJ (k:Nat) (a:AV):Bool:=
 match a with
 | .sc _=>true
 | a=>kB k a
noncomputable def DZ (k:Nat) (l:List AV):Bool:=List.rec (motive:=fun _=>Bool) true (fun a _ ih=>uP (JJ k a) ih) l
noncomputable def J6 (k:Nat) (l:List (List AV)):Bool:=List.rec (motive:=fun _=>Bool) true (fun a _ ih=>uP (DZ k a) ih) l
noncomputable def HI (k:Nat) (b:Blk):Bool:=
 match b with
 | .dead=>true
 | .cells _ rows=>J6 k rows
 | b=>tJ k b
noncomputable def EX (k:Nat) (l:List Blk):Bool:=List.rec (motive:=fun _=>Bool) true (fun a _ ih=>uP (HI k a) ih) l
noncomputable def J8 (k:Nat) (H:Heap):Nat→Bool:=List.rec (motive:=fun _=>Nat→Bool) (fun _=>true) (fun f _ ih n=>match n with
 | 0=>true
 | Nat.succ m=>uP (EX k f) (ih m)) H
theorem K4 (k:Nat) (a:AV):JJ k a=kB k a:=by cases a<;>rfl
theorem GV (k:Nat) (l:List AV):DZ k l=jT k l:=by
 induction l with
 | nil=>rfl
 | cons a l ih=>
  show uP (JJ k a) (DZ k l)=(kB k a && jT k l);rw[oX,ih,K4]
theorem HW (k:Nat) (l:List (List AV)):J6 k l=w7 k l:=by
 induction l with
 | nil=>rfl
 | cons a l ih=>
  show uP (DZ k a) (J6 k l)=(jT k a && w7 k l);rw[oX,ih,GV]
theorem I4 (k:Nat) (b:Blk):HI k b=tJ k b:=by
 cases b with
 | cells sz rows=>exact HW k rows
 | _=>rfl
theorem K5 (k:Nat) (l:List Blk):EX k l=C1 k l:=by
 induction l with
 | nil=>rfl
 | cons a l ih=>
  show uP (HI k a) (EX k l)=(tJ k a && C1 k l);rw[oX,ih,I4]
theorem G3 (k:Nat) (H:Heap):∀ n,J8 k H n=B4 k n H:=by
 induction H with
 | nil=>intro n; cases n<;>rfl
 | cons f H ih=>
  intro n
  cases n with
  | zero=>rfl
  | succ n=>
   show uP (EX k f) (J8 k H n)=(C1 k f && B4 k n H);rw[oX,ih,K5]
noncomputable def MZ (k:Nat) (res:AV) (H:Heap):AV×Heap:=
 Bool.rec (motive:=fun _=>AV×Heap) (Bool.rec (motive:=fun _=>AV×Heap) (res,H) (res,H.take k) (uP (kB k res) (J8 k H k))) (res,H) (Nat.ble (cV H) (Nat.add k 150))
theorem GX (k:Nat) (res:AV) (H:Heap):eO k H res (MZ k res H).2 (MZ k res H).1:=by
 unfold MZ;rw[oX,G3]
 cases Nat.ble (cV H) (Nat.add k 150) with
 | true=>exact .refl k H res
 | false=>
  cases e:kB k res && B4 k k H with
  | false=>exact .refl k H res
  | true=>
   simp only[bAe] at e;exact .cut e.1 e.2
noncomputable def HT (k:Nat) (H:Heap) (r:Option AV):Option (AV×Heap):=
 match r with
 | some v=>some (MZ k v H)
 | none=>none
noncomputable def finM (k:Nat) (rs:List kH) (x:XR):Option (AV×Heap):=
 match x with
 | .out e T H=>match e with
  | .normal=>Bool.rec (motive:=fun _=>Option (AV×Heap)) none (HT k H (tG (mG T H rs))) (m9 T rs)
  | .ret=>Bool.rec (motive:=fun _=>Option (AV×Heap)) none (HT k H (tG (mG T H rs))) (m9 T rs)
  | _=>none
 | .stuck=>none
noncomputable def tE (call:bT) (fuel:Nat) (args:List AV) (H:Heap) (F:IFun):Option (AV×Heap):=
 match F with
 | ⟨n,code,res⟩=>match Nat.ble (cV args) n with
  | true=>match GW args 0 (FT.full 9) with
   | some T=>finM (cV H) res (jF call n (cV H) fuel code T H)
   | none=>none
  | false=>none
noncomputable def EI (call:bT) (r:Option (AV×Heap)) (H:Heap):Option (AV×Heap):=
 match r with
 | some (v,H0)=>match call.frz H0 v with
  | some b=>some (b,H)
  | none=>none
 | none=>none
def CV:AV→Bool
 | .sc _=>true
 | _=>false
def JE:AV→Bool
 | .sc _=>true
 | .tup vs=>vs.all CV
 | .agg vs=>vs.all CV
 | _=>false
theorem qU {a:AV} (h:CV a=true):Plain a:=by
 cases a<;>first | exact .sc _ | cases h
theorem yV {a:AV} (h:JE a=true):Plain a:=by
 cases a with
 | tup vs=>exact .tup _ fun c hc=>qU (List.all_eq_true.1 h c hc)
 | agg vs=>exact .agg _ fun c hc=>qU (List.all_eq_true.1 h c hc)
 | sc v=>exact .sc v
 | _=>cases h
noncomputable def OA (call:bT) (fuel:Nat) (F:IFun) (args:List AV) (H:Heap):Option (AV×Heap):=
 match dfL (dfz H 12) args with
 | some args'=>match EI call (tE call fuel args' [] F) H with
  | some (b,_)=>match JE b with
   | true=>some (b,H)
   | false=>none
  | none=>none
 | none=>none
noncomputable def orM (a b:Option (AV×Heap)):Option (AV×Heap):=
 match a with
 | some r=>some r
 | none=>b
noncomputable def HU (tab:FuncId→Option IFun) (pz:List Nat) (call:bT) (fuel:Nat) (f:FuncId) (args:List AV) (H:Heap) (s:Option (AV×Heap)):Option (AV×Heap):=
 match s with
 | some r=>some r
 | none=>match tab f with
  | some F=>match pz.any (Nat.beq f) with
   | true=>match jT 0 args with
    | true=>EI call (tE call fuel args [] F) H
    | false=>orM (OA call fuel F args H) (tE call fuel args H F)
   | false=>tE call fuel args H F
  | none=>none
noncomputable def zipK (ps:List Nat):List AV→Fr→Option Fr:=
 List.rec (motive:=fun _=>List AV→Fr→Option Fr) (fun as r=>match as with
  | []=>some r
  | _=>none) (fun p _ ih as r=>match as with
  | a::as=>ih as ((p,a)::r)
  | []=>none) ps
noncomputable def A1 (g i:Nat) (r:XR):Option (Bool×Heap):=
 match r with
 | .out e _ H=>match lG H g i with
  | some (.lp L c .busy none)=>match e with
   | .normal=>match mO H g i (.lp L c .ready none) with
    | some H'=>some (true,H')
    | none=>none
   | .ret=>match mO H g i (.lp L c .done (some .ret)) with
    | some H'=>some (false,H')
    | none=>none
   | .exit id=>match mO H g i (.lp L c .done (some (.exit id))) with
    | some H'=>some (false,H')
    | none=>none
   | _=>none
  | _=>none
 | .stuck=>none
noncomputable def wD (call:bT) (fuel n k g i:Nat) (body:bL) (r:XR):Option (Bool×Heap):=
 match r with
 | .out .normal T H=>match lG H g i with
  | some (.lp L c .ready none)=>match mO H g i (.lp L c .busy none) with
   | some H1=>A1 g i (jF call n k fuel body T H1)
   | none=>none
  | _=>none
 | _=>none
noncomputable def CH (P:Program) (call:bT) (fuel:Nat) (g i:Nat) (args:List AV) (H:Heap):Option (Bool×Heap):=
 match lG H g i with
 | some (.lp ⟨n,ps,ra,rb⟩ caps .ready none)=>match bM P n ra,bM P n rb with
  | some asg,some body=>match List.all ps.toList (Nat.blt · n) with
   | true=>match zipK ps.toList args [] with
    | some l=>match GY (l++caps) (FT.full 9) with
     | some T=>wD call fuel n (cV H) g i body (jF call n (cV H) fuel asg T H)
     | none=>none
    | none=>none
   | false=>none
  | _,_=>none
 | _=>none
noncomputable def FN (P:Program) (sum:Caller) (tab:FuncId→Option IFun) (pz:List Nat) (fuel:Nat) (d:Nat):bT:=
 Nat.rec (motive:=fun _=>bT) ⟨fun _ _ _=>none,fun _ _=>none,fun _ _ _ _=>none,fun _ _=>none⟩
  (fun _ ih=>⟨fun f args H=>HU tab pz ih fuel f (fnA args) H (sum f (fnA args) H),n9 P,CH P ih fuel,fun H=>dfz H 12⟩) d
section
variable {P:Program} {k fuel:Nat} {call:bT}
theorem lL (hp:P.follows .mixedOrders=true) (hcall:cN P call) (hy:YOK P call) {f:FuncId} {F:IFun} (hf:bG P f=some F) {args:List AV} {H:Heap} {v:AV} {H':Heap} (h:tE call fuel args H F=some (v,H')):
  aE P f args H fun r H2=>r=v∧H2=H':=by
 obtain⟨n,code,res⟩:=F;simp only[tE] at h;split at h
 ·rename_i hn
  split at h
  ·rename_i T hT
   rw[bS] at hn h
   have ha:AgT (fE 0 args) T:=by
    intro t;rw[BD args 0 _ T hT [] (fun t=>(FT.get_full 9 t).symm) (fun t _=>rfl) t]
    cases Fr.get (fE 0 args) t<;>rfl
   refine aE.of hf ?_ (nlB hn);unfold finM at h;split at h
   ·rename_i e T1 H1 hx
    have key:Bool.rec (motive:=fun _=>Option (AV×Heap)) none (HT H.length H1 (tG (mG T1 H1 res))) (m9 T1 res)=some (v,H')→(e=.normal∨e=.ret) →
      AWP P n H.length code (fun e fr' Hx=>(e=.normal∨e=.ret)∧∃ r r' H2,l5 fr' Hx res=some r∧eO H.length Hx r H2 r'∧r'=v∧H2=H') (fE 0 args) H:=by
     intro h he
     cases hpt:m9 T1 res with
     | false=>rw[hpt] at h; cases h
     | true=>
      rw[hpt] at h;replace h:HT H.length H1 (tG (mG T1 H1 res))=some (v,H'):=h;unfold HT at h;split at h
      ·rename_i u hu
       injection h with h
       have hs:=GX H.length u H1;rw[h] at hs
       refine lR hp hcall hy code T H e T1 H1 hx _ ha _ fun fr' ha'=>⟨he,u,v,H',?_,hs,rfl,rfl⟩
       unfold tG at hu;unfold l5;split at hu
       ·rename_i x hx'
        rw[tV ha' res _ hpt hx'];exact hu
       ·rename_i xs hne hx'
        rw[tV ha' res _ hpt hx']
        injection hu with hu
        subst hu;split
        ·rename_i e1
         injection e1 with e1
         exact absurd e1 (hne _)
        ·rename_i e1
         injection e1 with e1
         rw[e1]
        ·rename_i e1
         cases e1
       ·cases hu
      ·cases h
    split at h
    ·exact key h (.inl rfl)
    ·exact key h (.inr rfl)
    ·cases h
   ·cases h
  ·cases h
 ·cases h
theorem ET:∀(ps:List Nat) (as:List AV) (r l:Fr),zipK ps as r=some l→as.length=ps.length∧l=(ps.zip as).reverse++r
 | [],as,r,l,h=>by
  cases as with
  | nil=>injection h with h; subst h; exact⟨rfl,rfl⟩
  | cons a as=>cases h
 | p::ps,as,r,l,h=>by
  cases as with
  | nil=>cases h
  | cons a as=>
   obtain⟨h1,h2⟩:=ET ps as ((p,a)::r) l h;refine⟨by simp[h1],?_⟩;rw[h2];simp
theorem xO (hp:P.follows .mixedOrders=true) (hcall:cN P call) (hy:YOK P call) {g i:Nat} {args:List AV} {H:Heap} {b:Bool} {H':Heap} (h:CH P call fuel g i args H=some (b,H')):
  dQ P g i args H fun b' H2=>b'=b∧H2=H':=by
 unfold CH at h;split at h
 ·rename_i n ps ra rb caps hg
  rw[eV] at hg;split at h
  ·rename_i asg body e1 e2
   split at h
   ·rename_i hall
    split at h
    ·rename_i l hz
     split at h
     ·rename_i T hT
      obtain⟨z1,z2⟩:=ET _ _ _ _ hz
      have hpl:putL caps (ps.toList.zip args)=l++caps:=by rw[qZ,z2,List.append_nil]
      have hT0:AgT (l++caps) T:=by
       have:=zI (l++caps) (FT.full 9) T [] hT (fun t=>(FT.get_full 9 t).symm)
       rwa[List.append_nil] at this
      refine⟨⟨n,ps,ra,rb⟩,caps,n,ps.toList,asg,body,⟨rfl,rfl,hall,e1,e2⟩,hg,z1,?_⟩;rw[hpl];unfold wD at h;split at h
      ·rename_i T1 H1 hx
       rw[bS] at hx h;split at h
       ·rename_i L1 c1 hg1
        rw[eV] at hg1;split at h
        ·rename_i H2 hs
         have hs2:=iN _ _ _ _ _ hs
         refine lR hp hcall hy asg T H _ T1 H1 hx _ hT0 _ fun fr1 ha1=>⟨rfl,L1,c1,hg1,?_⟩
         rw[hs2];unfold A1 at h;split at h
         ·rename_i e T3 H3 hx3
          refine lR hp hcall hy body T1 H2 e T3 H3 hx3 _ ha1 _ fun fr3 _=>?_
          split at h
          ·rename_i L2 c2 hg3
           rw[eV] at hg3;refine⟨L2,c2,hg3,?_⟩;split at h
           ·split at h
            ·rename_i H4 h4
             injection h with h
             injection h with h5 h6
             exact⟨h5,by rw[iN _ _ _ _ _ h4]; exact h6⟩
            ·cases h
           ·split at h
            ·rename_i H4 h4
             injection h with h
             injection h with h5 h6
             exact⟨h5,by rw[iN _ _ _ _ _ h4]; exact h6⟩
            ·cases h
           ·split at h
            ·rename_i H4 h4
             injection h with h
             injection h with h5 h6
             exact⟨h5,by rw[iN _ _ _ _ _ h4]; exact h6⟩
            ·cases h
           ·cases h
          ·cases h
         ·cases h
        ·cases h
       ·cases h
      ·cases h
     ·cases h
    ·cases h
   ·cases h
  ·cases h
 ·cases h
theorem A7 (hp:P.follows .mixedOrders=true) {sum:Caller} (hsum:HS P sum) {tab:FuncId→Option IFun} {pz:List Nat} (htab:∀ f F,tab f=some F→bG P f=some F):∀(d:Nat),cN P (FN P sum tab pz fuel d)∧YOK P (FN P sum tab pz fuel d):=by
 intro d
 induction d with
 | zero=>exact⟨⟨fun f args H v H' h=>(by cases h),fun t n f h=>(by cases h),fun H a b h=>(by cases h)⟩,fun g i args H b H' h=>(by cases h)⟩
 | succ d ih=>
  refine⟨⟨fun f args H v H' h=>?_,fun t n f h=>h,fun H a b h=>PK 12 H a b h⟩,fun g i args H b H' h=>xO hp ih.1 ih.2 h⟩;replace h:HU tab pz (FN P sum tab pz fuel d) fuel f (fnA args) H (sum f (fnA args) H)=some (v,H'):=h;refine aE.fnA ?_;unfold HU at h;split at h
  ·rename_i r e
   rw[h] at e;exact hsum f (fnA args) H v H' e
  ·split at h
   ·rename_i F e
    split at h
    ·have pure:∀ {args':List AV} {b:AV} {H1 H2:Heap},jT 0 args'=true∨(∀ a∈args',aZ a)→EI (FN P sum tab pz fuel d) (tE (FN P sum tab pz fuel d) fuel args' [] F) H1=some (b,H2)→aC P f args' b∧H2=H1:=by
      intro args' b H1 H2 hpu h;unfold EI at h;split at h
      ·rename_i v0 H0 e0
       split at h
       ·rename_i b' eb
        injection h with h
        injection h with h1 h2
        subst h1; subst h2;obtain⟨q1,q2⟩:=ih.1.frz _ _ _ eb
        refine⟨aC.of (fun a ha=>?_) q2 ((lL hp ih.1 ih.2 (htab f F e) e0).sub (by
         rintro res H' ⟨rfl,rfl⟩
         exact⟨b',[],q1,rfl⟩)),rfl⟩
        rcases hpu with hpu | hpu
        ·exact dT _ hpu a ha
        ·exact hpu a ha
       ·cases h
      ·cases h
     split at h
     ·rename_i hb
      obtain⟨h1,rfl⟩:=pure (.inl hb) h;exact aE.ofPure h1 _ ⟨rfl,rfl⟩
     ·unfold orM at h
      split at h
      ·rename_i r ev
       rw[h] at ev;unfold OA at ev;split at ev
       ·rename_i args' ea
        split at ev
        ·rename_i b H2 eb
         split at ev
         ·rename_i hpl
          injection ev with ev
          injection ev with e1 e2
          subst e1; subst e2;obtain⟨h1,h2⟩:=fW (n:=H.length) (fun a b hab=>tD 12 a b hab) _ _ ea;obtain⟨h3,_⟩:=pure (.inr h2) eb;have e:H++gh []=H:=List.append_nil H;exact aE.view h3 (yV hpl) (by rw[e]; exact h1) ⟨rfl,rfl⟩
         ·cases ev
        ·cases ev
       ·cases ev
      ·exact lL hp ih.1 ih.2 (htab f F e) h
    ·exact lL hp ih.1 ih.2 (htab f F e) h
   ·cases h
end
end Go.Av
