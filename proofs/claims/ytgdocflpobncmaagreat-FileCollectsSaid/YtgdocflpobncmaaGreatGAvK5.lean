import Derived.Test.YtgdocflpobncmaaGreatGAvU
import Derived.Test.YtgdocflpobncmaaGreatGAvZ
namespace Go.Av
noncomputable def dfL (f:AV→Option AV) (l:List AV):Option (List AV):=List.rec (motive:=fun _=>Option (List AV)) (some []) (fun a _ ih=>match f a with
 | some b=>match ih with
  | some r=>some (b::r)
  | none=>none
 | none=>none) l
noncomputable def dfR (f:AV→Option AV) (l:List (List AV)):Option (List (List AV)):=List.rec (motive:=fun _=>Option (List (List AV))) (some []) (fun a _ ih=>match dfL f a with
 | some b=>match ih with
  | some r=>some (b::r)
  | none=>none
 | none=>none) l
noncomputable def dfA (H:Heap) (f:AV→Option AV) (a:AV):Option AV:=
 match a with
 | .undef=>some .undef
 | .sc v=>some (.sc v)
 | .one=>some .one
 | .agg cs=>match dfL f cs with
  | some r=>some (.agg r)
  | none=>none
 | .tup cs=>match dfL f cs with
  | some r=>some (.tup r)
  | none=>none
 | .cptr cs=>match dfL f cs with
  | some r=>some (.cptr r)
  | none=>none
 | .list sz rows=>match dfR f rows with
  | some r=>some (.list sz r)
  | none=>none
 | .clo fn fs cs=>match dfL f fs with
  | some r=>match dfL f cs with
   | some q=>some (.clo fn r q)
   | none=>none
  | none=>none
 | .hsl g i s l=>match mN H g i with
  | some (.cells sz rows)=>match Nat.ble (s+l) rows.length with
   | true=>match dfR f ((rows.drop s).take l) with
    | some r=>some (.list sz r)
    | none=>none
   | false=>none
  | _=>none
 | .ptr g i row 0=>match mN H g i with
  | some (.cells _ rows)=>match mW rows row with
   | some r=>match dfL f r with
    | some q=>some (.cptr q)
    | none=>none
   | none=>none
  | _=>none
 | _=>none
noncomputable def dfz (H:Heap) (n:Nat):AV→Option AV:=
 Nat.rec (motive:=fun _=>AV→Option AV) (fun _=>none) (fun _ ih a=>dfA H ih a) n
section
variable {H:Heap} {n:Nat}
abbrev DF (H:Heap) (n:Nat) (a b:AV):Prop:=To (ToT H n (dG [])) (rho []) a b∧bL b
theorem hG {f:AV→Option AV} (hf:∀ a b,f a=some b→DF H n a b):∀(l m:List AV),dfL f l=some m→ToL (ToT H n (dG [])) (rho []) l m∧∀ c∈m,bL c
 | [],m,h=>by injection h with h; subst h; exact⟨ToL.nil,fun c hc=>by cases hc⟩
 | a::l,m,h=>by
  replace h:(match f a with | some b=>(match dfL f l with | some r=>some (b::r) | none=>none) | none=>none)=some m:=h;split at h
  ·rename_i b e1
   split at h
   ·rename_i r e2
    injection h with h
    subst h;obtain⟨h1,h2⟩:=hf a b e1;obtain⟨h3,h4⟩:=hG hf l r e2
    exact⟨ToL.cons h1 h3,fun c hc=>by
     rcases List.mem_cons.1 hc with rfl | hc
     ·exact h2
     ·exact h4 c hc⟩
   ·cases h
  ·cases h
theorem vF {f:AV→Option AV} (hf:∀ a b,f a=some b→DF H n a b):∀(l m:List (List AV)),dfR f l=some m→ToR (ToT H n (dG [])) (rho []) l m∧∀ r∈m,∀ c∈r,bL c
 | [],m,h=>by injection h with h; subst h; exact⟨ToR.nil,fun c hc=>by cases hc⟩
 | a::l,m,h=>by
  replace h:(match dfL f a with | some b=>(match dfR f l with | some r=>some (b::r) | none=>none) | none=>none)=some m:=h;split at h
  ·rename_i b e1
   split at h
   ·rename_i r e2
    injection h with h
    subst h;obtain⟨h1,h2⟩:=hG hf a b e1;obtain⟨h3,h4⟩:=vF hf l r e2
    exact⟨ToR.cons h1 h3,fun c hc=>by
     rcases List.mem_cons.1 hc with rfl | hc
     ·exact h2
     ·exact h4 c hc⟩
   ·cases h
  ·cases h
theorem vP:∀(d:Nat) (a b:AV),dfz H d a=some b→DF H n a b
 | 0,a,b,h=>by cases h
 | d+1,a,b,h=>by
  have ih:=vP d;replace h:dfA H (dfz H d) a=some b:=h;unfold dfA at h;split at h
  ·injection h with h; subst h; exact⟨.undef _,.undef⟩
  ·injection h with h; subst h; exact⟨.sc _,.sc _⟩
  ·injection h with h; subst h; exact⟨.one,.one⟩
  ·split at h
   ·rename_i r e
    injection h with h; subst h
    obtain⟨h1,h2⟩:=hG ih _ _ e;exact⟨To.aggL h1,.agg _ h2⟩
   ·cases h
  ·split at h
   ·rename_i r e
    injection h with h; subst h
    obtain⟨h1,h2⟩:=hG ih _ _ e;exact⟨To.tupL h1,.tup _ h2⟩
   ·cases h
  ·split at h
   ·rename_i r e
    injection h with h; subst h
    obtain⟨h1,h2⟩:=hG ih _ _ e;exact⟨To.cptrL h1,.cptr _ h2⟩
   ·cases h
  ·split at h
   ·rename_i r e
    injection h with h; subst h
    obtain⟨h1,h2⟩:=vF ih _ _ e;exact⟨To.listR h1,.list _ _ h2⟩
   ·cases h
  ·split at h
   ·rename_i r e
    split at h
    ·rename_i q e2
     injection h with h; subst h
     obtain⟨h1,h2⟩:=hG ih _ _ e;obtain⟨h3,h4⟩:=hG ih _ _ e2;exact⟨To.cloL h1 h3,.clo _ _ _ h2 h4⟩
    ·cases h
   ·cases h
  ·rename_i g i s l
   rw[gE] at h;split at h
   ·rename_i sz rows e
    split at h
    ·rename_i hb
     split at h
     ·rename_i r e2
      injection h with h; subst h
      obtain⟨h1,h2⟩:=vF ih _ _ e2;exact⟨.base (.fz (.hsl g i s l sz rows rfl e (nlB hb))) (To.listR h1),.list _ _ h2⟩
     ·cases h
    ·cases h
   ·cases h
  ·rename_i g i row
   rw[gE] at h;split at h
   ·rename_i sz rows e
    rw[gG] at h;split at h
    ·rename_i r e1
     split at h
     ·rename_i q e2
      injection h with h; subst h
      obtain⟨h1,h2⟩:=hG ih _ _ e2;exact⟨To.fzp e rfl e1 (To.cptrL h1),.cptr _ h2⟩
     ·cases h
    ·cases h
   ·cases h
  ·cases h
theorem TO (d:Nat) (H:Heap) (a b:AV) (h:dfz H d a=some b):f8 0 H a [] b∧bL b:=by
 obtain⟨h1,h2⟩:=vP (n:=H.length) d a b h;refine⟨?_,h2⟩;have e:H++gh []=H:=List.append_nil H;refine f8.to (k:=0) [] [] (by rw[e]; exact h1) ?_ rfl rfl rfl;exact aI.nil
end
noncomputable def FT.toFr (T:FT):(Nat→Nat)→Fr→Fr:=
 FT.rec (motive:=fun _=>(Nat→Nat)→Fr→Fr) (fun _ r=>r)
  (fun v _ _ ihl ihr pos r=>match v with
   | .undef=>ihl (fun n=>pos (Nat.succ (Nat.mul 2 n))) (ihr (fun n=>pos (Nat.succ (Nat.succ (Nat.mul 2 n)))) r)
   | v=>(pos 0,v)::ihl (fun n=>pos (Nat.succ (Nat.mul 2 n))) (ihr (fun n=>pos (Nat.succ (Nat.succ (Nat.mul 2 n)))) r)) T
theorem FT.toFr_mem:∀(T:FT) (pos:Nat→Nat) (r:Fr) (x:Nat×AV),x∈T.toFr pos r→x∈r∨∃ n,x.1=pos n∧T.get n=x.2:=by
 intro T
 induction T with
 | leaf=>intro pos r x h; exact .inl h
 | node v l rr ihl ihr=>
  intro pos r x h
  have key:x∈FT.toFr l (fun n=>pos (Nat.succ (Nat.mul 2 n))) (FT.toFr rr (fun n=>pos (Nat.succ (Nat.succ (Nat.mul 2 n)))) r)→x∈r∨∃ n,x.1=pos n∧(FT.node v l rr).get n=x.2:=by
   intro h
   rcases ihl _ _ _ h with h | ⟨n,h1,h2⟩
   ·rcases ihr _ _ _ h with h | ⟨n,h1,h2⟩
    ·exact .inl h
    ·refine .inr ⟨Nat.succ (Nat.succ (Nat.mul 2 n)),h1,?_⟩
     show(match Nat.beq (Nat.mod (Nat.succ (Nat.mul 2 n)) 2) 0 with | true=>l.get (Nat.div (Nat.succ (Nat.mul 2 n)) 2) | false=>rr.get (Nat.div (Nat.succ (Nat.mul 2 n)) 2))=x.2
     have e1:Nat.mod (Nat.succ (Nat.mul 2 n)) 2=1:=by show(2 * n+1) % 2=1; omega
     have e2:Nat.div (Nat.succ (Nat.mul 2 n)) 2=n:=by show(2 * n+1) / 2=n; omega
     rw[e1,e2];exact h2
   ·refine .inr ⟨Nat.succ (Nat.mul 2 n),h1,?_⟩
    show(match Nat.beq (Nat.mod (Nat.mul 2 n) 2) 0 with | true=>l.get (Nat.div (Nat.mul 2 n) 2) | false=>rr.get (Nat.div (Nat.mul 2 n) 2))=x.2
    have e1:Nat.mod (Nat.mul 2 n) 2=0:=by show(2 * n) % 2=0; omega
    have e2:Nat.div (Nat.mul 2 n) 2=n:=by show(2 * n) / 2=n; omega
    rw[e1,e2];exact h2
  have key2:x∈((pos 0,v)::FT.toFr l (fun n=>pos (Nat.succ (Nat.mul 2 n))) (FT.toFr rr (fun n=>pos (Nat.succ (Nat.succ (Nat.mul 2 n)))) r))→x∈r∨∃ n,x.1=pos n∧(FT.node v l rr).get n=x.2:=by
   intro h
   rcases List.mem_cons.1 h with rfl | h
   ·exact .inr ⟨0,rfl,rfl⟩
   ·exact key h
  cases v<;>first | exact key h | exact key2 h
theorem FT.toFr_sub:∀(T:FT) (pos:Nat→Nat) (r:Fr) (x:Nat×AV),x∈r→x∈T.toFr pos r:=by
 intro T
 induction T with
 | leaf=>intro pos r x h; exact h
 | node v l rr ihl ihr=>
  intro pos r x h;have key:=ihl (fun n=>pos (Nat.succ (Nat.mul 2 n))) _ x (ihr (fun n=>pos (Nat.succ (Nat.succ (Nat.mul 2 n)))) r x h)
  cases v<;>first | exact key | exact mCm _ key
theorem FT.mem_toFr:∀(T:FT) (pos:Nat→Nat) (r:Fr) (n:Nat),T.get n≠.undef→(pos n,T.get n)∈T.toFr pos r:=by
 intro T
 induction T with
 | leaf=>intro pos r n h; exact absurd (by cases n<;>rfl) h
 | node v l rr ihl ihr=>
  intro pos r n h
  have cons:∀ {x:Nat×AV},x∈FT.toFr l (fun n=>pos (Nat.succ (Nat.mul 2 n))) (FT.toFr rr (fun n=>pos (Nat.succ (Nat.succ (Nat.mul 2 n)))) r)→x∈FT.toFr (.node v l rr) pos r:=by
   intro x hx
   cases v<;>first | exact hx | exact mCm _ hx
  cases n with
  | zero=>
   replace h:v≠.undef:=h;show(pos 0,v)∈_
   cases v<;>first | exact absurd rfl h | exact List.mem_cons_self ..
  | succ m=>
   have hg:(FT.node v l rr).get (m+1)=match Nat.beq (Nat.mod m 2) 0 with | true=>l.get (Nat.div m 2) | false=>rr.get (Nat.div m 2):=rfl
   rw[hg] at h ⊢
   cases hb:Nat.beq (Nat.mod m 2) 0 with
   | true=>
    rw[hb] at h;have e:=nEb hb;have:=ihl (fun n=>pos (Nat.succ (Nat.mul 2 n))) (FT.toFr rr (fun n=>pos (Nat.succ (Nat.succ (Nat.mul 2 n)))) r) (Nat.div m 2) h
    have e2:Nat.succ (Nat.mul 2 (Nat.div m 2))=m+1:=by
     show 2 * (m / 2)+1=m+1;have:m % 2=0:=e;omega
    simp only[e2] at this;exact cons this
   | false=>
    rw[hb] at h;have:=ihr (fun n=>pos (Nat.succ (Nat.succ (Nat.mul 2 n)))) r (Nat.div m 2) h
    have e2:Nat.succ (Nat.succ (Nat.mul 2 (Nat.div m 2)))=m+1:=by
     show 2 * (m / 2)+2=m+1
     have:¬ m % 2=0:=fun e=>by
      have:Nat.beq (Nat.mod m 2) 0=true:=by
       show Nat.beq (m % 2) 0=true;rw[e]; rfl
      rw[this] at hb; cases hb
     omega
    simp only[e2] at this;exact cons (FT.toFr_sub l _ _ _ this)
noncomputable def FT.fr (T:FT):Fr:=T.toFr (fun n=>n) []
theorem FT.fr_le {T:FT} {fr:Fr} (h:AgT fr T):∀ x∈T.fr,Le (fr.get x.1) x.2:=by
 intro x hx
 rcases FT.toFr_mem T _ _ x hx with h0 | ⟨n,h1,h2⟩
 ·simp at h0
 ·rw[h1,h n,h2]
  exact fun _ _ _ h=>h
theorem FT.fr_ag (T:FT):AgT T.fr T:=by
 have get_mem:∀(l:Fr) (t:Nat),Fr.get l t=.undef∨(t,Fr.get l t)∈l:=by
  intro l t
  induction l with
  | nil=>exact .inl rfl
  | cons p l ih=>
   obtain⟨d,v⟩:=p;show(match Nat.beq d t with | true=>v | false=>Fr.get l t)=.undef∨(t,(match Nat.beq d t with | true=>v | false=>Fr.get l t))∈_
   cases hb:Nat.beq d t with
   | true=>
    have:=nEb hb;subst this;exact .inr (List.mem_cons_self ..)
   | false=>
    rcases ih with h | h
    ·exact .inl h
    ·exact .inr (mCm _ h)
 have mem_get:∀(l:Fr) (t:Nat) (v:AV),(t,v)∈l→(t,Fr.get l t)∈l:=by
  intro l t v h
  induction l with
  | nil=>cases h
  | cons p l ih=>
   obtain⟨d,u⟩:=p;show(t,(match Nat.beq d t with | true=>u | false=>Fr.get l t))∈_
   cases hb:Nat.beq d t with
   | true=>
    have:=nEb hb;subst this;exact List.mem_cons_self ..
   | false=>
    rcases List.mem_cons.1 h with h | h
    ·injection h with h1 h2
     subst h1;simp at hb
    ·exact mCm _ (ih h)
 have val:∀(t:Nat) (v:AV),(t,v)∈T.fr→T.get t=v:=by
  intro t v h
  rcases FT.toFr_mem T _ _ _ h with h0 | ⟨n,h1,h2⟩
  ·simp at h0
  ·simp only at h1 h2
   rw[h1,h2]
 intro t
 by_cases hu:T.get t=.undef
 ·rcases get_mem T.fr t with h | h
  ·rw[h,hu]
  ·exact(val _ _ h).symm
 ·have:=FT.mem_toFr T (fun n=>n) [] t hu
  exact(val _ _ (mem_get _ _ _ this)).symm
noncomputable def K7 (l:Fr):FT→Option FT:=
 List.rec (motive:=fun _=>FT→Option FT) (fun T=>some T) (fun p _ ih T=>match ih T with
  | some T'=>T'.putK p.1 p.2
  | none=>none) l
theorem BZ:∀(l:Fr) (T T':FT) (fr:Fr),K7 l T=some T'→AgT fr T→AgT (l++fr) T'
 | [],T,T',fr,h,ha=>by injection h with h; subst h; exact ha
 | p::l,T,T',fr,h,ha=>by
  replace h:(match K7 l T with | some T'=>T'.putK p.1 p.2 | none=>none)=some T':=h;split at h
  ·rename_i T1 e
   exact(BZ l T T1 fr e ha).putK h
  ·cases h
theorem tO:∀(l:List (Nat×AV)) (fr:Fr),putL fr l=l.reverse++fr
 | [],fr=>rfl
 | p::l,fr=>by
  show putL (p::fr) l=_;rw[tO l,List.reverse_cons,List.append_assoc];rfl
noncomputable def MI (call:cM) (k:Nat) (ys:List IOper) (d:Option Nat) (gd:Option (Nat×Bool)) (f:Cal) (args:List Operand) (other:XR):RR→XR
 | .out T H=>match gd with
  | none=>match m6 T f with
   | .yld g i=>match call.yl g i (mapK T args) H with
    | some (b,H')=>Bool.rec (motive:=fun _=>XR) .stuck (lU d (.sc (.bool b)) T H' (jZ call k ys)).x (Nat.ble k (dW H))
    | none=>.stuck
   | _=>other
  | some _=>other
 | .stuck=>other
noncomputable def TH (call:cM) (k:Nat) (zs:List IOper) (T:FT) (H:Heap):XR:=
 match pL zs with
 | some (xs,⟨d,gd,.callV f args⟩,ys)=>MI call k ys d gd f args (jZ call k zs T H).x (jZ call k xs T H)
 | _=>(jZ call k zs T H).x
noncomputable def G8 (call:cM) (af:List (List Nat)) (s:Nat) (ys:List IOper) (d:Option Nat) (T:FT) (r:Option (Bool×Heap)):XR:=
 match r with
 | some (b,H)=>match d with
  | none=>jO af s ys (j9 call (dW H) ys 0 T (H++[List.replicate ys.length .dead]))
  | some t=>match T.putK t (.sc (.bool b)) with
   | some T'=>jO af s ys (j9 call (dW H) ys 0 T' (H++[List.replicate ys.length .dead]))
   | none=>.stuck
 | none=>.stuck
noncomputable def GD (call:cM) (k:Nat) (af:List (List Nat)) (xs ys:List IOper) (d:Option Nat) (gd:Option (Nat×Bool)) (f:Cal) (args:List Operand) (other:XR):DR→XR
 | .out R T H=>match gd with
  | none=>match m6 T f with
   | .yld g i=>match (KO af (dW xs) (dW ys) && vL af 0 xs R) && Nat.ble k (dW H) with
    | true=>G8 call af (Nat.succ (dW xs)) ys d T (call.yl g i (mapK T args) H)
    | false=>.stuck
   | _=>other
  | some _=>other
 | .stuck=>other
noncomputable def OC (call:cM) (k:Nat) (zs:List IOper) (af:List (List Nat)) (T:FT) (H:Heap):XR:=
 match pL zs with
 | some (xs,⟨d,gd,.callV f args⟩,ys)=>GD call k af xs ys d gd f args (HE call k zs af T H) (j9 call (dW H) xs 0 T (H++[List.replicate xs.length .dead]))
 | _=>HE call k zs af T H
noncomputable def GG (T:FT) (h:Nat) (r:Option (AV×Heap)):XR:=
 match r with
 | some (_,H')=>match mN H' h 0 with
  | some (.lp _ _ st pe)=>match st with
   | .busy=>.stuck
   | _=>match oK H' h 0 .dead with
    | some H2=>match pe with
     | none=>.out .normal T H2
     | some .ret=>.out .ret T H2
     | some (.exit id)=>.out (.exit id) T H2
     | _=>.stuck
    | none=>.stuck
  | _=>.stuck
 | none=>.stuck
noncomputable def E7 (call:cM) (N k:Nat) (f:Operand) (ps:List Nat) (qs:Array Tmp) (ra rb:Code) (T:FT) (H:Heap):XR:=
 match T.evK f with
 | .clo (.func g) fs cs=>match Nat.ble k (dW H) && List.all ps (Nat.blt · N) with
  | true=>match oK H (dW H) 0 (.lp ⟨N,qs,ra,rb⟩ T.fr .ready none) with
   | some H1=>GG T (dW H) (call.run g (fs++[.yld (dW H) 0]++cs) H1)
   | none=>.stuck
  | false=>.stuck
 | _=>.stuck
noncomputable def kG (call:cM) (N k fuel:Nat) (c:cA):FT→Heap→XR:=
 cA.rec (motive:=fun _=>FT→Heap→XR)
  (fun T H=>.out .normal T H)
  (fun xs T H=>TH call k xs T H)
  (fun xs af T H=>OC call k xs af T H)
  (fun _ _ a b T H=>NY b (a T H))
  (fun c _ _ a b T H=>KF (a T H) (b T H) (T.evK c))
  (fun id _ a T H=>LT id (a T H))
  (fun _ a T H=>F0 a fuel T H)
  (fun f ps _ _ qs ra rb _ _ T H=>E7 call N k f ps qs ra rb T H)
  (fun id T H=>.out (.exit id) T H)
  (fun T H=>.out .ret T H)
  (fun _ _=>.stuck) c
def YOK (P:Program) (call:cM):Prop:=∀ g i args H b H',call.yl g i args H=some (b,H')→eP P g i args H fun b' H2=>b'=b∧H2=H'
section
variable {P:Program} {N k fuel:Nat} {call:cM}
theorem EG (hcall:dN P call) (hy:YOK P call) {zs:List IOper} {T:FT} {H:Heap} {e:Exit} {T':FT} {H':Heap} (h:TH call k zs T H=.out e T' H') {fr:Fr} (ha:AgT fr T) {Q:Exit→Fr→Heap→Prop} (hQ:∀ fr',AgT fr' T'→Q e fr' H'):
  AWP P N k (.region zs) Q fr H:=by
 have other:∀ {e:Exit} {T':FT} {H':Heap},(jZ call k zs T H).x=.out e T' H'→(∀ fr',AgT fr' T'→Q e fr' H')→AWP P N k (.region zs) Q fr H:=by
  intro e T' H' h hQ;obtain⟨rfl,hr⟩:=RR.x_out h;exact AWP.region (lT hcall hQ zs T H fr hr ha)
 unfold TH at h;split at h
 ·rename_i xs d gd f args ys hs
  unfold MI at h;split at h
  ·rename_i T1 H1 hr
   split at h
   ·split at h
    ·rename_i g i hc
     split at h
     ·rename_i b H2 hyl
      cases hk:Nat.ble k (dW H1) with
      | false=>rw[hk] at h; cases h
      | true=>
       rw[hk] at h;replace h:(lU d (.sc (.bool b)) T1 H2 (jZ call k ys)).x=.out e T' H':=h;obtain⟨rfl,h9⟩:=RR.x_out h;clear h;refine AWP.rG hs (lT hcall (fun fr1 ha1=>?_) xs T H fr hr ha);refine⟨rfl,by rw[← cL]; exact nlB hk,g,i,?_,?_⟩
       ·cases f with
        | tmp t=>
         simp only[m6,FT.getK_eq] at hc;show tU P (fr1.get t)=_;rw[ha1 t];split at hc
         ·cases hc
         ·rw[hc]
          rfl
        | meth r name tbl=>
         simp only[m6] at hc;split at hc
         ·split at hc<;>cases hc
         ·cases hc
       ·rw[ha1.mapK]
        refine(hy g i _ H1 b H2 hyl).mono ?_;rintro b' H3 ⟨rfl,rfl⟩;obtain⟨T2,h1,h2⟩:=eA h9 ha1;exact lT hcall hQ ys T2 _ _ h2 h1
     ·cases h
    ·exact other h hQ
   ·exact other h hQ
  ·exact other h hQ
 ·exact other h hQ
theorem NS {f:Cal} {T:FT} {fr:Fr} (ha:AgT fr T) {g i:Nat} (hc:m6 T f=.yld g i):evC P fr f=.yld g i:=by
 cases f with
 | tmp t=>
  simp only[m6,FT.getK_eq] at hc;show tU P (fr.get t)=_;rw[ha t];split at hc
  ·cases hc
  ·rw[hc]
   rfl
 | meth r name tbl=>
  simp only[m6] at hc;split at hc
  ·split at hc<;>cases hc
  ·cases hc
theorem AZ {af:List (List Nat)} {s:Nat} {ys:List IOper} {r:DR} {e:Exit} {T':FT} {H':Heap} (h:jO af s ys r=.out e T' H'):∃ R,r=.out R T' H'∧e=.normal∧vL af s ys R=true:=by
 unfold jO at h;split at h
 ·rename_i R T H
  cases hc:vL af s ys R with
  | false=>rw[hc] at h; cases h
  | true=>
   rw[hc] at h
   injection h with h1 h2 h3
   subst h1; subst h2; subst h3;exact⟨R,rfl,rfl,hc⟩
 ·cases h
theorem C7 (hp:P.follows .mixedOrders=true) (hcall:dN P call) (hy:YOK P call) {zs:List IOper} {af:List (List Nat)} {T:FT} {H:Heap} {e:Exit} {T':FT} {H':Heap} (h:OC call k zs af T H=.out e T' H') {fr:Fr} (ha:AgT fr T)
  {Q:Exit→Fr→Heap→Prop} (hQ:∀ fr',AgT fr' T'→Q e fr' H'):AWP P N k (.draw zs af) Q fr H:=by
 unfold OC at h;split at h
 ·rename_i xs d gd f args ys hs
  unfold GD at h;split at h
  ·rename_i R T1 H1 hr
   split at h
   ·split at h
    ·rename_i g i hc
     split at h
     ·rename_i hb
      simp only[bAe] at hb;obtain⟨⟨c0,c1⟩,hk⟩:=hb;rw[cL] at hr hk;simp only[KO,cL,bAe,List.all_eq_true,List.mem_range] at c0;obtain⟨fr1,k1,k2,k3⟩:=i8 hcall xs 0 T _ fr R T1 H1 hr ha;have c2:=jX c1 k1.recs.1 k3;refine AWP.drawYld (n7 hs) hp c0.1 c0.2.1 c0.2.2 k1 c2 (Sub.refl _ _ _ _) ⟨rfl,nlB hk,g,i,NS k2 hc,?_⟩;rw[k2.mapK]
      cases hyl:call.yl g i (mapK T1 args) H1 with
      | none=>rw[hyl] at h; cases h
      | some p=>
       obtain⟨b,H2⟩:=p;rw[hyl] at h;refine(hy g i _ H1 b H2 hyl).mono ?_;rintro b' H3 ⟨rfl,rfl⟩
       have fin:∀ {T2:FT},AgT (fr1.put d (.sc (.bool b'))) T2→jO af (Nat.succ (dW xs)) ys (j9 call (dW H3) ys 0 T2 (H3++[List.replicate ys.length .dead]))=.out e T' H' →
         ∃ R2 fr3 H4,fS P H3.length 0 ys (fr1.put d (.sc (.bool b'))) (H3++[List.replicate ys.length .dead]) R2 fr3 H4∧oS af (xs.length+1) R2∧Q .normal fr3 H4:=by
        intro T2 ha2 h;obtain⟨R2,h1,rfl,h3⟩:=AZ h;rw[cL] at h1;obtain⟨fr3,j1,j2,j3⟩:=i8 hcall ys 0 T2 _ _ R2 T' H' h1 ha2;have c3:=jX h3 j1.recs.1 j3;rw[cL] at c3;exact⟨R2,fr3,_,j1,c3,hQ fr3 j2⟩
       simp only[G8] at h;split at h
       ·exact fin k2 h
       ·split at h
        ·rename_i T2 e2
         exact fin (k2.putK e2) h
        ·cases h
     ·cases h
    ·exact kE hp hcall h ha hQ
   ·exact kE hp hcall h ha hQ
  ·exact kE hp hcall h ha hQ
 ·exact kE hp hcall h ha hQ
theorem JS {Q:Exit→Fr→Heap→Prop} {T T':FT} {fr:Fr} {e:Exit} {H':Heap} (ha:AgT fr T) (hQ:∀ fr',AgT fr' T'→Q e fr' H') (o:Option Heap) (Hd:Heap) (ho:∀ H4,o=some H4→Hd=H4) (pe:Option Code)
  (h:(match o with
   | some H2=>match pe with
    | none=>XR.out .normal T H2
    | some .ret=>.out .ret T H2
    | some (.exit id)=>.out (.exit id) T H2
    | _=>.stuck
   | none=>.stuck)=.out e T' H'):match (generalizing:=false) pe with
  | none=>Q .normal fr Hd
  | some .ret=>Q .ret fr Hd
  | some (.exit id)=>Q (.exit id) fr Hd
  | _=>False:=by
 cases o with
 | none=>cases h
 | some H4=>
  rw[ho H4 rfl];simp only at h;split at h
  ·injection h with h1 h2 h3
   subst h1; subst h2; subst h3;exact hQ _ ha
  ·injection h with h1 h2 h3
   subst h1; subst h2; subst h3;exact hQ _ ha
  ·injection h with h1 h2 h3
   subst h1; subst h2; subst h3;exact hQ _ ha
  ·cases h
theorem zX (hcall:dN P call) {f:Operand} {ps:List Nat} {asg body:cA} {qs:Array Tmp} {ra rb:Code} {T:FT} {H:Heap} {e:Exit} {T':FT} {H':Heap} (h:E7 call N k f ps qs ra rb T H=.out e T' H') {fr:Fr} (ha:AgT fr T)
  {Q:Exit→Fr→Heap→Prop} (hQ:∀ fr',AgT fr' T'→Q e fr' H'):AWP P N k (.rangeF f ps asg body qs ra rb) Q fr H:=by
 unfold E7 at h;split at h
 ·rename_i g fs cs hf
  split at h
  ·rename_i hb
   simp only[bAe] at hb;split at h
   ·rename_i H1 hs
    have hk:k≤H.length:=by rw[← cL]; exact nlB hb.1
    have hH1:=jV _ _ _ _ _ hs;rw[cL] at hH1 h;subst hH1;refine AWP.sub (Sub.le (FT.fr_le ha)) ?_;have ha2:=T.fr_ag
    have hf2:ev T.fr f=.clo (.func g) fs cs:=by rw[ha2.evK]; exact hf
    refine AWP.rangeC hf2 hk hb.2 fun _=>?_
    unfold GG at h;split at h
    ·rename_i v H2 hr
     refine(hcall.run g _ _ v H2 hr).mono ?_;rintro res H3 ⟨rfl,rfl⟩;split at h
     ·rename_i L caps st pe hg
      rw[gE] at hg;refine⟨L,caps,st,pe,hg,?_⟩
      cases st with
      | busy=>cases h
      | _=>exact⟨(by intro e; cases e),JS ha2 hQ _ _ (fun H4 h4=>jV _ _ _ _ _ h4) pe h⟩
     ·cases h
    ·cases h
   ·cases h
  ·cases h
 ·cases h
theorem nK (hp:P.follows .mixedOrders=true) (hcall:dN P call) (hy:YOK P call):∀(c:cA) (T:FT) (H:Heap) (e:Exit) (T':FT) (H':Heap),kG call N k fuel c T H=.out e T' H'→∀ fr,AgT fr T →
  ∀(Q:Exit→Fr→Heap→Prop),(∀ fr',AgT fr' T'→Q e fr' H')→AWP P N k c Q fr H:=by
 intro c
 induction c with
 | skip=>
  intro T H e T' H' h fr ha Q hQ
  injection h with h1 h2 h3
  subst h1; subst h2; subst h3;exact AWP.skip (hQ fr ha)
 | region xs=>
  intro T H e T' H' h fr ha Q hQ;exact EG hcall hy h ha hQ
 | draw xs af=>
  intro T H e T' H' h fr ha Q hQ;exact C7 hp hcall hy h ha hQ
 | seq a b iha ihb=>
  intro T H e T' H' h fr ha Q hQ
  rcases CH (b:=kG call N k fuel b) (r:=kG call N k fuel a T H) h with⟨T1,H1,h1,h2⟩ | ⟨h1,h2⟩
  ·exact AWP.seq (iha T H _ T1 H1 h1 fr ha _ fun fr1 ha1=>ihb T1 H1 e T' H' h2 fr1 ha1 Q hQ)
  ·refine AWP.seq (iha T H _ T' H' h2 fr ha _ fun fr1 ha1=>?_)
   cases e with
   | normal=>exact absurd rfl h1
   | _=>exact hQ fr1 ha1
 | cond c a b iha ihb=>
  intro T H e T' H' h fr ha Q hQ;replace h:KF (kG call N k fuel a T H) (kG call N k fuel b T H) (T.evK c)=.out e T' H':=h;unfold KF at h;split at h
  ·rename_i e1
   rw[← ha.evK] at e1;exact AWP.condT e1 (iha T H e T' H' h fr ha Q hQ)
  ·rename_i e1
   rw[← ha.evK] at e1;exact AWP.condF e1 (ihb T H e T' H' h fr ha Q hQ)
  ·cases h
 | block id a iha=>
  intro T H e T' H' h fr ha Q hQ;replace h:LT id (kG call N k fuel a T H)=.out e T' H':=h
  cases hr:kG call N k fuel a T H with
  | stuck=>rw[hr] at h; cases h
  | out e1 T1 H1=>
   rw[hr] at h;refine AWP.block (iha T H e1 T1 H1 hr fr ha _ fun fr1 ha1=>?_)
   cases e1 with
   | exit id'=>
    replace h:Bool.rec (motive:=fun _=>XR) (.out (.exit id') T1 H1) (.out .normal T1 H1) (Nat.beq id' id)=.out e T' H':=h;show(match Nat.beq id' id with | true=>Q .normal | false=>Q (.exit id')) fr1 H1
    cases hb:Nat.beq id' id with
    | true=>
     rw[hb] at h
     injection h with h1 h2 h3
     subst h1; subst h2; subst h3;exact hQ fr1 ha1
    | false=>
     rw[hb] at h
     injection h with h1 h2 h3
     subst h1; subst h2; subst h3;exact hQ fr1 ha1
   | _=>
    injection h with h1 h2 h3
    subst h1; subst h2; subst h3;exact hQ fr1 ha1
 | loop a iha=>
  intro T H e T' H' h fr ha Q hQ;replace h:F0 (kG call N k fuel a) fuel T H=.out e T' H':=h;refine AWP.loop (σ:=Nat×FT×Heap×Fr) (fun s=>s.2.2.2) (fun s=>s.2.2.1) (fun s=>AgT s.2.2.2 s.2.1∧F0 (kG call N k fuel a) s.1 s.2.1 s.2.2.1=.out e T' H') (fun s=>s.1) (fuel,T,H,fr) ⟨ha,h⟩ (Sub.refl _ _ _ _) ?_;rintro⟨n,T1,H1,fr1⟩ ⟨ha1,h1⟩;simp only at ha1 h1 ⊢
  cases n with
  | zero=>cases h1
  | succ n=>
   replace h1:NY (F0 (kG call N k fuel a) n) (kG call N k fuel a T1 H1)=.out e T' H':=h1
   rcases CH h1 with⟨T2,H2,h2,h3⟩ | ⟨h2,h3⟩
   ·refine iha T1 H1 _ T2 H2 h2 fr1 ha1 _ fun fr2 ha2=>?_
    exact⟨(n,T2,H2,fr2),⟨ha2,h3⟩,Nat.lt_succ_self n,Sub.refl _ _ _ _⟩
   ·refine iha T1 H1 _ T' H' h3 fr1 ha1 _ fun fr2 ha2=>?_
    cases e with
    | normal=>exact absurd rfl h2
    | _=>exact hQ fr2 ha2
 | exit id=>
  intro T H e T' H' h fr ha Q hQ
  injection h with h1 h2 h3
  subst h1; subst h2; subst h3;exact AWP.exit (hQ fr ha)
 | ret=>
  intro T H e T' H' h fr ha Q hQ
  injection h with h1 h2 h3
  subst h1; subst h2; subst h3;exact AWP.ret (hQ fr ha)
 | rangeF f ps a b qs ra rb iha ihb=>
  intro T H e T' H' h fr ha Q hQ;exact zX hcall h ha hQ
 | bad=>
  intro T H e T' H' h
  cases h
end
noncomputable def wZ (a b:Bool):Bool:=Bool.rec (motive:=fun _=>Bool) false b a
theorem qR (a b:Bool):wZ a b=(a && b):=by cases a<;>rfl
noncomputable def NR (k:Nat) (a:AV):Bool:=
 match a with
 | .sc _=>true
 | a=>lB k a
noncomputable def G6 (k:Nat) (l:List AV):Bool:=List.rec (motive:=fun _=>Bool) true (fun a _ ih=>wZ (NR k a) ih) l
noncomputable def OD (k:Nat) (l:List (List AV)):Bool:=List.rec (motive:=fun _=>Bool) true (fun a _ ih=>wZ (G6 k a) ih) l
noncomputable def NL (k:Nat) (b:Blk):Bool:=
 match b with
 | .dead=>true
 | .cells _ rows=>OD k rows
 | b=>wU k b
noncomputable def GP (k:Nat) (l:List Blk):Bool:=List.rec (motive:=fun _=>Bool) true (fun a _ ih=>wZ (NL k a) ih) l
noncomputable def LS (k:Nat) (H:Heap):Nat→Bool:=List.rec (motive:=fun _=>Nat→Bool) (fun _=>true) (fun f _ ih n=>match n with
 | 0=>true
 | Nat.succ m=>wZ (GP k f) (ih m)) H
theorem K0 (k:Nat) (a:AV):NR k a=lB k a:=by cases a<;>rfl
theorem KW (k:Nat) (l:List AV):G6 k l=lN k l:=by
 induction l with
 | nil=>rfl
 | cons a l ih=>
  show wZ (NR k a) (G6 k l)=(lB k a && lN k l);rw[qR,ih,K0]
theorem KE (k:Nat) (l:List (List AV)):OD k l=AL k l:=by
 induction l with
 | nil=>rfl
 | cons a l ih=>
  show wZ (G6 k a) (OD k l)=(lN k a && AL k l);rw[qR,ih,KW]
theorem LA (k:Nat) (b:Blk):NL k b=wU k b:=by
 cases b with
 | cells sz rows=>exact KE k rows
 | _=>rfl
theorem MA (k:Nat) (l:List Blk):GP k l=EH k l:=by
 induction l with
 | nil=>rfl
 | cons a l ih=>
  show wZ (NL k a) (GP k l)=(wU k a && EH k l);rw[qR,ih,LA]
theorem MD (k:Nat) (H:Heap):∀ n,LS k H n=FO k n H:=by
 induction H with
 | nil=>intro n; cases n<;>rfl
 | cons f H ih=>
  intro n
  cases n with
  | zero=>rfl
  | succ n=>
   show wZ (GP k f) (LS k H n)=(EH k f && FO k n H);rw[qR,ih,MA]
noncomputable def QP (k:Nat) (res:AV) (H:Heap):AV×Heap:=
 Bool.rec (motive:=fun _=>AV×Heap) (Bool.rec (motive:=fun _=>AV×Heap) (res,H) (res,H.take k) (wZ (lB k res) (LS k H k))) (res,H) (Nat.ble (dW H) (Nat.add k 150))
theorem LN (k:Nat) (res:AV) (H:Heap):f8 k H res (QP k res H).2 (QP k res H).1:=by
 unfold QP;rw[qR,MD]
 cases Nat.ble (dW H) (Nat.add k 150) with
 | true=>exact .refl k H res
 | false=>
  cases e:lB k res && FO k k H with
  | false=>exact .refl k H res
  | true=>
   simp only[bAe] at e;exact .cut e.1 e.2
noncomputable def M7 (k:Nat) (H:Heap) (r:Option AV):Option (AV×Heap):=
 match r with
 | some v=>some (QP k v H)
 | none=>none
noncomputable def finM (k:Nat) (rs:List kX) (x:XR):Option (AV×Heap):=
 match x with
 | .out e T H=>match e with
  | .normal=>Bool.rec (motive:=fun _=>Option (AV×Heap)) none (M7 k H (wT (oC T H rs))) (o6 T rs)
  | .ret=>Bool.rec (motive:=fun _=>Option (AV×Heap)) none (M7 k H (wT (oC T H rs))) (o6 T rs)
  | _=>none
 | .stuck=>none
noncomputable def vQ (call:cM) (fuel:Nat) (args:List AV) (H:Heap) (F:IFun):Option (AV×Heap):=
 match F with
 | ⟨n,code,res⟩=>match Nat.ble (dW args) n with
  | true=>match L0 args 0 (FT.full 9) with
   | some T=>finM (dW H) res (kG call n (dW H) fuel code T H)
   | none=>none
  | false=>none
noncomputable def FU (call:cM) (r:Option (AV×Heap)) (H:Heap):Option (AV×Heap):=
 match r with
 | some (v,H0)=>match call.frz H0 v with
  | some b=>some (b,H)
  | none=>none
 | none=>none
def FD:AV→Bool
 | .sc _=>true
 | _=>false
def KG:AV→Bool
 | .sc _=>true
 | .tup vs=>vs.all FD
 | .agg vs=>vs.all FD
 | _=>false
theorem sX {a:AV} (h:FD a=true):Plain a:=by
 cases a<;>first | exact .sc _ | cases h
theorem BF {a:AV} (h:KG a=true):Plain a:=by
 cases a with
 | tup vs=>exact .tup _ fun c hc=>sX (List.all_eq_true.1 h c hc)
 | agg vs=>exact .agg _ fun c hc=>sX (List.all_eq_true.1 h c hc)
 | sc v=>exact .sc v
 | _=>cases h
noncomputable def R0 (call:cM) (fuel:Nat) (F:IFun) (args:List AV) (H:Heap):Option (AV×Heap):=
 match dfL (dfz H 12) args with
 | some args'=>match FU call (vQ call fuel args' [] F) H with
  | some (b,_)=>match KG b with
   | true=>some (b,H)
   | false=>none
  | none=>none
 | none=>none
noncomputable def orM (a b:Option (AV×Heap)):Option (AV×Heap):=
 match a with
 | some r=>some r
 | none=>b
noncomputable def KH (tab:FuncId→Option IFun) (pz:List Nat) (call:cM) (fuel:Nat) (f:FuncId) (args:List AV) (H:Heap) (s:Option (AV×Heap)):Option (AV×Heap):=
 match s with
 | some r=>some r
 | none=>match tab f with
  | some F=>match pz.any (Nat.beq f) with
   | true=>match lN 0 args with
    | true=>FU call (vQ call fuel args [] F) H
    | false=>orM (R0 call fuel F args H) (vQ call fuel args H F)
   | false=>vQ call fuel args H F
  | none=>none
noncomputable def zipK (ps:List Nat):List AV→Fr→Option Fr:=
 List.rec (motive:=fun _=>List AV→Fr→Option Fr) (fun as r=>match as with
  | []=>some r
  | _=>none) (fun p _ ih as r=>match as with
  | a::as=>ih as ((p,a)::r)
  | []=>none) ps
noncomputable def BX (g i:Nat) (r:XR):Option (Bool×Heap):=
 match r with
 | .out e _ H=>match mN H g i with
  | some (.lp L c .busy none)=>match e with
   | .normal=>match oK H g i (.lp L c .ready none) with
    | some H'=>some (true,H')
    | none=>none
   | .ret=>match oK H g i (.lp L c .done (some .ret)) with
    | some H'=>some (false,H')
    | none=>none
   | .exit id=>match oK H g i (.lp L c .done (some (.exit id))) with
    | some H'=>some (false,H')
    | none=>none
   | _=>none
  | _=>none
 | .stuck=>none
noncomputable def yC (call:cM) (fuel n k g i:Nat) (body:cA) (r:XR):Option (Bool×Heap):=
 match r with
 | .out .normal T H=>match mN H g i with
  | some (.lp L c .ready none)=>match oK H g i (.lp L c .busy none) with
   | some H1=>BX g i (kG call n k fuel body T H1)
   | none=>none
  | _=>none
 | _=>none
noncomputable def D1 (P:Program) (call:cM) (fuel:Nat) (g i:Nat) (args:List AV) (H:Heap):Option (Bool×Heap):=
 match mN H g i with
 | some (.lp ⟨n,ps,ra,rb⟩ caps .ready none)=>match cD P n ra,cD P n rb with
  | some asg,some body=>match List.all ps.toList (Nat.blt · n) with
   | true=>match zipK ps.toList args [] with
    | some l=>match K7 (l++caps) (FT.full 9) with
     | some T=>yC call fuel n (dW H) g i body (kG call n (dW H) fuel asg T H)
     | none=>none
    | none=>none
   | false=>none
  | _,_=>none
 | _=>none
noncomputable def JL (P:Program) (sum:Caller) (tab:FuncId→Option IFun) (pz:List Nat) (fuel:Nat) (d:Nat):cM:=
 Nat.rec (motive:=fun _=>cM) ⟨fun _ _ _=>none,fun _ _=>none,fun _ _ _ _=>none,fun _ _=>none⟩
  (fun _ ih=>⟨fun f args H=>KH tab pz ih fuel f (fnA args) H (sum f (fnA args) H),qW P,D1 P ih fuel,fun H=>dfz H 12⟩) d
section
variable {P:Program} {k fuel:Nat} {call:cM}
theorem mV (hp:P.follows .mixedOrders=true) (hcall:dN P call) (hy:YOK P call) {f:FuncId} {F:IFun} (hf:bG P f=some F) {args:List AV} {H:Heap} {v:AV} {H':Heap} (h:vQ call fuel args H F=some (v,H')):
  aH P f args H fun r H2=>r=v∧H2=H':=by
 obtain⟨n,code,res⟩:=F;simp only[vQ] at h;split at h
 ·rename_i hn
  split at h
  ·rename_i T hT
   rw[cL] at hn h
   have ha:AgT (gO 0 args) T:=by
    intro t;rw[EE args 0 _ T hT [] (fun t=>(FT.get_full 9 t).symm) (fun t _=>rfl) t]
    cases Fr.get (gO 0 args) t<;>rfl
   refine aH.of hf ?_ (nlB hn);unfold finM at h;split at h
   ·rename_i e T1 H1 hx
    have key:Bool.rec (motive:=fun _=>Option (AV×Heap)) none (M7 H.length H1 (wT (oC T1 H1 res))) (o6 T1 res)=some (v,H')→(e=.normal∨e=.ret) →
      AWP P n H.length code (fun e fr' Hx=>(e=.normal∨e=.ret)∧∃ r r' H2,mG fr' Hx res=some r∧f8 H.length Hx r H2 r'∧r'=v∧H2=H') (gO 0 args) H:=by
     intro h he
     cases hpt:o6 T1 res with
     | false=>rw[hpt] at h; cases h
     | true=>
      rw[hpt] at h;replace h:M7 H.length H1 (wT (oC T1 H1 res))=some (v,H'):=h;unfold M7 at h;split at h
      ·rename_i u hu
       injection h with h
       have hs:=LN H.length u H1;rw[h] at hs
       refine nK hp hcall hy code T H e T1 H1 hx _ ha _ fun fr' ha'=>⟨he,u,v,H',?_,hs,rfl,rfl⟩
       unfold wT at hu;unfold mG;split at hu
       ·rename_i x hx'
        rw[uV ha' res _ hpt hx'];exact hu
       ·rename_i xs hne hx'
        rw[uV ha' res _ hpt hx']
        injection hu with hu
        subst hu;split
        ·rename_i e1
         injection e1 with e1
         exact absurd e1 (hne _)
        ·rename_i e1
         injection e1 with e1
         rw[e1]
        ·rename_i e1
         cases e1
       ·cases hu
      ·cases h
    split at h
    ·exact key h (.inl rfl)
    ·exact key h (.inr rfl)
    ·cases h
   ·cases h
  ·cases h
 ·cases h
theorem HN:∀(ps:List Nat) (as:List AV) (r l:Fr),zipK ps as r=some l→as.length=ps.length∧l=(ps.zip as).reverse++r
 | [],as,r,l,h=>by
  cases as with
  | nil=>injection h with h; subst h; exact⟨rfl,rfl⟩
  | cons a as=>cases h
 | p::ps,as,r,l,h=>by
  cases as with
  | nil=>cases h
  | cons a as=>
   obtain⟨h1,h2⟩:=HN ps as ((p,a)::r) l h;refine⟨by simp[h1],?_⟩;rw[h2];simp
theorem AC (hp:P.follows .mixedOrders=true) (hcall:dN P call) (hy:YOK P call) {g i:Nat} {args:List AV} {H:Heap} {b:Bool} {H':Heap} (h:D1 P call fuel g i args H=some (b,H')):
  eP P g i args H fun b' H2=>b'=b∧H2=H':=by
 unfold D1 at h;split at h
 ·rename_i n ps ra rb caps hg
  rw[gE] at hg;split at h
  ·rename_i asg body e1 e2
   split at h
   ·rename_i hall
    split at h
    ·rename_i l hz
     split at h
     ·rename_i T hT
      obtain⟨z1,z2⟩:=HN _ _ _ _ hz
      have hpl:putL caps (ps.toList.zip args)=l++caps:=by rw[tO,z2,List.append_nil]
      have hT0:AgT (l++caps) T:=by
       have:=BZ (l++caps) (FT.full 9) T [] hT (fun t=>(FT.get_full 9 t).symm)
       rwa[List.append_nil] at this
      refine⟨⟨n,ps,ra,rb⟩,caps,n,ps.toList,asg,body,⟨rfl,rfl,hall,e1,e2⟩,hg,z1,?_⟩;rw[hpl];unfold yC at h;split at h
      ·rename_i T1 H1 hx
       rw[cL] at hx h;split at h
       ·rename_i L1 c1 hg1
        rw[gE] at hg1;split at h
        ·rename_i H2 hs
         have hs2:=jV _ _ _ _ _ hs
         refine nK hp hcall hy asg T H _ T1 H1 hx _ hT0 _ fun fr1 ha1=>⟨rfl,L1,c1,hg1,?_⟩
         rw[hs2];unfold BX at h;split at h
         ·rename_i e T3 H3 hx3
          refine nK hp hcall hy body T1 H2 e T3 H3 hx3 _ ha1 _ fun fr3 _=>?_
          split at h
          ·rename_i L2 c2 hg3
           rw[gE] at hg3;refine⟨L2,c2,hg3,?_⟩;split at h
           ·split at h
            ·rename_i H4 h4
             injection h with h
             injection h with h5 h6
             exact⟨h5,by rw[jV _ _ _ _ _ h4]; exact h6⟩
            ·cases h
           ·split at h
            ·rename_i H4 h4
             injection h with h
             injection h with h5 h6
             exact⟨h5,by rw[jV _ _ _ _ _ h4]; exact h6⟩
            ·cases h
           ·split at h
            ·rename_i H4 h4
             injection h with h
             injection h with h5 h6
             exact⟨h5,by rw[jV _ _ _ _ _ h4]; exact h6⟩
            ·cases h
           ·cases h
          ·cases h
         ·cases h
        ·cases h
       ·cases h
      ·cases h
     ·cases h
    ·cases h
   ·cases h
  ·cases h
 ·cases h
theorem DQ (hp:P.follows .mixedOrders=true) {sum:Caller} (hsum:KJ P sum) {tab:FuncId→Option IFun} {pz:List Nat} (htab:∀ f F,tab f=some F→bG P f=some F):∀(d:Nat),dN P (JL P sum tab pz fuel d)∧YOK P (JL P sum tab pz fuel d):=by
 intro d
 induction d with
 | zero=>exact⟨⟨fun f args H v H' h=>(by cases h),fun t n f h=>(by cases h),fun H a b h=>(by cases h)⟩,fun g i args H b H' h=>(by cases h)⟩
 | succ d ih=>
  refine⟨⟨fun f args H v H' h=>?_,fun t n f h=>h,fun H a b h=>TO 12 H a b h⟩,fun g i args H b H' h=>AC hp ih.1 ih.2 h⟩;replace h:KH tab pz (JL P sum tab pz fuel d) fuel f (fnA args) H (sum f (fnA args) H)=some (v,H'):=h;refine aH.fnA ?_;unfold KH at h;split at h
  ·rename_i r e
   rw[h] at e;exact hsum f (fnA args) H v H' e
  ·split at h
   ·rename_i F e
    split at h
    ·have pure:∀ {args':List AV} {b:AV} {H1 H2:Heap},lN 0 args'=true∨(∀ a∈args',bL a)→FU (JL P sum tab pz fuel d) (vQ (JL P sum tab pz fuel d) fuel args' [] F) H1=some (b,H2)→aB P f args' b∧H2=H1:=by
      intro args' b H1 H2 hpu h;unfold FU at h;split at h
      ·rename_i v0 H0 e0
       split at h
       ·rename_i b' eb
        injection h with h
        injection h with h1 h2
        subst h1; subst h2;obtain⟨q1,q2⟩:=ih.1.frz _ _ _ eb
        refine⟨aB.of (fun a ha=>?_) q2 ((mV hp ih.1 ih.2 (htab f F e) e0).sub (by
         rintro res H' ⟨rfl,rfl⟩
         exact⟨b',[],q1,rfl⟩)),rfl⟩
        rcases hpu with hpu | hpu
        ·exact eY _ hpu a ha
        ·exact hpu a ha
       ·cases h
      ·cases h
     split at h
     ·rename_i hb
      obtain⟨h1,rfl⟩:=pure (.inl hb) h;exact aH.ofPure h1 _ ⟨rfl,rfl⟩
     ·unfold orM at h
      split at h
      ·rename_i r ev
       rw[h] at ev;unfold R0 at ev;split at ev
       ·rename_i args' ea
        split at ev
        ·rename_i b H2 eb
         split at ev
         ·rename_i hpl
          injection ev with ev
          injection ev with e1 e2
          subst e1; subst e2;obtain⟨h1,h2⟩:=hG (n:=H.length) (fun a b hab=>vP 12 a b hab) _ _ ea;obtain⟨h3,_⟩:=pure (.inr h2) eb;have e:H++gh []=H:=List.append_nil H;exact aH.view h3 (BF hpl) (by rw[e]; exact h1) ⟨rfl,rfl⟩
         ·cases ev
        ·cases ev
       ·cases ev
      ·exact mV hp ih.1 ih.2 (htab f F e) h
    ·exact mV hp ih.1 ih.2 (htab f F e) h
   ·cases h
end
end Go.Av
