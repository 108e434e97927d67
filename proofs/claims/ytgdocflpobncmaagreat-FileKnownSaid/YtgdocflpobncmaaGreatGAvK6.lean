import Derived.Test.YtgdocflpobncmaaGreatGAvK3
import Derived.Test.YtgdocflpobncmaaGreatGAvJ
import Derived.Test.YtgdocflpobncmaaGreatGAvV
namespace Go.Av
def eqV (a b:Value):Bool:=
 match a with
 | .int k n=>match b with
  | .int k' n'=>decide (k=k') && decide (n=n')
  | _=>false
 | .bool x=>match b with
  | .bool y=>match x with
   | true=>y
   | false=>!y
  | _=>false
 | .slice none 0 0=>match b with
  | .slice none 0 0=>true
  | _=>false
 | .pointer none=>match b with
  | .pointer none=>true
  | _=>false
 | .map none=>match b with
  | .map none=>true
  | _=>false
 | _=>false
theorem nP {a b:Value} (h:eqV a b=true):a=b:=by
 unfold eqV at h
 split at h
 ·split at h
  ·simp only[Bool.and_eq_true,decide_eq_true_eq] at h
   rw[h.1,h.2]
  ·cases h
 ·split at h
  ·rename_i x _ y
   cases x<;>cases y<;>first | rfl | cases h
  ·cases h
 ·split at h
  ·rfl
  ·cases h
 ·split at h
  ·rfl
  ·cases h
 ·split at h
  ·rfl
  ·cases h
 ·cases h
def eqN (a b:Nat):Bool:=Nat.beq a b
theorem bN {a b:Nat} (h:eqN a b=true):a=b:=Nat.eq_of_beq_eq_true h
mutual
def eqA:AV→AV→Bool
 | .undef,b=>match b with
  | .undef=>true
  | _=>false
 | .sc u,b=>match b with
  | .sc v=>eqV u v
  | _=>false
 | .agg l,b=>match b with
  | .agg m=>eqL l m
  | _=>false
 | .tup _,_=>false
 | .list s r,b=>match b with
  | .list s' r'=>eqN s s' && eqR r r'
  | _=>false
 | .cptr l,b=>match b with
  | .cptr m=>eqL l m
  | _=>false
 | .tmap _,_=>false
 | .ptr g i r o,b=>match b with
  | .ptr g' i' r' o'=>(eqN g g' && eqN i i') && (eqN r r' && eqN o o')
  | _=>false
 | .hsl g i r o,b=>match b with
  | .hsl g' i' r' o'=>(eqN g g' && eqN i i') && (eqN r r' && eqN o o')
  | _=>false
 | .mref g i,b=>match b with
  | .mref g' i'=>eqN g g' && eqN i i'
  | _=>false
 | .clo _ _ _,_=>false
 | .yld _ _,_=>false
 | .asl _ _ _ _ _,_=>false
 | .ifc t a,b=>match b with
  | .ifc t' b'=>eqN t t' && eqA a b'
  | _=>false
 | .one,_=>false
def eqL:List AV→List AV→Bool
 | [],m=>match m with
  | []=>true
  | _=>false
 | a::l,m=>match m with
  | b::m=>eqA a b && eqL l m
  | []=>false
def eqR:List (List AV)→List (List AV)→Bool
 | [],m=>match m with
  | []=>true
  | _=>false
 | a::l,m=>match m with
  | b::m=>eqL a b && eqR l m
  | []=>false
end
mutual
theorem j6:∀(a b:AV),eqA a b=true→a=b
 | .undef,b,h=>by
  simp only[eqA] at h
  split at h
  ·rfl
  ·cases h
 | .sc u,b,h=>by
  simp only[eqA] at h
  split at h
  ·rw[nP h]
  ·cases h
 | .agg l,b,h=>by
  simp only[eqA] at h
  split at h
  ·rw[gZ l _ h]
  ·cases h
 | .tup _,_,h=>by simp only[eqA] at h; cases h
 | .list s r,b,h=>by
  simp only[eqA] at h
  split at h
  ·simp only[Bool.and_eq_true] at h
   rw[bN h.1,j5 r _ h.2]
  ·cases h
 | .cptr l,b,h=>by
  simp only[eqA] at h
  split at h
  ·rw[gZ l _ h]
  ·cases h
 | .tmap _,_,h=>by simp only[eqA] at h; cases h
 | .ptr g i r o,b,h=>by
  simp only[eqA] at h
  split at h
  ·simp only[Bool.and_eq_true] at h
   rw[bN h.1.1,bN h.1.2,bN h.2.1,bN h.2.2]
  ·cases h
 | .hsl g i r o,b,h=>by
  simp only[eqA] at h
  split at h
  ·simp only[Bool.and_eq_true] at h
   rw[bN h.1.1,bN h.1.2,bN h.2.1,bN h.2.2]
  ·cases h
 | .mref g i,b,h=>by
  simp only[eqA] at h
  split at h
  ·simp only[Bool.and_eq_true] at h
   rw[bN h.1,bN h.2]
  ·cases h
 | .clo _ _ _,_,h=>by simp only[eqA] at h; cases h
 | .yld _ _,_,h=>by simp only[eqA] at h; cases h
 | .asl _ _ _ _ _,_,h=>by simp only[eqA] at h; cases h
 | .ifc t a,b,h=>by
  simp only[eqA] at h
  split at h
  ·simp only[Bool.and_eq_true] at h
   rw[bN h.1,j6 a _ h.2]
  ·cases h
 | .one,_,h=>by simp only[eqA] at h; cases h
theorem gZ:∀(a b:List AV),eqL a b=true→a=b
 | [],b,h=>by
  simp only[eqL] at h
  split at h
  ·rfl
  ·cases h
 | a::l,m,h=>by
  simp only[eqL] at h
  split at h
  ·simp only[Bool.and_eq_true] at h
   rw[j6 a _ h.1,gZ l _ h.2]
  ·cases h
theorem j5:∀(a b:List (List AV)),eqR a b=true→a=b
 | [],b,h=>by
  simp only[eqR] at h
  split at h
  ·rfl
  ·cases h
 | a::l,m,h=>by
  simp only[eqR] at h
  split at h
  ·simp only[Bool.and_eq_true] at h
   rw[gZ a _ h.1,j5 l _ h.2]
  ·cases h
end
def eqM:List (Value×AV)→List (Value×AV)→Bool
 | [],m=>match m with
  | []=>true
  | _=>false
 | (k,a)::l,m=>match m with
  | (k',b)::m=>(eqV k k' && eqA a b) && eqM l m
  | []=>false
theorem oH:∀(a b:List (Value×AV)),eqM a b=true→a=b
 | [],b,h=>by
  simp only[eqM] at h
  split at h
  ·rfl
  ·cases h
 | (k,a)::l,m,h=>by
  simp only[eqM] at h
  split at h
  ·simp only[Bool.and_eq_true] at h
   rw[nP h.1.1,j6 a _ h.1.2,oH l _ h.2]
  ·cases h
def eqB:Option Blk→Option Blk→Bool
 | none,y=>match y with
  | none=>true
  | _=>false
 | some x,y=>match y with
  | none=>false
  | some y=>match x with
   | .dead=>match y with
    | .dead=>true
    | _=>false
   | .cells s r=>match y with
    | .cells s' r'=>eqN s s' && eqR r r'
    | _=>false
   | .map es=>match y with
    | .map es'=>eqM es es'
    | _=>false
   | _=>false
theorem vF {a b:Option Blk} (h:eqB a b=true):a=b:=by
 unfold eqB at h
 split at h
 ·split at h
  ·rfl
  ·cases h
 ·split at h
  ·cases h
  ·split at h
   ·split at h
    ·rfl
    ·cases h
   ·split at h
    ·simp only[Bool.and_eq_true] at h
     rw[bN h.1,j5 _ _ h.2]
    ·cases h
   ·split at h
    ·rw[oH _ _ h]
    ·cases h
   ·cases h
def pL:List (Nat×Nat)→Heap→Heap→Bool
 | [],_,_=>true
 | q::r,H,H'=>eqB (hget H' q.1 q.2) (hget H q.1 q.2) && pL r H H'
theorem i8 {H H':Heap}:∀(l:List (Nat×Nat)),pL l H H'=true→dI l H H'
 | [],_=>trivial
 | q::r,h=>by
  simp only[pL,Bool.and_eq_true] at h
  exact⟨vF h.1,i8 r h.2⟩
def BP (cl:List Nat) (zs:List IOper):List Nat→List Nat→Option (Nat×List Nat)
 | _,[]=>none
 | A,i::B=>match zs[i]? with
  | some x=>match sL x && (A.all (fun j=>!bef cl i j && kC zs x j) && B.all (fun j=>bef cl i j || kC zs x j)) with
   | true=>some (i,A++B)
   | false=>BP cl zs (A++[i]) B
  | none=>none
def yV (cl:List Nat) (zs:List IOper):Nat→List Nat→List (Bool×Nat)
 | 0,_=>[]
 | f+1,rem=>match rem with
  | []=>[]
  | a::r=>match BP cl zs [] (a::r) with
   | some (i,rem')=>(true,i)::yV cl zs f rem'
   | none=>(false,a)::yV cl zs f r
noncomputable def DJ (T:FT) (x:IOper):List (Nat×Nat):=
 match x.act with
 | .op o=>AY T.evK o
 | _=>[]
theorem zR {fr:Fr} {T:FT} (h:AgT fr T) (x:IOper):rdX fr x=DJ T x:=by
 obtain⟨d,g,a⟩:=x
 cases a with
 | op o=>
  show drd fr o=AY T.evK o
  rw[uA,h.evK]
 | _=>rfl
section
variable {P:Program} {N k:Nat} {call:aZ}
theorem A9 (hcall:bJ P call) {x:IOper} {pr:List (Nat×Nat)} {T:FT} {H:Heap} {T':FT} {H':Heap} (h:eO call k [x] T H=.out T' H') (hp:dI pr H H') {fr:Fr} (ha:AgT fr T):RT P k [(x,pr)] fr H fun fr' H2=>AgT fr' T'∧H2=H':=by
 obtain⟨d,gd,a⟩:=x
 replace h:wU call k d a (eO call k []) gd T H=.out T' H':=h
 have fin:∀ {T1:FT} {H1:Heap} {fr1:Fr},eO call k [] T1 H1=.out T' H'→AgT fr1 T1→RT P k [] fr1 H1 fun fr' H2=>AgT fr' T'∧H2=H':=fun h ha=>by
  injection h with h1 h2
  subst h1; subst h2
  exact .nil ⟨ha,rfl⟩
 have hH:∀ {T1:FT} {H1:Heap},eO call k [] T1 H1=.out T' H'→H1=H':=fun h=>by injection h
 have act:∀ {gd:Option (Nat×Bool)},gok fr gd=some true→fC call k d (eO call k []) a T H=.out T' H'→RT P k [(⟨d,gd,a⟩,pr)] fr H fun fr' H2=>AgT fr' T'∧H2=H':=by
  intro gd hg h
  cases a with
  | op o=>
   simp only[fC] at h
   unfold s6 at h
   split at h
   ·rename_i v H1 e
    rw[← ha.evK,bB] at e
    obtain⟨T1,h1,h2⟩:=bT h ha
    have:=hH h2
    subst this
    exact .op (x:=⟨d,gd,.op o⟩) hg rfl (fQ e) hp (fin h2 h1)
   ·cases h
  | call f args=>
   simp only[fC] at h
   cases hb:Nat.ble k (bS H) with
   | false=>rw[hb] at h; cases h
   | true=>
    rw[hb] at h
    have hk:k≤H.length:=by rw[← bB]; exact nlB hb
    replace h:cK d T (eO call k []) (call.run f (mapK T args) H)=.out T' H':=h
    unfold cK at h
    split at h
    ·rename_i v H1 e
     obtain⟨T1,h1,h2⟩:=bT h ha
     have:=hH h2
     subst this
     refine .call (x:=⟨d,gd,.call f args⟩) (R:=fun r H2=>r=v∧H2=H1) hk hg rfl ?_ (fun res H2 hr=>by rw[hr.2]; exact hp) ?_
     ·rw[ha.mapK]
      exact hcall.run f _ H v _ e
     ·rintro res H2 ⟨rfl,rfl⟩
      exact fin h2 h1
    ·cases h
  | callV f args=>
   simp only[fC] at h
   cases hb:Nat.ble k (bS H) with
   | false=>rw[hb] at h; cases h
   | true=>
    rw[hb] at h
    have hk:k≤H.length:=by rw[← bB]; exact nlB hb
    replace h:jE call d (mapK T args) T H (eO call k []) (gM T f)=.out T' H':=h
    have fin2:∀ {g:FuncId} {fs cs:List AV},cK d T (eO call k []) (call.run g (fs++mapK T args++cs) H)=.out T' H'→evC P fr f=.clo (.func g) fs cs→RT P k [(⟨d,gd,.callV f args⟩,pr)] fr H fun fr' H2=>AgT fr' T'∧H2=H':=by
     intro g fs cs h ef
     unfold cK at h
     split at h
     ·rename_i v H1 e
      obtain⟨T1,h1,h2⟩:=bT h ha
      have:=hH h2
      subst this
      refine .callV (x:=⟨d,gd,.callV f args⟩) (f:=f) (g:=g) (fs:=fs) (cs:=cs) (R:=fun r H2=>r=v∧H2=H1) hk hg rfl ef ?_ (fun res H2 hr=>by rw[hr.2]; exact hp) ?_
      ·rw[ha.mapK]
       exact hcall.run g _ H v _ e
      ·rintro res H2 ⟨rfl,rfl⟩
       exact fin h2 h1
     ·cases h
    unfold jE at h
    split at h
    ·rename_i g fs cs ef
     exact fin2 h (oU ha ef)
    ·rename_i name fs cs ef
     unfold oY at h
     split at h
     ·rename_i t a
      split at h
      ·rename_i g hm
       exact fin2 (fs:=[a]) (cs:=[]) h (nS ha ef (hcall.mth _ _ _ hm))
      ·cases h
     ·cases h
    ·cases h
 cases gd with
 | none=>exact act rfl h
 | some p=>
  obtain⟨t,b⟩:=p
  rcases uH ha h with⟨h1,h2⟩ | ⟨h1,h2⟩
  ·exact act h1 h2
  ·obtain⟨T1,h3,h4⟩:=bT h2 ha
   exact .skip (x:=⟨d,some (t,b),a⟩) h1 (fin h4 h3)
noncomputable def v8 (call:aZ) (k:Nat) (cl:List Nat) (zs:List IOper):List (Bool×Nat)→List (Nat×List (Nat×Nat))→FT→Heap→RR
 | [],_,T,H=>.out T H
 | (true,i)::pl,pend,T,H=>match zs[i]? with
  | some x=>match eO call k [x] T H with
   | .out T' H'=>v8 call k cl zs pl (DM i (DJ T x) pend) T' H'
   | .stuck=>.stuck
  | none=>.stuck
 | (false,i)::pl,pend,T,H=>match zs[i]? with
  | some x=>match eO call k [x] T H with
   | .out T' H'=>match pL (dA cl pend i) H H' with
    | true=>v8 call k cl zs pl pend T' H'
    | false=>.stuck
   | .stuck=>.stuck
  | none=>.stuck
theorem iJ (hcall:bJ P call) {cl:List Nat} {zs:List IOper} {T':FT} {H':Heap} {K:Fr→Heap→Prop} (hK:∀ fr',AgT fr' T'→K fr' H'):∀(pl:List (Bool×Nat)) (pend:List (Nat×List (Nat×Nat))) (T:FT) (H:Heap) (fr:Fr),v8 call k cl zs pl pend T H=.out T' H'→AgT fr T →
  LP P k cl zs pl pend fr H K
 | [],pend,T,H,fr,h,ha=>by
  injection h with h1 h2
  subst h1; subst h2
  exact hK fr ha
 | (true,i)::pl,pend,T,H,fr,h,ha=>by
  simp only[v8] at h
  split at h
  ·rename_i x hx
   split at h
   ·rename_i T1 H1 hr
    refine⟨x,DJ T x,hx,fun q hq=>by rw[← zR ha]; exact hq,(A9 (pr:=[]) hcall hr trivial ha).mono ?_⟩
    rintro fr1 H2 ⟨ha1,rfl⟩
    exact iJ hcall hK pl _ T1 _ fr1 h ha1
   ·cases h
  ·cases h
 | (false,i)::pl,pend,T,H,fr,h,ha=>by
  simp only[v8] at h
  split at h
  ·rename_i x hx
   split at h
   ·rename_i T1 H1 hr
    split at h
    ·rename_i hk
     refine⟨x,hx,(A9 hcall hr (i8 _ hk) ha).mono ?_⟩
     rintro fr1 H2 ⟨ha1,rfl⟩
     exact iJ hcall hK pl _ T1 _ fr1 h ha1
    ·cases h
   ·cases h
  ·cases h
noncomputable def DA (call:aZ) (k:Nat) (cl:List Nat) (zs:List IOper) (af:List (List Nat)) (pl:List (Bool×Nat)) (T:FT) (H:Heap):XR:=
 match m7 0 af && okP cl zs pl (List.range zs.length) with
 | true=>(v8 call k cl zs pl [] T H).x
 | false=>.stuck
theorem sC (hp:P.follows .mixedOrders=true) (hcall:bJ P call) {zs:List IOper} {af:List (List Nat)} {pl:List (Bool×Nat)} {T:FT} {H:Heap} {e:Exit} {T':FT} {H':Heap} (h:DA call k (clo af) zs af pl T H=.out e T' H') {fr:Fr} (ha:AgT fr T)
  {Q:Exit→Fr→Heap→Prop} (hQ:∀ fr',AgT fr' T'→Q e fr' H'):AWP P N k (.draw zs af) Q fr H:=by
 unfold DA at h
 split at h
 ·rename_i hb
  simp only[Bool.and_eq_true] at hb
  obtain⟨rfl,hr⟩:=RR.x_out h
  refine AWP.lin pl hp hb.1 hb.2 ?_
  exact iJ hcall hQ pl [] T H fr hr ha
 ·cases h
noncomputable def tK (call:aZ) (k:Nat) (zs:List IOper) (af:List (List Nat)) (T:FT) (H:Heap):XR:=
 match wN call k zs af T H with
 | .out e T' H'=>.out e T' H'
 | .stuck=>DA call k (clo af) zs af (yV (clo af) zs zs.length (List.range zs.length)) T H
theorem eP (hp:P.follows .mixedOrders=true) (hcall:bJ P call) {zs:List IOper} {af:List (List Nat)} {T:FT} {H:Heap} {e:Exit} {T':FT} {H':Heap} (h:tK call k zs af T H=.out e T' H') {fr:Fr} (ha:AgT fr T)
  {Q:Exit→Fr→Heap→Prop} (hQ:∀ fr',AgT fr' T'→Q e fr' H'):AWP P N k (.draw zs af) Q fr H:=by
 unfold tK at h
 split at h
 ·rename_i e1 T1 H1 hd
  injection h with h1 h2 h3
  subst h1; subst h2; subst h3
  exact rW hp hcall hd ha hQ
 ·exact sC hp hcall h ha hQ
end
section
variable {P:Program} {N k fuel:Nat} {call:aZ}
end
def fn1 (a:AV):AV:=
 match a with
 | .sc (.func (.func f) ⟨[]⟩ ⟨[]⟩)=>.clo (.func f) [] []
 | a=>a
noncomputable def fnA (l:List AV):List AV:=List.rec (motive:=fun _=>List AV) [] (fun a _ ih=>fn1 a::ih) l
theorem D9 (l:List AV):fnA l=l.map fn1:=by
 induction l with
 | nil=>rfl
 | cons a l ih=>
  show fn1 a::fnA l=_
  rw[ih]
  rfl
theorem DZ (a:AV):Le a (fn1 a):=by
 unfold fn1
 split
 ·exact Le.func _
 ·exact fun _ _ _ h=>h
theorem aF.fnA {P:Program} {f:FuncId} {args:List AV} {H:Heap} {R:AV→Heap→Prop} (h:aF P f (fnA args) H R):aF P f args H R:=by
 rw[D9] at h
 refine h.args (by simp) fun j a b ha hb=>?_
 rw[List.getElem?_map,ha] at hb
 injection hb with hb
 subst hb
 exact DZ a
end Go.Av
namespace Go.Av
noncomputable def dfL (f:AV→Option AV) (l:List AV):Option (List AV):=List.rec (motive:=fun _=>Option (List AV)) (some []) (fun a _ ih=>match f a with
 | some b=>match ih with
  | some r=>some (b::r)
  | none=>none
 | none=>none) l
noncomputable def dfR (f:AV→Option AV) (l:List (List AV)):Option (List (List AV)):=List.rec (motive:=fun _=>Option (List (List AV))) (some []) (fun a _ ih=>match dfL f a with
 | some b=>match ih with
  | some r=>some (b::r)
  | none=>none
 | none=>none) l
noncomputable def dfA (H:Heap) (f:AV→Option AV) (a:AV):Option AV:=
 match a with
 | .undef=>some .undef
 | .sc v=>some (.sc v)
 | .one=>some .one
 | .agg cs=>match dfL f cs with
  | some r=>some (.agg r)
  | none=>none
 | .tup cs=>match dfL f cs with
  | some r=>some (.tup r)
  | none=>none
 | .cptr cs=>match dfL f cs with
  | some r=>some (.cptr r)
  | none=>none
 | .list sz rows=>match dfR f rows with
  | some r=>some (.list sz r)
  | none=>none
 | .clo fn fs cs=>match dfL f fs with
  | some r=>match dfL f cs with
   | some q=>some (.clo fn r q)
   | none=>none
  | none=>none
 | .hsl g i s l=>match gG H g i with
  | some (.cells sz rows)=>match Nat.ble (s+l) rows.length with
   | true=>match dfR f ((rows.drop s).take l) with
    | some r=>some (.list sz r)
    | none=>none
   | false=>none
  | _=>none
 | .ptr g i row 0=>match gG H g i with
  | some (.cells _ rows)=>match gR rows row with
   | some r=>match dfL f r with
    | some q=>some (.cptr q)
    | none=>none
   | none=>none
  | _=>none
 | _=>none
noncomputable def dfz (H:Heap) (n:Nat):AV→Option AV:=
 Nat.rec (motive:=fun _=>AV→Option AV) (fun _=>none) (fun _ ih a=>dfA H ih a) n
section
variable {H:Heap} {n:Nat}
abbrev DF (H:Heap) (n:Nat) (a b:AV):Prop:=To (ToT H n (bP [])) (rho []) a b∧aQ b
theorem dK {f:AV→Option AV} (hf:∀ a b,f a=some b→DF H n a b):∀(l m:List AV),dfL f l=some m→ToL (ToT H n (bP [])) (rho []) l m∧∀ c∈m,aQ c
 | [],m,h=>by injection h with h; subst h; exact⟨ToL.nil,fun c hc=>by cases hc⟩
 | a::l,m,h=>by
  replace h:(match f a with | some b=>(match dfL f l with | some r=>some (b::r) | none=>none) | none=>none)=some m:=h
  split at h
  ·rename_i b e1
   split at h
   ·rename_i r e2
    injection h with h
    subst h
    obtain⟨h1,h2⟩:=hf a b e1
    obtain⟨h3,h4⟩:=dK hf l r e2
    exact⟨ToL.cons h1 h3,fun c hc=>by
     rcases List.mem_cons.1 hc with rfl | hc
     ·exact h2
     ·exact h4 c hc⟩
   ·cases h
  ·cases h
theorem lV {f:AV→Option AV} (hf:∀ a b,f a=some b→DF H n a b):∀(l m:List (List AV)),dfR f l=some m→ToR (ToT H n (bP [])) (rho []) l m∧∀ r∈m,∀ c∈r,aQ c
 | [],m,h=>by injection h with h; subst h; exact⟨ToR.nil,fun c hc=>by cases hc⟩
 | a::l,m,h=>by
  replace h:(match dfL f a with | some b=>(match dfR f l with | some r=>some (b::r) | none=>none) | none=>none)=some m:=h
  split at h
  ·rename_i b e1
   split at h
   ·rename_i r e2
    injection h with h
    subst h
    obtain⟨h1,h2⟩:=dK hf a b e1
    obtain⟨h3,h4⟩:=lV hf l r e2
    exact⟨ToR.cons h1 h3,fun c hc=>by
     rcases List.mem_cons.1 hc with rfl | hc
     ·exact h2
     ·exact h4 c hc⟩
   ·cases h
  ·cases h
theorem nA:∀(d:Nat) (a b:AV),dfz H d a=some b→DF H n a b
 | 0,a,b,h=>by cases h
 | d+1,a,b,h=>by
  have ih:=nA d
  replace h:dfA H (dfz H d) a=some b:=h
  unfold dfA at h
  split at h
  ·injection h with h; subst h; exact⟨.undef _,.undef⟩
  ·injection h with h; subst h; exact⟨.sc _,.sc _⟩
  ·injection h with h; subst h; exact⟨.one,.one⟩
  ·split at h
   ·rename_i r e
    injection h with h; subst h
    obtain⟨h1,h2⟩:=dK ih _ _ e
    exact⟨To.aggL h1,.agg _ h2⟩
   ·cases h
  ·split at h
   ·rename_i r e
    injection h with h; subst h
    obtain⟨h1,h2⟩:=dK ih _ _ e
    exact⟨To.tupL h1,.tup _ h2⟩
   ·cases h
  ·split at h
   ·rename_i r e
    injection h with h; subst h
    obtain⟨h1,h2⟩:=dK ih _ _ e
    exact⟨To.cptrL h1,.cptr _ h2⟩
   ·cases h
  ·split at h
   ·rename_i r e
    injection h with h; subst h
    obtain⟨h1,h2⟩:=lV ih _ _ e
    exact⟨To.listR h1,.list _ _ h2⟩
   ·cases h
  ·split at h
   ·rename_i r e
    split at h
    ·rename_i q e2
     injection h with h; subst h
     obtain⟨h1,h2⟩:=dK ih _ _ e
     obtain⟨h3,h4⟩:=dK ih _ _ e2
     exact⟨To.cloL h1 h3,.clo _ _ _ h2 h4⟩
    ·cases h
   ·cases h
  ·rename_i g i s l
   rw[cZ] at h
   split at h
   ·rename_i sz rows e
    split at h
    ·rename_i hb
     split at h
     ·rename_i r e2
      injection h with h; subst h
      obtain⟨h1,h2⟩:=lV ih _ _ e2
      exact⟨.base (.fz (.hsl g i s l sz rows rfl e (nlB hb))) (To.listR h1),.list _ _ h2⟩
     ·cases h
    ·cases h
   ·cases h
  ·rename_i g i row
   rw[cZ] at h
   split at h
   ·rename_i sz rows e
    rw[cW] at h
    split at h
    ·rename_i r e1
     split at h
     ·rename_i q e2
      injection h with h; subst h
      obtain⟨h1,h2⟩:=dK ih _ _ e2
      exact⟨To.fzp e rfl e1 (To.cptrL h1),.cptr _ h2⟩
     ·cases h
    ·cases h
   ·cases h
  ·cases h
theorem DT (d:Nat) (H:Heap) (a b:AV) (h:dfz H d a=some b):c8 0 H a [] b∧aQ b:=by
 obtain⟨h1,h2⟩:=nA (n:=H.length) d a b h
 refine⟨?_,h2⟩
 have e:H++gh []=H:=List.append_nil H
 refine c8.to (k:=0) [] [] (by rw[e]; exact h1) ?_ rfl rfl rfl
 exact aM.nil
end
noncomputable def FT.toFr (T:FT):(Nat→Nat)→Fr→Fr:=
 FT.rec (motive:=fun _=>(Nat→Nat)→Fr→Fr) (fun _ r=>r)
  (fun v _ _ ihl ihr pos r=>match v with
   | .undef=>ihl (fun n=>pos (Nat.succ (Nat.mul 2 n))) (ihr (fun n=>pos (Nat.succ (Nat.succ (Nat.mul 2 n)))) r)
   | v=>(pos 0,v)::ihl (fun n=>pos (Nat.succ (Nat.mul 2 n))) (ihr (fun n=>pos (Nat.succ (Nat.succ (Nat.mul 2 n)))) r)) T
theorem FT.toFr_mem:∀(T:FT) (pos:Nat→Nat) (r:Fr) (x:Nat×AV),x∈T.toFr pos r→x∈r∨∃ n,x.1=pos n∧T.get n=x.2:=by
 intro T
 induction T with
 | leaf=>intro pos r x h; exact .inl h
 | node v l rr ihl ihr=>
  intro pos r x h
  have key:x∈FT.toFr l (fun n=>pos (Nat.succ (Nat.mul 2 n))) (FT.toFr rr (fun n=>pos (Nat.succ (Nat.succ (Nat.mul 2 n)))) r)→x∈r∨∃ n,x.1=pos n∧(FT.node v l rr).get n=x.2:=by
   intro h
   rcases ihl _ _ _ h with h | ⟨n,h1,h2⟩
   ·rcases ihr _ _ _ h with h | ⟨n,h1,h2⟩
    ·exact .inl h
    ·refine .inr ⟨Nat.succ (Nat.succ (Nat.mul 2 n)),h1,?_⟩
     show(match Nat.beq (Nat.mod (Nat.succ (Nat.mul 2 n)) 2) 0 with | true=>l.get (Nat.div (Nat.succ (Nat.mul 2 n)) 2) | false=>rr.get (Nat.div (Nat.succ (Nat.mul 2 n)) 2))=x.2
     have e1:Nat.mod (Nat.succ (Nat.mul 2 n)) 2=1:=by show(2 * n+1) % 2=1; omega
     have e2:Nat.div (Nat.succ (Nat.mul 2 n)) 2=n:=by show(2 * n+1) / 2=n; omega
     rw[e1,e2]
     exact h2
   ·refine .inr ⟨Nat.succ (Nat.mul 2 n),h1,?_⟩
    show(match Nat.beq (Nat.mod (Nat.mul 2 n) 2) 0 with | true=>l.get (Nat.div (Nat.mul 2 n) 2) | false=>rr.get (Nat.div (Nat.mul 2 n) 2))=x.2
    have e1:Nat.mod (Nat.mul 2 n) 2=0:=by show(2 * n) % 2=0; omega
    have e2:Nat.div (Nat.mul 2 n) 2=n:=by show(2 * n) / 2=n; omega
    rw[e1,e2]
    exact h2
  have key2:x∈((pos 0,v)::FT.toFr l (fun n=>pos (Nat.succ (Nat.mul 2 n))) (FT.toFr rr (fun n=>pos (Nat.succ (Nat.succ (Nat.mul 2 n)))) r))→x∈r∨∃ n,x.1=pos n∧(FT.node v l rr).get n=x.2:=by
   intro h
   rcases List.mem_cons.1 h with rfl | h
   ·exact .inr ⟨0,rfl,rfl⟩
   ·exact key h
  cases v<;>first | exact key h | exact key2 h
theorem FT.toFr_sub:∀(T:FT) (pos:Nat→Nat) (r:Fr) (x:Nat×AV),x∈r→x∈T.toFr pos r:=by
 intro T
 induction T with
 | leaf=>intro pos r x h; exact h
 | node v l rr ihl ihr=>
  intro pos r x h
  have key:=ihl (fun n=>pos (Nat.succ (Nat.mul 2 n))) _ x (ihr (fun n=>pos (Nat.succ (Nat.succ (Nat.mul 2 n)))) r x h)
  cases v<;>first | exact key | exact List.mem_cons_of_mem _ key
theorem FT.mem_toFr:∀(T:FT) (pos:Nat→Nat) (r:Fr) (n:Nat),T.get n≠.undef→(pos n,T.get n)∈T.toFr pos r:=by
 intro T
 induction T with
 | leaf=>intro pos r n h; exact absurd (by cases n<;>rfl) h
 | node v l rr ihl ihr=>
  intro pos r n h
  have cons:∀ {x:Nat×AV},x∈FT.toFr l (fun n=>pos (Nat.succ (Nat.mul 2 n))) (FT.toFr rr (fun n=>pos (Nat.succ (Nat.succ (Nat.mul 2 n)))) r)→x∈FT.toFr (.node v l rr) pos r:=by
   intro x hx
   cases v<;>first | exact hx | exact List.mem_cons_of_mem _ hx
  cases n with
  | zero=>
   replace h:v≠.undef:=h
   show(pos 0,v)∈_
   cases v<;>first | exact absurd rfl h | exact List.mem_cons_self ..
  | succ m=>
   have hg:(FT.node v l rr).get (m+1)=match Nat.beq (Nat.mod m 2) 0 with | true=>l.get (Nat.div m 2) | false=>rr.get (Nat.div m 2):=rfl
   rw[hg] at h ⊢
   cases hb:Nat.beq (Nat.mod m 2) 0 with
   | true=>
    rw[hb] at h
    have e:=Nat.eq_of_beq_eq_true hb
    have:=ihl (fun n=>pos (Nat.succ (Nat.mul 2 n))) (FT.toFr rr (fun n=>pos (Nat.succ (Nat.succ (Nat.mul 2 n)))) r) (Nat.div m 2) h
    have e2:Nat.succ (Nat.mul 2 (Nat.div m 2))=m+1:=by
     show 2 * (m / 2)+1=m+1
     have:m % 2=0:=e
     omega
    simp only[e2] at this
    exact cons this
   | false=>
    rw[hb] at h
    have:=ihr (fun n=>pos (Nat.succ (Nat.succ (Nat.mul 2 n)))) r (Nat.div m 2) h
    have e2:Nat.succ (Nat.succ (Nat.mul 2 (Nat.div m 2)))=m+1:=by
     show 2 * (m / 2)+2=m+1
     have:¬ m % 2=0:=fun e=>by
      have:Nat.beq (Nat.mod m 2) 0=true:=by
       show Nat.beq (m % 2) 0=true
       rw[e]; rfl
      rw[this] at hb; cases hb
     omega
    simp only[e2] at this
    exact cons (FT.toFr_sub l _ _ _ this)
noncomputable def FT.fr (T:FT):Fr:=T.toFr (fun n=>n) []
theorem FT.fr_le {T:FT} {fr:Fr} (h:AgT fr T):∀ x∈T.fr,Le (fr.get x.1) x.2:=by
 intro x hx
 rcases FT.toFr_mem T _ _ x hx with h0 | ⟨n,h1,h2⟩
 ·simp at h0
 ·rw[h1,h n,h2]
  exact fun _ _ _ h=>h
theorem FT.fr_ag (T:FT):AgT T.fr T:=by
 have get_mem:∀(l:Fr) (t:Nat),Fr.get l t=.undef∨(t,Fr.get l t)∈l:=by
  intro l t
  induction l with
  | nil=>exact .inl rfl
  | cons p l ih=>
   obtain⟨d,v⟩:=p
   show(match Nat.beq d t with | true=>v | false=>Fr.get l t)=.undef∨(t,(match Nat.beq d t with | true=>v | false=>Fr.get l t))∈_
   cases hb:Nat.beq d t with
   | true=>
    have:=Nat.eq_of_beq_eq_true hb
    subst this
    exact .inr (List.mem_cons_self ..)
   | false=>
    rcases ih with h | h
    ·exact .inl h
    ·exact .inr (List.mem_cons_of_mem _ h)
 have mem_get:∀(l:Fr) (t:Nat) (v:AV),(t,v)∈l→(t,Fr.get l t)∈l:=by
  intro l t v h
  induction l with
  | nil=>cases h
  | cons p l ih=>
   obtain⟨d,u⟩:=p
   show(t,(match Nat.beq d t with | true=>u | false=>Fr.get l t))∈_
   cases hb:Nat.beq d t with
   | true=>
    have:=Nat.eq_of_beq_eq_true hb
    subst this
    exact List.mem_cons_self ..
   | false=>
    rcases List.mem_cons.1 h with h | h
    ·injection h with h1 h2
     subst h1
     simp at hb
    ·exact List.mem_cons_of_mem _ (ih h)
 have val:∀(t:Nat) (v:AV),(t,v)∈T.fr→T.get t=v:=by
  intro t v h
  rcases FT.toFr_mem T _ _ _ h with h0 | ⟨n,h1,h2⟩
  ·simp at h0
  ·simp only at h1 h2
   rw[h1,h2]
 intro t
 by_cases hu:T.get t=.undef
 ·rcases get_mem T.fr t with h | h
  ·rw[h,hu]
  ·exact(val _ _ h).symm
 ·have:=FT.mem_toFr T (fun n=>n) [] t hu
  exact(val _ _ (mem_get _ _ _ this)).symm
noncomputable def yX (l:Fr):FT→Option FT:=
 List.rec (motive:=fun _=>FT→Option FT) (fun T=>some T) (fun p _ ih T=>match ih T with
  | some T'=>T'.putK p.1 p.2
  | none=>none) l
theorem rC:∀(l:Fr) (T T':FT) (fr:Fr),yX l T=some T'→AgT fr T→AgT (l++fr) T'
 | [],T,T',fr,h,ha=>by injection h with h; subst h; exact ha
 | p::l,T,T',fr,h,ha=>by
  replace h:(match yX l T with | some T'=>T'.putK p.1 p.2 | none=>none)=some T':=h
  split at h
  ·rename_i T1 e
   exact(rC l T T1 fr e ha).putK h
  ·cases h
theorem kW:∀(l:List (Nat×AV)) (fr:Fr),putL fr l=l.reverse++fr
 | [],fr=>rfl
 | p::l,fr=>by
  show putL (p::fr) l=_
  rw[kW l,List.reverse_cons,List.append_assoc]
  rfl
noncomputable def wH (call:aZ) (k:Nat) (ys:List IOper) (d:Option Nat) (gd:Option (Nat×Bool)) (f:Cal) (args:List Operand) (other:XR):RR→XR
 | .out T H=>match gd with
  | none=>match gM T f with
   | .yld g i=>match call.yl g i (mapK T args) H with
    | some (b,H')=>Bool.rec (motive:=fun _=>XR) .stuck (fV d (.sc (.bool b)) T H' (eO call k ys)).x (Nat.ble k (bS H))
    | none=>.stuck
   | _=>other
  | some _=>other
 | .stuck=>other
noncomputable def DS (call:aZ) (k:Nat) (zs:List IOper) (T:FT) (H:Heap):XR:=
 match iK zs with
 | some (xs,⟨d,gd,.callV f args⟩,ys)=>wH call k ys d gd f args (eO call k zs T H).x (eO call k xs T H)
 | _=>(eO call k zs T H).x
noncomputable def uK (call:aZ) (af:List (List Nat)) (s:Nat) (ys:List IOper) (d:Option Nat) (T:FT) (r:Option (Bool×Heap)):XR:=
 match r with
 | some (b,H)=>match d with
  | none=>eK af s ys (eV call (bS H) ys 0 T (H++[List.replicate ys.length .dead]))
  | some t=>match T.putK t (.sc (.bool b)) with
   | some T'=>eK af s ys (eV call (bS H) ys 0 T' (H++[List.replicate ys.length .dead]))
   | none=>.stuck
 | none=>.stuck
noncomputable def tT (call:aZ) (k:Nat) (af:List (List Nat)) (xs ys:List IOper) (d:Option Nat) (gd:Option (Nat×Bool)) (f:Cal) (args:List Operand) (other:XR):DR→XR
 | .out R T H=>match gd with
  | none=>match gM T f with
   | .yld g i=>match (xK af (bS xs) (bS ys) && m8 af 0 xs R) && Nat.ble k (bS H) with
    | true=>uK call af (Nat.succ (bS xs)) ys d T (call.yl g i (mapK T args) H)
    | false=>.stuck
   | _=>other
  | some _=>other
 | .stuck=>other
noncomputable def wW (call:aZ) (k:Nat) (zs:List IOper) (af:List (List Nat)) (T:FT) (H:Heap):XR:=
 match iK zs with
 | some (xs,⟨d,gd,.callV f args⟩,ys)=>tT call k af xs ys d gd f args (tK call k zs af T H) (eV call (bS H) xs 0 T (H++[List.replicate xs.length .dead]))
 | _=>tK call k zs af T H
noncomputable def tV (T:FT) (h:Nat) (r:Option (AV×Heap)):XR:=
 match r with
 | some (_,H')=>match gG H' h 0 with
  | some (.lp _ _ st pe)=>match st with
   | .busy=>.stuck
   | _=>match hV H' h 0 .dead with
    | some H2=>match pe with
     | none=>.out .normal T H2
     | some .ret=>.out .ret T H2
     | some (.exit id)=>.out (.exit id) T H2
     | _=>.stuck
    | none=>.stuck
  | _=>.stuck
 | none=>.stuck
noncomputable def sD (call:aZ) (N k:Nat) (f:Operand) (ps:List Nat) (qs:Array Tmp) (ra rb:Code) (T:FT) (H:Heap):XR:=
 match T.evK f with
 | .clo (.func g) fs cs=>match Nat.ble k (bS H) && List.all ps (Nat.blt · N) with
  | true=>match hV H (bS H) 0 (.lp ⟨N,qs,ra,rb⟩ T.fr .ready none) with
   | some H1=>tV T (bS H) (call.run g (fs++[.yld (bS H) 0]++cs) H1)
   | none=>.stuck
  | false=>.stuck
 | _=>.stuck
noncomputable def bX (call:aZ) (N k fuel:Nat) (c:bD):FT→Heap→XR:=
 bD.rec (motive:=fun _=>FT→Heap→XR)
  (fun T H=>.out .normal T H)
  (fun xs T H=>DS call k xs T H)
  (fun xs af T H=>wW call k xs af T H)
  (fun _ _ a b T H=>nM b (a T H))
  (fun c _ _ a b T H=>wP (a T H) (b T H) (T.evK c))
  (fun id _ a T H=>xJ id (a T H))
  (fun _ a T H=>uT a fuel T H)
  (fun f ps _ _ qs ra rb _ _ T H=>sD call N k f ps qs ra rb T H)
  (fun id T H=>.out (.exit id) T H)
  (fun T H=>.out .ret T H)
  (fun _ _=>.stuck) c
def YOK (P:Program) (call:aZ):Prop:=∀ g i args H b H',call.yl g i args H=some (b,H')→dQ P g i args H fun b' H2=>b'=b∧H2=H'
section
variable {P:Program} {N k fuel:Nat} {call:aZ}
theorem sN (hcall:bJ P call) (hy:YOK P call) {zs:List IOper} {T:FT} {H:Heap} {e:Exit} {T':FT} {H':Heap} (h:DS call k zs T H=.out e T' H') {fr:Fr} (ha:AgT fr T) {Q:Exit→Fr→Heap→Prop} (hQ:∀ fr',AgT fr' T'→Q e fr' H'):
  AWP P N k (.region zs) Q fr H:=by
 have other:∀ {e:Exit} {T':FT} {H':Heap},(eO call k zs T H).x=.out e T' H'→(∀ fr',AgT fr' T'→Q e fr' H')→AWP P N k (.region zs) Q fr H:=by
  intro e T' H' h hQ
  obtain⟨rfl,hr⟩:=RR.x_out h
  exact AWP.region (fU hcall hQ zs T H fr hr ha)
 unfold DS at h
 split at h
 ·rename_i xs d gd f args ys hs
  unfold wH at h
  split at h
  ·rename_i T1 H1 hr
   split at h
   ·split at h
    ·rename_i g i hc
     split at h
     ·rename_i b H2 hyl
      cases hk:Nat.ble k (bS H1) with
      | false=>rw[hk] at h; cases h
      | true=>
       rw[hk] at h
       replace h:(fV d (.sc (.bool b)) T1 H2 (eO call k ys)).x=.out e T' H':=h
       obtain⟨rfl,h9⟩:=RR.x_out h
       clear h
       refine AWP.rG hs (fU hcall (fun fr1 ha1=>?_) xs T H fr hr ha)
       refine⟨rfl,by rw[← bB]; exact nlB hk,g,i,?_,?_⟩
       ·cases f with
        | tmp t=>
         simp only[gM,FT.getK_eq] at hc
         show lB P (fr1.get t)=_
         rw[ha1 t]
         split at hc
         ·cases hc
         ·rw[hc]
          rfl
        | meth r name tbl=>
         simp only[gM] at hc
         split at hc
         ·split at hc<;>cases hc
         ·cases hc
       ·rw[ha1.mapK]
        refine(hy g i _ H1 b H2 hyl).mono ?_
        rintro b' H3 ⟨rfl,rfl⟩
        obtain⟨T2,h1,h2⟩:=bT h9 ha1
        exact fU hcall hQ ys T2 _ _ h2 h1
     ·cases h
    ·exact other h hQ
   ·exact other h hQ
  ·exact other h hQ
 ·exact other h hQ
theorem x5 {f:Cal} {T:FT} {fr:Fr} (ha:AgT fr T) {g i:Nat} (hc:gM T f=.yld g i):evC P fr f=.yld g i:=by
 cases f with
 | tmp t=>
  simp only[gM,FT.getK_eq] at hc
  show lB P (fr.get t)=_
  rw[ha t]
  split at hc
  ·cases hc
  ·rw[hc]
   rfl
 | meth r name tbl=>
  simp only[gM] at hc
  split at hc
  ·split at hc<;>cases hc
  ·cases hc
theorem pB {af:List (List Nat)} {s:Nat} {ys:List IOper} {r:DR} {e:Exit} {T':FT} {H':Heap} (h:eK af s ys r=.out e T' H'):∃ R,r=.out R T' H'∧e=.normal∧m8 af s ys R=true:=by
 unfold eK at h
 split at h
 ·rename_i R T H
  cases hc:m8 af s ys R with
  | false=>rw[hc] at h; cases h
  | true=>
   rw[hc] at h
   injection h with h1 h2 h3
   subst h1; subst h2; subst h3
   exact⟨R,rfl,rfl,hc⟩
 ·cases h
theorem qJ (hp:P.follows .mixedOrders=true) (hcall:bJ P call) (hy:YOK P call) {zs:List IOper} {af:List (List Nat)} {T:FT} {H:Heap} {e:Exit} {T':FT} {H':Heap} (h:wW call k zs af T H=.out e T' H') {fr:Fr} (ha:AgT fr T)
  {Q:Exit→Fr→Heap→Prop} (hQ:∀ fr',AgT fr' T'→Q e fr' H'):AWP P N k (.draw zs af) Q fr H:=by
 unfold wW at h
 split at h
 ·rename_i xs d gd f args ys hs
  unfold tT at h
  split at h
  ·rename_i R T1 H1 hr
   split at h
   ·split at h
    ·rename_i g i hc
     split at h
     ·rename_i hb
      simp only[Bool.and_eq_true] at hb
      obtain⟨⟨c0,c1⟩,hk⟩:=hb
      rw[bB] at hr hk
      simp only[xK,bB,Bool.and_eq_true,List.all_eq_true,List.mem_range] at c0
      obtain⟨fr1,k1,k2,k3⟩:=d4 hcall xs 0 T _ fr R T1 H1 hr ha
      have c2:=eH c1 k1.recs.1 k3
      refine AWP.drawYld (g5 hs) hp c0.1 c0.2.1 c0.2.2 k1 c2 ⟨rfl,nlB hk,g,i,x5 k2 hc,?_⟩
      rw[k2.mapK]
      cases hyl:call.yl g i (mapK T1 args) H1 with
      | none=>rw[hyl] at h; cases h
      | some p=>
       obtain⟨b,H2⟩:=p
       rw[hyl] at h
       refine(hy g i _ H1 b H2 hyl).mono ?_
       rintro b' H3 ⟨rfl,rfl⟩
       have fin:∀ {T2:FT},AgT (fr1.put d (.sc (.bool b'))) T2→eK af (Nat.succ (bS xs)) ys (eV call (bS H3) ys 0 T2 (H3++[List.replicate ys.length .dead]))=.out e T' H' →
         ∃ R2 fr3 H4,cP P H3.length 0 ys (fr1.put d (.sc (.bool b'))) (H3++[List.replicate ys.length .dead]) R2 fr3 H4∧hU af (xs.length+1) R2∧Q .normal fr3 H4:=by
        intro T2 ha2 h
        obtain⟨R2,h1,rfl,h3⟩:=pB h
        rw[bB] at h1
        obtain⟨fr3,j1,j2,j3⟩:=d4 hcall ys 0 T2 _ _ R2 T' H' h1 ha2
        have c3:=eH h3 j1.recs.1 j3
        rw[bB] at c3
        exact⟨R2,fr3,_,j1,c3,hQ fr3 j2⟩
       simp only[uK] at h
       split at h
       ·exact fin k2 h
       ·split at h
        ·rename_i T2 e2
         exact fin (k2.putK e2) h
        ·cases h
     ·cases h
    ·exact eP hp hcall h ha hQ
   ·exact eP hp hcall h ha hQ
  ·exact eP hp hcall h ha hQ
 ·exact eP hp hcall h ha hQ
theorem vM {Q:Exit→Fr→Heap→Prop} {T T':FT} {fr:Fr} {e:Exit} {H':Heap} (ha:AgT fr T) (hQ:∀ fr',AgT fr' T'→Q e fr' H') (o:Option Heap) (Hd:Heap) (ho:∀ H4,o=some H4→Hd=H4) (pe:Option Code)
  (h:(match o with
   | some H2=>match pe with
    | none=>XR.out .normal T H2
    | some .ret=>.out .ret T H2
    | some (.exit id)=>.out (.exit id) T H2
    | _=>.stuck
   | none=>.stuck)=.out e T' H'):match (generalizing:=false) pe with
  | none=>Q .normal fr Hd
  | some .ret=>Q .ret fr Hd
  | some (.exit id)=>Q (.exit id) fr Hd
  | _=>False:=by
 cases o with
 | none=>cases h
 | some H4=>
  rw[ho H4 rfl]
  simp only at h
  split at h
  ·injection h with h1 h2 h3
   subst h1; subst h2; subst h3
   exact hQ _ ha
  ·injection h with h1 h2 h3
   subst h1; subst h2; subst h3
   exact hQ _ ha
  ·injection h with h1 h2 h3
   subst h1; subst h2; subst h3
   exact hQ _ ha
  ·cases h
theorem pC (hcall:bJ P call) {f:Operand} {ps:List Nat} {asg body:bD} {qs:Array Tmp} {ra rb:Code} {T:FT} {H:Heap} {e:Exit} {T':FT} {H':Heap} (h:sD call N k f ps qs ra rb T H=.out e T' H') {fr:Fr} (ha:AgT fr T)
  {Q:Exit→Fr→Heap→Prop} (hQ:∀ fr',AgT fr' T'→Q e fr' H'):AWP P N k (.rangeF f ps asg body qs ra rb) Q fr H:=by
 unfold sD at h
 split at h
 ·rename_i g fs cs hf
  split at h
  ·rename_i hb
   simp only[Bool.and_eq_true] at hb
   split at h
   ·rename_i H1 hs
    have hk:k≤H.length:=by rw[← bB]; exact nlB hb.1
    have hH1:=eG _ _ _ _ _ hs
    rw[bB] at hH1 h
    subst hH1
    refine AWP.sub (Sub.le (FT.fr_le ha)) ?_
    have ha2:=T.fr_ag
    have hf2:ev T.fr f=.clo (.func g) fs cs:=by rw[ha2.evK]; exact hf
    refine AWP.rangeC hf2 hk hb.2 fun _=>?_
    unfold tV at h
    split at h
    ·rename_i v H2 hr
     refine(hcall.run g _ _ v H2 hr).mono ?_
     rintro res H3 ⟨rfl,rfl⟩
     split at h
     ·rename_i L caps st pe hg
      rw[cZ] at hg
      refine⟨L,caps,st,pe,hg,?_⟩
      cases st with
      | busy=>cases h
      | _=>exact⟨(by intro e; cases e),vM ha2 hQ _ _ (fun H4 h4=>eG _ _ _ _ _ h4) pe h⟩
     ·cases h
    ·cases h
   ·cases h
  ·cases h
 ·cases h
theorem gS (hp:P.follows .mixedOrders=true) (hcall:bJ P call) (hy:YOK P call):∀(c:bD) (T:FT) (H:Heap) (e:Exit) (T':FT) (H':Heap),bX call N k fuel c T H=.out e T' H'→∀ fr,AgT fr T →
  ∀(Q:Exit→Fr→Heap→Prop),(∀ fr',AgT fr' T'→Q e fr' H')→AWP P N k c Q fr H:=by
 intro c
 induction c with
 | skip=>
  intro T H e T' H' h fr ha Q hQ
  injection h with h1 h2 h3
  subst h1; subst h2; subst h3
  exact AWP.skip (hQ fr ha)
 | region xs=>
  intro T H e T' H' h fr ha Q hQ
  exact sN hcall hy h ha hQ
 | draw xs af=>
  intro T H e T' H' h fr ha Q hQ
  exact qJ hp hcall hy h ha hQ
 | seq a b iha ihb=>
  intro T H e T' H' h fr ha Q hQ
  rcases qK (b:=bX call N k fuel b) (r:=bX call N k fuel a T H) h with⟨T1,H1,h1,h2⟩ | ⟨h1,h2⟩
  ·exact AWP.seq (iha T H _ T1 H1 h1 fr ha _ fun fr1 ha1=>ihb T1 H1 e T' H' h2 fr1 ha1 Q hQ)
  ·refine AWP.seq (iha T H _ T' H' h2 fr ha _ fun fr1 ha1=>?_)
   cases e with
   | normal=>exact absurd rfl h1
   | _=>exact hQ fr1 ha1
 | cond c a b iha ihb=>
  intro T H e T' H' h fr ha Q hQ
  replace h:wP (bX call N k fuel a T H) (bX call N k fuel b T H) (T.evK c)=.out e T' H':=h
  unfold wP at h
  split at h
  ·rename_i e1
   rw[← ha.evK] at e1
   exact AWP.condT e1 (iha T H e T' H' h fr ha Q hQ)
  ·rename_i e1
   rw[← ha.evK] at e1
   exact AWP.condF e1 (ihb T H e T' H' h fr ha Q hQ)
  ·cases h
 | block id a iha=>
  intro T H e T' H' h fr ha Q hQ
  replace h:xJ id (bX call N k fuel a T H)=.out e T' H':=h
  cases hr:bX call N k fuel a T H with
  | stuck=>rw[hr] at h; cases h
  | out e1 T1 H1=>
   rw[hr] at h
   refine AWP.block (iha T H e1 T1 H1 hr fr ha _ fun fr1 ha1=>?_)
   cases e1 with
   | exit id'=>
    replace h:Bool.rec (motive:=fun _=>XR) (.out (.exit id') T1 H1) (.out .normal T1 H1) (Nat.beq id' id)=.out e T' H':=h
    show(match Nat.beq id' id with | true=>Q .normal | false=>Q (.exit id')) fr1 H1
    cases hb:Nat.beq id' id with
    | true=>
     rw[hb] at h
     injection h with h1 h2 h3
     subst h1; subst h2; subst h3
     exact hQ fr1 ha1
    | false=>
     rw[hb] at h
     injection h with h1 h2 h3
     subst h1; subst h2; subst h3
     exact hQ fr1 ha1
   | _=>
    injection h with h1 h2 h3
    subst h1; subst h2; subst h3
    exact hQ fr1 ha1
 | loop a iha=>
  intro T H e T' H' h fr ha Q hQ
  replace h:uT (bX call N k fuel a) fuel T H=.out e T' H':=h
  refine AWP.loop (σ:=Nat×FT×Heap×Fr) (fun s=>s.2.2.2) (fun s=>s.2.2.1) (fun s=>AgT s.2.2.2 s.2.1∧uT (bX call N k fuel a) s.1 s.2.1 s.2.2.1=.out e T' H') (fun s=>s.1) (fuel,T,H,fr) ⟨ha,h⟩ (Sub.refl _ _ _ _) ?_
  rintro⟨n,T1,H1,fr1⟩ ⟨ha1,h1⟩
  simp only at ha1 h1 ⊢
  cases n with
  | zero=>cases h1
  | succ n=>
   replace h1:nM (uT (bX call N k fuel a) n) (bX call N k fuel a T1 H1)=.out e T' H':=h1
   rcases qK h1 with⟨T2,H2,h2,h3⟩ | ⟨h2,h3⟩
   ·refine iha T1 H1 _ T2 H2 h2 fr1 ha1 _ fun fr2 ha2=>?_
    exact⟨(n,T2,H2,fr2),⟨ha2,h3⟩,Nat.lt_succ_self n,Sub.refl _ _ _ _⟩
   ·refine iha T1 H1 _ T' H' h3 fr1 ha1 _ fun fr2 ha2=>?_
    cases e with
    | normal=>exact absurd rfl h2
    | _=>exact hQ fr2 ha2
 | exit id=>
  intro T H e T' H' h fr ha Q hQ
  injection h with h1 h2 h3
  subst h1; subst h2; subst h3
  exact AWP.exit (hQ fr ha)
 | ret=>
  intro T H e T' H' h fr ha Q hQ
  injection h with h1 h2 h3
  subst h1; subst h2; subst h3
  exact AWP.ret (hQ fr ha)
 | rangeF f ps a b qs ra rb iha ihb=>
  intro T H e T' H' h fr ha Q hQ
  exact pC hcall h ha hQ
 | bad=>
  intro T H e T' H' h
  cases h
end
noncomputable def nG (a b:Bool):Bool:=Bool.rec (motive:=fun _=>Bool) false b a
theorem jJ (a b:Bool):nG a b=(a && b):=by cases a<;>rfl
noncomputable def xC (k:Nat) (a:AV):Bool:=
 match a with
 | .sc _=>true
 | a=>fJ k a
noncomputable def uU (k:Nat) (l:List AV):Bool:=List.rec (motive:=fun _=>Bool) true (fun a _ ih=>nG (xC k a) ih) l
noncomputable def xT (k:Nat) (l:List (List AV)):Bool:=List.rec (motive:=fun _=>Bool) true (fun a _ ih=>nG (uU k a) ih) l
noncomputable def x8 (k:Nat) (b:Blk):Bool:=
 match b with
 | .dead=>true
 | .cells _ rows=>xT k rows
 | b=>lX k b
noncomputable def tI (k:Nat) (l:List Blk):Bool:=List.rec (motive:=fun _=>Bool) true (fun a _ ih=>nG (x8 k a) ih) l
noncomputable def xR (k:Nat) (H:Heap):Nat→Bool:=List.rec (motive:=fun _=>Nat→Bool) (fun _=>true) (fun f _ ih n=>match n with
 | 0=>true
 | Nat.succ m=>nG (tI k f) (ih m)) H
theorem yY (k:Nat) (a:AV):xC k a=fJ k a:=by cases a<;>rfl
theorem zE (k:Nat) (l:List AV):uU k l=fK k l:=by
 induction l with
 | nil=>rfl
 | cons a l ih=>
  show nG (xC k a) (uU k l)=(fJ k a && fK k l)
  rw[jJ,ih,yY]
theorem wL (k:Nat) (l:List (List AV)):xT k l=o5 k l:=by
 induction l with
 | nil=>rfl
 | cons a l ih=>
  show nG (uU k a) (xT k l)=(fK k a && o5 k l)
  rw[jJ,ih,zE]
theorem xX (k:Nat) (b:Blk):x8 k b=lX k b:=by
 cases b with
 | cells sz rows=>exact wL k rows
 | _=>rfl
theorem wK (k:Nat) (l:List Blk):tI k l=sQ k l:=by
 induction l with
 | nil=>rfl
 | cons a l ih=>
  show nG (x8 k a) (tI k l)=(lX k a && sQ k l)
  rw[jJ,ih,xX]
theorem wJ (k:Nat) (H:Heap):∀ n,xR k H n=sI k n H:=by
 induction H with
 | nil=>intro n; cases n<;>rfl
 | cons f H ih=>
  intro n
  cases n with
  | zero=>rfl
  | succ n=>
   show nG (tI k f) (xR k H n)=(sQ k f && sI k n H)
   rw[jJ,ih,wK]
noncomputable def zN (k:Nat) (res:AV) (H:Heap):AV×Heap:=
 Bool.rec (motive:=fun _=>AV×Heap) (Bool.rec (motive:=fun _=>AV×Heap) (res,H) (res,H.take k) (nG (fJ k res) (xR k H k))) (res,H) (Nat.ble (bS H) (Nat.add k 150))
theorem xM (k:Nat) (res:AV) (H:Heap):c8 k H res (zN k res H).2 (zN k res H).1:=by
 unfold zN
 rw[jJ,wJ]
 cases Nat.ble (bS H) (Nat.add k 150) with
 | true=>exact .refl k H res
 | false=>
  cases e:fJ k res && sI k k H with
  | false=>exact .refl k H res
  | true=>
   simp only[Bool.and_eq_true] at e
   exact .cut e.1 e.2
noncomputable def wI (k:Nat) (H:Heap) (r:Option AV):Option (AV×Heap):=
 match r with
 | some v=>some (zN k v H)
 | none=>none
noncomputable def z3 (k:Nat) (rs:List f4) (x:XR):Option (AV×Heap):=
 match x with
 | .out e T H=>match e with
  | .normal=>Bool.rec (motive:=fun _=>Option (AV×Heap)) none (wI k H (lS (g7 T H rs))) (iD T rs)
  | .ret=>Bool.rec (motive:=fun _=>Option (AV×Heap)) none (wI k H (lS (g7 T H rs))) (iD T rs)
  | _=>none
 | .stuck=>none
noncomputable def jO (call:aZ) (fuel:Nat) (args:List AV) (H:Heap) (F:IFun):Option (AV×Heap):=
 match F with
 | ⟨n,code,res⟩=>match Nat.ble (bS args) n with
  | true=>match xH args 0 (FT.full 9) with
   | some T=>z3 (bS H) res (bX call n (bS H) fuel code T H)
   | none=>none
  | false=>none
noncomputable def uN (call:aZ) (r:Option (AV×Heap)) (H:Heap):Option (AV×Heap):=
 match r with
 | some (v,H0)=>match call.frz H0 v with
  | some b=>some (b,H)
  | none=>none
 | none=>none
def r8:AV→Bool
 | .sc _=>true
 | _=>false
def xN:AV→Bool
 | .sc _=>true
 | .tup vs=>vs.all r8
 | .agg vs=>vs.all r8
 | _=>false
theorem kZ {a:AV} (h:r8 a=true):hN a:=by
 cases a<;>first | exact .sc _ | cases h
theorem qI {a:AV} (h:xN a=true):hN a:=by
 cases a with
 | tup vs=>exact .tup _ fun c hc=>kZ (List.all_eq_true.1 h c hc)
 | agg vs=>exact .agg _ fun c hc=>kZ (List.all_eq_true.1 h c hc)
 | sc v=>exact .sc v
 | _=>cases h
noncomputable def B3 (call:aZ) (fuel:Nat) (F:IFun) (args:List AV) (H:Heap):Option (AV×Heap):=
 match dfL (dfz H 12) args with
 | some args'=>match uN call (jO call fuel args' [] F) H with
  | some (b,_)=>match xN b with
   | true=>some (b,H)
   | false=>none
  | none=>none
 | none=>none
noncomputable def orM (a b:Option (AV×Heap)):Option (AV×Heap):=
 match a with
 | some r=>some r
 | none=>b
noncomputable def wQ (tab:FuncId→Option IFun) (pz:List Nat) (call:aZ) (fuel:Nat) (f:FuncId) (args:List AV) (H:Heap) (s:Option (AV×Heap)):Option (AV×Heap):=
 match s with
 | some r=>some r
 | none=>match tab f with
  | some F=>match pz.any (Nat.beq f) with
   | true=>match fK 0 args with
    | true=>uN call (jO call fuel args [] F) H
    | false=>orM (B3 call fuel F args H) (jO call fuel args H F)
   | false=>jO call fuel args H F
  | none=>none
noncomputable def zipK (ps:List Nat):List AV→Fr→Option Fr:=
 List.rec (motive:=fun _=>List AV→Fr→Option Fr) (fun as r=>match as with
  | []=>some r
  | _=>none) (fun p _ ih as r=>match as with
  | a::as=>ih as ((p,a)::r)
  | []=>none) ps
noncomputable def rQ (g i:Nat) (r:XR):Option (Bool×Heap):=
 match r with
 | .out e _ H=>match gG H g i with
  | some (.lp L c .busy none)=>match e with
   | .normal=>match hV H g i (.lp L c .ready none) with
    | some H'=>some (true,H')
    | none=>none
   | .ret=>match hV H g i (.lp L c .done (some .ret)) with
    | some H'=>some (false,H')
    | none=>none
   | .exit id=>match hV H g i (.lp L c .done (some (.exit id))) with
    | some H'=>some (false,H')
    | none=>none
   | _=>none
  | _=>none
 | .stuck=>none
noncomputable def nZ (call:aZ) (fuel n k g i:Nat) (body:bD) (r:XR):Option (Bool×Heap):=
 match r with
 | .out .normal T H=>match gG H g i with
  | some (.lp L c .ready none)=>match hV H g i (.lp L c .busy none) with
   | some H1=>rQ g i (bX call n k fuel body T H1)
   | none=>none
  | _=>none
 | _=>none
noncomputable def sU (P:Program) (call:aZ) (fuel:Nat) (g i:Nat) (args:List AV) (H:Heap):Option (Bool×Heap):=
 match gG H g i with
 | some (.lp ⟨n,ps,ra,rb⟩ caps .ready none)=>match aY P n ra,aY P n rb with
  | some asg,some body=>match List.all ps.toList (Nat.blt · n) with
   | true=>match zipK ps.toList args [] with
    | some l=>match yX (l++caps) (FT.full 9) with
     | some T=>nZ call fuel n (bS H) g i body (bX call n (bS H) fuel asg T H)
     | none=>none
    | none=>none
   | false=>none
  | _,_=>none
 | _=>none
noncomputable def s5 (P:Program) (sum:Caller) (tab:FuncId→Option IFun) (pz:List Nat) (fuel:Nat) (d:Nat):aZ:=
 Nat.rec (motive:=fun _=>aZ) ⟨fun _ _ _=>none,fun _ _=>none,fun _ _ _ _=>none,fun _ _=>none⟩
  (fun _ ih=>⟨fun f args H=>wQ tab pz ih fuel f (fnA args) H (sum f (fnA args) H),jS P,sU P ih fuel,fun H=>dfz H 12⟩) d
section
variable {P:Program} {k fuel:Nat} {call:aZ}
theorem eS (hp:P.follows .mixedOrders=true) (hcall:bJ P call) (hy:YOK P call) {f:FuncId} {F:IFun} (hf:aE P f=some F) {args:List AV} {H:Heap} {v:AV} {H':Heap} (h:jO call fuel args H F=some (v,H')):
  aF P f args H fun r H2=>r=v∧H2=H':=by
 obtain⟨n,code,res⟩:=F
 simp only[jO] at h
 split at h
 ·rename_i hn
  split at h
  ·rename_i T hT
   rw[bB] at hn h
   have ha:AgT (dB 0 args) T:=by
    intro t
    rw[rX args 0 _ T hT [] (fun t=>(FT.get_full 9 t).symm) (fun t _=>rfl) t]
    cases Fr.get (dB 0 args) t<;>rfl
   refine aF.of hf ?_ (nlB hn)
   unfold z3 at h
   split at h
   ·rename_i e T1 H1 hx
    have key:Bool.rec (motive:=fun _=>Option (AV×Heap)) none (wI H.length H1 (lS (g7 T1 H1 res))) (iD T1 res)=some (v,H')→(e=.normal∨e=.ret) →
      AWP P n H.length code (fun e fr' Hx=>(e=.normal∨e=.ret)∧∃ r r' H2,gU fr' Hx res=some r∧c8 H.length Hx r H2 r'∧r'=v∧H2=H') (dB 0 args) H:=by
     intro h he
     cases hpt:iD T1 res with
     | false=>rw[hpt] at h; cases h
     | true=>
      rw[hpt] at h
      replace h:wI H.length H1 (lS (g7 T1 H1 res))=some (v,H'):=h
      unfold wI at h
      split at h
      ·rename_i u hu
       injection h with h
       have hs:=xM H.length u H1
       rw[h] at hs
       refine gS hp hcall hy code T H e T1 H1 hx _ ha _ fun fr' ha'=>⟨he,u,v,H',?_,hs,rfl,rfl⟩
       unfold lS at hu
       unfold gU
       split at hu
       ·rename_i x hx'
        rw[lU ha' res _ hpt hx']
        exact hu
       ·rename_i xs hne hx'
        rw[lU ha' res _ hpt hx']
        injection hu with hu
        subst hu
        split
        ·rename_i e1
         injection e1 with e1
         exact absurd e1 (hne _)
        ·rename_i e1
         injection e1 with e1
         rw[e1]
        ·rename_i e1
         cases e1
       ·cases hu
      ·cases h
    split at h
    ·exact key h (.inl rfl)
    ·exact key h (.inr rfl)
    ·cases h
   ·cases h
  ·cases h
 ·cases h
theorem tY:∀(ps:List Nat) (as:List AV) (r l:Fr),zipK ps as r=some l→as.length=ps.length∧l=(ps.zip as).reverse++r
 | [],as,r,l,h=>by
  cases as with
  | nil=>injection h with h; subst h; exact⟨rfl,rfl⟩
  | cons a as=>cases h
 | p::ps,as,r,l,h=>by
  cases as with
  | nil=>cases h
  | cons a as=>
   obtain⟨h1,h2⟩:=tY ps as ((p,a)::r) l h
   refine⟨by simp[h1],?_⟩
   rw[h2]
   simp
theorem oX (hp:P.follows .mixedOrders=true) (hcall:bJ P call) (hy:YOK P call) {g i:Nat} {args:List AV} {H:Heap} {b:Bool} {H':Heap} (h:sU P call fuel g i args H=some (b,H')):
  dQ P g i args H fun b' H2=>b'=b∧H2=H':=by
 unfold sU at h
 split at h
 ·rename_i n ps ra rb caps hg
  rw[cZ] at hg
  split at h
  ·rename_i asg body e1 e2
   split at h
   ·rename_i hall
    split at h
    ·rename_i l hz
     split at h
     ·rename_i T hT
      obtain⟨z1,z2⟩:=tY _ _ _ _ hz
      have hpl:putL caps (ps.toList.zip args)=l++caps:=by rw[kW,z2,List.append_nil]
      have hT0:AgT (l++caps) T:=by
       have:=rC (l++caps) (FT.full 9) T [] hT (fun t=>(FT.get_full 9 t).symm)
       rwa[List.append_nil] at this
      refine⟨⟨n,ps,ra,rb⟩,caps,n,ps.toList,asg,body,⟨rfl,rfl,hall,e1,e2⟩,hg,z1,?_⟩
      rw[hpl]
      unfold nZ at h
      split at h
      ·rename_i T1 H1 hx
       rw[bB] at hx h
       split at h
       ·rename_i L1 c1 hg1
        rw[cZ] at hg1
        split at h
        ·rename_i H2 hs
         have hs2:=eG _ _ _ _ _ hs
         refine gS hp hcall hy asg T H _ T1 H1 hx _ hT0 _ fun fr1 ha1=>⟨rfl,L1,c1,hg1,?_⟩
         rw[hs2]
         unfold rQ at h
         split at h
         ·rename_i e T3 H3 hx3
          refine gS hp hcall hy body T1 H2 e T3 H3 hx3 _ ha1 _ fun fr3 _=>?_
          split at h
          ·rename_i L2 c2 hg3
           rw[cZ] at hg3
           refine⟨L2,c2,hg3,?_⟩
           split at h
           ·split at h
            ·rename_i H4 h4
             injection h with h
             injection h with h5 h6
             exact⟨h5,by rw[eG _ _ _ _ _ h4]; exact h6⟩
            ·cases h
           ·split at h
            ·rename_i H4 h4
             injection h with h
             injection h with h5 h6
             exact⟨h5,by rw[eG _ _ _ _ _ h4]; exact h6⟩
            ·cases h
           ·split at h
            ·rename_i H4 h4
             injection h with h
             injection h with h5 h6
             exact⟨h5,by rw[eG _ _ _ _ _ h4]; exact h6⟩
            ·cases h
           ·cases h
          ·cases h
         ·cases h
        ·cases h
       ·cases h
      ·cases h
     ·cases h
    ·cases h
   ·cases h
  ·cases h
 ·cases h
theorem iH (hp:P.follows .mixedOrders=true) {sum:Caller} (hsum:tO P sum) {tab:FuncId→Option IFun} {pz:List Nat} (htab:∀ f F,tab f=some F→aE P f=some F):∀(d:Nat),bJ P (s5 P sum tab pz fuel d)∧YOK P (s5 P sum tab pz fuel d):=by
 intro d
 induction d with
 | zero=>exact⟨⟨fun f args H v H' h=>(by cases h),fun t n f h=>(by cases h),fun H a b h=>(by cases h)⟩,fun g i args H b H' h=>(by cases h)⟩
 | succ d ih=>
  refine⟨⟨fun f args H v H' h=>?_,fun t n f h=>h,fun H a b h=>DT 12 H a b h⟩,fun g i args H b H' h=>oX hp ih.1 ih.2 h⟩
  replace h:wQ tab pz (s5 P sum tab pz fuel d) fuel f (fnA args) H (sum f (fnA args) H)=some (v,H'):=h
  refine aF.fnA ?_
  unfold wQ at h
  split at h
  ·rename_i r e
   rw[h] at e
   exact hsum f (fnA args) H v H' e
  ·split at h
   ·rename_i F e
    split at h
    ·have pure:∀ {args':List AV} {b:AV} {H1 H2:Heap},fK 0 args'=true∨(∀ a∈args',aQ a)→uN (s5 P sum tab pz fuel d) (jO (s5 P sum tab pz fuel d) fuel args' [] F) H1=some (b,H2)→aB P f args' b∧H2=H1:=by
      intro args' b H1 H2 hpu h
      unfold uN at h
      split at h
      ·rename_i v0 H0 e0
       split at h
       ·rename_i b' eb
        injection h with h
        injection h with h1 h2
        subst h1; subst h2
        obtain⟨q1,q2⟩:=ih.1.frz _ _ _ eb
        refine⟨aB.of (fun a ha=>?_) q2 ((eS hp ih.1 ih.2 (htab f F e) e0).sub (by
         rintro res H' ⟨rfl,rfl⟩
         exact⟨b',[],q1,rfl⟩)),rfl⟩
        rcases hpu with hpu | hpu
        ·exact cG _ hpu a ha
        ·exact hpu a ha
       ·cases h
      ·cases h
     split at h
     ·rename_i hb
      obtain⟨h1,rfl⟩:=pure (.inl hb) h
      exact aF.ofPure h1 _ ⟨rfl,rfl⟩
     ·unfold orM at h
      split at h
      ·rename_i r ev
       rw[h] at ev
       unfold B3 at ev
       split at ev
       ·rename_i args' ea
        split at ev
        ·rename_i b H2 eb
         split at ev
         ·rename_i hpl
          injection ev with ev
          injection ev with e1 e2
          subst e1; subst e2
          obtain⟨h1,h2⟩:=dK (n:=H.length) (fun a b hab=>nA 12 a b hab) _ _ ea
          obtain⟨h3,_⟩:=pure (.inr h2) eb
          have e:H++gh []=H:=List.append_nil H
          exact aF.view h3 (qI hpl) (by rw[e]; exact h1) ⟨rfl,rfl⟩
         ·cases ev
        ·cases ev
       ·cases ev
      ·exact eS hp ih.1 ih.2 (htab f F e) h
    ·exact eS hp ih.1 ih.2 (htab f F e) h
   ·cases h
end
end Go.Av
namespace Go.Av
set_option maxRecDepth 20000
noncomputable def shS (n:Nat) (f:AV→AV) (a:AV):AV:=
 match a with
 | .sc v=>.sc v
 | .agg xs=>.agg (xs.map f)
 | .tup xs=>.tup (xs.map f)
 | .ptr g i r o=>.ptr (Nat.add g n) i r o
 | .hsl g i s l=>.hsl (Nat.add g n) i s l
 | .mref g i=>.mref (Nat.add g n) i
 | .asl g i r o l=>.asl (Nat.add g n) i r o l
 | .list sz rows=>.list sz (rows.map (List.map f))
 | .ifc t a=>.ifc t (f a)
 | _=>.undef
noncomputable def shA (n:Nat) (d:Nat):AV→AV:=Nat.rec (motive:=fun _=>AV→AV) (fun _=>.undef) (fun _ ih=>shS n ih) d
theorem lI (n g i:Nat):beh n (Nat.add g n) i=some (g,i):=by
 show beh n (g+n) i=_
 rw[jZ (Nat.le_add_left n g),Nat.add_sub_cancel]
theorem AW (n:Nat) (f:AV→AV) (hf:∀ a,Ren (beh n) a (f a)) (a:AV):Ren (beh n) a (shS n f a):=by
 have hm:∀(xs:List AV) (j:Nat) x y,xs[j]?=some x→(xs.map f)[j]?=some y→Ren (beh n) x y:=by
  intro xs j x y a b
  rw[List.getElem?_map,a] at b
  injection b with b
  subst b
  exact hf x
 cases a with
 | sc v=>exact .sc v
 | agg xs=>exact .agg _ _ (by simp) (hm xs)
 | tup xs=>exact .tup _ _ (by simp) (hm xs)
 | ptr g i r o=>exact .ptr _ _ _ _ _ _ (lI ..)
 | hsl g i s l=>exact .hsl _ _ _ _ _ _ (lI ..)
 | mref g i=>exact .mref _ _ _ _ (lI ..)
 | asl g i r o l=>exact .asl _ _ _ _ _ _ _ (lI ..)
 | list sz rows=>
  refine .list sz _ _ (by simp) (fun i r r' a b=>?_) fun i r r' j x y a b c d=>?_
  ·rw[List.getElem?_map,a] at b
   injection b with b
   subst b
   simp
  ·rw[List.getElem?_map,a] at b
   injection b with b
   subst b
   exact hm r j x y c d
 | ifc t a=>exact .ifc t _ _ (hf a)
 | _=>exact .undef _
theorem lF (n:Nat):∀(d:Nat) (a:AV),Ren (beh n) a (shA n d a)
 | 0,a=>.undef a
 | d+1,a=>AW n _ (lF n d) a
noncomputable def shB (n:Nat) (d:Nat) (b:Blk):Blk:=
 match b with
 | .cells sz rows=>.cells sz (rows.map (List.map (shA n d)))
 | .map es=>.map (es.map fun x=>(x.1,shA n d x.2))
 | _=>.dead
theorem zS (n d:Nat) (b:Blk):cS (beh n) b (shB n d b):=by
 cases b with
 | cells sz rows=>
  refine .cells sz _ _ (by simp) (fun i r r' a b=>?_) fun i r r' j x y a b c e=>?_
  ·rw[List.getElem?_map,a] at b
   injection b with b
   subst b
   simp
  ·rw[List.getElem?_map,a] at b
   injection b with b
   subst b
   rw[List.getElem?_map,c] at e
   injection e with e
   subst e
   exact lF n d x
 | map es=>
  refine .map _ _ (by simp) (fun j x y a b=>?_) fun j x y a b=>?_ <;>
  ·rw[List.getElem?_map,a] at b
   injection b with b
   subst b
   first | rfl | exact lF n d _
 | _=>exact .dead _
noncomputable def shH (n d:Nat) (H:Heap):Heap:=H.map (List.map (shB n d))
theorem pY (n d:Nat) (H:Heap) (g i:Nat):hget (shH n d H) g i=(hget H g i).map (shB n d):=by
 unfold hget shH
 rw[List.getElem?_map]
 cases H[g]?<;>simp
theorem aF.behind {P:Program} {f:FuncId} {args:List AV} {v:AV} {H0:Heap} (h:aF P f args [] fun res H'=>res=v∧H'=H0) (ha:∀ a∈args,aQ a) (d:Nat) (H:Heap):
  aF P f args H fun res H'=>res=shA H.length d v∧H'=H++shH H.length d H0:=by
 refine h.frame ha H fun res H1 hr=>⟨shA H.length d v,shH H.length d H0,?_,?_,?_,rfl,rfl⟩
 ·rw[hr.1]; exact lF ..
 ·rw[hr.2]
  intro g i x' hx hl
  rw[pY] at hx
  cases e:hget H0 g i with
  | none=>rw[e] at hx; cases hx
  | some x=>
   rw[e] at hx
   injection hx with hx
   subst hx
   exact⟨x,rfl,zS ..⟩
 ·rw[hr.2]
  intro g i hg
  rw[pY]
  cases e:hget H0 g i with
  | none=>rw[e] at hg; cases hg
  | some x=>rfl
noncomputable def vB (call:aZ) (N k fuel:Nat) (n:Nat):bD→FT→Heap→XR:=
 Nat.rec (motive:=fun _=>bD→FT→Heap→XR) (fun _ T H=>.out .normal T H) (fun _ ih c T H=>match c with
  | .seq a b=>nM (ih b) (bX call N k fuel a T H)
  | _=>.out .normal T H) n
noncomputable def oQ (n:Nat):bD→bD:=
 Nat.rec (motive:=fun _=>bD→bD) (fun c=>c) (fun _ ih c=>match c with
  | .seq _ b=>ih b
  | c=>c) n
theorem w7 (call:aZ) (N k fuel:Nat):∀(n:Nat) (c:bD) (T:FT) (H:Heap),bX call N k fuel c T H=nM (bX call N k fuel (oQ n c)) (vB call N k fuel n c T H)
 | 0,c,T,H=>rfl
 | n+1,c,T,H=>by
  cases c with
  | seq a b=>
   show nM (bX call N k fuel b) (bX call N k fuel a T H)=nM (bX call N k fuel (oQ n b)) (nM (vB call N k fuel n b) (bX call N k fuel a T H))
   cases bX call N k fuel a T H with
   | stuck=>rfl
   | out e T1 H1=>
    cases e with
    | normal=>exact w7 call N k fuel n b T1 H1
    | _=>rfl
  | _=>rfl
theorem qZ {call:aZ} {N k fuel n:Nat} {c:bD} {T T1:FT} {H H1:Heap} (h:vB call N k fuel n c T H=.out .normal T1 H1):bX call N k fuel c T H=bX call N k fuel (oQ n c) T1 H1:=by
 rw[w7 call N k fuel n,h]
 rfl
end Go.Av
