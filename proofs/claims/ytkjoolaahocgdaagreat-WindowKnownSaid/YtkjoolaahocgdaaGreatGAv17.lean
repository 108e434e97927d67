import Derived.Test.YtkjoolaahocgdaaGreatGAv14
namespace Go.Av
def cQ:AV→List (Nat×Nat)
 | .ptr g i _ _=>[(g,i)]
 | .hsl g i _ _=>[(g,i)]
 | .mref g i=>[(g,i)]
 | _=>[]
def IOp.opds:IOp→List Operand
 | .move x=>[x]
 | .pick c a b=>[c,a,b]
 | .alloc _=>[]
 | .box x=>[x]
 | .build _ parts=>parts.map (·.2.2)
 | .buildSlice _ _ _ parts=>parts.map (·.2)
 | .load _ _ a=>[a]
 | .store _ a x=>[a,x]
 | .nilCheck x=>[x]
 | .bin _ _ x y=>[x,y]
 | .eqBool _ x y=>[x,y]
 | .eqNil _ x=>[x]
 | .eqNilM _ x=>[x]
 | .eqNilS _ x=>[x]
 | .eqArr _ _ x y=>[x,y]
 | .un _ x=>[x]
 | .conv _ x=>[x]
 | .makeFunc _ a b=>a++b
 | .makeMap=>[]
 | .makeSlice _ _ _ l=>[l]
 | .slice _ x lo hi mx=>x::(lo.toList++(hi.toList++mx.toList))
 | .fieldAddr _ x=>[x]
 | .field _ _ _ x=>[x]
 | .idxSl _ x i=>[x,i]
 | .idxArr _ _ x i=>[x,i]
 | .idxVal _ _ _ x i=>[x,i]
 | .lookup _ _ x i _=>[x,i]
 | .mapUpdate _ m i x=>[m,i,x]
 | .extract x _=>[x]
 | .len x=>[x]
 | .lenM x=>[x]
 | .append _ _ s x=>[s,x]
 | .max args=>args
 | .min args=>args
 | .xop _ xs=>xs
 | .insF _ m i x=>[m,i,x]
 | .mop _ xs=>xs
def drd (fr:Fr):IOp→List (Nat×Nat)
 | .load _ _ a=>cQ (ev fr a)
 | .store _ a _=>cQ (ev fr a)
 | .idxSl _ x _=>cQ (ev fr x)
 | .slice _ x _ _ _=>cQ (ev fr x)
 | .lenM x=>cQ (ev fr x)
 | .eqNilS _ x=>cQ (ev fr x)
 | .lookup _ _ x _ _=>cQ (ev fr x)
 | .mapUpdate _ m _ _=>cQ (ev fr m)
 | .append _ _ s x=>cQ (ev fr s)++cQ (ev fr x)
 | .xop _ xs=>(aX fr xs).flatMap cQ
 | .insF _ m _ _=>cQ (ev fr m)
 | .mop _ xs=>(aX fr xs).flatMap cQ
 | _=>[]
def mwr (g i:Nat) (e:MOp) (as:List AV):List (Nat×Nat):=
 match e with
 | .range=>[(g,i)]
 | .slice0 _=>[(g,i)]
 | .sliceA _=>[]
 | .del _=>match as with
  | a::_=>cQ a
  | []=>[]
 | .copy _=>match as with
  | a::_=>cQ a
  | []=>[]
 | .next=>[]
 | .entry=>[]
 | .stop=>[]
 | .appN _ _=>[(g,i)]
 | .clear _=>match as with
  | [.hsl _ _ _ 0]=>[]
  | a::_=>cQ a
  | []=>[]
 | .cap=>[]
def dwr (g i:Nat) (fr:Fr):IOp→List (Nat×Nat)
 | .alloc _=>[(g,i)]
 | .box _=>[(g,i)]
 | .buildSlice _ _ _ _=>[(g,i)]
 | .makeMap=>[(g,i)]
 | .makeSlice _ _ _ _=>[(g,i)]
 | .store _ a _=>cQ (ev fr a)
 | .mapUpdate _ m _ _=>cQ (ev fr m)
 | .insF _ m _ _=>cQ (ev fr m)
 | .append _ _ s _=>(g,i)::cQ (ev fr s)
 | .mop e xs=>mwr g i e (aX fr xs)
 | _=>[]
theorem jK {g i:Nat} {o:IOp} {fr fr2:Fr} {H:Heap} (h:∀ x∈o.opds,ev fr2 x=ev fr x):aH g i o fr2 H=aH g i o fr H:=by
 have hav:∀ l:List Operand,(∀ x∈l,ev fr2 x=ev fr x)→aX fr2 l=aX fr l:=fun l hl=>List.map_congr_left hl
 cases o with
 | build z parts=>
  have:parts.map (fun p=>(p.1,p.2.1,ev fr2 p.2.2))=parts.map (fun p=>(p.1,p.2.1,ev fr p.2.2)):=
   List.map_congr_left fun p hp=>by rw[h p.2.2 (List.mem_map.2 ⟨p,hp,rfl⟩)]
  simp only[aH,this]
 | buildSlice sz z n parts=>
  have:parts.map (fun p=>(p.1,ev fr2 p.2))=parts.map (fun p=>(p.1,ev fr p.2)):=
   List.map_congr_left fun p hp=>by rw[h p.2 (List.mem_map.2 ⟨p,hp,rfl⟩)]
  simp only[aH,this]
 | makeFunc fn a b=>simp only[aH,hav a fun x hx=>h x (List.mem_append_left _ hx),hav b fun x hx=>h x (List.mem_append_right _ hx)]
 | max args=>simp only[aH,hav args h]
 | min args=>simp only[aH,hav args h]
 | alloc z=>rfl
 | makeMap=>rfl
 | slice sz x lo hi mx=>
  have hb:∀(d:Nat) (y:Option Operand),(∀ z∈y.toList,ev fr2 z=ev fr z)→fI fr2 d y=fI fr d y:=by
   intro d y hy
   cases y with
   | none=>rfl
   | some z=>simp only[fI,hy z (by simp)]
  have h1:=fun d=>hb d lo fun z hz=>h z (by simp only[IOp.opds]; exact List.mem_cons_of_mem _ (List.mem_append_left _ hz))
  have h2:=fun d=>hb d hi fun z hz=>h z (by simp only[IOp.opds]; exact List.mem_cons_of_mem _ (List.mem_append_right _ (List.mem_append_left _ hz)))
  have h3:=fun d=>hb d mx fun z hz=>h z (by simp only[IOp.opds]; exact List.mem_cons_of_mem _ (List.mem_append_right _ (List.mem_append_right _ hz)))
  have h4:∀ d,cY fr2 d lo hi mx=cY fr d lo hi mx:=fun d=>by simp only[cY,h1,h2,h3]
  simp only[aH,h x (by simp[IOp.opds]),h4]
 | move x=>simp only[aH,h x (by simp[IOp.opds])]
 | box x=>simp only[aH,h x (by simp[IOp.opds])]
 | load sz agg a=>simp only[aH,h a (by simp[IOp.opds])]
 | nilCheck x=>simp only[aH,h x (by simp[IOp.opds])]
 | eqNil neg x=>simp only[aH,h x (by simp[IOp.opds])]
 | eqNilM neg x=>simp only[aH,h x (by simp[IOp.opds])]
 | eqNilS neg x=>simp only[aH,h x (by simp[IOp.opds])]
 | un op x=>simp only[aH,h x (by simp[IOp.opds])]
 | conv k x=>simp only[aH,h x (by simp[IOp.opds])]
 | makeSlice sz bytes z l=>simp only[aH,h l (by simp[IOp.opds])]
 | fieldAddr off x=>simp only[aH,h x (by simp[IOp.opds])]
 | field off sz agg x=>simp only[aH,h x (by simp[IOp.opds])]
 | extract x i=>simp only[aH,h x (by simp[IOp.opds])]
 | len x=>simp only[aH,h x (by simp[IOp.opds])]
 | lenM x=>simp only[aH,h x (by simp[IOp.opds])]
 | pick c a b=>simp only[aH,h a (by simp[IOp.opds]),h b (by simp[IOp.opds]),h c (by simp[IOp.opds])]
 | store sz a x=>simp only[aH,h a (by simp[IOp.opds]),h x (by simp[IOp.opds])]
 | bin op t x y=>simp only[aH,h x (by simp[IOp.opds]),h y (by simp[IOp.opds])]
 | eqBool neg x y=>simp only[aH,h x (by simp[IOp.opds]),h y (by simp[IOp.opds])]
 | eqArr neg n x y=>simp only[aH,h x (by simp[IOp.opds]),h y (by simp[IOp.opds])]
 | idxSl sz x y=>simp only[aH,h x (by simp[IOp.opds]),h y (by simp[IOp.opds])]
 | idxArr n sz x y=>simp only[aH,h x (by simp[IOp.opds]),h y (by simp[IOp.opds])]
 | idxVal n sz agg x y=>simp only[aH,h x (by simp[IOp.opds]),h y (by simp[IOp.opds])]
 | lookup z k x y ok=>simp only[aH,h x (by simp[IOp.opds]),h y (by simp[IOp.opds])]
 | append sz bytes x y=>simp only[aH,h x (by simp[IOp.opds]),h y (by simp[IOp.opds])]
 | mapUpdate k x y z=>simp only[aH,h x (by simp[IOp.opds]),h y (by simp[IOp.opds]),h z (by simp[IOp.opds])]
 | xop e xs=>simp only[aH,hav xs h]
 | mop e xs=>simp only[aH,hav xs h]
 | insF ks x y z=>simp only[aH,h x (by simp[IOp.opds]),h y (by simp[IOp.opds]),h z (by simp[IOp.opds])]
def yF (g i:Nat) (fr:Fr) (o:IOp) (H H' H2:Heap) (r:Option (AV×Heap)) (v:AV):Prop:=
 ∃ H2',r=some (v,H2')∧(∀ a b,(a,b)∈dwr g i fr o→hget H2' a b=hget H' a b)∧(∀ a b,(a,b)∉dwr g i fr o→hget H2' a b=hget H2 a b)∧(∀ a b,(a,b)∉dwr g i fr o→hget H' a b=hget H a b) ∧
  ∀ a b,(a,b)∈dwr g i fr o→(hget H' a b).isSome
theorem yF.set {g i:Nat} {fr:Fr} {o:IOp} {H H2:Heap} {v:AV} {a b:Nat} {x:Blk} (h1:hok H a b) (h2:hok H2 a b) (hd:dwr g i fr o=[(a,b)]):yF g i fr o H (bH H a b x) H2 (some (v,bH H2 a b x)) v:=by
 refine⟨_,rfl,fun c d hc=>?_,fun c d hc=>?_,fun c d hc=>?_,fun c d hc=>?_⟩
 ·rw[hd] at hc
  simp at hc
  obtain⟨rfl,rfl⟩:=hc
  rw[bB _ _ _ _ _ _ h1,bB _ _ _ _ _ _ h2]
  simp
 ·rw[hd] at hc
  rw[bB _ _ _ _ _ _ h2,if_neg (by simpa using hc)]
 ·rw[hd] at hc
  rw[bB _ _ _ _ _ _ h1,if_neg (by simpa using hc)]
 ·rw[hd] at hc
  rw[bB _ _ _ _ _ _ h1,if_pos (by simpa using hc)]
  rfl
theorem yF.quiet {g i:Nat} {fr:Fr} {o:IOp} {H H2:Heap} {v:AV} (hd:dwr g i fr o=[]):yF g i fr o H H H2 (some (v,H2)) v:=
 ⟨H2,rfl,(fun a b h=>by rw[hd] at h; cases h),fun _ _ _=>rfl,fun _ _ _=>rfl,fun a b h=>by rw[hd] at h; cases h⟩
theorem yY {H H2:Heap} {a:AV} (h:∀ p∈cQ a,hget H2 p.1 p.2=hget H p.1 p.2):fU H2 a=fU H a:=by
 cases a with
 | hsl g i s l=>simp only[fU,h (g,i) (by simp[cQ])]
 | _=>rfl
theorem n9 {H H2:Heap} {a:AV} {s0:Nat} (h:∀ p∈cQ a,hget H2 p.1 p.2=hget H p.1 p.2):f4 s0 H2 a=f4 s0 H a:=by
 unfold f4
 split
 ·rfl
 ·exact yY h
theorem AG {H H2:Heap} {a:AV} {k:IntKind} {n:Int} (h:∀ p∈cQ a,hget H2 p.1 p.2=hget H p.1 p.2):rN H2 k n a=rN H k n a:=by
 cases a with
 | mref g i=>simp only[rN,h (g,i) (by simp[cQ])]
 | sc v=>cases v<;>first | rfl | (rename_i r; cases r<;>rfl)
 | _=>rfl
theorem y9 {H H2:Heap} {a:AV} {ks:List LK} {k:List Value} (h:∀ p∈cQ a,hget H2 p.1 p.2=hget H p.1 p.2):jU H2 ks k a=jU H ks k a:=by
 cases a with
 | mref g i=>simp only[jU,h (g,i) (by simp[cQ])]
 | sc v=>cases v<;>first | rfl | (rename_i r; cases r<;>rfl)
 | _=>rfl
theorem A3 {H H2:Heap} {e:XOp} {as:List AV} (h:∀ p∈as.flatMap cQ,hget H2 p.1 p.2=hget H p.1 p.2):kM H2 e as=kM H e as:=by
 cases e with
 | bstr=>
  match as with
  | []=>rfl
  | [a]=>simp only[kM,n9 (H:=H) (H2:=H2) (a:=a) fun p hp=>h p (by simpa using hp)]
  | _::_::_=>rfl
 | lookF ks z ok=>
  match as with
  | []=>rfl
  | [_]=>rfl
  | [m,k]=>
   have:=fun(l:List Value)=>y9 (H:=H) (H2:=H2) (a:=m) (ks:=ks) (k:=l) fun p hp=>h p (by simp[hp])
   simp only[kM,this]
  | _::_::_::_=>rfl
 | _=>rfl
theorem CF {g i:Nat} {e:MOp} {xs:List Operand} {fr:Fr} {H H2 H':Heap} {v:AV} (hs:gT g i H e (aX fr xs)=some (v,H')) (h1:(g,i)∈mwr g i e (aX fr xs)→(hget H g i).isSome)
  (h2:(g,i)∈mwr g i e (aX fr xs)→(hget H2 g i).isSome) (hh:∀ p∈(aX fr xs).flatMap cQ,hget H2 p.1 p.2=hget H p.1 p.2):yF g i fr (.mop e xs) H H' H2 (gT g i H2 e (aX fr xs)) v:=by
 have hd:dwr g i fr (.mop e xs)=mwr g i e (aX fr xs):=rfl
 generalize aX fr xs=as at *
 unfold gT at hs ⊢
 cases e with
 | range=>
  simp only at hs ⊢
  split at hs
  ·simp only[oIn,pIn] at hs; obtain⟨rfl,rfl⟩:=hs
   exact .set (.inl (h1 (by simp[mwr]))) (.inl (h2 (by simp[mwr]))) hd
  ·simp only[oIn,pIn] at hs; obtain⟨rfl,rfl⟩:=hs
   exact .set (.inl (h1 (by simp[mwr]))) (.inl (h2 (by simp[mwr]))) hd
  ·cases hs
 | next=>
  simp only at hs ⊢
  split at hs
  ·rename_i g' i'
   have hg:=hh (g',i') (by simp[cQ])
   simp only at hg
   simp only[hg]
   split at hs
   ·simp only[oIn,pIn] at hs; obtain⟨rfl,rfl⟩:=hs
    exact .quiet hd
   ·cases hs
  ·cases hs
 | entry=>
  simp only at hs ⊢
  split at hs
  ·rename_i g' i'
   have hg:=hh (g',i') (by simp[cQ])
   simp only at hg
   simp only[hg]
   split at hs
   ·simp only[oIn,pIn] at hs; obtain⟨rfl,rfl⟩:=hs
    exact .quiet hd
   ·cases hs
  ·cases hs
 | del k=>
  simp only at hs ⊢
  split at hs
  ·rename_i g' i' k' n
   have hg:=hh (g',i') (by simp[cQ])
   simp only at hg
   simp only[hg]
   split at hs
   ·rename_i hk
    try simp only[hk]
    split at hs
    ·rename_i es hget0
     split at hs
     ·rename_i hm
      simp only[oIn,pIn] at hs; obtain⟨rfl,rfl⟩:=hs
      try simp only[hm]
      exact .set (.inl (by rw[hget0]; rfl)) (.inl (by rw[hg,hget0]; rfl)) (by rw[hd]; simp[mwr,cQ])
     ·cases hs
    ·cases hs
   ·cases hs
  ·cases hs
 | slice0 sz=>
  simp only at hs ⊢
  split at hs
  ·simp only[oIn,pIn] at hs; obtain⟨rfl,rfl⟩:=hs
   exact .set (.inl (h1 (by simp[mwr]))) (.inl (h2 (by simp[mwr]))) hd
  ·simp only[oIn,pIn] at hs; obtain⟨rfl,rfl⟩:=hs
   exact .set (.inl (h1 (by simp[mwr]))) (.inl (h2 (by simp[mwr]))) hd
  ·simp only[oIn,pIn] at hs; obtain⟨rfl,rfl⟩:=hs
   exact .set (.inl (h1 (by simp[mwr]))) (.inl (h2 (by simp[mwr]))) hd
  ·cases hs
 | sliceA n=>
  simp only at hs ⊢
  split at hs
  ·split at hs
   ·rename_i hb
    simp only[oIn,pIn] at hs; obtain⟨rfl,rfl⟩:=hs
    try simp only[hb]
    exact .quiet hd
   ·cases hs
  ·cases hs
 | cap=>
  simp only at hs ⊢
  split at hs
  ·simp only[oIn,pIn] at hs; obtain⟨rfl,rfl⟩:=hs
   exact .quiet hd
  ·cases hs
 | stop=>cases hs
 | appN bytes z=>
  simp only at hs ⊢
  split at hs
  ·split at hs
   ·rename_i hb
    simp only[oIn,pIn] at hs; obtain⟨rfl,rfl⟩:=hs
    try simp only[hb]
    exact .set (.inl (h1 (by simp[mwr]))) (.inl (h2 (by simp[mwr]))) hd
   ·cases hs
  ·cases hs
 | clear z=>
  simp only at hs ⊢
  split at hs
  ·rename_i g' i' st
   simp only[oIn,pIn] at hs; obtain⟨rfl,rfl⟩:=hs
   exact .quiet hd
  ·rename_i g' i' st len
   have hg:=hh (g',i') (by simp[cQ])
   simp only at hg
   simp only[hg]
   split at hs
   ·rename_i s1 rows1 hget0
    split at hs
    ·rename_i hb
     simp only[oIn,pIn] at hs; obtain⟨rfl,rfl⟩:=hs
     try simp only[hb]
     exact .set (.inl (by rw[hget0]; rfl)) (.inl (by rw[hg,hget0]; rfl)) (by rw[hd]; simp[mwr,cQ])
    ·cases hs
   ·cases hs
  ·cases hs
 | copy sz=>
  simp only at hs ⊢
  split at hs
  ·rename_i g' i' st len s
   have hg:=hh (g',i') (by simp[cQ])
   simp only at hg
   have hr:=n9 (H:=H) (H2:=H2) (a:=s) (s0:=sz) fun p hp=>hh p (by simp only[List.flatMap_cons,List.mem_append]; exact .inr (.inl hp))
   simp only[hg,hr]
   split at hs
   ·rename_i s2 rows2 hr2
    try simp only[hr2]
    split at hs
    ·rename_i s1 rows1 hget0
     split at hs
     ·rename_i hb
      simp only[oIn,pIn] at hs; obtain⟨rfl,rfl⟩:=hs
      try simp only[hb]
      exact .set (.inl (by rw[hget0]; rfl)) (.inl (by rw[hg,hget0]; rfl)) (by rw[hd]; simp[mwr,cQ])
     ·cases hs
    ·cases hs
   ·cases hs
  ·cases hs
theorem vD {g i:Nat} {o:IOp} {fr:Fr} {H H2 H':Heap} {v:AV} (hs:aH g i o fr H=some (v,H')) (h1:(g,i)∈dwr g i fr o→(hget H g i).isSome) (h2:(g,i)∈dwr g i fr o→(hget H2 g i).isSome)
  (hh:∀ p∈drd fr o,hget H2 p.1 p.2=hget H p.1 p.2):yF g i fr o H H' H2 (aH g i o fr H2) v:=by
 cases o with
 | alloc z=>simp only[aH,oIn,pIn] at hs; obtain⟨rfl,rfl⟩:=hs; exact .set (.inl (h1 (by simp[dwr]))) (.inl (h2 (by simp[dwr]))) rfl
 | makeMap=>simp only[aH,oIn,pIn] at hs; obtain⟨rfl,rfl⟩:=hs; exact .set (.inl (h1 (by simp[dwr]))) (.inl (h2 (by simp[dwr]))) rfl
 | box x=>
  simp only[aH] at hs ⊢
  split at hs
  ·split at hs
   ·rename_i hall
    simp only[oIn,pIn] at hs; obtain⟨rfl,rfl⟩:=hs
    try simp only[hall]
    exact .set (.inl (h1 (by simp[dwr]))) (.inl (h2 (by simp[dwr]))) rfl
   ·cases hs
  ·cases hs
 | buildSlice sz z n parts=>
  simp only[aH] at hs ⊢
  split at hs
  ·simp only[oIn,pIn] at hs; obtain⟨rfl,rfl⟩:=hs
   exact .set (.inl (h1 (by simp[dwr]))) (.inl (h2 (by simp[dwr]))) rfl
  ·cases hs
 | makeSlice sz bytes z l=>
  simp only[aH] at hs ⊢
  split at hs
  ·split at hs
   ·rename_i hb
    simp only[oIn,pIn] at hs; obtain⟨rfl,rfl⟩:=hs
    try simp only[hb]
    exact .set (.inl (h1 (by simp[dwr]))) (.inl (h2 (by simp[dwr]))) rfl
   ·cases hs
  ·cases hs
 | store sz a x=>
  simp only[aH] at hs ⊢
  split at hs
  ·rename_i g' i' row off e
   have hg:=hh (g',i') (by simp[drd,e,cQ])
   try simp only[e]
   split at hs
   ·rename_i cs hcs
    simp only at hg
    try simp only[hg]
    split at hs
    ·rename_i s rows hget0
     split at hs
     ·rename_i r hrow
      split at hs
      ·rename_i hb
       simp only[oIn,pIn] at hs; obtain⟨rfl,rfl⟩:=hs
       try simp only[hrow,hb]
       exact .set (.inl (by rw[hget0]; rfl)) (.inl (by rw[hg,hget0]; rfl)) (by simp[dwr,e,cQ])
      ·cases hs
     ·cases hs
    ·cases hs
   ·cases hs
  ·cases hs
 | mapUpdate k m ix x=>
  simp only[aH] at hs ⊢
  split at hs
  ·rename_i g' i' k' n em ei
   have hg:=hh (g',i') (by simp[drd,em,cQ])
   simp only at hg
   split at hs
   ·rename_i hk
    try simp only[hg]
    split at hs
    ·rename_i es hget0
     split at hs
     ·rename_i hf
      simp only[oIn,pIn] at hs; obtain⟨rfl,rfl⟩:=hs
      try simp only[hf]
      exact .set (.inl (by rw[hget0]; rfl)) (.inl (by rw[hg,hget0]; rfl)) (by simp[dwr,em,cQ])
     ·rename_i hf
      simp only[oIn,pIn] at hs; obtain⟨rfl,rfl⟩:=hs
      try simp only[hf]
      exact .set (.inl (by rw[hget0]; rfl)) (.inl (by rw[hg,hget0]; rfl)) (by simp[dwr,em,cQ])
     ·cases hs
    ·cases hs
   ·cases hs
  ·cases hs
 | xop e xs=>
  simp only[aH] at hs ⊢
  rw[A3 (H:=H) fun p hp=>hh p hp]
  split at hs
  ·simp only[oIn,pIn] at hs; obtain⟨rfl,rfl⟩:=hs
   exact .quiet rfl
  ·cases hs
 | mop e xs=>exact CF hs h1 h2 hh
 | insF ks m ix x=>
  simp only[aH] at hs ⊢
  split at hs
  ·rename_i g' i' k em ei
   have hg:=hh (g',i') (by simp[drd,em,cQ])
   simp only at hg
   split at hs
   ·rename_i hk
    try simp only[hg]
    split at hs
    ·rename_i hget0
     split at hs
     ·rename_i c hu
      simp only[oIn,pIn] at hs; obtain⟨rfl,rfl⟩:=hs
      exact .set (.inl (by rw[hget0]; rfl)) (.inl (by rw[hg,hget0]; rfl)) (by simp[dwr,em,cQ])
     ·cases hs
    ·rename_i n es hget0
     split at hs
     ·rename_i c hu
      split at hs
      ·rename_i hn hf
       simp only[oIn,pIn] at hs; obtain⟨rfl,rfl⟩:=hs
       try simp only[hn,hf]
       exact .set (.inl (by rw[hget0]; rfl)) (.inl (by rw[hg,hget0]; rfl)) (by simp[dwr,em,cQ])
      ·cases hs
     ·cases hs
    ·cases hs
   ·cases hs
  ·cases hs
 | append sz bytes s x=>
  simp only[aH] at hs ⊢
  rw[n9 (H:=H) fun p hp=>hh p (by simp only[drd]; exact List.mem_append_right _ hp)]
  split at hs
  ·rename_i s2 rows2 hr2
   split at hs
   ·rename_i hb2
    try simp only[hb2]
    split at hs
    ·rename_i g' i' len e
     have hg:=hh (g',i') (by simp[drd,e,cQ])
     simp only at hg
     try simp only[hg]
     split at hs
     ·rename_i s1 rows1 hget0
      split at hs
      ·rename_i hb1
       try simp only[hb1]
       split at hs
       ·cases hs
       ·rename_i hne
        simp only[oIn,pIn] at hs; obtain⟨rfl,rfl⟩:=hs
        try simp only[hne]
        have hne':¬ (g=g'∧i=i'):=by
         rintro⟨rfl,rfl⟩
         simp at hne
        have ok1:hok H g' i':=.inl (by rw[hget0]; rfl)
        have ok2:hok H2 g' i':=.inl (by rw[hg,hget0]; rfl)
        have k1:hok (bH H g' i' .dead) g i:=.inl (by rw[bB _ _ _ _ _ _ ok1,if_neg hne']; exact h1 (by simp[dwr]))
        have k2:hok (bH H2 g' i' .dead) g i:=.inl (by rw[bB _ _ _ _ _ _ ok2,if_neg hne']; exact h2 (by simp[dwr]))
        refine⟨_,rfl,fun c d hc=>?_,fun c d hc=>?_,fun c d hc=>?_,fun c d hc=>?_⟩
        ·simp only[dwr,e,cQ,List.mem_cons,pIn,List.not_mem_nil,or_false] at hc
         rw[bB _ _ _ _ _ _ k1,bB _ _ _ _ _ _ k2]
         rcases hc with hc | hc
         ·rw[if_pos hc,if_pos hc]
         ·split
          ·rfl
          ·rw[bB _ _ _ _ _ _ ok1,bB _ _ _ _ _ _ ok2,if_pos hc,if_pos hc]
        ·simp only[dwr,e,cQ,List.mem_cons,pIn,List.not_mem_nil,or_false,not_or] at hc
         rw[bB _ _ _ _ _ _ k2,if_neg hc.1,bB _ _ _ _ _ _ ok2,if_neg hc.2]
        ·simp only[dwr,e,cQ,List.mem_cons,pIn,List.not_mem_nil,or_false,not_or] at hc
         rw[bB _ _ _ _ _ _ k1,if_neg hc.1,bB _ _ _ _ _ _ ok1,if_neg hc.2]
        ·simp only[dwr,e,cQ,List.mem_cons,pIn,List.not_mem_nil,or_false] at hc
         rw[bB _ _ _ _ _ _ k1]
         rcases hc with hc | hc
         ·rw[if_pos hc]; rfl
         ·split
          ·rfl
          ·rw[bB _ _ _ _ _ _ ok1,if_pos hc]; rfl
      ·rename_i hbf
       try simp only[hbf]
       split at hs
       ·rename_i hb1
        try simp only[hb1]
        split at hs
        ·cases hs
        ·rename_i hne
         simp only[oIn,pIn] at hs; obtain⟨rfl,rfl⟩:=hs
         try simp only[hne]
         have hne':¬ (g=g'∧i=i'):=by
          rintro⟨rfl,rfl⟩
          simp at hne
         have ok1:hok H g' i':=.inl (by rw[hget0]; rfl)
         have ok2:hok H2 g' i':=.inl (by rw[hg,hget0]; rfl)
         have k1:hok (bH H g' i' .dead) g i:=.inl (by rw[bB _ _ _ _ _ _ ok1,if_neg hne']; exact h1 (by simp[dwr]))
         have k2:hok (bH H2 g' i' .dead) g i:=.inl (by rw[bB _ _ _ _ _ _ ok2,if_neg hne']; exact h2 (by simp[dwr]))
         refine⟨_,rfl,fun c d hc=>?_,fun c d hc=>?_,fun c d hc=>?_,fun c d hc=>?_⟩
         ·simp only[dwr,e,cQ,List.mem_cons,pIn,List.not_mem_nil,or_false] at hc
          rw[bB _ _ _ _ _ _ k1,bB _ _ _ _ _ _ k2]
          rcases hc with hc | hc
          ·rw[if_pos hc,if_pos hc]
          ·split
           ·rfl
           ·rw[bB _ _ _ _ _ _ ok1,bB _ _ _ _ _ _ ok2,if_pos hc,if_pos hc]
         ·simp only[dwr,e,cQ,List.mem_cons,pIn,List.not_mem_nil,or_false,not_or] at hc
          rw[bB _ _ _ _ _ _ k2,if_neg hc.1,bB _ _ _ _ _ _ ok2,if_neg hc.2]
         ·simp only[dwr,e,cQ,List.mem_cons,pIn,List.not_mem_nil,or_false,not_or] at hc
          rw[bB _ _ _ _ _ _ k1,if_neg hc.1,bB _ _ _ _ _ _ ok1,if_neg hc.2]
         ·simp only[dwr,e,cQ,List.mem_cons,pIn,List.not_mem_nil,or_false] at hc
          rw[bB _ _ _ _ _ _ k1]
          rcases hc with hc | hc
          ·rw[if_pos hc]; rfl
          ·split
           ·rfl
           ·rw[bB _ _ _ _ _ _ ok1,if_pos hc]; rfl
       ·cases hs
     ·cases hs
    ·rename_i e
     split at hs
     ·rename_i hb1
      simp only[oIn,pIn] at hs; obtain⟨rfl,rfl⟩:=hs
      try simp only[hb1]
      exact .set (.inl (h1 (by simp[dwr]))) (.inl (h2 (by simp[dwr]))) (by simp[dwr,e,cQ])
     ·cases hs
    ·cases hs
   ·cases hs
  ·cases hs
 | lookup z k x ix ok=>
  simp only[aH] at hs ⊢
  split at hs
  ·split at hs
   ·rename_i hk
    try simp only[hk]
    rw[AG (H:=H) fun p hp=>hh p hp]
    generalize rN H _ _ _=r at hs
    cases r with
    | none=>cases hs
    | some r=>
     cases r<;>cases ok<;>simp only[qG,oIn,pIn] at hs<;>obtain⟨rfl,rfl⟩:=hs<;>exact .quiet rfl
   ·cases hs
  ·cases hs
 | load sz agg a=>
  simp only[aH] at hs ⊢
  split at hs
  ·split at hs
   ·rename_i hl
    simp only[oIn,pIn] at hs; obtain⟨rfl,rfl⟩:=hs
    try simp only[hl]
    exact .quiet rfl
   ·cases hs
  ·rename_i g' i' row off e
   have hg:=hh (g',i') (by simp[drd,e,cQ])
   simp only at hg
   try simp only[hg]
   split at hs
   ·split at hs
    ·split at hs
     ·rename_i h3 _ h4 _ h5
      simp only[oIn,pIn] at hs; obtain⟨rfl,rfl⟩:=hs
      try simp only[*]
      exact .quiet rfl
     ·cases hs
    ·cases hs
   ·cases hs
  ·cases hs
 | idxSl sz x ix=>
  simp only[aH] at hs ⊢
  split at hs
  ·split at hs
   ·split at hs
    ·rename_i h3 h4
     simp only[oIn,pIn] at hs; obtain⟨rfl,rfl⟩:=hs
     try simp only[h3,h4]
     exact .quiet rfl
    ·cases hs
   ·rename_i g' i' start len e
    have hg:=hh (g',i') (by simp[drd,e,cQ])
    simp only at hg
    try simp only[hg]
    split at hs
    ·split at hs
     ·split at hs
      ·rename_i hb
       simp only[oIn,pIn] at hs; obtain⟨rfl,rfl⟩:=hs
       try simp only[hb]
       exact .quiet rfl
      ·cases hs
     ·cases hs
    ·cases hs
   ·split at hs
    ·split at hs
     ·rename_i hb
      simp only[oIn,pIn] at hs; obtain⟨rfl,rfl⟩:=hs
      try simp only[hb]
      exact .quiet rfl
     ·cases hs
    ·cases hs
   ·cases hs
  ·cases hs
 | eqNilS neg x=>
  simp only[aH] at hs ⊢
  split at hs
  ·simp only[oIn,pIn] at hs; obtain⟨rfl,rfl⟩:=hs
   exact .quiet rfl
  ·rename_i g' i' st len e
   have hg:=hh (g',i') (by simp[drd,e,cQ])
   simp only at hg
   cases len with
   | succ n=>
    simp only[oIn,pIn] at hs; obtain⟨rfl,rfl⟩:=hs
    exact .quiet rfl
   | zero=>
    simp only at hs ⊢
    rw[hg]
    split at hs
    ·simp only[oIn,pIn] at hs; obtain⟨rfl,rfl⟩:=hs
     exact .quiet rfl
    ·cases hs
  ·simp only[oIn,pIn] at hs; obtain⟨rfl,rfl⟩:=hs
   exact .quiet rfl
  ·cases hs
 | lenM x=>
  simp only[aH] at hs ⊢
  split at hs
  ·simp only[oIn,pIn] at hs; obtain⟨rfl,rfl⟩:=hs
   exact .quiet rfl
  ·rename_i g' i' e
   have hg:=hh (g',i') (by simp[drd,e,cQ])
   simp only at hg
   try simp only[hg]
   split at hs
   ·simp only[oIn,pIn] at hs; obtain⟨rfl,rfl⟩:=hs
    exact .quiet rfl
   ·cases hs
  ·simp only[oIn,pIn] at hs; obtain⟨rfl,rfl⟩:=hs
   exact .quiet rfl
  ·cases hs
 | slice sz x lo hi mx=>
  simp only[aH] at hs ⊢
  split at hs
  ·split at hs
   ·rename_i h3
    split at hs
    ·rename_i h4
     simp only[oIn,pIn] at hs; obtain⟨rfl,rfl⟩:=hs
     try simp only[h3,h4]
     exact .quiet rfl
    ·cases hs
   ·cases hs
  ·rename_i g' i' start len e
   have hg:=hh (g',i') (by simp[drd,e,cQ])
   simp only at hg
   try simp only[hg]
   (repeat' split at hs)<;>(try (cases hs; done))<;>(simp only[oIn,pIn] at hs; obtain⟨rfl,rfl⟩:=hs; (try simp only[*]); exact .quiet rfl)
  ·split at hs
   ·rename_i h4
    simp only[oIn,pIn] at hs; obtain⟨rfl,rfl⟩:=hs
    try simp only[h4]
    exact .quiet rfl
   ·cases hs
  ·cases hs
 | move x=>simp only[aH,nF,oIn,pIn] at hs; obtain⟨rfl,rfl⟩:=hs; simp only[aH,nF]; exact .quiet rfl
 | makeFunc fn a b=>simp only[aH,z8,oIn,pIn] at hs; obtain⟨rfl,rfl⟩:=hs; simp only[aH,z8]; exact .quiet rfl
 | _=>
  simp only[aH] at hs ⊢
  try simp only[nF] at hs ⊢
  (repeat' split at hs)<;>(try (cases hs; done))<;>(simp only[oIn,pIn] at hs; obtain⟨rfl,rfl⟩:=hs; (try simp only[*]); exact .quiet rfl)
end Go.Av
namespace Go.Av
def aD (P:Program) (f:FuncId) (args:List AV) (v:AV):Prop:=
 Callable P f∧∀ M J w (cargs:Array Value),args.length=cargs.size→(∀(j:Nat) c x,args[j]?=some c→cargs[j]?=some x→Rep M J c x)→bT M w.heap →
  Calls P f cargs w fun e w'=>∃ cv M',e=.returned cv∧(∀ β o,M β=some o→M' β=some o)∧bT M' w'.heap∧w'.os=w.os∧o8 w w'∧w'.output=w.output∧w.heap.size≤w'.heap.size ∧
   (∀(β:Nat) o,w.heap[β]?=some o→w'.heap[β]?=some o)∧(∀ β o,M' β=some o→M β=some o∨w.heap.size≤β)∧∀ J',Rep M' J' v cv
theorem Rep.anyJ {M J} {a:AV} {v:Value} (h:Rep M J a v) (hp:bQ a) (J':Inj):Rep M J' a v:=
 (h.ren (ρ:=fun _ _=>none) (.pure hp)).ext ⟨fun _ _ h=>h,fun g i l h=>by simp[Inj.via] at h⟩
theorem aD.of {P:Program} {f:FuncId} {args:List AV} {v:AV} (ha:∀ a∈args,bQ a) (hv:bQ v) (h:aQ P f args [] fun res _=>res=v):aD P f args v:=by
 refine⟨h.1,fun M J w cargs hl hr hM=>?_⟩
 have hH:bJ M (fun _ _=>none) [] w.heap:=
  ⟨fun g i x hx=>(by simp[hget] at hx),fun g i g' i' l l' β _ _ hJ=>(by cases hJ),fun g i l β _ hJ=>(by cases hJ),fun g i l hJ=>(by cases hJ)⟩
 refine(h.2 M (fun _ _=>none) w cargs hl (fun j c x hc hx=>(hr j c x hc hx).anyJ (ha c (List.mem_of_getElem? hc)) _) hH hM).mono ?_
 rintro e w' ⟨cv,M',J',res,H',rfl,hs,hrep,rfl⟩
 have hno:∀ g i,¬ bK [] g i:=by
  rintro g i ⟨x,hx,_⟩
  simp[hget] at hx
 refine⟨cv,M',rfl,hs.m,hs.mrep,hs.os,hs.tape,hs.output,hs.size,fun β o ho=>hs.frame β o ho fun g i l hl _=>absurd hl (hno g i),fun β o ho=>?_,fun J''=>hrep.anyJ hv J''⟩
 rcases hs.fresh β o ho with h1 | h1 | ⟨g,i,l,hl,_⟩
 ·exact .inl h1
 ·exact .inr h1
 ·exact absurd hl (hno g i)
theorem aD.step {M J H} {w w':World} (k:Nat) (hH:bJ M J H w.heap) {M':Mem} (h1:∀ β o,M β=some o→M' β=some o) (h2:bT M' w'.heap) (h3:w'.os=w.os) (h4:o8 w w') (h5:w'.output=w.output)
  (h6:w.heap.size≤w'.heap.size) (h7:∀(β:Nat) o,w.heap[β]?=some o→w'.heap[β]?=some o) (h8:∀ β o,M' β=some o→M β=some o∨w.heap.size≤β):bL k M J H w M' J H w':=by
 have hx:Ext M J M' J:=⟨h1,fun _ _ _ h=>h⟩
 refine⟨h1,fun _ _ _ _ h=>h,⟨?_,hH.inj,?_,?_⟩,h2,h3,h4,h5,h6,fun β o ho _=>h7 β o ho,fun β o ho=>?_,fun g i l β a b c=>.inl ⟨g,i,l,a,b,c⟩,fun β r hr=>⟨r,h7 β _ hr,rfl⟩⟩
 ·intro g i x hg hl
  obtain⟨l,p,q⟩:=hH.blk g i x hg hl
  refine⟨l,p,q.ext hx fun β hβ=>?_⟩
  have hlt:=(hH.dom g i l p).2 β hβ
  rw[Array.getElem?_eq_getElem hlt]
  exact h7 β _ (Array.getElem?_eq_getElem hlt)
 ·intro g i l β a b c
  cases e:M' β with
  | none=>rfl
  | some o=>
   rcases h8 β o e with h | h
   ·rw[hH.out g i l β a b c] at h; cases h
   ·have:=(hH.dom g i l b).2 β c; omega
 ·intro g i l a
  have:=hH.dom g i l a
  exact⟨this.1,fun β hβ=>Nat.lt_of_lt_of_le (this.2 β hβ) h6⟩
 ·rcases h8 β o ho with h | h
  ·exact .inl h
  ·exact .inr (.inl h)
theorem aQ.ofPure {P:Program} {f:FuncId} {args:List AV} {v:AV} (h:aD P f args v) (H:Heap) {R:AV→Heap→Prop} (hR:R v H):aQ P f args H R:=by
 refine⟨h.1,fun M J w cargs hl hr hH hM=>(h.2 M J w cargs hl hr hM).mono ?_⟩
 rintro e w' ⟨cv,M',rfl,h1,h2,h3,h4,h5,h6,h7,h8,h9⟩
 exact⟨cv,M',J,v,H,rfl,aD.step _ hH h1 h2 h3 h4 h5 h6 h7 h8,h9 J,hR⟩
structure cV where
 x:IOper
 id:Nat×Nat
 v:AV
 rd:List (Nat×Nat)
 wr:List (Nat×Nat)
def oZ:List Operand→List Nat
 | []=>[]
 | .tmp t::r=>t::oZ r
 | _::r=>oZ r
def IAct.opds:IAct→List Operand
 | .op o=>o.opds
 | .call _ args=>args
 | .callV f args=>f::args
def IOper.tmps (x:IOper):List Nat:=
 match x.guard with
 | some (t,_)=>t::oZ x.act.opds
 | none=>oZ x.act.opds
abbrev S:=Fr×Heap
def Eqv (s t:S):Prop:=(∀ a,s.1.get a=t.1.get a)∧∀ a b,hget s.2 a b=hget t.2 a b
def M7 (P:Program) (fr:Fr) (a:IAct) (v:AV):Prop:=
 (∃ f args,a=.call f args∧aD P f (aX fr args) v)∨(∃ f args g fs cs,a=.callV f args∧ev fr f=.clo (.func g) fs cs∧aD P g (fs++aX fr args++cs) v)
def mC (P:Program) (r:cV) (s t:S):Prop:=
 t.1=s.1.put r.x.dst r.v ∧
 ((gok s.1 r.x.guard=some true∧∃ o,r.x.act=.op o∧aH r.id.1 r.id.2 o s.1 s.2=some (r.v,t.2)∧drd s.1 o=r.rd∧dwr r.id.1 r.id.2 s.1 o=r.wr) ∨
  (gok s.1 r.x.guard=some true∧r.rd=[]∧r.wr=[]∧(∀ a b,hget t.2 a b=hget s.2 a b)∧M7 P s.1 r.x.act r.v) ∨
  (gok s.1 r.x.guard=some false∧r.rd=[]∧r.wr=[]∧r.v=.sc Go.undef∧(∀ a b,hget t.2 a b=hget s.2 a b)))
theorem BT {l:List Operand} {t:Nat} (h:.tmp t∈l):t∈oZ l:=by
 induction l with
 | nil=>cases h
 | cons a l ih=>
  cases h with
  | head=>exact List.mem_cons_self ..
  | tail _ h=>cases a<;>first | exact List.mem_cons_of_mem _ (ih h) | exact ih h
theorem FX {l:List Operand} {fr fr2:Fr} (h:∀ t∈oZ l,fr2.get t=fr.get t):∀ x∈l,ev fr2 x=ev fr x:=by
 intro x hx
 cases x with
 | tmp t=>exact h t (BT hx)
 | _=>rfl
theorem g9 {x:IOper} {fr fr2:Fr} (h:∀ t∈x.tmps,fr2.get t=fr.get t):(∀ o∈x.act.opds,ev fr2 o=ev fr o)∧gok fr2 x.guard=gok fr x.guard:=by
 unfold IOper.tmps at h
 split at h
 ·rename_i t b e
  refine⟨FX fun u hu=>h u (List.mem_cons_of_mem _ hu),?_⟩
  rw[e]
  simp only[gok,h t (List.mem_cons_self ..)]
 ·rename_i e
  exact⟨FX h,by rw[e]; rfl⟩
theorem mC.ext {P:Program} {r:cV} {s s1 s2:S} (h:mC P r s s1) (ht:∀ t∈r.x.tmps,s2.1.get t=s.1.get t) (hr:∀ p∈r.rd,hget s2.2 p.1 p.2=hget s.2 p.1 p.2)
  (hi:r.id∈r.wr→(hget s.2 r.id.1 r.id.2).isSome∧(hget s2.2 r.id.1 r.id.2).isSome):
  ∃ s3,mC P r s2 s3∧s3.1=s2.1.put r.x.dst r.v∧(∀ a b,(a,b)∈r.wr→hget s3.2 a b=hget s1.2 a b)∧(∀ a b,(a,b)∉r.wr→hget s3.2 a b=hget s2.2 a b) ∧
   (∀ a b,(a,b)∉r.wr→hget s1.2 a b=hget s.2 a b)∧(∀ a b,(a,b)∈r.wr→(hget s1.2 a b).isSome):=by
 obtain⟨ha,hg⟩:=g9 ht
 obtain⟨hf,h⟩:=h
 rcases h with⟨h1,o,h2,h3,h4,h5⟩ | ⟨h1,h2,h3,h4,hcall⟩ | ⟨h1,h2,h3,h4,h5⟩
 ·have ho:∀ x∈o.opds,ev s2.1 x=ev s.1 x:=fun x hx=>ha x (by rw[h2]; exact hx)
  have e4:drd s2.1 o=drd s.1 o:=by
   cases o with
   | xop e xs=>simp only[drd,show aX s2.1 xs=aX s.1 xs from List.map_congr_left ho]
   | mop e xs=>simp only[drd,show aX s2.1 xs=aX s.1 xs from List.map_congr_left ho]
   | _=>simp only[drd]<;>simp only[IOp.opds,List.mem_cons,List.not_mem_nil,or_false,forall_eq_or_imp,forall_eq] at ho<;>simp[ho]
  have e5:dwr r.id.1 r.id.2 s2.1 o=dwr r.id.1 r.id.2 s.1 o:=by
   cases o with
   | mop e xs=>simp only[dwr,show aX s2.1 xs=aX s.1 xs from List.map_congr_left ho]
   | _=>simp only[dwr]<;>simp only[IOp.opds,List.mem_cons,List.not_mem_nil,or_false,forall_eq_or_imp,forall_eq] at ho<;>simp[ho]
  have hd:=jK (g:=r.id.1) (i:=r.id.2) (H:=s2.2) ho
  obtain⟨H2',q1,q2,q3,q4,q5⟩:=vD (H2:=s2.2) h3 (fun hm=>(hi (by rw[← h5]; exact hm)).1) (fun hm=>(hi (by rw[← h5]; exact hm)).2) (fun p hp=>hr p (by rw[← h4]; exact hp))
  rw[h5] at q2 q3 q4 q5
  exact⟨(s2.1.put r.x.dst r.v,H2'),⟨rfl,.inl ⟨by rw[hg,h1],o,h2,by rw[hd]; exact q1,by rw[e4,h4],by rw[e5,h5]⟩⟩,rfl,q2,q3,q4,q5⟩
 ·have hcall2:M7 P s2.1 r.x.act r.v:=by
   rcases hcall with⟨f,args,h5,h6⟩ | ⟨f,args,g,fs,cs,h5,h6,h7⟩
   ·have hav:aX s2.1 args=aX s.1 args:=List.map_congr_left fun x hx=>ha x (by rw[h5]; exact hx)
    exact .inl ⟨f,args,h5,by rw[hav]; exact h6⟩
   ·have hav:aX s2.1 args=aX s.1 args:=List.map_congr_left fun x hx=>ha x (by rw[h5]; exact List.mem_cons_of_mem _ hx)
    exact .inr ⟨f,args,g,fs,cs,h5,by rw[ha f (by rw[h5]; exact List.mem_cons_self ..)]; exact h6,by rw[hav]; exact h7⟩
  refine⟨(s2.1.put r.x.dst r.v,s2.2),⟨rfl,.inr (.inl ⟨by rw[hg,h1],h2,h3,fun _ _=>rfl,hcall2⟩)⟩,rfl,fun a b hm=>?_,fun _ _ _=>rfl,fun a b _=>h4 a b,fun a b hm=>?_⟩
  ·rw[h3] at hm; cases hm
  ·rw[h3] at hm; cases hm
 ·refine⟨(s2.1.put r.x.dst r.v,s2.2),⟨rfl,.inr (.inr ⟨by rw[hg,h1],h2,h3,h4,fun _ _=>rfl⟩)⟩,rfl,fun a b hm=>?_,fun _ _ _=>rfl,fun a b _=>h5 a b,fun a b hm=>?_⟩
  ·rw[h3] at hm; cases hm
  ·rw[h3] at hm; cases hm
def ND (a b:List (Nat×Nat)):Bool:=a.all fun p=>b.all fun q=>!(Nat.beq p.1 q.1 && Nat.beq p.2 q.2)
def s5 (d:Option Nat) (l:List Nat):Bool:=
 match d with
 | some d=>l.all fun t=>!Nat.beq d t
 | none=>true
def oT:Option Nat→Option Nat→Bool
 | some a,some b=>!Nat.beq a b
 | _,_=>true
def zJ (a b:cV):Bool:=
 match a.x.dst,b.x.dst,a.x.act,b.x.act with
 | none,none,.op (.insF ..),.op (.insF ..)=>match a.wr,b.wr with
  | [p],[q]=>Nat.beq p.1 q.1 && Nat.beq p.2 q.2
  | _,_=>false
 | _,_,_,_=>false
def jG (a b:cV):Bool:=
 s5 a.x.dst b.x.tmps && (s5 b.x.dst a.x.tmps && (oT a.x.dst b.x.dst && (ND a.wr (b.rd++b.wr) && ND b.wr a.rd))) || zJ a b
theorem tM:∀ l:List Int,jW l l=false
 | []=>rfl
 | a::l=>by simp[jW,tM l]
theorem pO:∀ {l m:List Int},l≠m→jW l m=false→jW m l=true
 | [],[],h,_=>absurd rfl h
 | [],_::_,_,h=>by cases h
 | _::_,[],_,_=>rfl
 | a::l,b::m,h,h2=>by
  unfold jW at h2 ⊢
  by_cases h3:a < b
  ·simp[h3] at h2
  ·by_cases h4:b < a
   ·simp[h4]
   ·have e:a=b:=by omega
    subst e
    simp only[Int.lt_irrefl,decide_false] at h2 ⊢
    exact pO (fun q=>h (by rw[q])) h2
theorem mU:∀ {l m k:List Int},jW l m=true→jW m k=true→jW l k=true
 | [],[],_,h,_=>by cases h
 | [],_::_,[],_,h=>by cases h
 | [],_::_,_::_,_,_=>rfl
 | _::_,[],_,h,_=>by cases h
 | _::_,_::_,[],_,h=>by cases h
 | a::l,b::m,c::k,h1,h2=>by
  unfold jW at h1 h2 ⊢
  by_cases e1:a < b
  ·by_cases e2:b < c
   ·simp[show a < c by omega]
   ·by_cases e3:c < b
    ·simp[e2,e3] at h2
    ·simp[show a < c by omega]
  ·by_cases e2:b < a
   ·simp[e1,e2] at h1
   ·have:a=b:=by omega
    subst this
    simp only[Int.lt_irrefl,decide_false] at h1
    by_cases e3:a < c
    ·simp[e3]
    ·by_cases e4:c < a
     ·simp[e3,e4] at h2
     ·simp only[dFa e3,dFa e4] at h2 ⊢
      exact mU h1 h2
theorem vH {l m:List Int} (h:jW l m=true):jW m l=false:=by
 cases e:jW m l with
 | false=>rfl
 | true=>have:=mU h e; rw[tM] at this; cases this
theorem x9 {c d:List Int} (x y:AV) (h:c≠d):∀ es:List (List Int×AV),dT c x (dT d y es)=dT d y (dT c x es)
 | []=>by
  simp only[dT]
  cases e:jW c d with
  | true=>simp only[vH e]
  | false=>simp only[pO h e]
 | (k,z)::es=>by
  have ih:=x9 x y h es
  cases e1:jW c k with
  | true=>
   cases e2:jW d k with
   | true=>
    cases e:jW c d with
    | true=>simp only[dT,e1,e2,e,vH e]
    | false=>simp only[dT,e1,e2,e,pO h e]
   | false=>
    have e3:jW d c=false:=by
     cases q:jW d c with
     | false=>rfl
     | true=>rw[mU q e1] at e2; cases e2
    simp only[dT,e1,e2,e3]
  | false=>
   cases e2:jW d k with
   | true=>
    have e3:jW c d=false:=by
     cases q:jW c d with
     | false=>rfl
     | true=>rw[mU q e2] at e1; cases e1
    simp only[dT,e1,e2,e3]
   | false=>simp only[dT,e1,e2,ih]
theorem mX {c d:List Int} (x:AV) (h:d≠c):∀ es:List (List Int×AV),bV c (dT d x es)=bV c es
 | []=>by simp[dT,bV,h]
 | (k,z)::es=>by
  simp only[dT]
  cases jW d k with
  | true=>simp[bV,h]
  | false=>simp only[bV,mX x h es]
theorem AY {g i:Nat} {ks:List LK} {m ix x:Operand} {fr:Fr} {H H':Heap} {v:AV} (h:aH g i (.insF ks m ix x) fr H=some (v,H')):
  ∃ g' i' k c n es r,ev fr m=.mref g' i'∧gA (ev fr ix)=some k∧cL ks k k=some r∧o5 k=some c∧c.length=n∧bV c es=none∧((hget H g' i'=some (.map [])∧es=[])∨hget H g' i'=some (.umap n es))∧v=.undef∧H'=bH H g' i' (.umap n (dT c (ev fr x) es)):=by
 simp only[aH] at h
 split at h
 ·rename_i g' i' k em ek
  split at h
  ·rename_i r hr
   split at h
   ·rename_i hg
    split at h
    ·rename_i c hu
     simp only[oIn,pIn] at h
     obtain⟨rfl,rfl⟩:=h
     exact⟨g',i',k,c,_,[],r,em,ek,hr,hu,rfl,rfl,.inl ⟨hg,rfl⟩,rfl,rfl⟩
    ·cases h
   ·rename_i n es hg
    split at h
    ·rename_i c hu
     split at h
     ·rename_i hn hf
      simp only[oIn,pIn] at h
      obtain⟨rfl,rfl⟩:=h
      exact⟨g',i',k,c,n,es,r,em,ek,hr,hu,Nat.eq_of_beq_eq_true hn,hf,.inr hg,rfl,rfl⟩
     ·cases h
    ·cases h
   ·cases h
  ·cases h
 ·cases h
theorem FS {g i g' i' n:Nat} {ks:List LK} {m ix x:Operand} {fr:Fr} {H:Heap} {k:List Value} {c:List Int} {es:List (List Int×AV)} {r:Bool} (em:ev fr m=.mref g' i') (ek:gA (ev fr ix)=some k) (hr:cL ks k k=some r) (hu:o5 k=some c)
  (hn:c.length=n) (hf:bV c es=none) (hg:(hget H g' i'=some (.map [])∧es=[])∨hget H g' i'=some (.umap n es)):aH g i (.insF ks m ix x) fr H=some (.undef,bH H g' i' (.umap n (dT c (ev fr x) es))):=by
 subst hn
 rcases hg with⟨hg,rfl⟩ | hg
 ·simp only[aH,em,ek,hr,hg,hu]
  rfl
 ·have e:Nat.beq c.length c.length=true:=by simp
  simp only[aH,em,ek,hr,hg,hu,e,hf]
theorem zP {a b:cV} (h:zJ a b=true):a.x.dst=none∧b.x.dst=none∧(∃ ks m i x,a.x.act=.op (.insF ks m i x))∧(∃ ks m i x,b.x.act=.op (.insF ks m i x))∧∃ p,a.wr=[p]∧b.wr=[p]:=by
 unfold zJ at h
 split at h
 ·rename_i h1 h2 h3 h4
  split at h
  ·rename_i p q h5 h6
   simp only[Bool.and_eq_true] at h
   refine⟨h1,h2,⟨_,_,_,_,h3⟩,⟨_,_,_,_,h4⟩,p,h5,?_⟩
   rw[h6]
   congr 1
   exact Prod.ext (Nat.eq_of_beq_eq_true h.1).symm (Nat.eq_of_beq_eq_true h.2).symm
  ·cases h
 ·cases h
theorem mI {a b:List (Nat×Nat)} (h:ND a b=true) {p:Nat×Nat} (h1:p∈a):p∉b:=by
 intro h2
 have:=List.all_eq_true.1 (List.all_eq_true.1 h p h1) p h2
 simp at this
theorem pE {fr:Fr} {d:Option Nat} {v:AV} {l:List Nat} (h:s5 d l=true) {t:Nat} (ht:t∈l):(fr.put d v).get t=fr.get t:=by
 cases d with
 | none=>rfl
 | some d=>
  have:=List.all_eq_true.1 h t ht
  simp only[Bool.not_eq_true'] at this
  show(match Nat.beq d t with | true=>v | false=>Fr.get fr t)=_
  rw[this]
theorem i6 (fr:Fr) (d:Option Nat) (v:AV) (t:Nat):(fr.put d v).get t=if d=some t then v else fr.get t:=by
 cases d with
 | none=>rfl
 | some d=>
  show(match Nat.beq d t with | true=>v | false=>Fr.get fr t)=_
  split
  ·rename_i e
   rw[if_pos (by rw[Nat.eq_of_beq_eq_true e])]
  ·rename_i e
   rw[if_neg]
   intro h
   injection h with h
   subst h
   simp at e
theorem IK {fr:Fr} {a b:Option Nat} {u v:AV} (h:oT a b=true) (t:Nat):((fr.put a u).put b v).get t=((fr.put b v).put a u).get t:=by
 simp only[i6]
 by_cases h1:a=some t
 ·by_cases h2:b=some t
  ·subst h1; subst h2
   simp[oT] at h
  ·rw[if_neg h2,if_pos h1,if_pos h1]
 ·rw[if_neg h1,if_neg h1]
theorem mC.swap {P:Program} {a b:cV} {s s1 s2:S} (ha:mC P a s s1) (hb:mC P b s1 s2) (hi:jG a b=true)
  (ia:a.id∈a.wr→(hget s.2 a.id.1 a.id.2).isSome) (ib:b.id∈b.wr→(hget s.2 b.id.1 b.id.2).isSome):∃ t s2',mC P b s t∧mC P a t s2'∧Eqv s2' s2:=by
 simp only[jG,Bool.or_eq_true,Bool.and_eq_true] at hi
 rcases hi with hi | hi
 case inr=>
  obtain⟨d1,d2,⟨ka,ma,ia',xa,hac⟩,⟨kb,mb,ib',xb,hbc⟩,p,w1,w2⟩:=zP hi
  obtain⟨f1,h1⟩:=ha
  obtain⟨f2,h2⟩:=hb
  rw[d1] at f1
  rw[d2] at f2
  change s1.1=s.1 at f1
  change s2.1=s1.1 at f2
  rcases h1 with⟨g1,o1,q1,st1,rd1,wr1⟩ | ⟨_,_,q,_⟩ | ⟨_,_,q,_⟩
  ·rcases h2 with⟨g2,o2,q2,st2,rd2,wr2⟩ | ⟨_,_,q,_⟩ | ⟨_,_,q,_⟩
   ·rw[hac] at q1
    injection q1 with q1
    subst q1
    rw[hbc] at q2
    injection q2 with q2
    subst q2
    rw[f1] at st2 wr2 rd2 g2
    obtain⟨ga,ja,k1,c1,n1,es1,r1,em1,ek1,hr1,hu1,hn1,hf1,hg1,hv1,hh1⟩:=AY st1
    obtain⟨gb,jb,k2,c2,n2,es2,r2,em2,ek2,hr2,hu2,hn2,hf2,hg2,hv2,hh2⟩:=AY st2
    have e1:p=(ga,ja):=by
     simp only[dwr,em1,cQ] at wr1
     rw[w1] at wr1
     injection wr1 with e; exact e.symm
    have e2:p=(gb,jb):=by
     simp only[dwr,em2,cQ] at wr2
     rw[w2] at wr2
     injection wr2 with e; exact e.symm
    rw[e1] at e2
    injection e2 with e2 e3
    subst e2; subst e3
    have hokH:hok s.2 ga ja:=.inl (by rcases hg1 with⟨h,_⟩ | h<;>(rw[h]; rfl))
    have hs1:hget s1.2 ga ja=some (.umap n1 (dT c1 (ev s.1 xa) es1)):=by rw[hh1,bB _ _ _ _ _ _ hokH,if_pos ⟨rfl,rfl⟩]
    rcases hg2 with⟨h,_⟩ | hg2
    ·rw[hs1] at h; cases h
    rw[hs1] at hg2
    injection hg2 with hg2
    injection hg2 with hn12 hes
    subst hes
    have hne:c1≠c2:=by
     intro q
     subst q
     exact m6 hf2 (((l7 c1 (ev s.1 xa) es1).map (·.1)).mem_iff.2 (by simp))
    have hf2':bV c2 es1=none:=by rw[← hf2,mX _ hne]
    have sb:aH b.id.1 b.id.2 (.insF kb mb ib' xb) s.1 s.2=some (.undef,bH s.2 ga ja (.umap n1 (dT c2 (ev s.1 xb) es1))):=FS em2 ek2 hr2 hu2 (by rw[hn2,hn12]) hf2' hg1
    have hokT:hok (bH s.2 ga ja (.umap n1 (dT c2 (ev s.1 xb) es1))) ga ja:=.inl (by rw[bB _ _ _ _ _ _ hokH,if_pos ⟨rfl,rfl⟩]; rfl)
    have sa:aH a.id.1 a.id.2 (.insF ka ma ia' xa) s.1 (bH s.2 ga ja (.umap n1 (dT c2 (ev s.1 xb) es1)))=some (.undef,bH (bH s.2 ga ja (.umap n1 (dT c2 (ev s.1 xb) es1))) ga ja (.umap n1 (dT c1 (ev s.1 xa) (dT c2 (ev s.1 xb) es1)))):=
     FS em1 ek1 hr1 hu1 hn1 (by rw[mX _ (fun q=>hne q.symm)]; exact hf1) (.inr (by rw[bB _ _ _ _ _ _ hokH,if_pos ⟨rfl,rfl⟩]))
    refine⟨(s.1,bH s.2 ga ja (.umap n1 (dT c2 (ev s.1 xb) es1))),(s.1,bH (bH s.2 ga ja (.umap n1 (dT c2 (ev s.1 xb) es1))) ga ja (.umap n1 (dT c1 (ev s.1 xa) (dT c2 (ev s.1 xb) es1)))),
     ⟨by rw[d2]; rfl,.inl ⟨g2,_,hbc,by rw[hv2]; exact sb,rd2,wr2⟩⟩,⟨by rw[d1]; rfl,.inl ⟨g1,_,hac,by rw[hv1]; exact sa,rd1,wr1⟩⟩,fun u=>?_,fun x y=>?_⟩
    ·rw[f2,f1]
    ·have hok1:hok s1.2 ga ja:=.inl (by rw[hs1]; rfl)
     rw[hh2,bB _ _ _ _ _ _ hok1,bB _ _ _ _ _ _ hokT,bB _ _ _ _ _ _ hokH,hh1,bB _ _ _ _ _ _ hokH,x9 _ _ hne,← hn12]
     split<;>rfl
   ·rw[w2] at q; cases q
   ·rw[w2] at q; cases q
  ·rw[w1] at q; cases q
  ·rw[w1] at q; cases q
 obtain⟨i1,i2,i3,i4,i5⟩:=hi
 obtain⟨_,_,_,_,_,a4,a5⟩:=mC.ext (s2:=s) ha (fun _ _=>rfl) (fun _ _=>rfl) (fun h=>⟨ia h,ia h⟩)
 have hs1:s1.1=s.1.put a.x.dst a.v:=ha.1
 have hs2:s2.1=s1.1.put b.x.dst b.v:=hb.1
 have ib1:b.id∈b.wr→(hget s1.2 b.id.1 b.id.2).isSome:=fun h=>by
  rw[a4 _ _ fun hm=>mI i4 hm (List.mem_append_right _ h)]
  exact ib h
 obtain⟨t,b1,b2,b3,b4,b5,b6⟩:=hb.ext (s2:=s) (fun u hu=>by rw[hs1,pE i1 hu]) (fun p hp=>(a4 _ _ fun hm=>mI i4 hm (List.mem_append_left _ hp)).symm) (fun h=>⟨ib1 h,ib h⟩)
 have ia1:a.id∈a.wr→(hget t.2 a.id.1 a.id.2).isSome:=fun h=>by
  rw[b4 _ _ fun hm=>mI i4 h (List.mem_append_right _ hm)]
  exact ia h
 obtain⟨s2',c1,c2,c3,c4,_,_⟩:=ha.ext (s2:=t) (fun u hu=>by rw[b2,pE i2 hu]) (fun p hp=>b4 _ _ fun hm=>mI i5 hm hp) (fun h=>⟨ia h,ia1 h⟩)
 refine⟨t,s2',b1,c1,fun u=>?_,fun x y=>?_⟩
 ·rw[c2,b2,hs2,hs1]
  exact(IK i3 u).symm
 ·by_cases h1:(x,y)∈a.wr
  ·rw[c3 x y h1,b5 x y fun hm=>mI i4 h1 (List.mem_append_right _ hm)]
  ·rw[c4 x y h1]
   by_cases h2:(x,y)∈b.wr
   ·rw[b3 x y h2]
   ·rw[b4 x y h2,b5 x y h2,a4 x y h1]
def Run (P:Program):List cV→S→S→Prop
 | [],s,t=>Eqv s t
 | r::l,s,t=>∃ s1,mC P r s s1∧Run P l s1 t
theorem Eqv.refl (s:S):Eqv s s:=⟨fun _=>rfl,fun _ _=>rfl⟩
theorem Eqv.symm {s t:S} (h:Eqv s t):Eqv t s:=⟨fun a=>(h.1 a).symm,fun a b=>(h.2 a b).symm⟩
theorem Eqv.trans {s t u:S} (h:Eqv s t) (h':Eqv t u):Eqv s u:=⟨fun a=>(h.1 a).trans (h'.1 a),fun a b=>(h.2 a b).trans (h'.2 a b)⟩
def HL (l:List cV) (H:Heap):Prop:=∀ r∈l,r.id∈r.wr→(hget H r.id.1 r.id.2).isSome
theorem mC.have {P:Program} {r:cV} {s t:S} (h:mC P r s t) {l:List cV} (hr:r.id∈r.wr→(hget s.2 r.id.1 r.id.2).isSome) (hl:HL l s.2):HL l t.2:=by
 obtain⟨_,_,_,_,_,a4,a5⟩:=h.ext (s2:=s) (fun _ _=>rfl) (fun _ _=>rfl) (fun h=>⟨hr h,hr h⟩)
 intro q hq hm
 by_cases hw:(q.id.1,q.id.2)∈r.wr
 ·exact a5 _ _ hw
 ·rw[a4 _ _ hw]
  exact hl q hq hm
theorem Run.ext {P:Program}:∀ {l:List cV} {s s2 t:S},Run P l s t→Eqv s s2→HL l s.2→Run P l s2 t
 | [],s,s2,t,h,he,_=>he.symm.trans h
 | r::l,s,s2,t,⟨s1,h1,h2⟩,he,hh=>by
  have hr:=hh r (List.mem_cons_self ..)
  obtain⟨s3,q1,q2,q3,q4,q5,q6⟩:=h1.ext (s2:=s2) (fun u _=>(he.1 u).symm) (fun p _=>(he.2 _ _).symm) (fun h=>⟨hr h,by rw[← he.2]; exact hr h⟩)
  refine⟨s3,q1,Run.ext h2 ⟨fun u=>?_,fun a b=>?_⟩ (h1.have hr fun q hq=>hh q (List.mem_cons_of_mem _ hq))⟩
  ·rw[h1.1,q2,i6,i6,he.1]
  ·by_cases hw:(a,b)∈r.wr
   ·rw[q3 a b hw]
   ·rw[q4 a b hw,q5 a b hw,he.2]
theorem Run.bubble {P:Program} {r:cV} {B:List cV}:∀ {A:List cV} {s t:S},Run P (A++r::B) s t→(∀ a∈A,jG a r=true)→HL (A++r::B) s.2→∃ s1,mC P r s s1∧Run P (A++B) s1 t
 | [],s,t,h,_,_=>h
 | a::A,s,t,⟨s1,h1,h2⟩,hi,hh=>by
  have ha:=hh a (List.mem_cons_self ..)
  have hrr:=hh r (by simp)
  have h1':HL (A++r::B) s1.2:=h1.have ha fun q hq=>hh q (List.mem_cons_of_mem _ hq)
  obtain⟨s2,q1,q2⟩:=Run.bubble h2 (fun x hx=>hi x (List.mem_cons_of_mem _ hx)) h1'
  obtain⟨u,s2',p1,p2,p3⟩:=h1.swap q1 (hi a (List.mem_cons_self ..)) ha hrr
  refine⟨u,p1,s2',p2,Run.ext q2 p3.symm ?_⟩
  exact q1.have (h1' r (by simp)) fun q hq=>h1' q ((List.mem_append.1 hq).elim (fun h=>List.mem_append_left _ h) fun h=>List.mem_append_right _ (List.mem_cons_of_mem _ h))
end Go.Av
namespace Go.Av
inductive xW:List (Nat×cV)→List Nat→Prop
 | nil:xW [] []
 | cons (A:List (Nat×cV)) (i:Nat) (r:cV) (B:List (Nat×cV)) (l:List Nat) (h:∀ a∈A,jG a.2 r=true) (hs:xW (A++B) l):xW (A++(i,r)::B) (i::l)
theorem bJ.eqv {M J H H'} {h:Array Obj} (hH:bJ M J H h) (he:∀ a b,hget H a b=hget H' a b):bJ M J H' h:=
 ⟨fun g i x hx=>hH.blk g i x (by rw[he]; exact hx),fun g i g' i' l l' β ⟨x,hx,hl⟩ ⟨y,hy,hl'⟩=>hH.inj g i g' i' l l' β ⟨x,by rw[he]; exact hx,hl⟩ ⟨y,by rw[he]; exact hy,hl'⟩,
  fun g i l β ⟨x,hx,hl⟩=>hH.out g i l β ⟨x,by rw[he]; exact hx,hl⟩,fun g i l hJ=>by rw[← he]; exact hH.dom g i l hJ⟩
theorem bL.eqv {k M J H w M' J' H' H'' w'} (h:bL k M J H w M' J' H' w') (he:∀ a b,hget H' a b=hget H'' a b):bL k M J H w M' J' H'' w':=
 { h with hrep:=h.hrep.eqv he,live:=fun g i l β ⟨x,hx,hl⟩=>h.live g i l β ⟨x,by rw[he]; exact hx,hl⟩ }
theorem sV {P:Program} {N k:Nat} {ops:Array Oper} {t:S} {rem:List (Nat×cV)} {l:List Nat} (hsch:xW rem l):
  (∀ p∈rem,∃ o,ops[p.1]?=some o∧oD P N ops o=some p.2.x)→(rem.map (·.2.id)).Nodup→∀(s:S) M J tmps w,bM N M J s.1 tmps→bJ M J s.2 w.heap→bT M w.heap→Run P (rem.map (·.2)) s t →
   (∀ p∈rem,(hget s.2 p.2.id.1 p.2.id.2).isSome∧J p.2.id.1 p.2.id.2=none) →
   ∀ Q,(∀ a' w',CV k N M J s.2 w (fun fr H=>fr=t.1∧H=t.2) a' w'→Q Exit.normal a' w')→wpOps P ops Q l ⟨tmps,[]⟩ w:=by
 induction hsch with
 | nil=>
  intro _ _ s M J tmps w hF hH hM hrun _ Q hQ
  refine hQ _ _ ⟨M,J,t.1,t.2,(bL.refl k hH hM).eqv hrun.2,⟨hF.1,fun u=>?_⟩,rfl,rfl,rfl⟩
  rw[← hrun.1]
  exact hF.2 u
 | cons A i r B l hi hs ih=>
  intro hops hnd s M J tmps w hF hH hM hrun hids Q hQ
  have hmem:(i,r)∈A++(i,r)::B:=List.mem_append_right _ (List.mem_cons_self ..)
  have hsub:∀ p∈A++B,p∈A++(i,r)::B:=fun p hp=>(List.mem_append.1 hp).elim (fun h=>List.mem_append_left _ h) fun h=>List.mem_append_right _ (List.mem_cons_of_mem _ h)
  obtain⟨o0,ho,hc⟩:=hops _ hmem
  obtain⟨c1,c2,c3⟩:=gP hc
  simp only[List.map_append,List.map_cons] at hrun
  have hhave:HL (A.map (·.2)++r::B.map (·.2)) s.2:=by
   intro q hq _
   have:∃ p∈A++(i,r)::B,p.2=q:=by
    rcases List.mem_append.1 hq with h | h
    ·obtain⟨p,hp,rfl⟩:=List.mem_map.1 h
     exact⟨p,List.mem_append_left _ hp,rfl⟩
    ·cases h with
     | head=>exact⟨(i,r),hmem,rfl⟩
     | tail _ h=>
      obtain⟨p,hp,rfl⟩:=List.mem_map.1 h
      exact⟨p,List.mem_append_right _ (List.mem_cons_of_mem _ hp),rfl⟩
   obtain⟨p,hp,rfl⟩:=this
   exact(hids p hp).1
  obtain⟨s1,hstep,hrest⟩:=Run.bubble hrun (fun a ha=>by
   obtain⟨p,hp,rfl⟩:=List.mem_map.1 ha
   exact hi p hp) hhave
  have hid:=hids _ hmem
  have hne:∀ p∈A++B,p.2.id≠r.id:=by
   intro p hp e
   simp only[List.map_append,List.map_cons] at hnd
   rw[List.nodup_append] at hnd
   rcases List.mem_append.1 hp with h | h
   ·exact hnd.2.2 p.2.id (List.mem_map.2 ⟨p,h,rfl⟩) r.id (List.mem_cons_self ..) e
   ·have:=(List.nodup_cons.1 hnd.2.1).1
    exact this (List.mem_map.2 ⟨p,h,e⟩)
  have hnd':((A++B).map (·.2.id)).Nodup:=by
   simp only[List.map_append,List.map_cons] at hnd ⊢
   rw[List.nodup_append] at hnd ⊢
   exact⟨hnd.1,(List.nodup_cons.1 hnd.2.1).2,fun a ha b hb=>hnd.2.2 a ha b (List.mem_cons_of_mem _ hb)⟩
  have hkeep:∀ p∈A++B,(hget s1.2 p.2.id.1 p.2.id.2).isSome:=by
   intro p hp
   obtain⟨_,_,_,_,_,a4,a5⟩:=hstep.ext (s2:=s) (fun _ _=>rfl) (fun _ _=>rfl) (fun _=>⟨hid.1,hid.1⟩)
   by_cases hw:(p.2.id.1,p.2.id.2)∈r.wr
   ·exact a5 _ _ hw
   ·rw[a4 _ _ hw]
    exact(hids p (hsub p hp)).1
  have hrest':Run P ((A++B).map (·.2)) s1 t:=by rw[List.map_append]; exact hrest
  have go:∀(M':Mem) (J':Inj) (tmps':Array Value) (w':World),bL k M J s.2 w M' J' s1.2 w'→bM N M' J' s1.1 tmps'→(∀ g i,¬ (g=r.id.1∧i=r.id.2)→J' g i=J g i)→wpOps P ops Q l ⟨tmps',[]⟩ w':=by
   intro M' J' tmps' w' hst hF' hJ'
   refine ih (fun p hp=>hops p (hsub p hp)) hnd' s1 M' J' tmps' w' hF' hst.hrep hst.mrep hrest' (fun p hp=>⟨hkeep p hp,?_⟩) Q fun a' w'' hp=>hQ a' w'' ?_
   ·rw[hJ' _ _ fun⟨e1,e2⟩=>hne p hp (Prod.ext e1 e2)]
    exact(hids p (hsub p hp)).2
   ·obtain⟨M2,J2,fr2,H2,q1,q2,q3,q4⟩:=hp
    exact⟨M2,J2,fr2,H2,hst.trans q1,q2,q3,q4⟩
  obtain⟨hf,hcase⟩:=hstep
  rcases hcase with⟨h1,o,h2,h3,h4,h5⟩ | ⟨h1,h2,h3,h4,hcall⟩ | ⟨h1,h2,h3,h4,h5⟩
  ·have hw:=fX hF c2 h1
   rw[h2] at c3
   obtain⟨cv,w',J',hrun',hrep,hext,hst,hJ'⟩:=yL (ds:=[]) c3 hF hH hM (.inl hid.1) hid.2 h3
   simp only[wpOps,ho,hw,if_true]
   left
   have hnext:wpOps P ops Q l (Act.put ⟨tmps,[]⟩ o0.dst cv) w':=by
    rw[eV]
    refine go M J' _ w' (hst k) ?_ hJ'
    rw[hf]
    exact(hF.ext hext).put c1 hrep
   rcases hrun' with hrun' | ⟨hrun',rfl⟩
   ·simp only[Oper.wp,hrun',Oper.upon]; exact hnext
   ·simp only[Oper.wp,hrun',Oper.upon]; exact hnext
  ·have hw:=fX hF c2 h1
   simp only[wpOps,ho,hw,if_true]
   left
   rcases hcall with⟨f,args,h5,h6⟩ | ⟨f,args,g,fs,cs,h5,hfv,h6⟩
   ·rw[h5] at c3
    obtain⟨args',ts,hop,rfl⟩:=yI c3
    obtain⟨e1,e2⟩:=fE (ds:=[]) hF args'.toList _ rfl args' rfl
    have hexec:(execOp (Act.eval ⟨tmps,[]⟩) o0).run P w=.ok (.enter f (args'.map (Act.eval ⟨tmps,[]⟩))) w:=by
     have he:Act.eval ⟨tmps,[]⟩ (.func f)=.func (.func f) #[] #[]:=rfl
     simp only[execOp,hop,resolve,he,Deferred.ofValue,Sem.run_bind,Sem.run_pure,Result.andThen_ok,invoke]
     rw[show #[]++args'.map (Act.eval ⟨tmps,[]⟩)++#[]=args'.map (Act.eval ⟨tmps,[]⟩) by simp]
     exact fY h6.1 _ _
    simp only[Oper.wp,hexec,Oper.upon]
    refine(h6.2 M J w _ e1 e2 hM).mono ?_
    rintro e w' ⟨cv,M',rfl,p1,p2,p3,p4,p5,p6,p7,p8,p9⟩
    simp only
    rw[eV]
    refine go M' J _ w' ((aD.step k hH p1 p2 p3 p4 p5 p6 p7 p8).eqv fun a b=>(h4 a b).symm) ?_ fun _ _ _=>rfl
    rw[hf]
    exact(hF.ext ⟨p1,fun _ _ _ h=>h⟩).put c1 (p9 J)
   ·rw[h5] at c3
    obtain⟨t,args',ts,hop,rfl,rfl⟩:=pP c3
    obtain⟨e1,e2⟩:=fE (ds:=[]) hF args'.toList _ rfl args' rfl
    have hfr:=bA (ds:=[]) hF (.tmp t)
    rw[hfv] at hfr
    generalize hfe:Act.eval ⟨tmps,[]⟩ (.tmp t)=fv at hfr
    cases hfr with
    | clo _ _ _ cfs ccs r1 r2 r3 r4=>
     have hexec:(execOp (Act.eval ⟨tmps,[]⟩) o0).run P w=.ok (.enter g (cfs++args'.map (Act.eval ⟨tmps,[]⟩)++ccs)) w:=by
      simp only[execOp,hop,resolve,hfe,Deferred.ofValue,Sem.run_bind,Sem.run_pure,Result.andThen_ok,invoke]
      exact fY h6.1 _ _
     simp only[Oper.wp,hexec,Oper.upon]
     refine(h6.2 M J w _ (by simp only[List.length_append,Array.size_append]; omega) (fun j c v hc' hv'=>?_) hM).mono ?_
     ·rw[List.getElem?_append] at hc'
      rw[Array.getElem?_append] at hv'
      simp only[List.length_append,Array.size_append] at hc' hv'
      rw[e1,r1] at hc'
      split at hc'
      ·rename_i hj
       rw[if_pos hj] at hv'
       rw[List.getElem?_append] at hc'
       rw[Array.getElem?_append] at hv'
       rw[r1] at hc'
       split at hc'
       ·rename_i hj2
        rw[if_pos hj2] at hv'
        exact r3 j c v hc' hv'
       ·rename_i hj2
        rw[if_neg hj2] at hv'
        exact e2 _ c v hc' hv'
      ·rename_i hj
       rw[if_neg hj] at hv'
       exact r4 _ c v hc' hv'
     ·rintro e w' ⟨cv,M',rfl,p1,p2,p3,p4,p5,p6,p7,p8,p9⟩
      simp only
      rw[eV]
      refine go M' J _ w' ((aD.step k hH p1 p2 p3 p4 p5 p6 p7 p8).eqv fun a b=>(h4 a b).symm) ?_ fun _ _ _=>rfl
      rw[hf]
      exact(hF.ext ⟨p1,fun _ _ _ h=>h⟩).put c1 (p9 J)
  ·have hw:=fX hF c2 h1
   simp only[wpOps,ho,hw,Bool.false_eq_true,if_false]
   rw[eV]
   refine go M J _ w ((bL.refl k hH hM).eqv fun a b=>(h5 a b).symm) ?_ fun _ _ _=>rfl
   rw[hf,h4]
   exact hF.put c1 (.sc _)
inductive Bef (af:Nat→List Nat):Nat→Nat→Prop
 | base {a b:Nat} (h:a∈af b):Bef af a b
 | step {a m b:Nat} (h:m∈af b) (h':Bef af a m):Bef af a b
theorem Bef.closed {af:Nat→List Nat} {D:Nat→Prop} (hD:∀ j,D j→∀ k∈af j,D k) {a b:Nat} (h:Bef af a b) (hb:∀ k∈af b,D k):D a:=by
 induction h with
 | base h=>exact hb _ h
 | step h _ ih=>exact ih (hD _ (hb _ h))
def cF (ops:Array Oper) (j:Nat):List Nat:=match ops[j]? with | some o=>d8 o | none=>[]
inductive cX (I:Nat→Nat→Prop):List Nat→List Nat→Prop
 | nil:cX I [] []
 | cons (A:List Nat) (i:Nat) (B:List Nat) (l:List Nat) (h:∀ a∈A,I a i) (hs:cX I (A++B) l):cX I (A++i::B) (i::l)
theorem cX.to {I:Nat→Nat→Prop} {R:Nat→cV} (hI:∀ a b,I a b→jG (R a) (R b)=true) {rem l:List Nat} (h:cX I rem l):xW (rem.map fun j=>(j,R j)) l:=by
 induction h with
 | nil=>exact .nil
 | cons A i B l h _ ih=>
  simp only[List.map_append,List.map_cons] at ih ⊢
  refine .cons _ _ _ _ _ (fun a ha=>?_) ih
  obtain⟨a',ha',rfl⟩:=List.mem_map.1 ha
  exact hI _ _ (h a' ha')
theorem cX.nil_inv {I:Nat→Nat→Prop} {rem l:List Nat} (h:cX I rem l) (e:rem=[]):l=[]:=by
 cases h with
 | nil=>rfl
 | cons=>simp at e
theorem cX.last {I:Nat→Nat→Prop} {n:Nat} (hn:∀ a,¬ I a n) {all l:List Nat} (h:cX I all l):∀ rem:List Nat,n∉rem→all=rem++[n]→∃ l',l=l'++[n]∧cX I rem l':=by
 induction h with
 | nil=>intro rem _ e; simp at e
 | cons A i B l h hs ih=>
  intro rem hnr e
  rcases List.eq_nil_or_concat B with rfl | ⟨B',b,rfl⟩
  ·have h1:A=rem∧i=n:=by
    have:=List.append_inj' e rfl
    exact⟨this.1,by simpa using this.2⟩
   obtain⟨rfl,rfl⟩:=h1
   cases A with
   | nil=>
    have:=hs.nil_inv rfl
    subst this
    exact⟨[],rfl,.nil⟩
   | cons a A=>exact absurd (h a (List.mem_cons_self ..)) (hn a)
  ·have h1:A++i::B'=rem∧b=n:=by
    rw[show A++i::(B'.concat b)=(A++i::B')++[b] by simp] at e
    have:=List.append_inj' e rfl
    exact⟨this.1,by simpa using this.2⟩
   obtain⟨rfl,rfl⟩:=h1
   obtain⟨l',h2,h3⟩:=ih (A++B') (by simp at hnr ⊢; exact⟨hnr.1,hnr.2.2⟩) (by simp)
   exact⟨i::l',by rw[h2]; rfl,.cons _ _ _ _ h h3⟩
theorem eM (ops:Array Oper) (I:Nat→Nat→Prop) (hlt:∀ j,∀ k∈cF ops j,k < j) (hind:∀ a b,a < b→b < ops.size→Bef (cF ops) a b∨I a b) (t:Nat):
  cX I (List.range ops.size) (Region.linearise .any ops t):=by
 have key:∀(fuel t:Nat) (listed:Array Bool) (acc:List Nat),listed.size=ops.size→(∀ j,listed.getD j false=true→∀ k∈cF ops j,listed.getD k false=true) →
   ((List.range ops.size).filter fun j=>!listed.getD j true).length≤fuel →
   ∃ l,Region.linearise.go .any ops fuel t listed acc=acc.reverse++l∧cX I ((List.range ops.size).filter fun j=>!listed.getD j true) l:=by
  intro fuel
  induction fuel with
  | zero=>
   intro t listed acc _ _ hf
   have:((List.range ops.size).filter fun j=>!listed.getD j true)=[]:=List.eq_nil_of_length_eq_zero (by omega)
   rw[this]
   exact⟨[],by simp[Region.linearise.go],.nil⟩
  | succ fuel ih=>
   intro t listed acc hsz hcl hf
   unfold Region.linearise.go
   simp only
   generalize hrs:((List.range ops.size).filter fun i=>!listed.getD i true && ((ops[i]?).map (fun o=>o.after.all fun e=>!Region.binds .any e || listed.getD e.on false)).getD false)=rs
   have hrdy:∀ i,i∈rs↔i < ops.size∧listed.getD i true=false∧∀ k∈cF ops i,listed.getD k false=true:=by
    intro i
    rw[← hrs,List.mem_filter,List.mem_range]
    constructor
    ·rintro⟨h1,h2⟩
     simp only[Bool.and_eq_true,Bool.not_eq_true'] at h2
     refine⟨h1,h2.1,fun k hk=>?_⟩
     have ho:ops[i]?=some ops[i]:=Array.getElem?_eq_getElem h1
     have h3:=h2.2
     rw[ho] at h3
     simp only[Option.map_some,Option.getD_some,Array.all_eq_true] at h3
     simp only[cF,ho,d8,List.mem_map,List.mem_filter] at hk
     obtain⟨e,⟨he,hbind⟩,rfl⟩:=hk
     obtain⟨q,hq,rfl⟩:=List.mem_iff_getElem.1 he
     simp at hq
     have:=h3 q hq
     simp only[Array.getElem_toList] at hbind ⊢
     rw[hbind] at this
     simpa using this
    ·rintro⟨h1,h2,h3⟩
     refine⟨h1,?_⟩
     have ho:ops[i]?=some ops[i]:=Array.getElem?_eq_getElem h1
     simp only[h2,Bool.not_false,Bool.true_and,ho,Option.map_some,Option.getD_some,Array.all_eq_true]
     intro q hq
     cases hb:Region.binds .any ops[i].after[q] with
     | false=>simp
     | true=>
      simp only[Bool.not_true,Bool.false_or]
      refine h3 _ ?_
      simp only[cF,ho,d8,List.mem_map,List.mem_filter]
      exact⟨ops[i].after[q],⟨by simp,hb⟩,rfl⟩
   have hgetD:∀ j,j < ops.size→listed.getD j true=listed.getD j false:=by
    intro j hj
    have:j < listed.size:=by omega
    simp[Array.getD,this]
   by_cases hemp:((List.range ops.size).filter fun j=>!listed.getD j true)=[]
   ·have:rs=[]:=by
     cases hr:rs with
     | nil=>rfl
     | cons i r=>
      have hi:=(hrdy i).1 (by rw[hr]; exact List.mem_cons_self ..)
      have:i∈((List.range ops.size).filter fun j=>!listed.getD j true):=List.mem_filter.2 ⟨List.mem_range.2 hi.1,by simp[hi.2.1]⟩
      rw[hemp] at this
      cases this
    rw[this,hemp]
    exact⟨[],by simp,.nil⟩
   ·-- the first that is not listed is ready
    have hne:rs≠[]:=by
     intro hnil
     have hall:∀ j,j < ops.size→listed.getD j false=true:=by
      intro j
      induction j using Nat.strongRecOn with
      | _ j ihj=>
       intro hj
       cases hl:listed.getD j false with
       | true=>rfl
       | false=>
        have:j∈rs:=(hrdy j).2 ⟨hj,by rw[hgetD j hj]; exact hl,fun k hk=>ihj k (hlt j k hk) (by have:=hlt j k hk; omega)⟩
        rw[hnil] at this
        cases this
     apply hemp
     rw[List.filter_eq_nil_iff]
     intro j hj
     have hj:=List.mem_range.1 hj
     simp[hgetD j hj,hall j hj]
    have hpos:0 < rs.length:=List.length_pos_iff.2 hne
    have hmod:t % rs.length < rs.length:=Nat.mod_lt _ hpos
    rw[gEg hmod]
    generalize hi:rs[t % rs.length]=i
    have himem:i∈rs:=hi▸List.getElem_mem hmod
    obtain⟨r1,r2,r3⟩:=(hrdy i).1 himem
    have hifil:i∈((List.range ops.size).filter fun j=>!listed.getD j true):=List.mem_filter.2 ⟨List.mem_range.2 r1,by simp[r2]⟩
    obtain⟨A,B,hAB⟩:=List.append_of_mem hifil
    have hpw:List.Pairwise (· < ·) ((List.range ops.size).filter fun j=>!listed.getD j true):=List.Pairwise.filter _ List.pairwise_lt_range
    rw[hAB] at hpw
    have hA:∀ a∈A,a < i:=fun a ha=>(List.pairwise_append.1 hpw).2.2 a ha i (List.mem_cons_self ..)
    have hB:∀ b∈B,i < b:=fun b hb=>(List.pairwise_cons.1 (List.pairwise_append.1 hpw).2.1).1 b hb
    have hget':∀ j,(listed.setIfInBounds i true).getD j true=(listed.getD j true || decide (j=i)):=by
     intro j
     rw[Array.getD_eq_getD_getElem?,Array.getElem?_setIfInBounds,Array.getD_eq_getD_getElem?]
     by_cases e:i=j
     ·subst e
      rw[if_pos rfl,if_pos (by omega)]
      simp
     ·rw[if_neg e]
      have:decide (j=i)=false:=by simp; exact fun h=>e h.symm
      rw[this,Bool.or_false]
    have hget'':∀ j,(listed.setIfInBounds i true).getD j false=true↔(listed.getD j false=true∨j=i):=by
     intro j
     rw[Array.getD_eq_getD_getElem?,Array.getElem?_setIfInBounds,Array.getD_eq_getD_getElem?]
     by_cases e:i=j
     ·subst e
      rw[if_pos rfl,if_pos (by omega)]
      simp
     ·rw[if_neg e]
      constructor
      ·exact fun h=>.inl h
      ·rintro(h | h)
       ·exact h
       ·exact absurd h.symm e
    have hfil':((List.range ops.size).filter fun j=>!(listed.setIfInBounds i true).getD j true)=A++B:=by
     have h1:((List.range ops.size).filter fun j=>!(listed.setIfInBounds i true).getD j true)=((List.range ops.size).filter fun j=>!listed.getD j true).filter fun j=>!decide (j=i):=by
      rw[List.filter_filter]
      congr 1
      funext j
      rw[hget']
      cases listed.getD j true<;>cases decide (j=i)<;>rfl
     rw[h1,hAB,List.filter_append,List.filter_cons]
     have h2:A.filter (fun j=>!decide (j=i))=A:=List.filter_eq_self.2 fun a ha=>by have:=hA a ha; simp; omega
     have h3:B.filter (fun j=>!decide (j=i))=B:=List.filter_eq_self.2 fun b hb=>by have:=hB b hb; simp; omega
     rw[h2,h3]
     simp
    obtain⟨l,hl1,hl2⟩:=ih (t / rs.length) (listed.setIfInBounds i true) (i::acc) (by simp[hsz]) (by
     intro j hj k hk
     rw[hget''] at hj ⊢
     left
     rcases hj with hj | rfl
     ·exact hcl j hj k hk
     ·exact r3 k hk) (by
     rw[hfil']
     rw[hAB] at hf
     simp at hf ⊢
     omega)
    refine⟨i::l,by
     show Region.linearise.go .any ops fuel (t / rs.length) (listed.setIfInBounds i true) (i::acc)=_
     rw[hl1]; simp,?_⟩
    rw[hfil'] at hl2
    rw[hAB]
    refine .cons _ _ _ _ (fun a' ha'=>?_) hl2
    rcases hind a' i (hA a' ha') r1 with hb | hb
    ·exfalso
     have hlist:=hb.closed (D:=fun j=>listed.getD j false=true) hcl r3
     have hun:a'∈((List.range ops.size).filter fun j=>!listed.getD j true):=by rw[hAB]; exact List.mem_append_left _ ha'
     have:=(List.mem_filter.1 hun)
     rw[hgetD a' (List.mem_range.1 this.1),hlist] at this
     simp at this
    ·exact hb
 obtain⟨l,h1,h2⟩:=key ops.size t (Array.replicate ops.size false) [] (by simp) (by
  intro j hj
  rw[Array.getD_eq_getD_getElem?,Array.getElem?_replicate] at hj
  split at hj<;>simp at hj) (Nat.le_trans (List.length_filter_le _ _) (by simp))
 have hnil:((List.range ops.size).filter fun j=>!(Array.replicate ops.size false).getD j true)=List.range ops.size:=by
  rw[List.filter_eq_self]
  intro j hj
  have hj:=List.mem_range.1 hj
  simp[Array.getD,hj]
 rw[hnil] at h2
 unfold Region.linearise
 rw[h1]
 simpa using h2
theorem tY (ops:Array Oper) (R:Nat→cV) (hlt:∀ j,∀ k∈cF ops j,k < j) (hind:∀ a b,a < b→b < ops.size→Bef (cF ops) a b∨jG (R a) (R b)=true) (t:Nat):
  xW ((List.range ops.size).map fun j=>(j,R j)) (Region.linearise .any ops t):=
 (eM ops (fun a b=>jG (R a) (R b)=true) hlt hind t).to fun _ _ h=>h
end Go.Av
