import Derived.Test.YtkjoolaahocgdaaGreatGWiU4
import Derived.Test.YtkjoolaahocgdaaGreatGAvSo
namespace Go.Proofs.YtkjoolaahocgdaaGreat
open Go.Av Go.Proofs
set_option maxRecDepth 20000
def wKg (n:Nat) (l4:FK) (es:List (List (Nat×Nat))):List FK:=
 .c [(0,0)]::.c [(1,0)]::.c [(2,0)]::.c [(3,0)]::l4::.w 5 n []::.w 6 n []::.w 7 n []::es.map FK.c
theorem idK_c (es:List (List (Nat×Nat))):idK (es.map FK.c)=es:=by
 unfold idK
 rw[List.map_map]
 exact List.map_id _
section
variable {T:AV→AV→Prop} {ρ:Nat→Nat→Option (Nat×Nat)}
theorem ToB.boxW {p:Pg} {ls:List Ln} {seed:Nat} (r1:ρ 1 0=some (1,0)) (r2:ρ 2 0=some (2,0)) (r3:ρ 3 0=some (3,0)):ToB T ρ (.cells 5 [boxW p ls seed]) (.cells 5 [boxW p ls seed]):=
 ToB.one (ToL.cons (.pure (pv (ckV p ls))) (ToL.cons (.sc _) (ToL.cons (To.hslL r1 rfl) (ToL.cons (To.hslL r2 rfl) (ToL.cons (To.hslL r3 rfl) ToL.nil)))))
theorem ToB.procsH {n:Nat} {s:St} {b b':Nat→Nat×Nat} (r4:∀ r,r < n→ρ (b' r).1 (b' r).2=some (b r)) (r5:∀ r,r < n→ρ 5 r=some (5,r)):ToB T ρ (.cells 3 (procsH n s b)) (.cells 3 (YtkjoolaahocgdaaGreat.procsH n s b')):=by
 refine ToB.rowsR (ToR.map fun r hr=>?_)
 have hr:=List.mem_range.1 hr
 exact ToL.cons (.sc _) (ToL.cons (To.hslL (r4 r hr) rfl) (ToL.cons (To.mrefO (r5 r hr)) ToL.nil))
theorem ToB.memH {n:Nat} {s:St} (r6:∀ r,r < n→ρ 6 r=some (6,r)):ToB T ρ (.cells 1 (memH n s)) (.cells 1 (YtkjoolaahocgdaaGreat.memH n s)):=ToB.row1 fun r hr=>To.hslL (r6 r hr) rfl
theorem ToB.heldH {n:Nat} (r7:∀ r,r < n→ρ 7 r=some (7,r)):ToB T ρ (.cells 1 (heldH n)) (.cells 1 (YtkjoolaahocgdaaGreat.heldH n)):=ToB.row1 fun r hr=>To.mrefO (r7 r hr)
theorem ToB.retE (l:List (Nat×Int)):ToB T ρ (.map (retE l)) (.map (YtkjoolaahocgdaaGreat.retE l)):=by
 refine .map _ _ rfl (fun j x y a b=>by rw[a] at b; injection b with b; rw[b]) fun j x y a b=>?_
 rw[a] at b
 injection b with b
 subst b
 obtain⟨z,_,rfl⟩:=List.mem_map.1 (List.mem_of_getElem? a)
 exact .sc _
theorem wg_fams {p:Pg} {ls:List Ln} {s:St} {b b':Nat→Nat×Nat} {F4:List Blk} {l4:FK} {es:List (List (Nat×Nat))} {H Y:Heap} (hρ:ρ=rho (idK (wKg ls.length l4 es)))
  (h0:hget H 0 0=some (.cells 5 [boxW p ls s.seed])) (h1:hget H 1 0=some (.cells 3 (procsH ls.length s b))) (h2:hget H 2 0=some (.cells 1 (memH ls.length s))) (h3:hget H 3 0=some (.cells 1 (heldH ls.length)))
  (h4:famTo (ToB T ρ) H l4.l F4) (h5:∀ r,r < ls.length→hget H 5 r=some (.map (retE (prAt s r).g)))
  (h6:∀ r,r < ls.length→hget H 6 r=some (.cells 1 (intsR (memAt s r)))) (h7:∀ r,r < ls.length→hget H 7 r=some (.map (retE (heldAt s r))))
  (r4:∀ r,r < ls.length→ρ (b' r).1 (b' r).2=some (b r)) (hY:famsTo (ToB T ρ) H es Y):
  famsTo (ToB T ρ) H (idK (wKg ls.length l4 es)) (worldG p ls s b' F4++Y):=by
 subst hρ
 have q5:∀ r,r < ls.length→rho (idK (wKg ls.length l4 es)) 5 r=some (5,r):=fun r hr=>rho_w rfl hr
 have q6:∀ r,r < ls.length→rho (idK (wKg ls.length l4 es)) 6 r=some (6,r):=fun r hr=>rho_w rfl hr
 have q7:∀ r,r < ls.length→rho (idK (wKg ls.length l4 es)) 7 r=some (7,r):=fun r hr=>rho_w rfl hr
 have e:idK (es.map FK.c)=es:=idK_c es
 refine⟨⟨⟨_,h0,ToB.boxW rfl rfl rfl⟩,trivial⟩,⟨⟨_,h1,ToB.procsH r4 q5⟩,trivial⟩,⟨⟨_,h2,ToB.memH q6⟩,trivial⟩,⟨⟨_,h3,ToB.heldH q7⟩,trivial⟩,h4,?_,?_,?_,?_⟩
 ·exact famTo.ofFam fun i hi=>⟨_,h5 i hi,ToB.retE _⟩
 ·exact famTo.ofFam fun i hi=>⟨_,h6 i hi,ToB.rows rfl (prs _)⟩
 ·exact famTo.ofFam fun i hi=>⟨_,h7 i hi,ToB.retE _⟩
 ·show famsTo _ _ (idK (es.map FK.c)) Y
  rw[e]
  exact hY
end
theorem wg_low {k n:Nat} {ps:List (Nat×Nat)} {es:List (List (Nat×Nat))} {x0 x1 x2 x3:Blk} {b4 b5 b6 b7:List Blk} {X:Heap} (h4:b4.length=n) (h5:b5.length=n) (h6:b6.length=n) (h7:b7.length=n) (hk:k≤8):
  lowK 0 k (wKg n (.w 4 n ps) es) ([x0]::[x1]::[x2]::[x3]::b4::b5::b6::b7::X):=by
 have key:lowK 0 8 (wKg n (.w 4 n ps) es) ([x0]::[x1]::[x2]::[x3]::b4::b5::b6::b7::X):=
  ⟨.c _ rfl rfl,.c _ rfl rfl,.c _ rfl rfl,.c _ rfl rfl,.w _ _ (Nat.le_of_eq h4),.w _ _ (Nat.le_of_eq h5),.w _ _ (Nat.le_of_eq h6),.w _ _ (Nat.le_of_eq h7),trivial⟩
 have mono:∀(a j:Nat) (b:Nat) (ks:List FK) (H:Heap),a≤b→lowK j b ks H→lowK j a ks H:=by
  intro a
  induction a with
  | zero=>intro j b ks H _ _; cases ks<;>cases H<;>exact trivial
  | succ a ih=>
   intro j b ks H hab h
   cases b with
   | zero=>omega
   | succ b=>
    cases ks with
    | nil=>exact h.elim
    | cons f r=>
     cases H with
     | nil=>exact h.elim
     | cons F H=>exact⟨h.1,ih (j+1) b r H (by omega) h.2⟩
 exact mono k 0 8 _ _ hk key
theorem endWgL {k:Nat} {rs:List IRes} {fr:Fr} {e:Exit} {R:AV→Heap→Prop} {res:AV} (res':AV) (p:Pg) (ls:List Ln) (s:St) (b b':Nat→Nat×Nat) (F4:List Blk) (ps:List (Nat×Nat)) (es:List (List (Nat×Nat))) (Y:Heap) {b0 b1 b2 b3 b4 b5 b6 b7:List Blk} {X:Heap}
  (hR:R res' (worldG p ls s b' F4++Y))
  (e0:b0=[.cells 5 [boxW p ls s.seed]]) (e1:b1=[.cells 3 (procsH ls.length s b)]) (e2:b2=[.cells 1 (memH ls.length s)]) (e3:b3=[.cells 1 (heldH ls.length)])
  (e5:b5=retF ls.length s) (e6:b6=memF ls.length s) (e7:b7=heldF ls.length s)
  (h4:famTo (ToB (ToT ((b0::b1::b2::b3::b4::b5::b6::b7::X)++gh []) (b0::b1::b2::b3::b4::b5::b6::b7::X).length (notK (wKg ls.length (.w 4 ls.length ps) es))) (rho (idK (wKg ls.length (.w 4 ls.length ps) es)))) ((b0::b1::b2::b3::b4::b5::b6::b7::X)++gh []) (FK.w 4 ls.length ps).l F4)
  (r4:∀ r,r < ls.length→rho (idK (wKg ls.length (.w 4 ls.length ps) es)) (b' r).1 (b' r).2=some (b r))
  (hY:famsTo (ToB (ToT ((b0::b1::b2::b3::b4::b5::b6::b7::X)++gh []) (b0::b1::b2::b3::b4::b5::b6::b7::X).length (notK (wKg ls.length (.w 4 ls.length ps) es))) (rho (idK (wKg ls.length (.w 4 ls.length ps) es)))) ((b0::b1::b2::b3::b4::b5::b6::b7::X)++gh []) es Y)
  (hlow:lowK 0 k (wKg ls.length (.w 4 ls.length ps) es) ((b0::b1::b2::b3::b4::b5::b6::b7::X)++gh [])) (he:e=.normal∨e=.ret:=by first | exact .inr rfl | exact .inl rfl) (hres:resOf fr (b0::b1::b2::b3::b4::b5::b6::b7::X) rs=some res:=by rfl)
  (hr:To (ToT ((b0::b1::b2::b3::b4::b5::b6::b7::X)++gh []) (b0::b1::b2::b3::b4::b5::b6::b7::X).length (notK (wKg ls.length (.w 4 ls.length ps) es))) (rho (idK (wKg ls.length (.w 4 ls.length ps) es))) res res':=by(all_goals exact tocW))
  (hok:okK (wKg ls.length (.w 4 ls.length ps) es)=true:=by rfl):
  (e=.normal∨e=.ret)∧∃ res res' H2,resOf fr (b0::b1::b2::b3::b4::b5::b6::b7::X) rs=some res∧SubV k (b0::b1::b2::b3::b4::b5::b6::b7::X) res H2 res'∧R res' H2:=by
 subst e0 e1 e2 e3 e5 e6 e7
 refine endKs (wKg ls.length (.w 4 ls.length ps) es) hR he hres hr (wg_fams rfl rfl rfl rfl rfl h4 (fun r hr=>fam_get hr) (fun r hr=>fam_get hr) (fun r hr=>fam_get hr) r4 hY) hlow hok
theorem Sub.wgL {k N:Nat} {fr fr':Fr} (p:Pg) (ls:List Ln) (s:St) (b b':Nat→Nat×Nat) (F4:List Blk) (szs:List Nat) (ps:List (Nat×Nat)) (es:List (List (Nat×Nat))) (Y:Heap) {b0 b1 b2 b3 b4 b5 b6 b7:List Blk} {X:Heap}
  (h5:ToAll (ToT ((b0::b1::b2::b3::b4::b5::b6::b7::X)++gh szs) (b0::b1::b2::b3::b4::b5::b6::b7::X).length (notK (wKg ls.length (.w 4 ls.length ps) es))) (rho (idK (wKg ls.length (.w 4 ls.length ps) es))) fr fr')
  (e0:b0=[.cells 5 [boxW p ls s.seed]]) (e1:b1=[.cells 3 (procsH ls.length s b)]) (e2:b2=[.cells 1 (memH ls.length s)]) (e3:b3=[.cells 1 (heldH ls.length)])
  (e5:b5=retF ls.length s) (e6:b6=memF ls.length s) (e7:b7=heldF ls.length s)
  (h4:famTo (ToB (ToT ((b0::b1::b2::b3::b4::b5::b6::b7::X)++gh szs) (b0::b1::b2::b3::b4::b5::b6::b7::X).length (notK (wKg ls.length (.w 4 ls.length ps) es))) (rho (idK (wKg ls.length (.w 4 ls.length ps) es)))) ((b0::b1::b2::b3::b4::b5::b6::b7::X)++gh szs) (FK.w 4 ls.length ps).l F4)
  (r4:∀ r,r < ls.length→rho (idK (wKg ls.length (.w 4 ls.length ps) es)) (b' r).1 (b' r).2=some (b r))
  (hY:famsTo (ToB (ToT ((b0::b1::b2::b3::b4::b5::b6::b7::X)++gh szs) (b0::b1::b2::b3::b4::b5::b6::b7::X).length (notK (wKg ls.length (.w 4 ls.length ps) es))) (rho (idK (wKg ls.length (.w 4 ls.length ps) es)))) ((b0::b1::b2::b3::b4::b5::b6::b7::X)++gh szs) es Y)
  (hlow:lowK 0 k (wKg ls.length (.w 4 ls.length ps) es) ((b0::b1::b2::b3::b4::b5::b6::b7::X)++gh szs)) 
  (hok:okK (wKg ls.length (.w 4 ls.length ps) es)=true:=by rfl):
  Sub k N fr (b0::b1::b2::b3::b4::b5::b6::b7::X) fr' (worldG p ls s b' F4++Y):=by
 subst e0 e1 e2 e3 e5 e6 e7
 have hg:∀ {g i:Nat} {H G:Heap} {x:Blk},hget H g i=some x→hget (H++G) g i=some x:=fun h=>hget_app1 h
 refine Sub.toK szs (wKg ls.length (.w 4 ls.length ps) es) h5 (wg_fams rfl rfl rfl rfl rfl h4 (fun r hr=>fam_get hr) (fun r hr=>fam_get hr) (fun r hr=>fam_get hr) r4 hY) hlow hok
theorem endWg {k:Nat} {rs:List IRes} {fr:Fr} {e:Exit} {R:AV→Heap→Prop} {res:AV} (res':AV) (p:Pg) (ls:List Ln) (s:St) (b b':Nat→Nat×Nat) (F4:List Blk) (ps:List (Nat×Nat)) (es:List (List (Nat×Nat))) (Y:Heap) {b0 b1 b2 b3 b4 b5 b6 b7:List Blk} {X:Heap}
  (hR:R res' (worldG p ls s b' F4++Y))
  (e0:b0=[.cells 5 [boxW p ls s.seed]]) (e1:b1=[.cells 3 (procsH ls.length s b)]) (e2:b2=[.cells 1 (memH ls.length s)]) (e3:b3=[.cells 1 (heldH ls.length)]) (e4:b4.length=ls.length)
  (e5:b5=retF ls.length s) (e6:b6=memF ls.length s) (e7:b7=heldF ls.length s)
  (h4:famTo (ToB (ToT ((b0::b1::b2::b3::b4::b5::b6::b7::X)++gh []) (b0::b1::b2::b3::b4::b5::b6::b7::X).length (notK (wKg ls.length (.w 4 ls.length ps) es))) (rho (idK (wKg ls.length (.w 4 ls.length ps) es)))) ((b0::b1::b2::b3::b4::b5::b6::b7::X)++gh []) (FK.w 4 ls.length ps).l F4)
  (r4:∀ r,r < ls.length→rho (idK (wKg ls.length (.w 4 ls.length ps) es)) (b' r).1 (b' r).2=some (b r))
  (hY:famsTo (ToB (ToT ((b0::b1::b2::b3::b4::b5::b6::b7::X)++gh []) (b0::b1::b2::b3::b4::b5::b6::b7::X).length (notK (wKg ls.length (.w 4 ls.length ps) es))) (rho (idK (wKg ls.length (.w 4 ls.length ps) es)))) ((b0::b1::b2::b3::b4::b5::b6::b7::X)++gh []) es Y)
  (hk:k≤8:=by exact nlB rfl) (he:e=.normal∨e=.ret:=by first | exact .inr rfl | exact .inl rfl) (hres:resOf fr (b0::b1::b2::b3::b4::b5::b6::b7::X) rs=some res:=by rfl)
  (hr:To (ToT ((b0::b1::b2::b3::b4::b5::b6::b7::X)++gh []) (b0::b1::b2::b3::b4::b5::b6::b7::X).length (notK (wKg ls.length (.w 4 ls.length ps) es))) (rho (idK (wKg ls.length (.w 4 ls.length ps) es))) res res':=by(all_goals exact tocW))
  (hok:okK (wKg ls.length (.w 4 ls.length ps) es)=true:=by rfl):
  (e=.normal∨e=.ret)∧∃ res res' H2,resOf fr (b0::b1::b2::b3::b4::b5::b6::b7::X) rs=some res∧SubV k (b0::b1::b2::b3::b4::b5::b6::b7::X) res H2 res'∧R res' H2:=
 endWgL res' p ls s b b' F4 ps es Y hR e0 e1 e2 e3 e5 e6 e7 h4 r4 hY (by subst e0 e1 e2 e3; exact wg_low e4 (by rw[e5]; exact fam_len _ _) (by rw[e6]; exact fam_len _ _) (by rw[e7]; exact fam_len _ _) hk) he hres hr hok
theorem Sub.wg {k N:Nat} {fr fr':Fr} (p:Pg) (ls:List Ln) (s:St) (b b':Nat→Nat×Nat) (F4:List Blk) (szs:List Nat) (ps:List (Nat×Nat)) (es:List (List (Nat×Nat))) (Y:Heap) {b0 b1 b2 b3 b4 b5 b6 b7:List Blk} {X:Heap}
  (h5:ToAll (ToT ((b0::b1::b2::b3::b4::b5::b6::b7::X)++gh szs) (b0::b1::b2::b3::b4::b5::b6::b7::X).length (notK (wKg ls.length (.w 4 ls.length ps) es))) (rho (idK (wKg ls.length (.w 4 ls.length ps) es))) fr fr')
  (e0:b0=[.cells 5 [boxW p ls s.seed]]) (e1:b1=[.cells 3 (procsH ls.length s b)]) (e2:b2=[.cells 1 (memH ls.length s)]) (e3:b3=[.cells 1 (heldH ls.length)]) (e4:b4.length=ls.length)
  (e5:b5=retF ls.length s) (e6:b6=memF ls.length s) (e7:b7=heldF ls.length s)
  (h4:famTo (ToB (ToT ((b0::b1::b2::b3::b4::b5::b6::b7::X)++gh szs) (b0::b1::b2::b3::b4::b5::b6::b7::X).length (notK (wKg ls.length (.w 4 ls.length ps) es))) (rho (idK (wKg ls.length (.w 4 ls.length ps) es)))) ((b0::b1::b2::b3::b4::b5::b6::b7::X)++gh szs) (FK.w 4 ls.length ps).l F4)
  (r4:∀ r,r < ls.length→rho (idK (wKg ls.length (.w 4 ls.length ps) es)) (b' r).1 (b' r).2=some (b r))
  (hY:famsTo (ToB (ToT ((b0::b1::b2::b3::b4::b5::b6::b7::X)++gh szs) (b0::b1::b2::b3::b4::b5::b6::b7::X).length (notK (wKg ls.length (.w 4 ls.length ps) es))) (rho (idK (wKg ls.length (.w 4 ls.length ps) es)))) ((b0::b1::b2::b3::b4::b5::b6::b7::X)++gh szs) es Y)
  (hk:k≤8:=by exact nlB rfl) 
  (hok:okK (wKg ls.length (.w 4 ls.length ps) es)=true:=by rfl):
  Sub k N fr (b0::b1::b2::b3::b4::b5::b6::b7::X) fr' (worldG p ls s b' F4++Y):=
 Sub.wgL p ls s b b' F4 szs ps es Y h5 e0 e1 e2 e3 e5 e6 e7 h4 r4 hY (by subst e0 e1 e2 e3; exact wg_low e4 (by rw[e5]; exact fam_len _ _) (by rw[e6]; exact fam_len _ _) (by rw[e7]; exact fam_len _ _) hk) hok
theorem pend_same {T:AV→AV→Prop} {ρ:Nat→Nat→Option (Nat×Nat)} {n:Nat} {s:St} {H:Heap} (h:∀ r,r < n→hget H 4 r=some (.cells 1 (natsR (prAt s r).q))):famTo (ToB T ρ) H (FK.w 4 n []).l (pendF n s):=
 famTo.ofFam fun i hi=>⟨_,h i hi,ToB.rows rfl (prs _)⟩
theorem rho_b4 {n:Nat} {ps:List (Nat×Nat)} {es:List (List (Nat×Nat))}:∀ r,r < n→rho (idK (wKg n (.w 4 n ps) es)) (b4 r).1 (b4 r).2=some (b4 r):=fun _ hr=>rho_w rfl hr
theorem Ren.selfW {ρ:Nat→Nat→Option (Nat×Nat)} {xs:List AV} (h:∀ x∈xs,Ren ρ x x):∀(j:Nat) x y,xs[j]?=some x→xs[j]?=some y→Ren ρ x y:=fun j x y a b=>by
 rw[a] at b
 injection b with b
 subst b
 exact h x (List.mem_of_getElem? a)
theorem RenB.selfW {ρ:Nat→Nat→Option (Nat×Nat)} {sz:Nat} {rows:List (List AV)} (h:∀ r∈rows,∀ c∈r,Ren ρ c c):RenB ρ (.cells sz rows) (.cells sz rows):=
 .cells _ _ _ rfl (fun i r r' a b=>by rw[a] at b; injection b with b; subst b; rfl) fun i r r' j x y a b c d=>by
  rw[a] at b
  injection b with b
  subst b
  exact Ren.selfW (h r (List.mem_of_getElem? a)) j x y c d
theorem RenB.mapW {ρ:Nat→Nat→Option (Nat×Nat)} (l:List (Nat×Int)):RenB ρ (.map (retE l)) (.map (retE l)):=by
 refine .map _ _ rfl (fun j x y a b=>by rw[a] at b; injection b with b; rw[b]) fun j x y a b=>?_
 rw[a] at b
 injection b with b
 subst b
 obtain⟨z,_,rfl⟩:=List.mem_map.1 (List.mem_of_getElem? a)
 exact .sc _
theorem fam_isSome {n:Nat} {f f':Nat→Blk} (i:Nat):((fam n f)[i]?).isSome=((fam n f')[i]?).isSome:=by
 simp[fam]
theorem worldH_closed (p:Pg) (ls:List Ln) (s s':St):Closed (worldH p ls s) (worldH p ls s'):=by
 have hd:∀ g i,(hget (worldH p ls s') g i).isSome=(hget (worldH p ls s) g i).isSome:=fun g i=>by
  match g,i with
  | 0,0=>rfl
  | 0,i+1=>rfl
  | 1,0=>rfl
  | 1,i+1=>rfl
  | 2,0=>rfl
  | 2,i+1=>rfl
  | 3,0=>rfl
  | 3,i+1=>rfl
  | 4,i=>exact fam_isSome i
  | 5,i=>exact fam_isSome i
  | 6,i=>exact fam_isSome i
  | 7,i=>exact fam_isSome i
  | g+8,i=>rfl
 have hi:∀(g i:Nat),(hget (worldH p ls s) g i).isSome=true→idH (worldH p ls s) g i=some (g,i):=fun g i h=>idH_of h
 have h4:∀ i,i < ls.length→idH (worldH p ls s) 4 i=some (4,i):=fun i h=>hi 4 i (by show((pendF ls.length s)[i]?).isSome=true; unfold pendF; rw[fam_get h]; rfl)
 have h5:∀ i,i < ls.length→idH (worldH p ls s) 5 i=some (5,i):=fun i h=>hi 5 i (by show((retF ls.length s)[i]?).isSome=true; unfold retF; rw[fam_get h]; rfl)
 have h6:∀ i,i < ls.length→idH (worldH p ls s) 6 i=some (6,i):=fun i h=>hi 6 i (by show((memF ls.length s)[i]?).isSome=true; unfold memF; rw[fam_get h]; rfl)
 have h7:∀ i,i < ls.length→idH (worldH p ls s) 7 i=some (7,i):=fun i h=>hi 7 i (by show((heldF ls.length s)[i]?).isSome=true; unfold heldF; rw[fam_get h]; rfl)
 refine⟨rfl,hd,fun g i x hx=>?_⟩
 match g,i,hx with
 | 0,0,hx=>
  injection hx with hx
  subst hx
  refine⟨rfl,RenB.selfW fun r hr c hc=>?_⟩
  rw[List.mem_singleton.1 hr] at hc
  unfold boxW at hc
  simp only[List.mem_cons,List.not_mem_nil,or_false] at hc
  rcases hc with rfl | rfl | rfl | rfl | rfl
  ·exact .pure (pv _)
  ·exact .sc _
  ·exact .hsl _ _ _ _ _ _ rfl
  ·exact .hsl _ _ _ _ _ _ rfl
  ·exact .hsl _ _ _ _ _ _ rfl
 | 1,0,hx=>
  injection hx with hx
  subst hx
  refine⟨rfl,RenB.selfW fun r hr c hc=>?_⟩
  obtain⟨j,hj,rfl⟩:=List.mem_map.1 hr
  have hj:=List.mem_range.1 hj
  simp only[List.mem_cons,List.not_mem_nil,or_false] at hc
  rcases hc with rfl | rfl | rfl
  ·exact .sc _
  ·exact .hsl _ _ _ _ _ _ (h4 j hj)
  ·exact .mref _ _ _ _ (h5 j hj)
 | 2,0,hx=>
  injection hx with hx
  subst hx
  refine⟨rfl,RenB.row1 fun j hj=>.hsl _ _ _ _ _ _ (h6 j hj)⟩
 | 3,0,hx=>
  injection hx with hx
  subst hx
  refine⟨rfl,RenB.row1 fun j hj=>.mref _ _ _ _ (h7 j hj)⟩
 | 4,i,hx=>
  have hx:(pendF ls.length s')[i]?=some x:=hx
  obtain⟨_,rfl⟩:=fam_some hx
  exact⟨rfl,RenB.rows rfl (prs _)⟩
 | 5,i,hx=>
  have hx:(retF ls.length s')[i]?=some x:=hx
  obtain⟨_,rfl⟩:=fam_some hx
  exact⟨rfl,RenB.mapW _⟩
 | 6,i,hx=>
  have hx:(memF ls.length s')[i]?=some x:=hx
  obtain⟨_,rfl⟩:=fam_some hx
  exact⟨rfl,RenB.rows rfl (prs _)⟩
 | 7,i,hx=>
  have hx:(heldF ls.length s')[i]?=some x:=hx
  obtain⟨_,rfl⟩:=fam_some hx
  exact⟨rfl,RenB.mapW _⟩
 | 0,i+1,hx=>cases hx
 | 1,i+1,hx=>cases hx
 | 2,i+1,hx=>cases hx
 | 3,i+1,hx=>cases hx
 | g+8,i,hx=>cases hx
theorem prAt_setP {s:St} {r:Nat} {x:Pr} (h:r < s.ps.length) (j:Nat):prAt (setP s r x) j=if j=r then x else prAt s j:=by
 unfold prAt setP
 simp only[List.getElem?_set]
 by_cases e:r=j
 ·subst e
  rw[if_pos rfl,if_pos h,if_pos rfl]
  rfl
 ·rw[if_neg e,if_neg (fun q=>e q.symm)]
theorem memAt_setM {s:St} {r:Nat} {x:List Int} (h:r < s.mem.length) (j:Nat):memAt (setM s r x) j=if j=r then x else memAt s j:=by
 unfold memAt setM
 simp only[List.getElem?_set]
 by_cases e:r=j
 ·subst e
  rw[if_pos rfl,if_pos h,if_pos rfl]
  rfl
 ·rw[if_neg e,if_neg (fun q=>e q.symm)]
theorem heldAt_setL {s:St} {r:Nat} {x:List (Nat×Int)} (h:r < s.held.length) (j:Nat):heldAt (setL s r x) j=if j=r then x else heldAt s j:=by
 unfold heldAt setL
 simp only[List.getElem?_set]
 by_cases e:r=j
 ·subst e
  rw[if_pos rfl,if_pos h,if_pos rfl]
  rfl
 ·rw[if_neg e,if_neg (fun q=>e q.symm)]
theorem prAt_setM (s:St) (b:Nat) (m:List Int) (j:Nat):prAt (setM s b m) j=prAt s j:=rfl
theorem memAt_setP (s:St) (b:Nat) (m:Pr) (j:Nat):memAt (setP s b m) j=memAt s j:=rfl
theorem procsH_congr {n:Nat} {s s':St} {b:Nat→Nat×Nat} (h:∀ r,r < n→(prAt s r).d=(prAt s' r).d∧(prAt s r).q.length=(prAt s' r).q.length):procsH n s b=procsH n s' b:=List.map_congr_left fun r hr=>by
 obtain⟨h1,h2⟩:=h r (List.mem_range.1 hr)
 rw[h1,h2]
theorem memH_congr {n:Nat} {s s':St} (h:∀ r,r < n→(memAt s r).length=(memAt s' r).length):memH n s=memH n s':=row1_congr fun r hr=>by rw[h r hr]
theorem retF_congr {n:Nat} {s s':St} (h:∀ r,r < n→(prAt s r).g=(prAt s' r).g):retF n s=retF n s':=fam_congr fun r hr=>by rw[h r hr]
theorem pendF_congr {n:Nat} {s s':St} (h:∀ r,r < n→(prAt s r).q=(prAt s' r).q):pendF n s=pendF n s':=fam_congr fun r hr=>by rw[h r hr]
theorem retF_set {n:Nat} {s:St} {r:Nat} {g':List (Nat×Int)} (h:r < s.ps.length):(retF n s).set r (.map (retE g'))=retF n (setP s r { prAt s r with g:=g' }):=by
 unfold retF
 rw[fam_set]
 refine fam_congr fun j _=>?_
 rw[prAt_setP h]
 split<;>rfl
theorem memF_set {n:Nat} {s:St} {b:Nat} {m:List Int} (h:b < s.mem.length):(memF n s).set b (.cells 1 (intsR m))=memF n (setM s b m):=by
 unfold memF
 rw[fam_set]
 refine fam_congr fun j _=>?_
 rw[memAt_setM h]
 split<;>rfl
theorem heldF_set {n:Nat} {s:St} {b:Nat} {m:List (Nat×Int)} (h:b < s.held.length):(heldF n s).set b (.map (retE m))=heldF n (setL s b m):=by
 unfold heldF
 rw[fam_set]
 refine fam_congr fun j _=>?_
 rw[heldAt_setL h]
 split<;>rfl
theorem procsH_set {n:Nat} {s:St} {b:Nat→Nat×Nat} {r:Nat} {x:Pr} {c:Nat×Nat} (h:r < s.ps.length):(procsH n s b).set r [.sc (.int .i64 (x.d:Int)),.hsl c.1 c.2 0 x.q.length,.mref 5 r]=procsH n (setP s r x) (fun j=>if j=r then c else b j):=by
 unfold procsH
 apply List.ext_getElem?
 intro j
 rw[List.getElem?_set]
 by_cases hj:j < n
 ·rw[List.getElem?_map,List.getElem?_map,List.getElem?_range hj]
  simp only[Option.map_some,List.length_map,List.length_range]
  rw[prAt_setP h]
  by_cases e:r=j
  ·subst e
   simp[hj]
  ·rw[if_neg e,if_neg (fun q=>e q.symm),if_neg (fun q=>e q.symm)]
 ·rw[List.getElem?_map,List.getElem?_map,List.getElem?_eq_none (show(List.range n).length≤j by rw[List.length_range]; omega)]
  simp
  omega
theorem intsR_set (m:List Int) (a:Nat) (v:Int):(intsR m).set a [.sc (.int .i64 v)]=intsR (m.set a v):=by
 unfold intsR
 rw[List.map_set]
theorem intsR_get (l:List Int) (k:Nat) (h:k < l.length):(intsR l)[k]?=some [.sc (.int .i64 l[k])]:=by simp[intsR,h]
theorem pendF_set {n:Nat} {s:St} {r:Nat}:(pendF n s).set r .dead=fam n fun j=>if j=r then .dead else .cells 1 (natsR (prAt s j).q):=fam_set
def pendD (n:Nat) (s:St) (r:Nat):List Blk:=fam n fun j=>if j=r then .dead else .cells 1 (natsR (prAt s j).q)
def bX (r g:Nat) (j:Nat):Nat×Nat:=if j=r then(g,0) else(4,j)
theorem pendD_same {T:AV→AV→Prop} {ρ:Nat→Nat→Option (Nat×Nat)} {n r:Nat} {s:St} {H:Heap} (h:∀ i,i < n→hget H 4 i=some (if i=r then .dead else .cells 1 (natsR (prAt s i).q))):famTo (ToB T ρ) H (FK.w 4 n []).l (pendD n s r):=
 famTo.ofFam fun i hi=>⟨_,h i hi,by
  split
  ·exact ToB.dead _
  ·exact ToB.rows rfl (prs _)⟩
theorem wrapU (v:Int):IntKind.u64.wrap v=((toU v:Nat):Int):=by
 unfold toU
 show v % 18446744073709551616=_
 omega
theorem sdP (n:Nat) (s:St) (sd:Nat) (b:Nat→Nat×Nat):[Blk.cells 3 (procsH n s b)]=[Blk.cells 3 (procsH n { s with seed:=sd } b)]:=rfl
theorem sdM (n:Nat) (s:St) (sd:Nat):[Blk.cells 1 (memH n s)]=[Blk.cells 1 (memH n { s with seed:=sd })]:=rfl
theorem sdR (n:Nat) (s:St) (sd:Nat):retF n s=retF n { s with seed:=sd }:=rfl
theorem sdF (n:Nat) (s:St) (sd:Nat):memF n s=memF n { s with seed:=sd }:=rfl
theorem sdL (n:Nat) (s:St) (sd:Nat):heldF n s=heldF n { s with seed:=sd }:=rfl
set_option maxHeartbeats 4000000 in
theorem below_at (p:Pg) (ls:List Ln) (s:St) {n:Nat} (hn:0 < n) (hn2:n≤1000000):
  CallOK Tryz.prog 45 [.ptr 0 0 0 0,.sc (.int .i64 (n:Int))] (worldH p ls s) fun res H'=>res=.sc (.int .i64 ((pickS (nextS s.seed) n:Nat):Int))∧H'=worldH p ls { s with seed:=nextS s.seed }:=by
 refine CallOK.of cF45 ?_ (nlB rfl)
 have h1:(6364136223846793005 * s.seed % 18446744073709551616+1442695040888963407) % 18446744073709551616=nextS s.seed:=by unfold nextS; omega
 have h3:pickS (nextS s.seed) n < n:=Nat.mod_lt _ hn
 have h4:nextS s.seed < 18446744073709551616:=Nat.mod_lt _ (by decide)
 have hpk:pickS (nextS s.seed) n=nextS s.seed / 2 ^ 33 % n:=rfl
 unfold worldH worldG boxW
 generalize hc:ckV p ls=c at *
 refine AWP.seq ?_
 refine AWP.region ?_
 refine walkR ?_
 refine AWP.seq ?_
 refine AWP.region ?_
 refine walkR ?_
 obtain⟨sd,hsd⟩:∃ x,x=nextS s.seed:=⟨_,rfl⟩
 rw[← hsd] at h1 h3 h4 hpk ⊢
 rw[h1]
 subst hc
 refine AWP.sub (fr':=[(0,.ptr 0 0 0 0),(1,.sc (.int .i64 (n:Int)))]) (H':=worldG p ls { s with seed:=sd } b4 (pendF ls.length s)++[]) ?_ ?_
 ·refine Sub.wg p ls { s with seed:=sd } b4 b4 (pendF ls.length s) [] [] [] [] ?_ rfl (sdP _ _ _ _) (sdM _ _ _) rfl (fam_len _ _) (sdR _ _ _) (sdF _ _ _) (sdL _ _ _) (pend_same fun r hr=>fam_get hr) rho_b4 trivial
  (all_goals exact tocW)
 unfold worldG boxW
 generalize ckV p ls=c at *
 refine walkX ?_
 obtain⟨k,hk⟩:∃ x,x=pickS sd n:=⟨_,rfl⟩
 rw[← hk] at h3 hpk ⊢
 rw[← hpk,wrap64 (by omega)]
 exact⟨.inr rfl,_,_,_,rfl,.refl _ _ _,rfl,rfl⟩
section
variable {g i:Nat} {fr:Fr} {H:Heap}
theorem dstep_appP {sz bytes:Nat} {s x:Operand} {g' i' len:Nat} {rows1 rows2:List (List AV)} (hx:rowsX sz H (ev fr x)=some (sz,rows2)) (hs:ev fr s=.hsl g' i' 0 len) (hh:hget H g' i'=some (.cells sz rows1)) (hz:0 < sz)
  (h1:len < rows1.length) (h2:len+rows2.length≤rows1.length) (hg:(Nat.beq g g' && Nat.beq i i')=false):
  dstep g i (.append sz bytes s x) fr H=some (.hsl g i 0 (len+rows2.length),hset (hset H g' i' .dead) g i (.cells sz (rows1.take len++(rows2++rows1.drop (len+rows2.length))))):=by
 have e1:Nat.beq sz sz=true:=by simp
 have e2:Nat.beq rows1.length len=false:=Bool.eq_false_iff.2 fun h=>by have:=Nat.eq_of_beq_eq_true h; omega
 have e3:Nat.blt 0 sz=true:=by simpa[Nat.blt_eq] using hz
 have e4:Nat.blt len rows1.length=true:=by simpa[Nat.blt_eq] using h1
 have e5:Nat.ble (len+rows2.length) rows1.length=true:=Nat.ble_eq_true_of_le h2
 simp only[dstep,hx,e1,hs,hh,e2,e3,e4,e5,hg,Bool.and_false,Bool.false_and,Bool.and_self]
theorem dstep_over {sz:Nat} {x lo hi:Operand} {k k':IntKind} {g' i' len l h:Nat} {rows:List (List AV)} (hx:ev fr x=.hsl g' i' 0 len) (hl:ev fr lo=.sc (.int k (l:Int))) (hi':ev fr hi=.sc (.int k' (h:Int))) (hh:hget H g' i'=some (.cells sz rows)) (hz:0 < sz)
  (h1:len < h) (h2:l < h) (h3:h≤rows.length):dstep g i (.slice sz x (some lo) (some hi) none) fr H=some (.hsl g' i' (0+l) (h - l),H):=by
 have e1:Nat.beq sz sz=true:=by simp
 have b1:sbnd fr 0 (some lo)=some l:=by simp only[sbnd,hl]
 have b2:∀ d,sbnd fr d (some hi)=some h:=fun d=>by simp only[sbnd,hi']
 have b3:∀ d,sbnd fr d none=some d:=fun d=>rfl
 have c1:Nat.ble l h=true:=Nat.ble_eq_true_of_le (Nat.le_of_lt h2)
 have c2:Nat.ble h len=false:=Bool.eq_false_iff.2 fun q=>by have:=nlB q; omega
 have c3:∀ d,Nat.ble d d=true:=fun d=>by simp
 have c4:Nat.ble h rows.length=true:=Nat.ble_eq_true_of_le h3
 have d1:sbounds fr len (some lo) (some hi) none=none:=by
  simp only[sbounds,b1,b2,b3,c1,c2,c3,Bool.false_and,Bool.and_false]
 have d2:sbounds fr (rows.length - 0) (some lo) (some hi) none=some (l,h):=by
  simp only[Nat.sub_zero,sbounds,b1,b2,b3,c1,c3,c4,Bool.and_self]
  rfl
 have e3:Nat.blt 0 sz=true:=by simpa[Nat.blt_eq] using hz
 have e4:Nat.blt l h=true:=by simpa[Nat.blt_eq] using h2
 simp only[dstep,hx,hh,e1,d1,d2,e3,e4,Bool.and_self]
theorem dstep_three {sz:Nat} {x lo hi mx:Operand} {k k' k2:IntKind} {g' i' len l h m:Nat} {rows:List (List AV)} (hx:ev fr x=.hsl g' i' 0 len) (hl:ev fr lo=.sc (.int k (l:Int))) (hi':ev fr hi=.sc (.int k' (h:Int))) (hm:ev fr mx=.sc (.int k2 (m:Int))) (hh:hget H g' i'=some (.cells sz rows))
  (h1:l≤h) (h2:h≤m) (h3:m≤len):dstep g i (.slice sz x (some lo) (some hi) (some mx)) fr H=some (.undef,H):=by
 have e1:Nat.beq sz sz=true:=by simp
 have b1:sbnd fr 0 (some lo)=some l:=by simp only[sbnd,hl]
 have b2:∀ d,sbnd fr d (some hi)=some h:=fun d=>by simp only[sbnd,hi']
 have b3:∀ d,sbnd fr d (some mx)=some m:=fun d=>by simp only[sbnd,hm]
 have c1:Nat.ble l h=true:=Nat.ble_eq_true_of_le h1
 have c2:Nat.ble h m=true:=Nat.ble_eq_true_of_le h2
 have c3:Nat.ble m len=true:=Nat.ble_eq_true_of_le h3
 have d1:sbounds fr len (some lo) (some hi) (some mx)=some (l,h):=by
  simp only[sbounds,b1,b2,b3,c1,c2,c3,Bool.and_self]
  rfl
 simp only[dstep,hx,hh,e1,d1]
theorem dstep_clr {z:List (Nat×Value)} {x:Operand} {g' i' st len s:Nat} {rows:List (List AV)} (hx:ev fr x=.hsl g' i' st (len+1)) (hh:hget H g' i'=some (.cells s rows)) (hs:s=(zrow z).length) (h1:st+(len+1)≤rows.length):
  dstep g i (.mop (.clear z) [x]) fr H=some (.tup [],hset H g' i' (.cells s (rows.take st++((List.replicate (len+1) (zrow z)).take (len+1)++rows.drop (st+(len+1)))))):=by
 have e1:Nat.beq s (zrow z).length=true:=by rw[hs]; simp
 have e2:Nat.ble (st+(len+1)) rows.length=true:=Nat.ble_eq_true_of_le h1
 simp only[dstep,avals,List.map_cons,List.map_nil,mstep,hx,hh,e1,e2,Bool.and_self]
end
theorem dstep_tail {g' i' k:Nat} {q:List Nat} (hk:k < q.length):∃ v,(∀ {g i:Nat} {fr:Fr} {H:Heap} {x lo:Operand} {kd:IntKind},ev fr x=.hsl g' i' 0 q.length→ev fr lo=.sc (.int kd ((k+1:Nat):Int))→hget H g' i'=some (.cells 1 (natsR q)) →
  dstep g i (.slice 1 x (some lo) none none) fr H=some (v,H))∧∀ {H:Heap},hget H g' i'=some (.cells 1 (natsR q))→rowsX 1 H v=some (1,natsR (q.drop (k+1))):=by
 have hql:=natsR_len q
 by_cases h5:k+1 < q.length
 ·refine⟨.hsl g' i' (0+(k+1)) (q.length - (k+1)),fun {g i fr H x lo kd} hx hl hh=>dstep_from hx hl hh (by omega) h5,fun {H} hh=>?_⟩
  show(match hget H g' i' with
   | some (.cells sz rows)=>match Nat.ble (0+(k+1)+(q.length - (k+1))) rows.length with
    | true=>some (sz,(rows.drop (0+(k+1))).take (q.length - (k+1)))
    | false=>none
   | _=>none)=_
  rw[hh]
  show(match Nat.ble (0+(k+1)+(q.length - (k+1))) (natsR q).length with
    | true=>some (1,((natsR q).drop (0+(k+1))).take (q.length - (k+1)))
    | false=>none)=_
  rw[Nat.ble_eq_true_of_le (show 0+(k+1)+(q.length - (k+1))≤(natsR q).length by omega)]
  show some (1,_)=_
  rw[Nat.zero_add,List.take_of_length_le (by rw[List.length_drop]; omega)]
  unfold natsR
  rw[List.map_drop]
 ·have h6:k+1=q.length:=by omega
  refine⟨.list 1 [],fun {g i fr H x lo kd} hx hl hh=>?_,fun {H} hh=>?_⟩
  ·have b1:Nat.ble (k+1) q.length=true:=Nat.ble_eq_true_of_le (by omega)
   have b2:Nat.ble q.length q.length=true:=by simp
   have e1:sbounds fr q.length (some lo) none none=some (k+1,q.length):=by
    have b3:sbnd fr 0 (some lo)=some (k+1):=by simp only[sbnd,hl]
    have b4:sbnd fr q.length none=some q.length:=rfl
    simp only[sbounds,b3,b4,b1,b2]
    rfl
   have e3:Nat.beq (k+1) 0=false:=rfl
   have e4:Nat.beq (k+1) q.length=true:=by rw[h6]; simp
   simp only[dstep,hx,hh,e1,e3,e4]
  ·show some (1,[])=_
   rw[List.drop_of_length_le (by omega)]
   rfl
theorem natsR_erase {q:List Nat} {k:Nat} (hk:k < q.length):∃ y:List AV,(natsR q).take k++(natsR (q.drop (k+1))++(natsR q).drop (k+(natsR (q.drop (k+1))).length))=natsR (q.eraseIdx k)++[y]:=by
 have h1:(natsR (q.drop (k+1))).length=q.length - (k+1):=by rw[natsR_len,List.length_drop]
 have h2:k+(natsR (q.drop (k+1))).length=q.length - 1:=by rw[h1]; omega
 have h3:=natsR_len q
 refine⟨(natsR q)[q.length - 1]'(by omega),?_⟩
 have h4:(natsR q).drop (q.length - 1)=[(natsR q)[q.length - 1]'(by omega)]:=by
  rw[List.drop_eq_getElem_cons (by omega),List.drop_of_length_le (by omega)]
 rw[h2,h4,← List.append_assoc]
 congr 1
 unfold natsR
 rw[← List.map_take,← List.map_append,List.eraseIdx_eq_take_drop_succ]
theorem eraseIdx_len {q:List Nat} {k:Nat} (hk:k < q.length):(q.eraseIdx k).length=q.length - 1:=by rw[List.length_eraseIdx]; rw[if_pos hk]
set_option maxHeartbeats 4000000 in
theorem del_at (p:Pg) (ls:List Ln) (s:St) {r k:Nat} (hr:r < ls.length) (hk:k < (prAt s r).q.length) (hq:(prAt s r).q.length≤1000000):
  CallOK Tryz.prog 70 [.hsl 4 r 0 (prAt s r).q.length,.sc (.int .i64 (k:Int)),.sc (.int .i64 ((k+1:Nat):Int))] (worldH p ls s) fun res H'=>res=.hsl 8 0 0 ((prAt s r).q.length - 1)∧H'=worldG p ls s b4 (pendD ls.length s r)++[[.cells 1 (natsR ((prAt s r).q.eraseIdx k))]]:=by
 refine CallOK.of cF70 ?_ (nlB rfl)
 have h4:hget (worldH p ls s) 4 r=some (.cells 1 (natsR (prAt s r).q)):=fam_get hr
 obtain⟨q,hqe⟩:∃ q,q=(prAt s r).q:=⟨_,rfl⟩
 rw[← hqe] at hk hq h4 ⊢
 unfold worldH worldG at *
 refine walkX ?_
 refine Reg.o rfl (dstep_three rfl rfl rfl rfl h4 (by omega) (by omega) (by omega)) ?_
 refine walkX ?_
 rw[dFa (by omega)]
 refine walkX ?_
 obtain⟨y,hy⟩:=natsR_erase hk
 have hel:=natsR_len (q.eraseIdx k)
 rw[eraseIdx_len hk] at hel
 have hdl:(natsR (q.drop (k+1))).length=q.length - (k+1):=by rw[natsR_len,List.length_drop]
 have hql:=natsR_len q
 refine DK.o rfl (dstep_upto rfl rfl (hget_app1 h4) (by omega)) ?_
 refine walkX ?_
 obtain⟨v,hv,hv2⟩:=dstep_tail (g':=4) (i':=r) hk
 refine DK.o rfl (hv rfl rfl (hget_app1 h4)) ?_
 refine DK.o rfl (dstep_appP (hv2 (hget_app1 h4)) rfl (hget_app1 h4) (by decide) (by omega) (by omega) rfl) ?_
 rw[hy,hdl,show k+(q.length - (k+1))=q.length - 1 by omega]
 refine walkX ?_
 refine DK.nil ⟨by kernel_rfl,?_⟩
 refine walkX ?_
 refine Reg.o rfl (dstep_over rfl rfl rfl rfl (by decide) (by omega) (by omega) (by rw[List.length_append]; simp; omega)) ?_
 rw[show q.length - (q.length - 1)=0+1 by omega]
 refine Reg.on rfl (dstep_clr rfl rfl rfl (by rw[List.length_append]; simp; omega)) ?_
 refine Reg.nil ?_
 refine AWP.sub (Sub.trunc (g:=8) (i:=6) (q.length - 1) rfl) ?_
 have htr:∀ X:List (List AV),((natsR (q.eraseIdx k)++[y]).take (0+(q.length - 1))++X).take (q.length - 1)=natsR (q.eraseIdx k):=fun X=>by
  rw[Nat.zero_add,List.take_append_of_le_length (by omega:q.length - 1≤(natsR (q.eraseIdx k)).length),List.take_of_length_le (by omega:(natsR (q.eraseIdx k)).length≤q.length - 1),List.take_append_of_le_length (by omega:q.length - 1≤(natsR (q.eraseIdx k)).length),List.take_of_length_le (by omega:(natsR (q.eraseIdx k)).length≤q.length - 1)]
 rw[htr]
 subst hqe
 have hrp:∀ l∈natsR ((prAt s r).q.eraseIdx k),∀ c∈l,Pure c:=prs _
 generalize natsR ((prAt s r).q.eraseIdx k)=rows at *
 refine walkX ?_
 have hps:(pendF ls.length s).set r Blk.dead=pendD ls.length s r:=pendF_set
 refine endWg (.hsl 8 0 0 ((prAt s r).q.length - 1)) p ls s b4 b4 (pendD ls.length s r) [] [[(8,6)]] [[.cells 1 rows]] ⟨rfl,rfl⟩ rfl rfl rfl rfl (by rw[hps]; exact fam_len _ _) rfl rfl rfl (by rw[hps]; exact pendD_same fun i hi=>fam_get hi) rho_b4 ⟨⟨⟨_,rfl,ToB.rows rfl hrp⟩,trivial⟩,trivial⟩
theorem wrapS (n:Nat):IntKind.i64.wrap ((n:Nat):Int)=toS n:=by
 rw[IntKind.wrap_i64]
 unfold toS
 split<;>omega
def SelfF (n:Nat) (F4:List Blk):Prop:=F4.length=n∧∀(T:AV→AV→Prop) (ρ:Nat→Nat→Option (Nat×Nat)) (H:Heap),(∀ i,i < n→hget H 4 i=F4[i]?)→famTo (ToB T ρ) H (FK.w 4 n []).l F4
theorem SelfF.pend (n:Nat) (s:St):SelfF n (pendF n s):=⟨fam_len _ _,fun _ _ _ h=>pend_same fun i hi=>(h i hi).trans (fam_get hi)⟩
theorem SelfF.pendD (n:Nat) (s:St) (r:Nat):SelfF n (pendD n s r):=⟨fam_len _ _,fun _ _ _ h=>pendD_same fun i hi=>(h i hi).trans (fam_get hi)⟩
def effF (r i:Nat) (x:Act) (b c:Nat):Fr:=[(0,.ptr 0 0 0 0),(3,.cptr (plR (r,i))),(4,.cptr (actR x)),(6,.ptr 6 b c 0)]
theorem effSub {p:Pg} {ls:List Ln} {s:St} {B:Nat→Nat×Nat} {F4:List Blk} (hB:∀ j,j < ls.length→B j=(4,j)) (hF:SelfF ls.length F4) {fr fr':Fr} {b0 b1 b2 b3 b5 b6 b7:List Blk} {X:Heap}
  (e0:b0=[.cells 5 [boxW p ls s.seed]]) (e1:b1=[.cells 3 (procsH ls.length s B)]) (e2:b2=[.cells 1 (memH ls.length s)]) (e3:b3=[.cells 1 (heldH ls.length)]) (e5:b5=retF ls.length s) (e6:b6=memF ls.length s) (e7:b7=heldF ls.length s)
  (h5:ToAll (ToT ((b0::b1::b2::b3::F4::b5::b6::b7 ::  X)++gh []) (b0::b1::b2::b3::F4::b5::b6::b7 ::  X).length (notK (wKg ls.length (.w 4 ls.length []) []))) (rho (idK (wKg ls.length (.w 4 ls.length []) []))) fr fr'):
  Sub 8 F71.n fr (b0::b1::b2::b3::F4::b5::b6::b7 ::  X) fr' (worldG p ls (s) B F4):=by
 subst e0 e1 e2 e3 e5 e6 e7
 exact Sub.wgL p ls s B B F4 [] [] [] [] h5 rfl rfl rfl rfl rfl rfl rfl (hF.2 _ _ _ fun i hi=>rfl) (fun j hj=>by rw[hB j hj]; exact rho_w rfl hj) trivial
  ⟨.c _ rfl rfl,.c _ rfl rfl,.c _ rfl rfl,.c _ rfl rfl,.w _ _ (Nat.le_of_eq hF.1),.w _ _ (Nat.le_of_eq (fam_len _ _)),.w _ _ (Nat.le_of_eq (fam_len _ _)),.w _ _ (Nat.le_of_eq (fam_len _ _)), trivial⟩
set_option maxHeartbeats 16000000 in
theorem effA (p:Pg) (ls:List Ln) (s:St) (hC:CkOK p ls) {r i:Nat} {l:List Act} {x:Act} {b c d:Nat} (hra:p.acts[r]?=some l) (hx:l[i]?=some x) (hac:acN ls (r,i)=⟨b,c,d⟩) (hb:b < ls.length) (hc:c < (memAt s b).length)
  (B:Nat→Nat×Nat) (F4:List Blk) (hB:∀ j,j < ls.length→B j=(4,j)) (hF:SelfF ls.length F4) (Q:Exit→Fr→Heap→Prop) (h:AWP Tryz.prog F71.n 8 (pickI [1,1,1] F71.code) Q (effF r i x b c) (worldG p ls (s) B F4)):
  AWP Tryz.prog F71.n 8 F71.code Q (argsFr 0 [.ptr 0 0 0 0,.agg (plR (r,i))]) (worldG p ls (s) B F4):=by
 have ha1:=act_ok p ls hra hx
 have hlen:=(gEs.1 hra).1
 have hrl:r < ls.length:=by have:=hC.len; omega
 have hL:=gEg hrl
 have hr1:=linesR_get hL
 unfold lnR epR at hr1
 have hlk:=fun g k fr H x ix h1 h2=>acc_look (g:=g) (k:=k) (fr:=fr) (H:=H) (x:=x) (ix:=ix) (i:=i) hL h1 h2
 rw[hac] at hlk
 have hm6:hget (worldG p ls (s) B F4) 6 b=some (.cells 1 (intsR (memAt s b))):=fam_get hb
 have hm2:=memH_get (s:=s) hb
 have hm2l:=memH_len ls.length s
 have hil:=intsR_len (memAt s b)
 unfold effF at h
 unfold worldG boxW plN plR actR acR at *
 unfold ckV at *
 dsimp only at *
 refine walkX ?_
 refine DK.o rfl (hlk _ _ _ _ _ _ rfl rfl) ?_
 refine walkX ?_
 refine DK.nil ⟨by kernel_rfl,?_⟩
 refine AWP.sub (fr':=[(0,.ptr 0 0 0 0),(3,.cptr [.sc (.int .i64 (r:Int)),.sc (.int .i64 (i:Int))]),(4,.cptr [.sc (.int .i64 x.k),.sc (.int .i64 x.r),.sc (.int .i64 x.a),.sc (.int .i64 x.o),.sc (.int .i64 x.v),.sc (.int .i64 x.w),.list 1 (intsR x.g)]),(5,.cptr [.sc (.int .i64 (b:Int)),.sc (.int .i64 (c:Int)),.sc (.int .i64 (d:Int))])]) (H':=worldG p ls (s) B F4) ?_ ?_
 ·refine effSub  hB hF rfl rfl rfl rfl rfl rfl rfl ?_
  (all_goals exact tocW)
 unfold worldG boxW ckV
 refine AWP.seq ?_
 refine AWP.dk mixed ?_
 refine walkX ?_
 refine DK.o rfl (dstep_idx0 rfl rfl (hget_app1 hm6) hc hil) ?_
 refine walkX ?_
 refine DK.nil ⟨by kernel_rfl,?_⟩
 refine AWP.sub ?_ h
 refine effSub  hB hF rfl rfl rfl rfl rfl rfl rfl ?_
 (all_goals (repeat' (first | exact ToAll.nil | exact famsTo.nil | exact famTo.nil | exact ToL.nil | exact ToR.nil | refine ToAll.cons ?_ ?_ | refine famsTo.cons ?_ ?_ | refine wt10 ?_ ?_ | exact To.undef _ | exact To.sc _ | exact To.hslL rfl rfl | exact To.asl _ _ _ _ _ _ rfl | exact To.ptrO rfl rfl rfl | exact To.mrefO rfl | exact To.nil rfl rfl rfl | exact wt1 | exact To.nilL | refine To.int ?_ | refine To.bool ?_ | refine To.hslL rfl ?_ | refine wt2 rfl ?_ ?_ ?_ | refine To.tupL ?_ | refine To.aggL ?_ | refine To.cptrL ?_ | refine To.fzp rfl rfl rfl ?_ | refine To.fzm rfl rfl ?_ | refine To.cloL ?_ ?_ | refine wt3 ?_ | refine wt4 ?_ | exact wt5 | refine wt6 ?_ | refine ToB.one ?_ | exact wt7 | ((with_reducible apply ToL.consE); case e9=>rfl) | refine wt8 ?_ | refine ToL.cons ?_ ?_ | exact wt11 | refine wt9 ?_ ?_ | refine wt12 ?_ | (with_reducible rfl) | assumption)); all_goals (first | rfl | assumption | (simp; done) | (simp; omega) | (rw[wrap_small (by omega) (by omega)]; done) | (rw[wrap_small (by omega) (by omega)]; omega) | (refine congrArg Nat.cast ?_; assumption) | skip))
 exact To.ptrO (rho_w rfl hb) rfl rfl
theorem effSubX {p:Pg} {ls:List Ln} {s:St} {B:Nat→Nat×Nat} {F4:List Blk} {y:List (List AV)} (hy:∀ r∈y,∀ c∈r,Pure c) (hB:∀ j,j < ls.length→(B j=(4,j)∨B j=(8,0))) (hF:SelfF ls.length F4) {fr fr':Fr} {b0 b1 b2 b3 b5 b6 b7:List Blk} {X:Heap}
  (e0:b0=[.cells 5 [boxW p ls s.seed]]) (e1:b1=[.cells 3 (procsH ls.length s B)]) (e2:b2=[.cells 1 (memH ls.length s)]) (e3:b3=[.cells 1 (heldH ls.length)]) (e5:b5=retF ls.length s) (e6:b6=memF ls.length s) (e7:b7=heldF ls.length s)
  (h5:ToAll (ToT ((b0::b1::b2::b3::F4::b5::b6::b7::[.cells 1 y]::X)++gh []) (b0::b1::b2::b3::F4::b5::b6::b7::[.cells 1 y]::X).length (notK (wKg ls.length (.w 4 ls.length []) [[(8,0)]]))) (rho (idK (wKg ls.length (.w 4 ls.length []) [[(8,0)]]))) fr fr'):
  Sub 9 F71.n fr (b0::b1::b2::b3::F4::b5::b6::b7::[.cells 1 y]::X) fr' (worldG p ls (s) B F4++[[.cells 1 y]]):=by
 subst e0 e1 e2 e3 e5 e6 e7
 exact Sub.wgL p ls s B B F4 [] [] [[(8,0)]] [[.cells 1 y]] h5 rfl rfl rfl rfl rfl rfl rfl (hF.2 _ _ _ fun i hi=>rfl) (fun j hj=>by rcases hB j hj with h | h<;>rw[h]; exact rho_w rfl hj; rfl) ⟨⟨⟨_,rfl,ToB.rows rfl hy⟩,trivial⟩,trivial⟩
  ⟨.c _ rfl rfl,.c _ rfl rfl,.c _ rfl rfl,.c _ rfl rfl,.w _ _ (Nat.le_of_eq hF.1),.w _ _ (Nat.le_of_eq (fam_len _ _)),.w _ _ (Nat.le_of_eq (fam_len _ _)),.w _ _ (Nat.le_of_eq (fam_len _ _)),.c _ rfl rfl,trivial⟩
set_option maxHeartbeats 16000000 in
theorem effAX (p:Pg) (ls:List Ln) (s:St) (hC:CkOK p ls) {r i:Nat} {l:List Act} {x:Act} {b c d:Nat} (hra:p.acts[r]?=some l) (hx:l[i]?=some x) (hac:acN ls (r,i)=⟨b,c,d⟩) (hb:b < ls.length) (hc:c < (memAt s b).length)
  (B:Nat→Nat×Nat) (F4:List Blk) {y:List (List AV)} (hy:∀ r∈y,∀ c∈r,Pure c) (hB:∀ j,j < ls.length→(B j=(4,j)∨B j=(8,0))) (hF:SelfF ls.length F4) (Q:Exit→Fr→Heap→Prop) (h:AWP Tryz.prog F71.n 9 (pickI [1,1,1] F71.code) Q (effF r i x b c) (worldG p ls (s) B F4++[[.cells 1 y]])):
  AWP Tryz.prog F71.n 9 F71.code Q (argsFr 0 [.ptr 0 0 0 0,.agg (plR (r,i))]) (worldG p ls (s) B F4++[[.cells 1 y]]):=by
 have ha1:=act_ok p ls hra hx
 have hlen:=(gEs.1 hra).1
 have hrl:r < ls.length:=by have:=hC.len; omega
 have hL:=gEg hrl
 have hr1:=linesR_get hL
 unfold lnR epR at hr1
 have hlk:=fun g k fr H x ix h1 h2=>acc_look (g:=g) (k:=k) (fr:=fr) (H:=H) (x:=x) (ix:=ix) (i:=i) hL h1 h2
 rw[hac] at hlk
 have hm6:hget (worldG p ls (s) B F4++[[.cells 1 y]]) 6 b=some (.cells 1 (intsR (memAt s b))):=fam_get hb
 have hm2:=memH_get (s:=s) hb
 have hm2l:=memH_len ls.length s
 have hil:=intsR_len (memAt s b)
 unfold effF at h
 unfold worldG boxW plN plR actR acR at *
 unfold ckV at *
 dsimp only at *
 refine walkX ?_
 refine DK.o rfl (hlk _ _ _ _ _ _ rfl rfl) ?_
 refine walkX ?_
 refine DK.nil ⟨by kernel_rfl,?_⟩
 refine AWP.sub (fr':=[(0,.ptr 0 0 0 0),(3,.cptr [.sc (.int .i64 (r:Int)),.sc (.int .i64 (i:Int))]),(4,.cptr [.sc (.int .i64 x.k),.sc (.int .i64 x.r),.sc (.int .i64 x.a),.sc (.int .i64 x.o),.sc (.int .i64 x.v),.sc (.int .i64 x.w),.list 1 (intsR x.g)]),(5,.cptr [.sc (.int .i64 (b:Int)),.sc (.int .i64 (c:Int)),.sc (.int .i64 (d:Int))])]) (H':=worldG p ls (s) B F4++[[.cells 1 y]]) ?_ ?_
 ·refine effSubX hy hB hF rfl rfl rfl rfl rfl rfl rfl ?_
  (all_goals exact tocW)
 unfold worldG boxW ckV
 refine AWP.seq ?_
 refine AWP.dk mixed ?_
 refine walkX ?_
 refine DK.o rfl (dstep_idx0 rfl rfl (hget_app1 hm6) hc hil) ?_
 refine walkX ?_
 refine DK.nil ⟨by kernel_rfl,?_⟩
 refine AWP.sub ?_ h
 refine effSubX hy hB hF rfl rfl rfl rfl rfl rfl rfl ?_
 (all_goals (repeat' (first | exact ToAll.nil | exact famsTo.nil | exact famTo.nil | exact ToL.nil | exact ToR.nil | refine ToAll.cons ?_ ?_ | refine famsTo.cons ?_ ?_ | refine wt10 ?_ ?_ | exact To.undef _ | exact To.sc _ | exact To.hslL rfl rfl | exact To.asl _ _ _ _ _ _ rfl | exact To.ptrO rfl rfl rfl | exact To.mrefO rfl | exact To.nil rfl rfl rfl | exact wt1 | exact To.nilL | refine To.int ?_ | refine To.bool ?_ | refine To.hslL rfl ?_ | refine wt2 rfl ?_ ?_ ?_ | refine To.tupL ?_ | refine To.aggL ?_ | refine To.cptrL ?_ | refine To.fzp rfl rfl rfl ?_ | refine To.fzm rfl rfl ?_ | refine To.cloL ?_ ?_ | refine wt3 ?_ | refine wt4 ?_ | exact wt5 | refine wt6 ?_ | refine ToB.one ?_ | exact wt7 | ((with_reducible apply ToL.consE); case e9=>rfl) | refine wt8 ?_ | refine ToL.cons ?_ ?_ | exact wt11 | refine wt9 ?_ ?_ | refine wt12 ?_ | (with_reducible rfl) | assumption)); all_goals (first | rfl | assumption | (simp; done) | (simp; omega) | (rw[wrap_small (by omega) (by omega)]; done) | (rw[wrap_small (by omega) (by omega)]; omega) | (refine congrArg Nat.cast ?_; assumption) | skip))
 exact To.ptrO (rho_w rfl hb) rfl rfl
def effS1 (s:St) (r i b c:Nat) (x:Act):St:=if isRet x.k=true then setP s r { prAt s r with g:=putN i ((memAt s b).getD c 0) (prAt s r).g } else s
theorem procsH_ret {n:Nat} {s:St} {B:Nat→Nat×Nat} {r:Nat} {g:List (Nat×Int)} (h:r < s.ps.length):procsH n s B=procsH n (setP s r { prAt s r with g:=g }) B:=procsH_congr fun j _=>by
 rw[prAt_setP h]
 split
 ·rename_i e; subst e; exact⟨rfl,rfl⟩
 ·exact⟨rfl,rfl⟩
set_option maxHeartbeats 16000000 in
theorem effB (p:Pg) (ls:List Ln) (s:St) {r i:Nat} (x:Act) {b c:Nat} (hrl:r < ls.length) (hpl:s.ps.length=ls.length) (hk1:1≤x.k) (hk2:x.k≤16) (hb:b < ls.length) (hc:c < (memAt s b).length)
  (B:Nat→Nat×Nat) (F4:List Blk) (hB:∀ j,j < ls.length→B j=(4,j)) (hF:SelfF ls.length F4) (Q:Exit→Fr→Heap→Prop):
  AWP Tryz.prog F71.n 8 (pickI [1,1,1,0] F71.code) (thenQ (fun fr H=>Sub 8 F71.n fr H (effF r i x b c) (worldG p ls (effS1 s r i b c x) B F4)) Q) (effF r i x b c) (worldG p ls (s) B F4):=by
 show AWP _ _ _ (.seq _ _) _ _ _
 have f1:=formsE_in hk1 hk2
 unfold formR at f1
 have u1:isRet ((x.k.toNat:Nat):Int)=isRet x.k:=by rw[show((x.k.toNat:Nat):Int)=x.k by omega]
 rw[u1] at f1
 have hm6:hget (worldG p ls (s) B F4) 6 b=some (.cells 1 (intsR (memAt s b))):=fam_get hb
 have hm5:hget (worldG p ls (s) B F4) 5 r=some (.map (retE (prAt s r).g)):=fam_get hrl
 have hp1:=procsH_get (s:=s) (b:=B) hrl
 have hp1l:=procsH_len ls.length s B
 have hil:=intsR_len (memAt s b)
 have hcg:=intsR_get (memAt s b) c hc
 have hgd:(memAt s b).getD c 0=(memAt s b)[c]:=by rw[List.getD_eq_getElem?_getD,gEg hc]; rfl
 unfold effS1
 unfold effF worldG boxW plR actR at *
 unfold ckV at *
 dsimp only at *
 refine walkX ?_
 refine DK.o rfl (dstep_lookC rfl rfl f1) ?_
 refine walkX ?_
 refine DK.nil ⟨by kernel_rfl,?_⟩
 cases hr:isRet x.k with
 | false=>
  rw[if_neg (by simp)]
  refine walkX ?_
  refine effSub  hB hF rfl rfl rfl rfl rfl rfl rfl ?_
  (all_goals (repeat' (first | exact ToAll.nil | exact famsTo.nil | exact famTo.nil | exact ToL.nil | exact ToR.nil | refine ToAll.cons ?_ ?_ | refine famsTo.cons ?_ ?_ | refine wt10 ?_ ?_ | exact To.undef _ | exact To.sc _ | exact To.hslL rfl rfl | exact To.asl _ _ _ _ _ _ rfl | exact To.ptrO rfl rfl rfl | exact To.mrefO rfl | exact To.nil rfl rfl rfl | exact wt1 | exact To.nilL | refine To.int ?_ | refine To.bool ?_ | refine To.hslL rfl ?_ | refine wt2 rfl ?_ ?_ ?_ | refine To.tupL ?_ | refine To.aggL ?_ | refine To.cptrL ?_ | refine To.fzp rfl rfl rfl ?_ | refine To.fzm rfl rfl ?_ | refine To.cloL ?_ ?_ | refine wt3 ?_ | refine wt4 ?_ | exact wt5 | refine wt6 ?_ | refine ToB.one ?_ | exact wt7 | ((with_reducible apply ToL.consE); case e9=>rfl) | refine wt8 ?_ | refine ToL.cons ?_ ?_ | exact wt11 | refine wt9 ?_ ?_ | refine wt12 ?_ | (with_reducible rfl) | assumption)); all_goals (first | rfl | assumption | (simp; done) | (simp; omega) | (rw[wrap_small (by omega) (by omega)]; done) | (rw[wrap_small (by omega) (by omega)]; omega) | (refine congrArg Nat.cast ?_; assumption) | skip))
  exact To.ptrO (rho_w rfl hb) rfl rfl
 | true=>
  rw[if_pos rfl,hgd]
  refine walkX ?_
  refine DK.o rfl (dstep_ld1 rfl (hget_app1 (hget_app1 hm6)) hcg rfl) ?_
  refine DK.on rfl (dstep_ret rfl rfl rfl (hget_app1 (hget_app1 hm5))) ?_
  refine DK.nil ⟨by kernel_rfl,?_⟩
  have hrs:r < s.ps.length:=by omega
  refine effSub (s:=setP s r { prAt s r with g:=putN i (memAt s b)[c] (prAt s r).g })  hB hF rfl (congrArg (fun z=>[Blk.cells 3 z]) (procsH_ret hrs)) rfl rfl (retF_set hrs) rfl rfl ?_
  (all_goals (repeat' (first | exact ToAll.nil | exact famsTo.nil | exact famTo.nil | exact ToL.nil | exact ToR.nil | refine ToAll.cons ?_ ?_ | refine famsTo.cons ?_ ?_ | refine wt10 ?_ ?_ | exact To.undef _ | exact To.sc _ | exact To.hslL rfl rfl | exact To.asl _ _ _ _ _ _ rfl | exact To.ptrO rfl rfl rfl | exact To.mrefO rfl | exact To.nil rfl rfl rfl | exact wt1 | exact To.nilL | refine To.int ?_ | refine To.bool ?_ | refine To.hslL rfl ?_ | refine wt2 rfl ?_ ?_ ?_ | refine To.tupL ?_ | refine To.aggL ?_ | refine To.cptrL ?_ | refine To.fzp rfl rfl rfl ?_ | refine To.fzm rfl rfl ?_ | refine To.cloL ?_ ?_ | refine wt3 ?_ | refine wt4 ?_ | exact wt5 | refine wt6 ?_ | refine ToB.one ?_ | exact wt7 | ((with_reducible apply ToL.consE); case e9=>rfl) | refine wt8 ?_ | refine ToL.cons ?_ ?_ | exact wt11 | refine wt9 ?_ ?_ | refine wt12 ?_ | (with_reducible rfl) | assumption)); all_goals (first | rfl | assumption | (simp; done) | (simp; omega) | (rw[wrap_small (by omega) (by omega)]; done) | (rw[wrap_small (by omega) (by omega)]; omega) | (refine congrArg Nat.cast ?_; assumption) | skip))
  exact To.ptrO (rho_w rfl hb) rfl rfl
set_option maxHeartbeats 16000000 in
theorem effBX (p:Pg) (ls:List Ln) (s:St) {r i:Nat} (x:Act) {b c:Nat} (hrl:r < ls.length) (hpl:s.ps.length=ls.length) (hk1:1≤x.k) (hk2:x.k≤16) (hb:b < ls.length) (hc:c < (memAt s b).length)
  (B:Nat→Nat×Nat) (F4:List Blk) {y:List (List AV)} (hy:∀ r∈y,∀ c∈r,Pure c) (hB:∀ j,j < ls.length→(B j=(4,j)∨B j=(8,0))) (hF:SelfF ls.length F4) (Q:Exit→Fr→Heap→Prop):
  AWP Tryz.prog F71.n 9 (pickI [1,1,1,0] F71.code) (thenQ (fun fr H=>Sub 9 F71.n fr H (effF r i x b c) (worldG p ls (effS1 s r i b c x) B F4++[[.cells 1 y]])) Q) (effF r i x b c) (worldG p ls (s) B F4++[[.cells 1 y]]):=by
 show AWP _ _ _ (.seq _ _) _ _ _
 have f1:=formsE_in hk1 hk2
 unfold formR at f1
 have u1:isRet ((x.k.toNat:Nat):Int)=isRet x.k:=by rw[show((x.k.toNat:Nat):Int)=x.k by omega]
 rw[u1] at f1
 have hm6:hget (worldG p ls (s) B F4++[[.cells 1 y]]) 6 b=some (.cells 1 (intsR (memAt s b))):=fam_get hb
 have hm5:hget (worldG p ls (s) B F4++[[.cells 1 y]]) 5 r=some (.map (retE (prAt s r).g)):=fam_get hrl
 have hp1:=procsH_get (s:=s) (b:=B) hrl
 have hp1l:=procsH_len ls.length s B
 have hil:=intsR_len (memAt s b)
 have hcg:=intsR_get (memAt s b) c hc
 have hgd:(memAt s b).getD c 0=(memAt s b)[c]:=by rw[List.getD_eq_getElem?_getD,gEg hc]; rfl
 unfold effS1
 unfold effF worldG boxW plR actR at *
 unfold ckV at *
 dsimp only at *
 refine walkX ?_
 refine DK.o rfl (dstep_lookC rfl rfl f1) ?_
 refine walkX ?_
 refine DK.nil ⟨by kernel_rfl,?_⟩
 cases hr:isRet x.k with
 | false=>
  rw[if_neg (by simp)]
  refine walkX ?_
  refine effSubX hy hB hF rfl rfl rfl rfl rfl rfl rfl ?_
  (all_goals (repeat' (first | exact ToAll.nil | exact famsTo.nil | exact famTo.nil | exact ToL.nil | exact ToR.nil | refine ToAll.cons ?_ ?_ | refine famsTo.cons ?_ ?_ | refine wt10 ?_ ?_ | exact To.undef _ | exact To.sc _ | exact To.hslL rfl rfl | exact To.asl _ _ _ _ _ _ rfl | exact To.ptrO rfl rfl rfl | exact To.mrefO rfl | exact To.nil rfl rfl rfl | exact wt1 | exact To.nilL | refine To.int ?_ | refine To.bool ?_ | refine To.hslL rfl ?_ | refine wt2 rfl ?_ ?_ ?_ | refine To.tupL ?_ | refine To.aggL ?_ | refine To.cptrL ?_ | refine To.fzp rfl rfl rfl ?_ | refine To.fzm rfl rfl ?_ | refine To.cloL ?_ ?_ | refine wt3 ?_ | refine wt4 ?_ | exact wt5 | refine wt6 ?_ | refine ToB.one ?_ | exact wt7 | ((with_reducible apply ToL.consE); case e9=>rfl) | refine wt8 ?_ | refine ToL.cons ?_ ?_ | exact wt11 | refine wt9 ?_ ?_ | refine wt12 ?_ | (with_reducible rfl) | assumption)); all_goals (first | rfl | assumption | (simp; done) | (simp; omega) | (rw[wrap_small (by omega) (by omega)]; done) | (rw[wrap_small (by omega) (by omega)]; omega) | (refine congrArg Nat.cast ?_; assumption) | skip))
  exact To.ptrO (rho_w rfl hb) rfl rfl
 | true=>
  rw[if_pos rfl,hgd]
  refine walkX ?_
  refine DK.o rfl (dstep_ld1 rfl (hget_app1 (hget_app1 hm6)) hcg rfl) ?_
  refine DK.on rfl (dstep_ret rfl rfl rfl (hget_app1 (hget_app1 hm5))) ?_
  refine DK.nil ⟨by kernel_rfl,?_⟩
  have hrs:r < s.ps.length:=by omega
  refine effSubX (s:=setP s r { prAt s r with g:=putN i (memAt s b)[c] (prAt s r).g }) hy hB hF rfl (congrArg (fun z=>[Blk.cells 3 z]) (procsH_ret hrs)) rfl rfl (retF_set hrs) rfl rfl ?_
  (all_goals (repeat' (first | exact ToAll.nil | exact famsTo.nil | exact famTo.nil | exact ToL.nil | exact ToR.nil | refine ToAll.cons ?_ ?_ | refine famsTo.cons ?_ ?_ | refine wt10 ?_ ?_ | exact To.undef _ | exact To.sc _ | exact To.hslL rfl rfl | exact To.asl _ _ _ _ _ _ rfl | exact To.ptrO rfl rfl rfl | exact To.mrefO rfl | exact To.nil rfl rfl rfl | exact wt1 | exact To.nilL | refine To.int ?_ | refine To.bool ?_ | refine To.hslL rfl ?_ | refine wt2 rfl ?_ ?_ ?_ | refine To.tupL ?_ | refine To.aggL ?_ | refine To.cptrL ?_ | refine To.fzp rfl rfl rfl ?_ | refine To.fzm rfl rfl ?_ | refine To.cloL ?_ ?_ | refine wt3 ?_ | refine wt4 ?_ | exact wt5 | refine wt6 ?_ | refine ToB.one ?_ | exact wt7 | ((with_reducible apply ToL.consE); case e9=>rfl) | refine wt8 ?_ | refine ToL.cons ?_ ?_ | exact wt11 | refine wt9 ?_ ?_ | refine wt12 ?_ | (with_reducible rfl) | assumption)); all_goals (first | rfl | assumption | (simp; done) | (simp; omega) | (rw[wrap_small (by omega) (by omega)]; done) | (rw[wrap_small (by omega) (by omega)]; omega) | (refine congrArg Nat.cast ?_; assumption) | skip))
  exact To.ptrO (rho_w rfl hb) rfl rfl
def effS2 (s:St) (b c:Nat) (v:Int):St:=setM s b ((memAt s b).set c v)
theorem memH_same {n:Nat} {s:St} {b c:Nat} {v:Int} (h:b < s.mem.length):memH n s=memH n (effS2 s b c v):=memH_congr fun j _=>by
 unfold effS2
 rw[memAt_setM h]
 split
 ·rename_i e; subst e; rw[List.length_set]
 ·rfl
theorem memF_eff {n:Nat} {s:St} {b c:Nat} {v:Int} (h:b < s.mem.length):(memF n s).set b (.cells 1 ((intsR (memAt s b)).set c [.sc (.int .i64 v)]))=memF n (effS2 s b c v):=by
 rw[intsR_set]
 exact memF_set h
theorem effS2_id {s:St} {b c:Nat} (hc:c < (memAt s b).length) {v:Int} (hv:v=(memAt s b)[c]):effS2 s b c v=setM s b (memAt s b):=by
 subst hv
 unfold effS2
 rw[List.set_getElem_self]
theorem setM_id {s:St} {b:Nat} (h:b < s.mem.length):setM s b (memAt s b)=s:=by
 unfold setM memAt
 rw[gEg h,Option.getD_some,List.set_getElem_self]
def EndQ (_:Nat) (k:Nat) (rs:List IRes) (R:AV→Heap→Prop) (e:Exit) (fr:Fr) (H:Heap):Prop:=(e=.normal∨e=.ret)∧∃ res res' H2,resOf fr H rs=some res∧SubV k H res H2 res'∧R res' H2
theorem toU_lt (v:Int):toU v < 18446744073709551616:=by unfold toU; omega
theorem effEnd {p:Pg} {ls:List Ln} {s:St} {B:Nat→Nat×Nat} {F4:List Blk} (hB:∀ j,j < ls.length→B j=(4,j)) (hF:SelfF ls.length F4) {fr:Fr} {b0 b1 b2 b3 b5 b6 b7:List Blk} {X:Heap}
  (e0:b0=[.cells 5 [boxW p ls s.seed]]) (e1:b1=[.cells 3 (procsH ls.length s B)]) (e2:b2=[.cells 1 (memH ls.length s)]) (e3:b3=[.cells 1 (heldH ls.length)]) (e5:b5=retF ls.length s) (e6:b6=memF ls.length s) (e7:b7=heldF ls.length s):
  EndQ F71.n 8 F71.res (fun res H'=>res=.tup []∧H'=worldG p ls (s) B F4) .normal fr (b0::b1::b2::b3::F4::b5::b6::b7 ::  X):=by
 subst e0 e1 e2 e3 e5 e6 e7
 exact endWgL (.tup []) p ls s B B F4 [] [] [] ⟨rfl,rfl⟩ rfl rfl rfl rfl rfl rfl rfl (hF.2 _ _ _ fun i hi=>rfl) (fun j hj=>by rw[hB j hj]; exact rho_w rfl hj) trivial
  ⟨.c _ rfl rfl,.c _ rfl rfl,.c _ rfl rfl,.c _ rfl rfl,.w _ _ (Nat.le_of_eq hF.1),.w _ _ (Nat.le_of_eq (fam_len _ _)),.w _ _ (Nat.le_of_eq (fam_len _ _)),.w _ _ (Nat.le_of_eq (fam_len _ _)), trivial⟩
set_option maxHeartbeats 16000000 in
theorem effC (p:Pg) (ls:List Ln) (s:St) {r i:Nat} (x:Act) {b c:Nat} (hml:s.mem.length=ls.length) (hk1:1≤x.k) (hk2:x.k≤7) (hop:x.k=3∨x.k=4→checkE x.o 1=0) (hb:b < ls.length) (hc:c < (memAt s b).length)
  (B:Nat→Nat×Nat) (F4:List Blk) (hB:∀ j,j < ls.length→B j=(4,j)) (hF:SelfF ls.length F4):
  AWP Tryz.prog F71.n 8 (pickI [1,1,1,1] F71.code) (EndQ F71.n 8 F71.res (fun res H'=>res=.tup []∧H'=worldG p ls (effS2 s b c (accV x ((memAt s b).getD c 0))) B F4)) (effF r i x b c) (worldG p ls (s) B F4):=by
 show AWP _ _ _ (.seq _ _) _ _ _
 have hbs:b < s.mem.length:=by omega
 have hm6:hget (worldG p ls (s) B F4) 6 b=some (.cells 1 (intsR (memAt s b))):=fam_get hb
 have hil:=intsR_len (memAt s b)
 have hcg:=intsR_get (memAt s b) c hc
 have hgd:(memAt s b).getD c 0=(memAt s b)[c]:=by rw[List.getD_eq_getElem?_getD,gEg hc]; rfl
 rw[hgd]
 have hnone:accV x (memAt s b)[c]=(memAt s b)[c]→effS2 s b c (accV x (memAt s b)[c])=s:=fun e=>by rw[e,effS2_id hc rfl,setM_id hbs]
 obtain⟨v0,hv0⟩:∃ v,v=(memAt s b)[c]:=⟨_,rfl⟩
 rw[← hv0] at hcg hnone ⊢
 obtain⟨k,xr,a,o,v,w,g⟩:=x
 dsimp only at hk1 hk2 hop
 have hdo:k=3∨k=4→PureRun Tryz.prog 118 [.sc (.int .i64 o),.sc (.int .i64 1),.agg [.sc (.int .u64 (IntKind.u64.wrap v0)),.sc (.int .i64 0)],.agg [.sc (.int .u64 (IntKind.u64.wrap v)),.sc (.int .i64 0)]] (.tup [.agg [.sc (.int .u64 ((opI o (toU v0) (toU v):Nat):Int)),.sc (.int .i64 0)],.sc (.int .i64 0)]):=fun hk=>by
  rw[wrapU,wrapU]
  exact do_ok (hop hk) (toU_lt _) (toU_lt _)
 have hkk:k=1∨k=2∨k=3∨k=4∨k=5∨k=6∨k=7:=by omega
 unfold effF plR actR
 unfold worldG boxW ckV at *
 dsimp only
 rcases hkk with rfl | rfl | rfl | rfl | rfl | rfl | rfl
 ·rw[show accV _ v0=v by simp[accV]]
  refine walkX ?_
  (refine Reg.on rfl (dstep_stN rfl rfl (hm6) hcg rfl (Nat.le_refl _) rfl) ?_; refine walkX ?_; exact effEnd (s:=effS2 s b c _)  hB hF rfl rfl (congrArg (fun z=>[Blk.cells 1 z]) (memH_same hbs)) rfl rfl (memF_eff hbs) rfl)
 ·rw[hnone (by simp[accV])]
  refine walkX ?_
  exact effEnd  hB hF rfl rfl rfl rfl rfl rfl rfl
 ·rw[show accV _ v0=toS (opI o (toU v0) (toU v)) by simp[accV]]
  (have hd:=hdo (by omega); generalize opI o (toU v0) (toU v)=rs at *; refine walkX ?_; refine DK.o rfl (dstep_ld1 rfl (hget_app1 hm6) hcg rfl) ?_; refine walkX ?_; refine DK.nil ⟨by kernel_rfl,?_⟩; refine walkX ?_; rw[wrapS]; (refine Reg.on rfl (dstep_stN rfl rfl (hget_app1 hm6) hcg rfl (Nat.le_refl _) rfl) ?_; refine walkX ?_; exact effEnd (s:=effS2 s b c _)  hB hF rfl rfl (congrArg (fun z=>[Blk.cells 1 z]) (memH_same hbs)) rfl rfl (memF_eff hbs) rfl))
 ·rw[show accV _ v0=toS (opI o (toU v0) (toU v)) by simp[accV]]
  (have hd:=hdo (by omega); generalize opI o (toU v0) (toU v)=rs at *; refine walkX ?_; refine DK.o rfl (dstep_ld1 rfl (hget_app1 hm6) hcg rfl) ?_; refine walkX ?_; refine DK.nil ⟨by kernel_rfl,?_⟩; refine walkX ?_; rw[wrapS]; (refine Reg.on rfl (dstep_stN rfl rfl (hget_app1 hm6) hcg rfl (Nat.le_refl _) rfl) ?_; refine walkX ?_; exact effEnd (s:=effS2 s b c _)  hB hF rfl rfl (congrArg (fun z=>[Blk.cells 1 z]) (memH_same hbs)) rfl rfl (memF_eff hbs) rfl))
 ·refine walkX ?_
  refine DK.o rfl (dstep_ld1 rfl (hget_app1 hm6) hcg rfl) ?_
  refine walkX ?_
  refine DK.nil ⟨by kernel_rfl,?_⟩
  refine walkX ?_
  by_cases he:v0=w
  ·rw[show accV _ v0=v by simp[accV,he]]
   rw[show(v0 == w)=true by simpa using he]
   refine walkX ?_
   (refine Reg.on rfl (dstep_stN rfl rfl (hget_app1 hm6) hcg rfl (Nat.le_refl _) rfl) ?_; refine walkX ?_; exact effEnd (s:=effS2 s b c _)  hB hF rfl rfl (congrArg (fun z=>[Blk.cells 1 z]) (memH_same hbs)) rfl rfl (memF_eff hbs) rfl)
  ·rw[hnone (by simp[accV,he])]
   rw[show(v0 == w)=false by simpa using he]
   refine walkX ?_
   exact effEnd  hB hF rfl rfl rfl rfl rfl rfl rfl
 ·rw[hnone (by simp[accV])]
  refine walkX ?_
  exact effEnd  hB hF rfl rfl rfl rfl rfl rfl rfl
 ·rw[show accV _ v0=v by simp[accV]]
  refine walkX ?_
  (refine Reg.on rfl (dstep_stN rfl rfl (hm6) hcg rfl (Nat.le_refl _) rfl) ?_; refine walkX ?_; exact effEnd (s:=effS2 s b c _)  hB hF rfl rfl (congrArg (fun z=>[Blk.cells 1 z]) (memH_same hbs)) rfl rfl (memF_eff hbs) rfl)
theorem effEndX {p:Pg} {ls:List Ln} {s:St} {B:Nat→Nat×Nat} {F4:List Blk} {y:List (List AV)} (hy:∀ r∈y,∀ c∈r,Pure c) (hB:∀ j,j < ls.length→(B j=(4,j)∨B j=(8,0))) (hF:SelfF ls.length F4) {fr:Fr} {b0 b1 b2 b3 b5 b6 b7:List Blk} {X:Heap}
  (e0:b0=[.cells 5 [boxW p ls s.seed]]) (e1:b1=[.cells 3 (procsH ls.length s B)]) (e2:b2=[.cells 1 (memH ls.length s)]) (e3:b3=[.cells 1 (heldH ls.length)]) (e5:b5=retF ls.length s) (e6:b6=memF ls.length s) (e7:b7=heldF ls.length s):
  EndQ F71.n 9 F71.res (fun res H'=>res=.tup []∧H'=worldG p ls (s) B F4++[[.cells 1 y]]) .normal fr (b0::b1::b2::b3::F4::b5::b6::b7::[.cells 1 y]::X):=by
 subst e0 e1 e2 e3 e5 e6 e7
 exact endWgL (.tup []) p ls s B B F4 [] [[(8,0)]] [[.cells 1 y]] ⟨rfl,rfl⟩ rfl rfl rfl rfl rfl rfl rfl (hF.2 _ _ _ fun i hi=>rfl) (fun j hj=>by rcases hB j hj with h | h<;>rw[h]; exact rho_w rfl hj; rfl) ⟨⟨⟨_,rfl,ToB.rows rfl hy⟩,trivial⟩,trivial⟩
  ⟨.c _ rfl rfl,.c _ rfl rfl,.c _ rfl rfl,.c _ rfl rfl,.w _ _ (Nat.le_of_eq hF.1),.w _ _ (Nat.le_of_eq (fam_len _ _)),.w _ _ (Nat.le_of_eq (fam_len _ _)),.w _ _ (Nat.le_of_eq (fam_len _ _)),.c _ rfl rfl,trivial⟩
set_option maxHeartbeats 16000000 in
theorem effCX (p:Pg) (ls:List Ln) (s:St) {r i:Nat} (x:Act) {b c:Nat} (hml:s.mem.length=ls.length) (hk1:1≤x.k) (hk2:x.k≤7) (hop:x.k=3∨x.k=4→checkE x.o 1=0) (hb:b < ls.length) (hc:c < (memAt s b).length)
  (B:Nat→Nat×Nat) (F4:List Blk) {y:List (List AV)} (hy:∀ r∈y,∀ c∈r,Pure c) (hB:∀ j,j < ls.length→(B j=(4,j)∨B j=(8,0))) (hF:SelfF ls.length F4):
  AWP Tryz.prog F71.n 9 (pickI [1,1,1,1] F71.code) (EndQ F71.n 9 F71.res (fun res H'=>res=.tup []∧H'=worldG p ls (effS2 s b c (accV x ((memAt s b).getD c 0))) B F4++[[.cells 1 y]])) (effF r i x b c) (worldG p ls (s) B F4++[[.cells 1 y]]):=by
 show AWP _ _ _ (.seq _ _) _ _ _
 have hbs:b < s.mem.length:=by omega
 have hm6:hget (worldG p ls (s) B F4++[[.cells 1 y]]) 6 b=some (.cells 1 (intsR (memAt s b))):=fam_get hb
 have hil:=intsR_len (memAt s b)
 have hcg:=intsR_get (memAt s b) c hc
 have hgd:(memAt s b).getD c 0=(memAt s b)[c]:=by rw[List.getD_eq_getElem?_getD,gEg hc]; rfl
 rw[hgd]
 have hnone:accV x (memAt s b)[c]=(memAt s b)[c]→effS2 s b c (accV x (memAt s b)[c])=s:=fun e=>by rw[e,effS2_id hc rfl,setM_id hbs]
 obtain⟨v0,hv0⟩:∃ v,v=(memAt s b)[c]:=⟨_,rfl⟩
 rw[← hv0] at hcg hnone ⊢
 obtain⟨k,xr,a,o,v,w,g⟩:=x
 dsimp only at hk1 hk2 hop
 have hdo:k=3∨k=4→PureRun Tryz.prog 118 [.sc (.int .i64 o),.sc (.int .i64 1),.agg [.sc (.int .u64 (IntKind.u64.wrap v0)),.sc (.int .i64 0)],.agg [.sc (.int .u64 (IntKind.u64.wrap v)),.sc (.int .i64 0)]] (.tup [.agg [.sc (.int .u64 ((opI o (toU v0) (toU v):Nat):Int)),.sc (.int .i64 0)],.sc (.int .i64 0)]):=fun hk=>by
  rw[wrapU,wrapU]
  exact do_ok (hop hk) (toU_lt _) (toU_lt _)
 have hkk:k=1∨k=2∨k=3∨k=4∨k=5∨k=6∨k=7:=by omega
 unfold effF plR actR
 unfold worldG boxW ckV at *
 dsimp only
 rcases hkk with rfl | rfl | rfl | rfl | rfl | rfl | rfl
 ·rw[show accV _ v0=v by simp[accV]]
  refine walkX ?_
  (refine Reg.on rfl (dstep_stN rfl rfl (hm6) hcg rfl (Nat.le_refl _) rfl) ?_; refine walkX ?_; exact effEndX (s:=effS2 s b c _) hy hB hF rfl rfl (congrArg (fun z=>[Blk.cells 1 z]) (memH_same hbs)) rfl rfl (memF_eff hbs) rfl)
 ·rw[hnone (by simp[accV])]
  refine walkX ?_
  exact effEndX hy hB hF rfl rfl rfl rfl rfl rfl rfl
 ·rw[show accV _ v0=toS (opI o (toU v0) (toU v)) by simp[accV]]
  (have hd:=hdo (by omega); generalize opI o (toU v0) (toU v)=rs at *; refine walkX ?_; refine DK.o rfl (dstep_ld1 rfl (hget_app1 hm6) hcg rfl) ?_; refine walkX ?_; refine DK.nil ⟨by kernel_rfl,?_⟩; refine walkX ?_; rw[wrapS]; (refine Reg.on rfl (dstep_stN rfl rfl (hget_app1 hm6) hcg rfl (Nat.le_refl _) rfl) ?_; refine walkX ?_; exact effEndX (s:=effS2 s b c _) hy hB hF rfl rfl (congrArg (fun z=>[Blk.cells 1 z]) (memH_same hbs)) rfl rfl (memF_eff hbs) rfl))
 ·rw[show accV _ v0=toS (opI o (toU v0) (toU v)) by simp[accV]]
  (have hd:=hdo (by omega); generalize opI o (toU v0) (toU v)=rs at *; refine walkX ?_; refine DK.o rfl (dstep_ld1 rfl (hget_app1 hm6) hcg rfl) ?_; refine walkX ?_; refine DK.nil ⟨by kernel_rfl,?_⟩; refine walkX ?_; rw[wrapS]; (refine Reg.on rfl (dstep_stN rfl rfl (hget_app1 hm6) hcg rfl (Nat.le_refl _) rfl) ?_; refine walkX ?_; exact effEndX (s:=effS2 s b c _) hy hB hF rfl rfl (congrArg (fun z=>[Blk.cells 1 z]) (memH_same hbs)) rfl rfl (memF_eff hbs) rfl))
 ·refine walkX ?_
  refine DK.o rfl (dstep_ld1 rfl (hget_app1 hm6) hcg rfl) ?_
  refine walkX ?_
  refine DK.nil ⟨by kernel_rfl,?_⟩
  refine walkX ?_
  by_cases he:v0=w
  ·rw[show accV _ v0=v by simp[accV,he]]
   rw[show(v0 == w)=true by simpa using he]
   refine walkX ?_
   (refine Reg.on rfl (dstep_stN rfl rfl (hget_app1 hm6) hcg rfl (Nat.le_refl _) rfl) ?_; refine walkX ?_; exact effEndX (s:=effS2 s b c _) hy hB hF rfl rfl (congrArg (fun z=>[Blk.cells 1 z]) (memH_same hbs)) rfl rfl (memF_eff hbs) rfl)
  ·rw[hnone (by simp[accV,he])]
   rw[show(v0 == w)=false by simpa using he]
   refine walkX ?_
   exact effEndX hy hB hF rfl rfl rfl rfl rfl rfl rfl
 ·rw[hnone (by simp[accV])]
  refine walkX ?_
  exact effEndX hy hB hF rfl rfl rfl rfl rfl rfl rfl
 ·rw[show accV _ v0=v by simp[accV]]
  refine walkX ?_
  (refine Reg.on rfl (dstep_stN rfl rfl (hm6) hcg rfl (Nat.le_refl _) rfl) ?_; refine walkX ?_; exact effEndX (s:=effS2 s b c _) hy hB hF rfl rfl (congrArg (fun z=>[Blk.cells 1 z]) (memH_same hbs)) rfl rfl (memF_eff hbs) rfl)
end Go.Proofs.YtkjoolaahocgdaaGreat
