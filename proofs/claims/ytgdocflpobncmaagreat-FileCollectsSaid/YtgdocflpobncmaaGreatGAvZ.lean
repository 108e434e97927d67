import Derived.Test.YtgdocflpobncmaaGreatGAvQ
import Derived.Test.YtgdocflpobncmaaGreatGAvK3
namespace Go.Av
class PV (a:AV):Prop where
 out:bL a
class PR (l:List AV):Prop where
 out:∀ c∈l,bL c
class PRs (rows:List (List AV)):Prop where
 out:∀ r∈rows,∀ c∈r,bL c
class PM (es:List (Value×AV)):Prop where
 out:∀ x∈es,bL x.2
instance (v:Value):PV (.sc v):=⟨.sc v⟩
instance:PV .undef:=⟨.undef⟩
instance (l:List AV) [h:PR l]:PV (.agg l):=⟨.agg _ h.out⟩
instance (l:List AV) [h:PR l]:PV (.tup l):=⟨.tup _ h.out⟩
instance (l:List AV) [h:PR l]:PV (.cptr l):=⟨.cptr _ h.out⟩
instance (sz:Nat) (l:List (List AV)) [h:PRs l]:PV (.list sz l):=⟨.list _ _ h.out⟩
instance (l:List (Value×AV)) [h:PM l]:PV (.tmap l):=⟨.tmap _ h.out⟩
instance (f:Fn) (l m:List AV) [h:PR l] [h':PR m]:PV (.clo f l m):=⟨.clo _ _ _ h.out h'.out⟩
instance (t:TypeId) (a:AV) [h:PV a]:PV (.ifc t a):=⟨.ifc _ _ h.out⟩
instance:PV .one:=⟨.one⟩
instance:PR []:=⟨d7⟩
instance (a:AV) (l:List AV) [h:PV a] [h':PR l]:PR (a::l):=⟨bM h.out h'.out⟩
instance (l m:List AV) [h:PR l] [h':PR m]:PR (l++m):=⟨wI h.out h'.out⟩
instance (n:Nat) (a:AV) [h:PV a]:PR (List.replicate n a):=⟨fun c hc=>by rw[(List.mem_replicate.1 hc).2]; exact h.out⟩
instance {α:Type} (l:List α) (f:α→AV) [h:∀ a,PV (f a)]:PR (l.map f):=⟨fun c hc=>by
 obtain⟨a,_,rfl⟩:=List.mem_map.1 hc
 exact(h a).out⟩
instance:PRs []:=⟨fun r h=>by cases h⟩
instance (r:List AV) (l:List (List AV)) [h:PR r] [h':PRs l]:PRs (r::l):=⟨fun q hq=>by
 rcases List.mem_cons.1 hq with e | e
 ·subst e; exact h.out
 ·exact h'.out q e⟩
instance (l m:List (List AV)) [h:PRs l] [h':PRs m]:PRs (l++m):=⟨fun r hr=>(List.mem_append.1 hr).elim (h.out r) (h'.out r)⟩
instance (n:Nat) (r:List AV) [h:PR r]:PRs (List.replicate n r):=⟨fun q hq=>by rw[(List.mem_replicate.1 hq).2]; exact h.out⟩
instance {α:Type} (l:List α) (f:α→List AV) [h:∀ a,PR (f a)]:PRs (l.map f):=⟨fun r hr=>by
 obtain⟨a,_,rfl⟩:=List.mem_map.1 hr
 exact(h a).out⟩
instance (n:Nat) (f:Nat→AV) [h:∀ k,PV (f k)]:PRs (row1 n f):=⟨fun r hr=>by
 obtain⟨a,_,rfl⟩:=List.mem_map.1 hr
 exact bM (h a).out d7⟩
instance (n:Nat) (s:Nat→Bool):PR (bset n s):=⟨I3 n s⟩
instance (z:List (Nat×Value)):PR (fD z):=⟨fun c hc=>by
 rw[gK] at hc;obtain⟨v,_,rfl⟩:=List.mem_map.1 hc
 exact .sc v⟩
instance:PM []:=⟨fun x h=>by cases h⟩
theorem pv (a:AV) [h:PV a]:bL a:=h.out
theorem pr (l:List AV) [h:PR l]:∀ c∈l,bL c:=h.out
theorem prs (l:List (List AV)) [h:PRs l]:∀ r∈l,∀ c∈r,bL c:=h.out
section
variable {P:Program} {N k:Nat} {xs:List IOper} {fr:Fr} {H:Heap} {K:Fr→Heap→Prop} {d:Nat} {gd:Option (Nat×Bool)}
theorem wr1 {o:IOp} {v:AV} {H':Heap} (h:Reg P N k xs ((d,v)::fr) H' K) (hg:gok fr gd=some true:=by rfl) (hs:aD H.length 0 o fr H=some (v,H'):=by rfl):Reg P N k (⟨some d,gd,.op o⟩::xs) fr H K:=.o hg hs h
theorem wr2 {o:IOp} {v:AV} {H':Heap} (h:Reg P N k xs fr H' K) (hg:gok fr gd=some true:=by rfl) (hs:aD H.length 0 o fr H=some (v,H'):=by rfl):Reg P N k (⟨none,gd,.op o⟩::xs) fr H K:=.on hg hs h
theorem wr3 {a:IAct} (h:Reg P N k xs ((d,.sc Go.undef)::fr) H K) (hg:gok fr gd=some false:=by rfl):Reg P N k (⟨some d,gd,a⟩::xs) fr H K:=.s hg h
theorem wr5 {sz:Nat} {x ix:Operand} {kd:IntKind} {q g' i' len:Nat} {rows:List (List AV)} (h:Reg P N k xs ((d,.ptr g' i' q 0)::fr) H K) (hg:gok fr gd=some true:=by rfl) (hx:ev fr x=.hsl g' i' 0 len:=by rfl)
  (hi:ev fr ix=.sc (.int kd (q:Int)):=by rfl) (hh:hget H g' i'=some (.cells sz rows):=by rfl) (h1:q < len:=by first | assumption | omega) (h2:rows.length=len:=by first | assumption | rfl | omega | (simp; done) | (simp; omega)):
  Reg P N k (⟨some d,gd,.op (.idxSl sz x ix)⟩::xs) fr H K:=.o hg (uU hx hi hh h1 h2) h
theorem wr6 {sz:Nat} {x ix:Operand} {kd:IntKind} {n:Int} {rows:List (List AV)} {r:List AV} (h:Reg P N k xs ((d,.cptr r)::fr) H K) (hg:gok fr gd=some true:=by rfl) (hx:ev fr x=.list sz rows:=by rfl)
  (hi:ev fr ix=.sc (.int kd n):=by rfl) (hr:dO rows n=some r:=by assumption):Reg P N k (⟨some d,gd,.op (.idxSl sz x ix)⟩::xs) fr H K:=.o hg (sQ hx hi hr) h
theorem wr7 {a:Operand} {g' i' row off s:Nat} {rows:List (List AV)} {r:List AV} {c:AV} (h:Reg P N k xs ((d,c)::fr) H K) (hg:gok fr gd=some true:=by rfl) (ha:ev fr a=.ptr g' i' row off:=by rfl)
  (hh:hget H g' i'=some (.cells s rows):=by rfl) (hr:rows[row]?=some r:=by first | rfl | assumption) (hc:r[off]?=some c:=by first | rfl | assumption):Reg P N k (⟨some d,gd,.op (.load 1 false a)⟩::xs) fr H K:=.o hg (n8 ha hh hr hc) h
theorem wr8 {a x:Operand} {g' i' row off s:Nat} {rows:List (List AV)} {r:List AV} {c:AV} (h:Reg P N k xs fr (aQ H g' i' (.cells s (rows.set row (r.set off c)))) K) (hg:gok fr gd=some true:=by rfl) (ha:ev fr a=.ptr g' i' row off:=by rfl)
  (hx:(ev fr x).cs=some [c]:=by rfl) (hh:hget H g' i'=some (.cells s rows):=by rfl) (hr:rows[row]?=some r:=by first | rfl | assumption)
  (hl:off < r.length:=by first | assumption | exact nlB rfl | omega | (simp; done) | (simp; omega)) (h1:c.cell1=true:=by rfl):Reg P N k (⟨none,gd,.op (.store 1 a x)⟩::xs) fr H K:=.on hg (nS ha hx hh hr hl h1) h
theorem wr9 {sz bytes:Nat} {s x:Operand} {g' i' len:Nat} {rows1 rows2:List (List AV)} (h:Reg P N k xs ((d,.hsl H.length 0 0 (len+rows2.length))::fr) (aQ (aQ H g' i' .dead) H.length 0 (.cells sz (rows1++rows2))) K)
  (hg:gok fr gd=some true:=by rfl) (hs:ev fr s=.hsl g' i' 0 len:=by rfl) (hx:fP sz H (ev fr x)=some (sz,rows2):=by rfl) (hh:hget H g' i'=some (.cells sz rows1):=by rfl)
  (hl:rows1.length=len:=by first | assumption | rfl | omega | (simp; done) | (simp; omega)) (hb:(len+rows2.length) * (bytes+1)≤70368744177664:=by first | omega | (simp; omega)) (e3:(Nat.beq H.length g' && Nat.beq 0 i')=false:=by rfl):
  Reg P N k (⟨some d,gd,.op (.append sz bytes s x)⟩::xs) fr H K:=.o hg (xL hs hx hh hl hb e3) h
end
section
variable {P:Program} {base j:Nat} {xs:List IOper} {fr:Fr} {H:Heap} {v:AV} {H1:Heap} {acc:List bT} {K:List bT→Fr→Heap→Prop} {d:Nat} {gd:Option (Nat×Bool)}
theorem wd1 {o:IOp} (h:DK P base (j+1) xs ((d,v)::fr) H1 (⟨⟨some d,gd,.op o⟩,(base,j),v,drd fr o,dwr base j fr o⟩::acc) K) (hg:gok fr gd=some true:=by rfl) (hs:aD base j o fr H=some (v,H1):=by rfl):
  DK P base j (⟨some d,gd,.op o⟩::xs) fr H acc K:=.o hg hs h
theorem wd2 {o:IOp} (h:DK P base (j+1) xs fr H1 (⟨⟨none,gd,.op o⟩,(base,j),v,drd fr o,dwr base j fr o⟩::acc) K) (hg:gok fr gd=some true:=by rfl) (hs:aD base j o fr H=some (v,H1):=by rfl):
  DK P base j (⟨none,gd,.op o⟩::xs) fr H acc K:=.on hg hs h
theorem wd3 {a:IAct} (h:DK P base (j+1) xs ((d,.sc Go.undef)::fr) H (⟨⟨some d,gd,a⟩,(base,j),.sc Go.undef,[],[]⟩::acc) K) (hg:gok fr gd=some false:=by rfl):DK P base j (⟨some d,gd,a⟩::xs) fr H acc K:=.s hg h
theorem wd5 {sz:Nat} {x ix:Operand} {kd:IntKind} {q g' i' len:Nat} {rows:List (List AV)}
  (h:DK P base (j+1) xs ((d,.ptr g' i' q 0)::fr) H (⟨⟨some d,gd,.op (.idxSl sz x ix)⟩,(base,j),.ptr g' i' q 0,drd fr (.idxSl sz x ix),dwr base j fr (.idxSl sz x ix)⟩::acc) K) (hg:gok fr gd=some true:=by rfl) (hx:ev fr x=.hsl g' i' 0 len:=by rfl)
  (hi:ev fr ix=.sc (.int kd (q:Int)):=by rfl) (hh:hget H g' i'=some (.cells sz rows):=by rfl) (h1:q < len:=by first | assumption | omega) (h2:rows.length=len:=by first | assumption | rfl | omega | (simp; done) | (simp; omega)):
  DK P base j (⟨some d,gd,.op (.idxSl sz x ix)⟩::xs) fr H acc K:=.o hg (uU hx hi hh h1 h2) h
theorem wd6 {sz:Nat} {x ix:Operand} {kd:IntKind} {n:Int} {rows:List (List AV)} {r:List AV} (h:DK P base (j+1) xs ((d,.cptr r)::fr) H (⟨⟨some d,gd,.op (.idxSl sz x ix)⟩,(base,j),.cptr r,drd fr (.idxSl sz x ix),dwr base j fr (.idxSl sz x ix)⟩::acc) K)
  (hg:gok fr gd=some true:=by rfl) (hx:ev fr x=.list sz rows:=by rfl) (hi:ev fr ix=.sc (.int kd n):=by rfl) (hr:dO rows n=some r:=by assumption):DK P base j (⟨some d,gd,.op (.idxSl sz x ix)⟩::xs) fr H acc K:=.o hg (sQ hx hi hr) h
theorem wd7 {a:Operand} {g' i' row off s:Nat} {rows:List (List AV)} {r:List AV} {c:AV} (h:DK P base (j+1) xs ((d,c)::fr) H (⟨⟨some d,gd,.op (.load 1 false a)⟩,(base,j),c,drd fr (.load 1 false a),dwr base j fr (.load 1 false a)⟩::acc) K)
  (hg:gok fr gd=some true:=by rfl) (ha:ev fr a=.ptr g' i' row off:=by rfl) (hh:hget H g' i'=some (.cells s rows):=by rfl) (hr:rows[row]?=some r:=by first | rfl | assumption) (hc:r[off]?=some c:=by first | rfl | assumption):
  DK P base j (⟨some d,gd,.op (.load 1 false a)⟩::xs) fr H acc K:=.o hg (n8 ha hh hr hc) h
theorem wd8 {a x:Operand} {g' i' row off s:Nat} {rows:List (List AV)} {r:List AV} {c:AV}
  (h:DK P base (j+1) xs fr (aQ H g' i' (.cells s (rows.set row (r.set off c)))) (⟨⟨none,gd,.op (.store 1 a x)⟩,(base,j),.undef,drd fr (.store 1 a x),dwr base j fr (.store 1 a x)⟩::acc) K) (hg:gok fr gd=some true:=by rfl) (ha:ev fr a=.ptr g' i' row off:=by rfl)
  (hx:(ev fr x).cs=some [c]:=by rfl) (hh:hget H g' i'=some (.cells s rows):=by rfl) (hr:rows[row]?=some r:=by first | rfl | assumption)
  (hl:off < r.length:=by first | assumption | exact nlB rfl | omega | (simp; done) | (simp; omega)) (h1:c.cell1=true:=by rfl):DK P base j (⟨none,gd,.op (.store 1 a x)⟩::xs) fr H acc K:=.on hg (nS ha hx hh hr hl h1) h
theorem FJ {f:FuncId} {args:List Operand} (h:DK P base (j+1) xs ((d,v)::fr) H (⟨⟨some d,gd,.call f args⟩,(base,j),v,[],[]⟩::acc) K) (hg:gok fr gd=some true:=by rfl) (hp:aB P f (avals fr args) v:=by assumption):
  DK P base j (⟨some d,gd,.call f args⟩::xs) fr H acc K:=.c hg hp h
end
section
variable {P:Program} {base j:Nat} {xs:List IOper} {fr:Fr} {H:Heap} {acc:List bT} {K:List bT→Fr→Heap→Prop} {d:Nat} {gd:Option (Nat×Bool)}
theorem wd9 {sz bytes:Nat} {s x:Operand} {g' i' len:Nat} {rows1 rows2:List (List AV)}
  (h:DK P base (j+1) xs ((d,.hsl base j 0 (len+rows2.length))::fr) (aQ (aQ H g' i' .dead) base j (.cells sz (rows1++rows2)))
   (⟨⟨some d,gd,.op (.append sz bytes s x)⟩,(base,j),.hsl base j 0 (len+rows2.length),drd fr (.append sz bytes s x),dwr base j fr (.append sz bytes s x)⟩::acc) K)
  (hg:gok fr gd=some true:=by rfl) (hs:ev fr s=.hsl g' i' 0 len:=by rfl) (hx:fP sz H (ev fr x)=some (sz,rows2):=by rfl) (hh:hget H g' i'=some (.cells sz rows1):=by rfl)
  (hl:rows1.length=len:=by first | assumption | rfl | omega | (simp; done) | (simp; omega)) (hb:(len+rows2.length) * (bytes+1)≤70368744177664:=by first | omega | (simp; omega)) (e3:(Nat.beq base g' && Nat.beq j i')=false:=by rfl):
  DK P base j (⟨some d,gd,.op (.append sz bytes s x)⟩::xs) fr H acc K:=.o hg (xL hs hx hh hl hb e3) h
end
section
variable {T:AV→AV→Prop} {ρ:Nat→Nat→Option (Nat×Nat)} {H:Heap} {n:Nat} {S:Nat→Nat→Bool}
theorem wt1 {a b:AV} [h:PV b] (e:a=b:=by rfl):To T ρ a b:=.eq e h.out
theorem wt2 {g i len sz:Nat} {rows rows':List (List AV)} [hp:PRs rows'] (h:hget H g i=some (.cells sz rows)) (hS:S g i=true) (hl:rows.length=len) (e:rows=rows'):To (ToT H n S) ρ (.hsl g i 0 len) (.list sz rows'):=.fz h hS hl e hp.out
theorem wt5 {sz:Nat} {rows rows':List (List AV)} [hp:PRs rows'] (e:rows=rows':=by rfl):ToB T ρ (.cells sz rows) (.cells sz rows'):=.rows e hp.out
theorem wt6 {sz:Nat} {rows rows':List (List AV)} [hp:PRs rows'] (e:rows=rows'):ToB T ρ (.cells sz rows) (.cells sz rows'):=.rows e hp.out
theorem wt7 {l:List AV} [hp:PR l]:ToL T ρ l l:=.pure hp.out
theorem wt9 {sz:Nat} {rows rows':List (List AV)} {r r':List AV} [hp:PRs rows'] (e:rows=rows') (h:ToL T ρ r r'):ToB T ρ (.cells sz (rows++[r])) (.cells sz (rows'++[r'])):=.rowsR (.snoc e hp.out h)
theorem eF {p:Nat×Nat} {x y:Blk} {ps:List (Nat×Nat)} {xs:List Blk} {R:Blk→Blk→Prop} (h:R y x) (h':bQ R H ps xs) (e:hget H p.1 p.2=some y:=by rfl):bQ R H (p::ps) (x::xs):=.cons e h h'
theorem fK {es es':List (Value×AV)} [hp:PM es'] (e:es=es'):ToB T ρ (.map es) (.map es'):=.mapE e hp.out
end
theorem ToB.row1 {T:AV→AV→Prop} {ρ:Nat→Nat→Option (Nat×Nat)} {n:Nat} {f f':Nat→AV} (h:∀ k,k < n→To T ρ (f k) (f' k)):ToB T ρ (.cells 1 (row1 n f)) (.cells 1 (row1 n f')):=by
 unfold Av.row1;exact ToB.rowsR (ToR.map fun k hk=>⟨h k (List.mem_range.1 hk),trivial⟩)
theorem To.row1 {T:AV→AV→Prop} {ρ:Nat→Nat→Option (Nat×Nat)} {n:Nat} {f f':Nat→AV} (h:∀ k,k < n→To T ρ (f k) (f' k)):To T ρ (.list 1 (row1 n f)) (.list 1 (row1 n f')):=by
 unfold Av.row1;exact To.listR (ToR.map fun k hk=>⟨h k (List.mem_range.1 hk),trivial⟩)
theorem AWP.joinE {P:Program} {N k:Nat} {a b:cA} {fr:Fr} {H:Heap} {Q:Exit→Fr→Heap→Prop} {σ:Type} (F':σ→Fr) (H':σ→Heap) (I:σ→Prop) (h1:AWP P N k a (yV (fun fr2 H2=>∃ s,I s∧Sub k N fr2 H2 (F' s) (H' s)) Q) fr H)
  (h2:∀ s,I s→AWP P N k b Q (F' s) (H' s)):AWP P N k (.seq a b) Q fr H:=
 AWP.seq (AWP.mono h1 fun e fr H h=>by
  cases e<;>first | exact h | (obtain⟨s,hs,hsub⟩:=h; exact AWP.sub hsub (h2 s hs)))
theorem aB.mkI {P:Program} {f:FuncId} {F:IFun} {args:List AV} {X:AV} [ha:PR args] [hX:PV X] (hf:bG P f=some F) (hn:args.length≤F.n) (h:AWP P F.n 0 F.code (aG F.res X) (gO 0 args) []):aB P f args X:=.mk hf hn ha.out hX.out h
theorem aB.ofI {P:Program} {f:FuncId} {args:List AV} {v:AV} [ha:PR args] [hv:PV v] (h:aH P f args [] fun res _=>res=v):aB P f args v:=.of ha.out hv.out h
end Go.Av
namespace Go.Av
structure LOK (P:Program) (N:Nat) (L:LC) (ps:List Nat) (asg body:cA):Prop where
 en:L.n=N
 eps:L.ps.toList=ps
 lt:List.all ps (Nat.blt · N)=true
 easg:cD P N L.asg=some asg
 ebody:cD P N L.body=some body
def putL (fr:Fr) (l:List (Nat×AV)):Fr:=l.foldl (fun fr p=>p::fr) fr
def TS (g i:Nat) (L:LC) (R:Bool→Heap→Prop) (e:Exit) (_:Fr) (H2:Heap):Prop:=
 ∃ c2,hget H2 g i=some (.lp L c2 .busy none) ∧
  match e with
  | .normal=>R true (aQ H2 g i (.lp L c2 .ready none))
  | .ret=>R false (aQ H2 g i (.lp L c2 .done (some .ret)))
  | .exit id=>R false (aQ H2 g i (.lp L c2 .done (some (.exit id))))
  | _=>False
def iA (P:Program) (g i:Nat) (args:List AV) (H:Heap) (R:Bool→Heap→Prop):Prop:=
 ∃ L caps N ps asg body,LOK P N L ps asg body∧hget H g i=some (.lp L caps .ready none)∧args.length=ps.length ∧
  AWP P N H.length asg (fun e fr1 H1=>e=.normal∧∃ c1,hget H1 g i=some (.lp L c1 .ready none)∧AWP P N H.length body (TS g i L R) fr1 (aQ H1 g i (.lp L c1 .busy none))) (putL caps (ps.zip args)) H
def UM (g i:Nat) (R:Bool→Heap→Prop) (e:Exit) (_:Fr) (H2:Heap):Prop:=
 ∃ L c2,hget H2 g i=some (.lp L c2 .busy none) ∧
  match e with
  | .normal=>R true (aQ H2 g i (.lp L c2 .ready none))
  | .ret=>R false (aQ H2 g i (.lp L c2 .done (some .ret)))
  | .exit id=>R false (aQ H2 g i (.lp L c2 .done (some (.exit id))))
  | _=>False
def eP (P:Program) (g i:Nat) (args:List AV) (H:Heap) (R:Bool→Heap→Prop):Prop:=
 ∃ L caps N ps asg body,LOK P N L ps asg body∧hget H g i=some (.lp L caps .ready none)∧args.length=ps.length ∧
  AWP P N H.length asg (fun e fr1 H1=>e=.normal∧∃ L1 c1,hget H1 g i=some (.lp L1 c1 .ready none)∧AWP P N H.length body (UM g i R) fr1 (aQ H1 g i (.lp L1 c1 .busy none))) (putL caps (ps.zip args)) H
theorem eP.mono {P:Program} {g i:Nat} {args:List AV} {H:Heap} {R R':Bool→Heap→Prop} (h:eP P g i args H R) (hr:∀ b H',R b H'→R' b H'):eP P g i args H R':=by
 obtain⟨L,caps,N,ps,asg,body,h1,h2,h3,h4⟩:=h;refine⟨L,caps,N,ps,asg,body,h1,h2,h3,h4.mono fun e fr1 H1 ⟨he,L1,c1,h5,h6⟩=>⟨he,L1,c1,h5,h6.mono fun e2 fr2 H2 ⟨L2,c2,h7,h8⟩=>⟨L2,c2,h7,?_⟩⟩⟩
 cases e2<;>first | exact hr _ _ h8 | exact h8
theorem iA.g {P:Program} {g i:Nat} {args:List AV} {H:Heap} {R:Bool→Heap→Prop} (h:iA P g i args H R):eP P g i args H R:=by
 obtain⟨L,caps,N,ps,asg,body,h1,h2,h3,h4⟩:=h;refine⟨L,caps,N,ps,asg,body,h1,h2,h3,h4.mono fun e fr1 H1 ⟨he,c1,h5,h6⟩=>⟨he,L,c1,h5,h6.mono fun e2 fr2 H2 ⟨c2,h7,h8⟩=>⟨L,c2,h7,h8⟩⟩⟩
theorem iA.mono {P:Program} {g i:Nat} {args:List AV} {H:Heap} {R R':Bool→Heap→Prop} (h:iA P g i args H R) (hr:∀ b H',R b H'→R' b H'):iA P g i args H R':=by
 obtain⟨L,caps,N,ps,asg,body,h1,h2,h3,h4⟩:=h;refine⟨L,caps,N,ps,asg,body,h1,h2,h3,h4.mono fun e fr1 H1 ⟨he,c1,h5,h6⟩=>⟨he,c1,h5,h6.mono fun e2 fr2 H2 ⟨c2,h7,h8⟩=>⟨c2,h7,?_⟩⟩⟩
 cases e2<;>first | exact hr _ _ h8 | exact h8
section
variable {P:Program} {N k:Nat} {fr:Fr} {H:Heap} {Q:Exit→Fr→Heap→Prop}
theorem Rep.yld_inv {M J} {g i:Nat} {v:Value} (h:Rep M J (.yld g i) v):∃ β l,v=.func (.yield β) #[] #[]∧J g i=some l∧l.blk=some β:=by
 cases h with
 | yld _ _ β l hJ hb=>exact⟨β,l,rfl,hJ,hb⟩
theorem aU.lp {M J} {h:Array Obj} (hH:aU M J H h) {g i:Nat} {L:LC} {caps:Fr} {st:LoopState} {pe:Option Code} (hg:hget H g i=some (.lp L caps st pe)) {l:Loc} (hJ:J g i=some l) {β:Nat} (hb:l.blk=some β):
  ∃ r,h[β]?=some (.loop r)∧r.params=L.ps∧r.assign=L.asg∧r.body=L.body∧r.state=st∧r.pending=pe∧a8 L.n M J caps r.tmps:=by
 obtain⟨l',h1,β',r,h2,h3,h4⟩:=hH.blk g i _ hg rfl;rw[hJ] at h1
 injection h1 with h1
 subst h1;rw[hb] at h2
 injection h2 with h2
 subst h2;exact⟨r,h3,h4⟩
theorem aZ.loop {M J} {w:World} (k:Nat) (hH:aU M J H w.heap) (hM:bE M w.heap) {g i:Nat} {L:LC} {caps:Fr} {st:LoopState} {pe:Option Code} (hg:hget H g i=some (.lp L caps st pe)) {l:Loc} (hJ:J g i=some l) {β:Nat} (hb:l.blk=some β)
  {r:Loop} (hr:w.heap[β]?=some (.loop r)) (st':LoopState) (pe':Option Code) (x:Blk) (hx:x=.dead∨x=.lp L caps st' pe'):
  aZ k M J H w M J (aQ H g i x) (w.putObj β (.loop { r with state:=st',pending:=pe' })):=by
 obtain⟨r',h1,h3,h4,h5,h6,h7,h8⟩:=hH.lp hg hJ hb;rw[hr] at h1
 injection h1 with h1
 injection h1 with h1
 subst h1;refine aZ.write k hH hM g i l β _ hg rfl hJ hb _ x (fun hl=>?_) rfl rfl rfl rfl (.inr fun r0 h0=>?_)
 ·rcases hx with rfl | rfl
  ·cases hl
  ·exact⟨β,_,hb,World.putObj_heap_same (cE hr),h3,h4,h5,rfl,rfl,h8⟩
 ·rw[hr] at h0
  injection h0 with h0
  injection h0 with h0
  subst h0;exact⟨_,rfl,rfl⟩
theorem a8.putOne {M J tmps} (hF:a8 N M J fr tmps) {d:Nat} (hd:d < N) {v:AV} {cv:Value} (hv:Rep M J v cv):a8 N M J ((d,v)::fr) (tmps.setIfInBounds d cv):=by
 refine⟨by simp[hF.1],fun t=>?_⟩;show Rep M J (match Nat.beq d t with | true=>v | false=>Fr.get fr t) _;rw[Array.getD_eq_getD_getElem?,Array.getElem?_setIfInBounds];split
 ·rename_i e
  have:d=t:=nEb e;subst this;rw[if_pos rfl,if_pos (by rw[hF.1]; exact hd)];exact hv
 ·rename_i e
  have hne:d≠t:=fun h=>by subst h; simp at e
  rw[if_neg hne,← Array.getD_eq_getD_getElem?];exact hF.2 t
theorem a8.putL {M J}:∀(ps:List Nat) (as:List AV) (cas:List Value) {fr:Fr} {tmps:Array Value},a8 N M J fr tmps→ps.all (Nat.blt · N)=true→as.length=cas.length →
  (∀(j:Nat) c v,as[j]?=some c→cas[j]?=some v→Rep M J c v)→a8 N M J (putL fr (ps.zip as)) ((ps.zip cas).foldl (fun tmps (t,a)=>tmps.setIfInBounds t a) tmps)
 | [],_,_,_,_,hF,_,_,_=>hF
 | _::_,[],[],_,_,hF,_,_,_=>hF
 | _::_,[],_::_,_,_,_,_,hl,_=>by simp at hl
 | _::_,_::_,[],_,_,_,_,hl,_=>by simp at hl
 | p::ps,a::as,v::cas,fr,tmps,hF,hp,hl,hr=>by
  simp only[List.all_cons,bAe] at hp
  exact a8.putL ps as cas (hF.putOne (nlB hp.1) (hr 0 a v rfl rfl)) hp.2 (by simpa using hl) fun j c v a b=>hr (j+1) c v (by simpa using a) (by simpa using b)
theorem EK (P:Program) {x:Cx} {M J} {tmps:Array Value} {w:World} (hx:x.ok M J H w) (hF:a8 N M J fr tmps) (hH:aU M J H w.heap) (hM:bE M w.heap) (fn:FuncId) (ps:Array Tmp) (asg body:Code):
  ∃ β Ds w1 l J1,(Instr.enterLoop fn tmps ps asg body x.ro).run P w=.ok (β,Ds.map JU) w1∧l.blk=some β∧J1 H.length 0=some l ∧
   aZ k M J H w M J1 (aQ H H.length 0 (.lp ⟨N,ps,asg,body⟩ fr .ready none)) w1∧Cx.ok ⟨x.ro,x.b,Ds++x.Ds⟩ M J1 (aQ H H.length 0 (.lp ⟨N,ps,asg,body⟩ fr .ready none)) w1 ∧
   Ext M J M J1:=by
 have hfree:J H.length 0=none:=hH.fresh
 have hlay:∀(w0:World) (D:Nat),aU M J H w0.heap→bE M w0.heap →
   aZ k M J H w0 M (J.set H.length 0 ⟨some w0.heap.size,0,0⟩) (aQ H H.length 0 (.lp ⟨N,ps,asg,body⟩ fr .ready none)) (w0.alloc (.loop { state:=.ready,pending:=none,fn,tmps,params:=ps,assign:=asg,body,defers:=D })):=by
  intro w0 D hH0 hM0;refine aZ.alloc k hH0 hM0 H.length 0 (.inr ⟨rfl,rfl⟩) hfree (some _) _ ⟨some w0.heap.size,0,0⟩ rfl ?_ rfl rfl rfl rfl;exact⟨w0.heap.size,_,rfl,World.alloc_heap_new _ _,rfl,rfl,rfl,rfl,rfl,hF⟩
 have hext:∀ l,Ext M J M (J.set H.length 0 l):=fun l=>Inj.set_ext l hfree M
 have hself:∀ l,(J.set H.length 0 l) H.length 0=some l:=fun l=>by simp[Inj.set]
 cases hro:x.ro with
 | none=>
  have s0:aZ k M J H w M J H (w.alloc (.deferred (some []))):=by
   refine aB.step k hH (fun _ _ h=>h) (fun β o h=>?_) rfl (.refl _) rfl ?_ (fun β o h=>?_) (fun _ _ h=>.inl h)
   ·have:=hM β o h
    show(w.heap.push _)[β]?=_;rw[Array.getElem?_push,if_neg (by have:=cE this; omega)];exact this
   ·rw[World.size_alloc]; omega
   ·show(w.heap.push _)[β]?=_
    rw[Array.getElem?_push,if_neg (by have:=cE h; omega)];exact h
  have s1:=hlay _ w.heap.size s0.hrep s0.mrep
  have hD:Cx.ok ⟨none,x.b,[w.heap.size]++x.Ds⟩ M J H (w.alloc (.deferred (some []))):=by
   have h0:=hx.step s0;refine⟨fun l hl=>(by cases hl),h0.base,?_,fun D hD=>?_⟩
   ·refine List.nodup_cons.2 ⟨fun hm=>?_,hx.nd⟩
    have:=cE (hx.dfr _ hm).2.1;omega
   ·rcases List.mem_cons.1 hD with rfl | hD
    ·refine⟨hx.base,World.alloc_heap_new _ _,hM.lt (Nat.le_refl _),fun g i l a b c=>?_⟩
     have:=(hH.dom g i l b).2 _ c;omega
    ·exact h0.dfr D hD
  refine⟨_,[w.heap.size],_,_,_,run_enterLoop_outer fn tmps ps asg body,?_,hself _,s0.trans s1,hD.step s1,hext _⟩;rw[World.size_alloc]
 | some l0=>
  obtain⟨r0,hr0⟩:=hx.rnd l0 hro;have s1:=hlay w r0.defers hH hM;refine⟨_,[],_,_,_,?_,rfl,hself _,s1,?_,hext _⟩
  ·unfold Instr.enterLoop
   simp only[Sem.run_bind,run_getLoop hr0,Result.andThen_ok,Sem.run_pure,run_newObj_alloc];rfl
  ·have:=hx.step s1
   rw[← hro];exact this
theorem AWP.rangeC {f:Operand} {ps:List Nat} {asg body:cA} {qs:Array Tmp} {ra rb:Code} {g:FuncId} {fs cs:List AV} (hf:ev fr f=.clo (.func g) fs cs) (hk:k≤H.length) (hps:ps.all (Nat.blt · N)=true)
  (h:LOK P N ⟨N,qs,ra,rb⟩ ps asg body→aH P g (fs++[.yld H.length 0]++cs) (aQ H H.length 0 (.lp ⟨N,qs,ra,rb⟩ fr .ready none)) fun _ H'=>
   ∃ L caps st pe,hget H' H.length 0=some (.lp L caps st pe)∧st≠.busy ∧
    match pe with
    | none=>Q .normal fr (aQ H' H.length 0 .dead)
    | some .ret=>Q .ret fr (aQ H' H.length 0 .dead)
    | some (.exit id)=>Q (.exit id) fr (aQ H' H.length 0 .dead)
    | _=>False):AWP P N k (.rangeF f ps asg body qs ra rb) Q fr H:=by
 intro c0 hc x M J tmps w hx hF hH hM
 cases c0 with
 | rangeFunc f' ps' a0 b0=>
  simp only[cD] at hc;split at hc
  ·rename_i a1 b1 ha hb
   injection hc with hc
   injection hc with hc1 hc2 hc3 hc4 hc5 hc6 hc7
   subst hc1; subst hc2; subst hc3; subst hc4; subst hc5; subst hc6; subst hc7
   refine wpIn_rangeFunc fun fn _=>?_
   obtain⟨β,Ds,w1,l,J1,e1,e2,e3,s1,x1,hext⟩:=EK (k:=H.length) P hx hF hH hM fn ps' a0 b0;have hfv:=aL (ds:=x.ds) hF f';rw[hf] at hfv;generalize hfe:Act.eval ⟨tmps,x.ds⟩ f'=fv at hfv
   cases hfv with
   | clo _ _ _ cfs ccs r1 r2 r3 r4=>
    obtain⟨hcall,hok⟩:=h ⟨rfl,rfl,hps,ha,hb⟩
    have hlen:H.length < (aQ H H.length 0 (.lp ⟨N,ps',a0,b0⟩ fr .ready none)).length:=by
     have:=aS H H.length 0 (.lp ⟨N,ps',a0,b0⟩ fr .ready none) H.length 0 (.inr ⟨rfl,rfl⟩);rw[if_pos ⟨rfl,rfl⟩] at this;exact g8 (by rw[this]; rfl)
    generalize aQ H H.length 0 (.lp ⟨N,ps',a0,b0⟩ fr .ready none)=H1 at hlen s1 x1 hok;have hC:=hok M J1 w1 (cfs++#[.func (.yield β) #[] #[]]++ccs) (by simp; omega);refine⟨β,Ds.map JU,w1,{ target:=.fn (.func g) ccs,args:=cfs++#[.func (.yield β) #[] #[]] },w1,g,cfs++#[.func (.yield β) #[] #[]]++ccs,w1,e1,?_,fun _ _=>trivial,?_,fun hd=>by simp[FW,Fence.wide] at hd,?_⟩
    ·simp only[resolve,hfe,Deferred.ofValue,Sem.run_pure]
     simp[Act.eval]
    ·simp only[invoke]
     exact fV hcall _ _
    ·have hC:=hC (fun j c v hc' hv'=>?_) s1.hrep s1.mrep
     ·refine pD.2 (hC.mono ?_)
      rintro e w3 ⟨v,M3,J3,res,H3,rfl,s3,_,L3,caps,st,pe,hg,hst,hQ⟩;have hJ3:J3 H.length 0=some l:=s3.j _ _ _ hlen e3;obtain⟨r,q1,q3,q4,q5,q6,q7,q8⟩:=s3.hrep.lp hg hJ3 e2;have sl:=aZ.loop H.length s3.hrep s3.mrep hg hJ3 e2 q1 .exhausted r.pending .dead (.inl rfl)
      have hE:Ext M J M3 J3:=⟨fun β o ho=>s3.m β o (s1.m β o ho),fun g i l' hJ=>s3.j g i l' (by
       exact Nat.lt_trans (g8 (hH.dom g i l' hJ).1) hlen) (hext.j g i l' hJ)⟩
      have st1:aZ k M J H w M3 J3 (aQ H3 H.length 0 .dead) (w3.putObj β (.loop { r with state:=.exhausted,pending:=r.pending })):=
       ((s1.mono hk).trans (s3.mono (by omega))).trans (sl.mono hk)
      have hx3:=(x1.step s3).step sl;refine⟨r.pending,_,run_endLoop q1 (by rw[q6]; exact hst),?_⟩;have hF3:=hF.ext hE;rw[q7];rw[q7] at hx3 st1
      cases pe with
      | none=>exact⟨M3,J3,fr,_,Ds++x.Ds,st1,hF3,by simp[Cx.ds],hx3,hQ⟩
      | some c=>
       cases c with
       | ret=>exact wpIn_ret ⟨M3,J3,fr,_,Ds++x.Ds,st1,hF3,by simp[Cx.ds],hx3,hQ⟩
       | exit id=>exact wpIn_exit ⟨M3,J3,fr,_,Ds++x.Ds,st1,hF3,by simp[Cx.ds],hx3,hQ⟩
       | _=>exact hQ.elim
     ·rw[List.getElem?_append] at hc'
      rw[Array.getElem?_append] at hv';simp only[lAp,Array.size_append,List.length_cons,List.length_nil,List.size_toArray] at hc' hv';rw[r1] at hc';split at hc'
      ·rename_i hj
       rw[if_pos hj] at hv';rw[List.getElem?_append] at hc';rw[Array.getElem?_append] at hv';rw[r1] at hc';split at hc'
       ·rename_i hj2
        rw[if_pos hj2] at hv';exact(r3 j c v hc' hv').ext hext
       ·rename_i hj2
        rw[if_neg hj2] at hv'
        have:j - cfs.size=0:=by omega
        rw[this] at hc' hv';simp at hc' hv';subst hc'; subst hv';exact .yld _ _ β l e3 e2
      ·rename_i hj
       rw[if_neg hj] at hv';exact(r4 _ c v hc' hv').ext hext
  ·cases hc
 | region id ops draw=>simp only[cD] at hc; split at hc<;>(try cases hc); split at hc<;>cases hc
 | _=>simp only[cD] at hc; (try split at hc)<;>(try cases hc)<;>(try simp at hc)
theorem AWP.rangeF {f:Operand} {ps:List Nat} {asg body:cA} {qs:Array Tmp} {ra rb:Code} {g:FuncId} {fs cs:List AV} (hf:ev fr f=.clo (.func g) fs cs) (hk:k≤H.length) (hps:ps.all (Nat.blt · N)=true)
  (h:∀ L:LC,LOK P N L ps asg body→aH P g (fs++[.yld H.length 0]++cs) (aQ H H.length 0 (.lp L fr .ready none)) fun _ H'=>
   ∃ caps st pe,hget H' H.length 0=some (.lp L caps st pe)∧st≠.busy ∧
    match pe with
    | none=>Q .normal fr (aQ H' H.length 0 .dead)
    | some .ret=>Q .ret fr (aQ H' H.length 0 .dead)
    | some (.exit id)=>Q (.exit id) fr (aQ H' H.length 0 .dead)
    | _=>False):AWP P N k (.rangeF f ps asg body qs ra rb) Q fr H:=AWP.rangeC hf hk hps fun hL=>(h _ hL).mono fun _ _ hq=>⟨_,hq⟩
theorem iH.split {ops:Array Oper}:∀ {l:List Nat} {xs:List IOper} {y:IOper} {ys:List IOper},iH P N ops l (xs++y::ys) →
  ∃ l1 i l2,l=l1++i::l2∧iH P N ops l1 xs∧(∃ o,ops[i]?=some o∧kI P N ops o=some y)∧iH P N ops l2 ys
 | [],[],_,_,h=>h.elim
 | [],_::_,_,_,h=>h.elim
 | i::l,[],y,ys,⟨h1,h2⟩=>⟨[],i,l,rfl,trivial,h1,h2⟩
 | i::l,x::xs,y,ys,⟨h1,h2⟩=>by
  obtain⟨l1,j,l2,rfl,h3,h4,h5⟩:=iH.split h2;exact⟨i::l1,j,l2,rfl,⟨h1,h3⟩,h4,h5⟩
theorem EU {P:Program} {w:World} {l:Nat} {r:Loop} {args:Array Value} (h:w.heap[l]?=some (.loop r)) (hs:args.size=r.params.size):
  (Instr.yield l args).run P w=.ok (.round l r.fn ((r.params.toList.zip args.toList).foldl (fun tmps (t,a)=>tmps.setIfInBounds t a) r.tmps) r.assign r.body) w:=by
 rw[run_yield h hs,← Array.foldl_toList,Array.toList_zip]
theorem eP.round {g i:Nat} {args:List AV} {R:Bool→Heap→Prop} (h:eP P g i args H R) {M J} {w:World} (hH:aU M J H w.heap) (hM:bE M w.heap) {l:Loc} {β:Nat} (hJ:J g i=some l) (hb:l.blk=some β)
  {cargs:Array Value} (hlen:args.length=cargs.size) (hargs:∀(j:Nat) c v,args[j]?=some c→cargs[j]?=some v→Rep M J c v) {ro:Option Nat}:
  ∃ f tmps asg body,(Instr.yield β cargs).run P w=.ok (.round β f tmps asg body) w ∧
   RoundIn (FW ro) 0 P β f tmps asg body w fun e w'=>∃ b M' J' H',e=.returned (.bool b)∧aZ H.length M J H w M' J' H' w'∧R b H':=by
 obtain⟨L,caps,N,ps,asg,body,hL,hg,hal,hw⟩:=h;obtain⟨r,q1,q3,q4,q5,q6,q7,q8⟩:=hH.lp hg hJ hb
 have hsz:cargs.size=r.params.size:=by rw[q3,← hlen,hal,← hL.eps,Array.length_toList]
 refine⟨_,_,_,_,EU q1 hsz,?_⟩;refine roundIn_of_wpIn trivial ?_;have hgl:g < H.length:=g8 (by rw[hg]; rfl)
 have hF0:a8 N M J (putL caps (ps.zip args)) ((r.params.toList.zip cargs.toList).foldl (fun tmps (t,a)=>tmps.setIfInBounds t a) r.tmps):=by
  rw[q3,hL.eps];rw[hL.en] at q8
  exact a8.putL ps args cargs.toList q8 hL.lt (by simpa using hlen) fun j c v a b=>hargs j c v a (by simpa using b)
 refine wpIn_mono (hw r.assign (by rw[q4]; exact hL.easg) ⟨some β,w.heap.size,[]⟩ M J _ w ⟨fun l' hl'=>by cases hl'; exact⟨r,q1⟩,Nat.le_refl _,.nil,fun D hD=>by simp at hD⟩ hF0 hH hM) fun e a1 w1 hp=>?_
 obtain⟨M1,J1,fr1,H1,Ds1,s1,f1,d1,x1,rfl,L1,c1,hg1,hbody⟩:=hp;have hJ1:=s1.j g i l hgl hJ;obtain⟨r1,p1,p3,p4,p5,p6,p7,p8⟩:=s1.hrep.lp hg1 hJ1 hb;have sl:=aZ.loop (caps:=c1) H.length s1.hrep s1.mrep hg1 hJ1 hb p1 .busy none (.lp L1 c1 .busy none) (.inr rfl)
 have hbr:(Instr.beginRound β).run P w1=.ok () (w1.putObj β (.loop { r1 with state:=.busy,pending:=none })):=by
  have:=run_beginRound (P:=P) p1 p6;rw[this];congr
 obtain⟨t1,dd⟩:=a1
 cases d1
 refine⟨_,hbr,?_⟩
 refine wpIn_mono (hbody r.body (by rw[q5]; exact hL.ebody) ⟨some β,w.heap.size,Ds1⟩ M1 J1 t1 _ (x1.step sl) f1 sl.hrep sl.mrep) fun e a2 w2 hp=>?_
 obtain⟨M2,J2,fr2,H2,Ds2,s2,f2,d2,x2,L2,c2,hg2,hR⟩:=hp;have hJ2:=s2.j g i l hgl hJ1;obtain⟨r2,u1,u3,u4,u5,u6,u7,u8⟩:=s2.hrep.lp hg2 hJ2 hb;have s12:=(s1.trans sl).trans s2
 cases e with
 | normal=>
  have se:=aZ.loop (caps:=c2) H.length s2.hrep s2.mrep hg2 hJ2 hb u1 .ready none (.lp L2 c2 .ready none) (.inr rfl);exact⟨_,_,run_endRound none u1,true,M2,J2,_,rfl,s12.trans se,hR⟩
 | ret=>
  have se:=aZ.loop (caps:=c2) H.length s2.hrep s2.mrep hg2 hJ2 hb u1 .done (some .ret) (.lp L2 c2 .done (some .ret)) (.inr rfl);exact⟨_,_,run_endRound (some .ret) u1,false,M2,J2,_,rfl,s12.trans se,hR⟩
 | exit id=>
  have se:=aZ.loop (caps:=c2) H.length s2.hrep s2.mrep hg2 hJ2 hb u1 .done (some (.exit id)) (.lp L2 c2 .done (some (.exit id))) (.inr rfl);exact⟨_,_,run_endRound (some (.exit id)) u1,false,M2,J2,_,rfl,s12.trans se,hR⟩
 | _=>exact hR.elim
theorem AWP.regionG {xs ys:List IOper} {d:Option Nat} {gd:Option (Nat×Bool)} {f:Cal} {args:List Operand} {zs:List IOper} (hz:zs=xs++⟨d,gd,.callV f args⟩::ys)
  (h:Reg P N k xs fr H fun fr1 H1=>gok fr1 gd=some true∧k≤H1.length∧∃ g i,evC P fr1 f=.yld g i∧eP P g i (avals fr1 args) H1 fun b H2=>Reg P N k ys (fr1.put d (.sc (.bool b))) H2 (Q .normal)):
  AWP P N k (.region zs) Q fr H:=by
 subst hz;intro c0 hc x M J tmps w hx hF hH hM
 cases c0 with
 | region id ops draw=>
  simp only[cD] at hc;split at hc
  ·rename_i us hus
   cases draw with
   | true=>cases hc
   | false=>
    injection hc with hc
    injection hc with hc
    subst hc;refine wpIn_region ?_
    have hm:=jS ops.toList 0 _ hus fun j o hj=>by rw[Nat.zero_add,← Array.getElem?_toList]; exact hj
    rw[← List.range_eq_range'] at hm;obtain⟨l1,i0,l2,hl,m1,⟨o0,ho,hco⟩,m2⟩:=iH.split hm;rw[show ops.size=ops.toList.length by simp,hl]
    have hpre:=h ops l1 m1 M J tmps w hF hH hM (fun e a' w'=>e=.normal∧D4 k N M J H w (fun fr1 H1=>gok fr1 gd=some true∧k≤H1.length∧∃ g i,evC P fr1 f=.yld g i ∧
     eP P g i (avals fr1 args) H1 fun b H2=>Reg P N k ys (fr1.put d (.sc (.bool b))) H2 (Q .normal)) a' w') fun a' w' hp=>⟨rfl,hp⟩
    refine(iT x.ro x.ds (fun t w'=>∃ M' J' fr1 H1,aZ k M J H w M' J' H1 w'∧a8 N M' J' fr1 t∧gok fr1 gd=some true∧k≤H1.length∧∃ g i,evC P fr1 f=.yld g i ∧
     eP P g i (avals fr1 args) H1 fun b H2=>Reg P N k ys (fr1.put d (.sc (.bool b))) H2 (Q .normal)) (i0::l2) _ ?_ _ (fun e a w' ⟨he,M',J',fr',H',q1,q2,q3,q4⟩=>⟨he,q3,M',J',fr',H',q1,q2,q4⟩) l1 tmps [] w hpre).2
    rintro t1 w1 ⟨M1,J1,fr1,H1,s1,f1,hgd,hk1,g,i,hev,hy⟩;obtain⟨c1,c2,c3⟩:=fH hco;have hw:=eZ f1 c2 hgd;simp only[wpOpsIn,ho];have hwant:Region.wanted o0 (yielded ops t1)=true:=hw;simp only[hwant,if_true];refine⟨fun _ _=>trivial,?_⟩;obtain⟨args',ts,rfl,hx0⟩:=pC c3
    obtain⟨t,hop,rfl⟩:∃ t,o0.op=.call ⟨.value (.tmp t),args',ts⟩∧f=.tmp t:=by
     rcases hx0 with h0 | ⟨r0,nm,_,rfl⟩
     ·exact h0
     ·replace hev:Cal.res P (.meth r0 nm _) (ev fr1 r0)=.yld g i:=hev
      unfold Cal.res at hev;split at hev
      ·rename_i e; cases e
      ·split at hev<;>cases hev
      ·cases hev
    replace hev:ev fr1 (.tmp t)=.yld g i:=by
     replace hev:tU P (ev fr1 (.tmp t))=.yld g i:=hev;unfold tU at hev;split at hev
     ·split at hev<;>cases hev
     ·cases hev
     ·exact hev
    obtain⟨v1,v2⟩:=eW (ds:=x.ds) f1 args'.toList _ rfl args' rfl;have hfv:=aL (ds:=x.ds) f1 (.tmp t);rw[hev] at hfv;obtain⟨β,l,hv,hJ,hb⟩:=hfv.yld_inv;obtain⟨fR,tR,aR,bR,hrun,hround⟩:=hy.round (ro:=x.ro) s1.hrep s1.mrep hJ hb v1 v2;rw[gM (fun c hc=>by rw[hop] at hc; cases hc)]
    have hx1:(execOp (Act.eval ⟨t1,x.ds⟩) o0).run P w1=.ok (.round β fR tR aR bR) w1:=by
     simp only[execOp,hop,resolve,hv,Deferred.ofValue,Sem.run_bind,Sem.run_pure,Result.andThen_ok,invoke];rw[show #[]++args'.map (Act.eval ⟨t1,x.ds⟩)=args'.map (Act.eval ⟨t1,x.ds⟩) by simp];exact hrun
    rw[hx1];simp only[Oper.uponIn];refine⟨fun hd=>by simp[FW,Fence.wide] at hd,hround.mono ?_⟩;rintro e w2 ⟨b,M2,J2,H2,rfl,s2,hreg⟩;simp only
    have hext:Ext M1 J1 M2 J2:=⟨s2.m,fun g i l hJ=>s2.j g i l (g8 (s1.hrep.dom g i l hJ).1) hJ⟩
    have s12:=s1.trans (s2.mono hk1);rw[show(Act.put ⟨t1,x.ds⟩ o0.dst (.bool b))=⟨(Act.put ⟨t1,[]⟩ o0.dst (.bool b)).tmps,x.ds⟩ by cases o0.dst<;>rfl];refine jL hx ?_
    exact hreg ops l2 m2 M2 J2 _ w2 ((f1.ext hext).put c1 (.sc _)) s2.hrep s2.mrep _ fun a' w' hp=>⟨rfl,by
     obtain⟨M3,J3,fr3,H3,r1,r2,r3,r4⟩:=hp
     exact⟨M3,J3,fr3,H3,s12.trans r1,r2,r3,r4⟩⟩
  ·cases hc
 | _=>simp only[cD] at hc; (try split at hc)<;>(try cases hc)<;>(try simp at hc)
theorem AWP.regionY {xs ys:List IOper} {d:Option Nat} {gd:Option (Nat×Bool)} {f:Cal} {args:List Operand} {zs:List IOper} (hz:zs=xs++⟨d,gd,.callV f args⟩::ys)
  (h:Reg P N k xs fr H fun fr1 H1=>gok fr1 gd=some true∧k≤H1.length∧∃ g i,evC P fr1 f=.yld g i∧iA P g i (avals fr1 args) H1 fun b H2=>Reg P N k ys (fr1.put d (.sc (.bool b))) H2 (Q .normal)):
  AWP P N k (.region zs) Q fr H:=
 AWP.regionG hz (h.mono fun _ _ ⟨h1,h2,g,i,h3,h4⟩=>⟨h1,h2,g,i,h3,h4.g⟩)
def pL:List IOper→Option (List IOper×IOper×List IOper)
 | []=>none
 | x::l=>match x.act with
  | .callV _ _=>some ([],x,l)
  | _=>match pL l with
   | some (a,y,b)=>some (x::a,y,b)
   | none=>none
theorem n7:∀ {l a b:List IOper} {y:IOper},pL l=some (a,y,b)→l=a++y::b
 | [],_,_,_,h=>by cases h
 | x::l,a,b,y,h=>by
  simp only[pL] at h;split at h
  ·injection h with h
   injection h with h1 h2
   injection h2 with h2 h3
   subst h1; subst h2; subst h3;rfl
  ·split at h
   ·rename_i a' y' b' e
    injection h with h
    injection h with h1 h2
    injection h2 with h2 h3
    subst h1; subst h2; subst h3;rw[n7 e];rfl
   ·cases h
theorem AWP.rY {xs ys:List IOper} {d:Option Nat} {gd:Option (Nat×Bool)} {f:Cal} {args:List Operand} {zs:List IOper} (hz:pL zs=some (xs,⟨d,gd,.callV f args⟩,ys))
  (h:Reg P N k xs fr H fun fr1 H1=>gok fr1 gd=some true∧k≤H1.length∧∃ g i,evC P fr1 f=.yld g i∧iA P g i (avals fr1 args) H1 fun b H2=>Reg P N k ys (fr1.put d (.sc (.bool b))) H2 (Q .normal)):
  AWP P N k (.region zs) Q fr H:=AWP.regionY (n7 hz) h
theorem AWP.rG {xs ys:List IOper} {d:Option Nat} {gd:Option (Nat×Bool)} {f:Cal} {args:List Operand} {zs:List IOper} (hz:pL zs=some (xs,⟨d,gd,.callV f args⟩,ys))
  (h:Reg P N k xs fr H fun fr1 H1=>gok fr1 gd=some true∧k≤H1.length∧∃ g i,evC P fr1 f=.yld g i∧eP P g i (avals fr1 args) H1 fun b H2=>Reg P N k ys (fr1.put d (.sc (.bool b))) H2 (Q .normal)):
  AWP P N k (.region zs) Q fr H:=AWP.regionG (n7 hz) h
theorem AWP.fin {c:cA} (h:AWP P N k c (fun e fr H=>∃ fr' H',Sub k N fr H fr' H'∧Q e fr' H') fr H):AWP P N k c Q fr H:=by
 intro c0 hc x M J tmps w hx hF hH hM
 refine wpIn_mono (h c0 hc x M J tmps w hx hF hH hM) fun e a1 w1 hp=>?_
 obtain⟨M2,J2,fr2,H2,Ds,r1,r2,r3,r0,fr3,H3,hs,hq⟩:=hp;obtain⟨M3,J3,s3,f3⟩:=hs M2 J2 a1.tmps w1 r2 r1.hrep r1.mrep;exact⟨M3,J3,fr3,H3,Ds,r1.trans s3,f3,r3,Cx.ok.step r0 s3,hq⟩
end
end Go.Av
namespace Go.Av
theorem aZ.ofDrawn {k:Nat} {M J H} {w:World} {M' J' H' w'} (q:aZ k M J H { w with drawn:=w.drawn+1 } M' J' H' w'):aZ k M J H w M' J' H' w':=
 ⟨q.m,q.j,q.hrep,q.mrep,q.os,⟨q.tape.1,Nat.le_trans (Nat.le_succ _) q.tape.2⟩,q.output,q.size,q.frame,q.fresh,q.live,q.bk⟩
theorem AWP.drawYld {P:Program} {N k:Nat} {fr:Fr} {H:Heap} {Q:Exit→Fr→Heap→Prop} {zs xs ys:List IOper} {d:Option Nat} {gd:Option (Nat×Bool)} {f:Cal} {args:List Operand} {af:List (List Nat)} {R1:List bT} {fr0 fr1:Fr} {H0 H1:Heap} (hz:zs=xs++⟨d,gd,.callV f args⟩::ys) (hp:P.follows .mixedOrders=true)
  (hlow:rV 0 af=true) (h1:∀ j,j < xs.length→j5 af af.length j xs.length=true) (h2:∀ j,j < ys.length→j5 af af.length xs.length (xs.length+1+j)=true)
  (hrun:fS P H.length 0 xs fr (H++[List.replicate xs.length .dead]) R1 fr0 H0) (hc1:oS af 0 R1) (hsub:Sub k N fr0 H0 fr1 H1)
  (h:gok fr1 gd=some true∧k≤H1.length∧∃ g i,evC P fr1 f=.yld g i∧eP P g i (avals fr1 args) H1 fun b H2=>∃ R2 fr3 H3,fS P H2.length 0 ys (fr1.put d (.sc (.bool b))) (H2++[List.replicate ys.length .dead]) R2 fr3 H3∧oS af (xs.length+1) R2∧Q .normal fr3 H3):
  AWP P N k (.draw zs af) Q fr H:=by
 obtain⟨hgd,hk1,g,i,hev,hy⟩:=h;intro c0 hc cx M J tmps w hcx hF hH hM
 cases c0 with
 | region id ops draw=>
  simp only[cD] at hc;split at hc
  ·rename_i us hus
   cases draw with
   | false=>cases hc
   | true=>
    injection hc with hc
    injection hc with hc1' hc2'
    subst hc1'; subst hc2'
    refine wpIn_region_draw fun t=>?_
    rw[hp]
    have hsch:Region.schedule true ops t=Region.linearise .any ops t:=by simp[Region.schedule]
    rw[hsch];obtain⟨hlen,hgx⟩:=jR _ _ hus
    have hsz:ops.size=xs.length+(ys.length+1):=by
     have e1:us.length=ops.size:=by rw[hlen]; simp
     rw[← e1,hz];simp
    have haf:∀ j l,(ops.toList.map fB)[j]?=some l→bY ops j=l:=by
     intro j l hj;rw[List.getElem?_map,Array.getElem?_toList] at hj;unfold bY
     cases ho:ops[j]? with
     | none=>rw[ho] at hj; cases hj
     | some o=>rw[ho] at hj; simpa using hj
    have hafl:(ops.toList.map fB).length=ops.size:=by simp
    have hops:∀(j:Nat) x,us[j]?=some x→∃ o,ops[j]?=some o∧kI P N ops o=some x:=by
     intro j x hj;have hlt:=(gEs.1 hj).1;have ho:ops[j]?=some ops[j]:=Array.getElem?_eq_getElem (by rw[hlen] at hlt; simpa using hlt);obtain⟨x',e1,e2⟩:=hgx j ops[j] (by rw[Array.getElem?_toList]; exact ho);rw[hj] at e1
     injection e1 with e1
     subst e1;exact⟨_,ho,e2⟩
    let I:Nat→Nat→Prop:=fun a b=>(b < xs.length∧a < b∧∃ ra rb,R1[a]?=some ra∧R1[b]?=some rb∧gA ra rb=true)∨(xs.length < a∧a < b∧b < ops.size∧¬ Bef (bY ops) a b)
    have hs:=fQ ops I (fun j kk hk=>by
     have hl:(ops.toList.map fB)[j]?=some (bY ops j):=by
      rw[List.getElem?_map,Array.getElem?_toList];unfold bY at hk ⊢
      cases ho:ops[j]? with
      | none=>rw[ho] at hk; cases hk
      | some o=>rfl
     have:=jW _ 0 hlow j _ hl kk hk
     omega) (fun a b hab hb=>by
     obtain⟨hrx1,_⟩:=hrun.recs
     have hRlen1:R1.length=xs.length:=by rw[← hrx1]; simp
     rcases Nat.lt_trichotomy b xs.length with hbx | hbx | hbx
     ·have ea:R1[a]?=some (R1[a]'(by omega)):=gEg (by omega)
      have eb:R1[b]?=some (R1[b]'(by omega)):=gEg (by omega)
      rcases hc1 a b _ _ hab ea eb with h3 | h3
      ·rw[Nat.zero_add,Nat.zero_add] at h3
       exact .inl (dK haf _ _ _ h3)
      ·exact .inr (.inl ⟨hbx,hab,_,_,ea,eb,h3⟩)
     ·subst hbx
      exact .inl (dK haf _ _ _ (h1 a hab))
     ·have hnb:Bef (bY ops) xs.length b:=by
       have:=h2 (b - (xs.length+1)) (by omega);rw[show xs.length+1+(b - (xs.length+1))=b by omega] at this;exact dK haf _ _ _ this
      rcases Nat.lt_trichotomy a xs.length with hax | hax | hax
      ·exact .inl ((dK haf _ _ _ (h1 a hax)).trans hnb)
      ·subst hax
       exact .inl hnb
      ·by_cases hB:Bef (bY ops) a b
       ·exact .inl hB
       ·exact .inr (.inr ⟨hax,hab,hb,hB⟩)) t
    have hsplit:List.range ops.size=List.range' 0 xs.length++xs.length::List.range' (xs.length+1) ys.length:=by
     rw[List.range_eq_range',hsz,← List.range'_append_1,Nat.zero_add,List.range'_succ]
    obtain⟨l1,l2,e1,e2,e3⟩:=hs.mid (List.range' 0 xs.length) hsplit
     (fun a ha hi=>by
      have:=List.mem_range'_1.1 ha
      rcases hi with hi | hi
      ·exact absurd hi.1 (Nat.lt_irrefl _)
      ·omega)
     (fun a ha b hb hi=>by
      have:=List.mem_range'_1.1 ha;have:=List.mem_range'_1.1 hb
      rcases hi with hi | hi
      ·omega
      ·omega)
     (fun b hb hi=>by
      have:=List.mem_range'_1.1 hb
      rcases hi with hi | hi
      ·omega
      ·exact absurd hi.1 (Nat.lt_irrefl _))
    rw[e1]
    have hget1:∀(j:Nat) x,xs[j]?=some x→∃ o,ops[0+j]?=some o∧kI P N ops o=some x:=by
     intro j x hj;rw[Nat.zero_add];refine hops j x ?_;rw[hz,List.getElem?_append_left (gEs.1 hj).1];exact hj
    have e2':cY (fun a b=>∃ ra rb,R1[a - 0]?=some ra∧R1[b - 0]?=some rb∧gA ra rb=true) (List.range' 0 xs.length) l1:=by
     refine e2.weaken fun a b ha hb hi=>?_
     have h3:=List.mem_range'_1.1 ha
     rcases hi with hi | hi
     ·exact hi.2.2
     ·omega
    have hyy:us[xs.length]?=some ⟨d,gd,.callV f args⟩:=by rw[hz,List.getElem?_append_right (Nat.le_refl _),Nat.sub_self]; rfl
    obtain⟨oy,hoy,hcy⟩:=hops _ _ hyy
    have hpre:wpOps P ops (fun e a' w'=>e=.normal∧a'.defers=[]∧∃ M' J',aZ k M J H w M' J' H1 w'∧a8 N M' J' fr1 a'.tmps) l1 ⟨tmps,[]⟩ { w with drawn:=w.drawn+1 }:=
     uI (k:=k) (w:={ w with drawn:=w.drawn+1 }) hget1 hrun (fun a b h=>h) e2' hF hH hM _ fun a' w' ⟨M2,J2,fr2,H2,q1,q2,q3,q4,q5⟩=>by
      subst q4; subst q5;obtain⟨M3,J3,s3,f3⟩:=hsub M2 J2 _ _ q2 q1.hrep q1.mrep;exact⟨rfl,q3,M3,J3,aZ.ofDrawn (q1.trans s3),f3⟩
    refine(iT cx.ro cx.ds (fun t w'=>∃ M' J',aZ k M J H w M' J' H1 w'∧a8 N M' J' fr1 t) (xs.length::l2) _ ?_ _ (fun e a w' ⟨he,hd,M',J',q1,q2⟩=>⟨he,hd,M',J',q1,q2⟩) l1 tmps [] _ hpre).2;rintro t1 w1 ⟨M1,J1,s1,f1⟩;obtain⟨c1,c2,c3⟩:=fH hcy;have hw:=eZ f1 c2 hgd;simp only[wpOpsIn,hoy];have hwant:Region.wanted oy (yielded ops t1)=true:=hw;simp only[hwant,if_true];refine⟨fun _ _=>trivial,?_⟩;obtain⟨args',ts,rfl,hx0⟩:=pC c3
    obtain⟨t,hop,rfl⟩:∃ t,oy.op=.call ⟨.value (.tmp t),args',ts⟩∧f=.tmp t:=by
     rcases hx0 with h0 | ⟨r0,nm,_,rfl⟩
     ·exact h0
     ·replace hev:Cal.res P (.meth r0 nm _) (ev fr1 r0)=.yld g i:=hev
      unfold Cal.res at hev;split at hev
      ·rename_i e; cases e
      ·split at hev<;>cases hev
      ·cases hev
    replace hev:ev fr1 (.tmp t)=.yld g i:=by
     replace hev:tU P (ev fr1 (.tmp t))=.yld g i:=hev;unfold tU at hev;split at hev
     ·split at hev<;>cases hev
     ·cases hev
     ·exact hev
    obtain⟨v1,v2⟩:=eW (ds:=cx.ds) f1 args'.toList _ rfl args' rfl;have hfv:=aL (ds:=cx.ds) f1 (.tmp t);rw[hev] at hfv;obtain⟨β,l,hv,hJ,hb⟩:=hfv.yld_inv;obtain⟨fR,tR,aR,bR,hrun,hround⟩:=hy.round (ro:=cx.ro) s1.hrep s1.mrep hJ hb v1 v2;rw[gM (fun c hc=>by rw[hop] at hc; cases hc)]
    have hx1:(execOp (Act.eval ⟨t1,cx.ds⟩) oy).run P w1=.ok (.round β fR tR aR bR) w1:=by
     simp only[execOp,hop,resolve,hv,Deferred.ofValue,Sem.run_bind,Sem.run_pure,Result.andThen_ok,invoke];rw[show #[]++args'.map (Act.eval ⟨t1,cx.ds⟩)=args'.map (Act.eval ⟨t1,cx.ds⟩) by simp];exact hrun
    rw[hx1];simp only[Oper.uponIn];refine⟨fun hd=>by simp[FW,Fence.wide] at hd,hround.mono ?_⟩;rintro e w2 ⟨b,M2,J2,H2,rfl,s2,R2,fr3,H3,hrun2,hc2,hQ⟩;simp only
    have hext:Ext M1 J1 M2 J2:=⟨s2.m,fun g i l hJ=>s2.j g i l (g8 (s1.hrep.dom g i l hJ).1) hJ⟩
    have s12:=s1.trans (s2.mono hk1);rw[show(Act.put ⟨t1,cx.ds⟩ oy.dst (.bool b))=⟨(Act.put ⟨t1,[]⟩ oy.dst (.bool b)).tmps,cx.ds⟩ by cases oy.dst<;>rfl];obtain⟨hrx2,_⟩:=hrun2.recs
    have hRlen2:R2.length=ys.length:=by rw[← hrx2]; simp
    have hget2:∀(j:Nat) x,ys[j]?=some x→∃ o,ops[xs.length+1+j]?=some o∧kI P N ops o=some x:=by
     intro j x hj;refine hops _ x ?_;rw[hz,List.getElem?_append_right (by omega),show xs.length+1+j - xs.length=j+1 by omega];exact hj
    have e3':cY (fun a b=>∃ ra rb,R2[a - (xs.length+1)]?=some ra∧R2[b - (xs.length+1)]?=some rb∧gA ra rb=true) (List.range' (xs.length+1) ys.length) l2:=by
     refine e3.weaken fun a b ha hb hi=>?_
     have h3:=List.mem_range'_1.1 ha;have h4:=List.mem_range'_1.1 hb
     rcases hi with hi | hi
     ·omega
     ·have ea:R2[a - (xs.length+1)]?=some (R2[a - (xs.length+1)]'(by omega)):=gEg (by omega)
      have eb:R2[b - (xs.length+1)]?=some (R2[b - (xs.length+1)]'(by omega)):=gEg (by omega)
      rcases hc2 (a - (xs.length+1)) (b - (xs.length+1)) _ _ (by omega) ea eb with h5 | h5
      ·rw[show xs.length+1+(a - (xs.length+1))=a by omega,show xs.length+1+(b - (xs.length+1))=b by omega] at h5
       exact absurd (dK haf _ _ _ h5) hi.2.2.2
      ·exact⟨_,_,ea,eb,h5⟩
    refine jL hcx ?_
    refine uI (k:=k) hget2 hrun2 (fun a b h=>h) e3' ((f1.ext hext).put c1 (.sc _)) s2.hrep s2.mrep _ fun a' w4 hpost=>?_
    obtain⟨M5,J5,fr5,H5,r1,r2,r3,rfl,rfl⟩:=hpost;exact⟨rfl,M5,J5,_,_,s12.trans r1,r2,r3,hQ⟩
  ·cases hc
 | _=>simp only[cD] at hc; (try split at hc)<;>(try cases hc)<;>(try simp at hc)
end Go.Av
namespace Go.Av
def ws (n:Nat) (f:Nat→Nat):List AV:=(List.range n).map fun i=>.sc (.int .u64 (f i:Int))
theorem QG (n:Nat) (f:Nat→Nat):∀ c∈ws n f,bL c:=fun c h=>by
 obtain⟨i,_,rfl⟩:=List.mem_map.1 h;exact .sc _
instance (n:Nat) (f:Nat→Nat):PR (ws n f):=⟨QG n f⟩
section
variable {P:Program} {N k:Nat} {xs:List IOper} {fr:Fr} {H:Heap} {K:Fr→Heap→Prop} {d:Nat} {gd:Option (Nat×Bool)}
variable {base j:Nat} {acc:List bT} {KD:List bT→Fr→Heap→Prop}
theorem xI {g i:Nat} {fr:Fr} {H:Heap} {sz:Nat} {a:Operand} {g' i' row s:Nat} {rows:List (List AV)} {r:List AV} (ha:ev fr a=.ptr g' i' row 0) (hh:hget H g' i'=some (.cells s rows)) (hr:rows[row]?=some r) (hl:r.length=sz):
  aD g i (.load sz true a) fr H=some (.agg r,H):=by
 subst hl;simp only[aD,ha,hh,hr,List.drop_zero,j6,Nat.ble_eq_true_of_le (Nat.le_refl _),List.take_length]
theorem I9 {g i:Nat} {fr:Fr} {H:Heap} {sz:Nat} {a x:Operand} {g' i' row s:Nat} {rows:List (List AV)} {r cs:List AV} (ha:ev fr a=.ptr g' i' row 0) (hx:ev fr x=.agg cs) (hh:hget H g' i'=some (.cells s rows)) (hr:rows[row]?=some r)
  (hl:r.length=sz) (hc:cs.length=sz) (h1:cs.all AV.cell1=true):aD g i (.store sz a x) fr H=some (.undef,aQ H g' i' (.cells s (rows.set row cs))):=by
 subst hl
 have e1:Nat.beq cs.length r.length=true:=by rw[hc]; simp
 have e2:Nat.ble (0+r.length) r.length=true:=Nat.ble_eq_true_of_le (by omega);simp only[aD,ha,hx,AV.cs,hh,hr,e1,e2,h1,Bool.and_self,tK _ _ hc]
theorem EN {sz:Nat} {a:Operand} {g' i' row s:Nat} {rows:List (List AV)} {r:List AV} (h:Reg P N k xs ((d,.agg r)::fr) H K) (hg:gok fr gd=some true:=by rfl) (ha:ev fr a=.ptr g' i' row 0:=by rfl)
  (hh:hget H g' i'=some (.cells s rows):=by rfl) (hr:rows[row]?=some r:=by first | rfl | assumption) (hl:r.length=sz:=by first | assumption | exact ws_len _ _ | rfl):Reg P N k (⟨some d,gd,.op (.load sz true a)⟩::xs) fr H K:=.o hg (xI ha hh hr hl) h
theorem DL {sz:Nat} {a x:Operand} {g' i' row s:Nat} {rows:List (List AV)} {r cs:List AV} (h:Reg P N k xs fr (aQ H g' i' (.cells s (rows.set row cs))) K) (hg:gok fr gd=some true:=by rfl) (ha:ev fr a=.ptr g' i' row 0:=by rfl) (hx:ev fr x=.agg cs:=by rfl)
  (hh:hget H g' i'=some (.cells s rows):=by rfl) (hr:rows[row]?=some r:=by first | rfl | assumption) (hl:r.length=sz:=by first | assumption | exact ws_len _ _ | rfl) (hc:cs.length=sz:=by first | assumption | exact ws_len _ _ | rfl)
  (h1:cs.all AV.cell1=true:=by first | assumption | exact ws_cell1 _ _ | rfl):Reg P N k (⟨none,gd,.op (.store sz a x)⟩::xs) fr H K:=.on hg (I9 ha hx hh hr hl hc h1) h
theorem E9 {sz:Nat} {a:Operand} {g' i' row s:Nat} {rows:List (List AV)} {r:List AV} (h:DK P base (j+1) xs ((d,.agg r)::fr) H (⟨⟨some d,gd,.op (.load sz true a)⟩,(base,j),.agg r,drd fr (.load sz true a),dwr base j fr (.load sz true a)⟩::acc) KD) (hg:gok fr gd=some true:=by rfl)
  (ha:ev fr a=.ptr g' i' row 0:=by rfl) (hh:hget H g' i'=some (.cells s rows):=by rfl) (hr:rows[row]?=some r:=by first | rfl | assumption) (hl:r.length=sz:=by first | assumption | exact ws_len _ _ | rfl):
  DK P base j (⟨some d,gd,.op (.load sz true a)⟩::xs) fr H acc KD:=.o hg (xI ha hh hr hl) h
end
end Go.Av
