import Derived.Test.YtgdocflpobncmaaGreatGFiB7
namespace Go.Proofs.YtgdocflpobncmaaGreat
open Go.Av Go.Proofs
set_option maxRecDepth 20000
def M6 (c:AV) (H:Heap) (R:Int→Heap→Prop):Prop:=∃ g fs cs,resM Tryz.prog c=.clo (.func g) fs cs∧aD Tryz.prog g (fs++cs) H fun res H'=>H.length≤H'.length∧∃ e:Int,res=.sc (.int .i64 e)∧R e H'
theorem tO {l:List AV} (P:Nat→Heap→Prop) (Q:Int→Heap→Prop) {H0:Heap} (h0:P 0 H0) (hl:l.length≤100)
  (hs:∀(i:Nat) (hi:i < l.length) H,P i H→H0.length≤H.length→M6 l[i] H fun e H'=>if e=0 then P (i+1) H' else Q e H'):
  aD Tryz.prog 77 [.list 1 (l.map fun c=>[c])] H0 fun res H'=>∃ e:Int,res=.sc (.int .i64 e)∧if e=0 then P l.length H' else Q e H':=by
 refine aD.of cF77 ?_ (nlB rfl)
 refine aB ?_
 refine AWP.loop (σ:=Nat×Heap) (fun s=>[(6,.list 1 (l.map fun c=>[c])),(7,.sc (.int .i64 (l.length:Nat))),(8,.sc (.int .i64 (s.1:Nat)))]) (fun s=>s.2) (fun s=>s.1≤l.length∧P s.1 s.2∧H0.length≤s.2.length) (fun s=>l.length - s.1) (0,H0) ⟨Nat.zero_le _,h0,Nat.le_refl _⟩ ?_ ?_
 ·refine Sub.keep ⟨Le.refl _,?_,Le.refl _,trivial⟩
  show Le (.sc (.int .i64 ((l.map fun c=>[c]).length:Nat))) _
  rw[List.length_map]
  exact Le.refl _
 rintro⟨i,H⟩ ⟨hi,hP,hH⟩
 replace hi:i≤l.length:=hi
 replace hP:P i H:=hP
 replace hH:H0.length≤H.length:=hH
 refine aB ?_
 refine AWP.condN (i < l.length) rfl (by rfl) (fun h=>?_) (fun h=>?_)
 ·obtain⟨g,fs,cs,hr,hc⟩:=hs i h H hP hH
  have hrow:iD (l.map fun c=>[c]) (i:Int)=some [l[i]]:=kY (fun c=>[c]) l i h
  generalize l[i]=c at *
  refine aB ?_
  refine Reg.o rfl (eV _ _) ?_
  refine aB ?_
  refine Reg.o rfl (eV _ _) ?_
  refine Reg.cv (g:=g) (fs:=fs) (cs:=cs) hH ?_ ?_ ?_
  ·rfl
  ·exact hr
  rw[show avals _ []=[] from rfl,List.append_nil]
  refine hc.mono ?_
  rintro res H' ⟨hlen,e,rfl,hR⟩
  refine aB ?_
  refine AWP.condN (¬ e=0) rfl (gQ e) (fun he=>?_) (fun he=>?_)
  ·rw[if_neg he] at hR
   refine aB ?_
   exact cZ ⟨e,rfl,by rw[if_neg he]; exact hR⟩
  ·replace he:e=0:=Decidable.byContradiction he
   rw[if_pos he] at hR
   refine aB ?_
   refine⟨(i+1,H'),⟨by show i+1≤l.length; omega,hR,by show H0.length≤H'.length; omega⟩,by show l.length - (i+1) < l.length - i; omega,?_⟩
   (refine Sub.keep ?_; repeat' (first | exact trivial | exact Le.refl _ | refine⟨?_,?_⟩))
 ·obtain rfl:i=l.length:=by omega
  refine aB ?_
  exact cZ ⟨0,rfl,by rw[if_pos rfl]; exact hP⟩
theorem lH {b:Bk} {c:Nat} (hb:BOK b c) {a:Nat} (ha:a < b.k) (f:Nat→Nat):BOK (bE b a f).2 (c+16):=by
 have h8:=hb.n8
 exact(iY hb (Nat.le_of_eq (Nat.zero_add _)) ha).1.le (by omega)
theorem nX {b:Bk} {c:Nat} (hb:BOK b c) {a:Nat} (ha:a < b.k) (f:Nat→Nat):(bE b a f).2.n=b.n:=(iY hb (Nat.le_of_eq (Nat.zero_add _)) ha).2.1
theorem s9 {b:Bk} {c:Nat} (hb:BOK b c) {a:Nat} (ha:a < b.k) (f:Nat→Nat):(bE b a f).2.k=b.k:=(iY hb (Nat.le_of_eq (Nat.zero_add _)) ha).2.2
theorem A1 {b:Bk} {c:Nat} (hb:BOK b c) (hc:c < 100000000) (n:Nat) (sec:Nat→Bool):
  aD Tryz.prog 137 [.cptr [.ifc 49 (.ptr 0 0 0 0)],.cptr (rootR n sec)] (aE b 4 (aM [lateB b])) fun res H'=>res=.sc (.int .i64 (bE b (n % 2) (d9 n sec)).1)∧H'=aE (bE b (n % 2) (d9 n sec)).2 5 (aM [.dead,lateB (bE b (n % 2) (d9 n sec)).2]):=by
 refine aD.of LE ?_ (nlB rfl)
 have hl:=cK n sec
 have hcc:=fJ n sec
 have he:=EI n sec
 have h2:n % 2 < b.k:=by have:=hb.k0; omega
 have hev:=xJ hb hc h2 (d9 n sec)
 have hbl:=bX (d9 n sec)
 refine d5 ?_
 refine AWP.dkm 7 _ jY rfl rfl (by kernel_rfl) (by kernel_rfl) (by kernel_rfl) ?_
 refine aB ?_
 refine DK.nil ⟨by kernel_rfl,?_⟩
 refine Reg.c (nlB rfl) rfl ((aD.bk0 (args:=[.ifc 49 (.ptr 0 0 0 0),.sc (.int .i64 (n % 2:Nat)),.agg (bR (d9 n sec))]) hev (nX hb h2 _) (.sc _) rfl ⟨.ifc _ _ _ (.ptr _ _ _ _ _ _ rfl),.sc _,.pure (pv _),trivial⟩).mono ?_)
 rintro res H' ⟨rfl,rfl⟩
 generalize bE b (n % 2) (d9 n sec)=w at *
 obtain⟨e,b2⟩:=w
 refine aB ?_
 refine DK.nil ⟨by kernel_rfl,?_⟩
 refine aB ?_
 refine c7 5 (aM [.dead,lateB b2]) [[(4,0)],[(6,0)]] [] (res':=.sc (.int .i64 e)) ⟨rfl,rfl⟩ ?_
 ·exact⟨⟨⟨_,rfl,.dead _⟩,trivial⟩,⟨⟨_,rfl,ToB.rows rfl (prs _)⟩,trivial⟩,trivial⟩
def bG (b:Bk) (n:Nat) (sec:Nat→Bool):Int×Bk:=if (bE b (n % 2) (d9 n sec)).1=0 then bN (bE b (n % 2) (d9 n sec)).2 else bE b (n % 2) (d9 n sec)
theorem jT {b:Bk} {c:Nat} (hb:BOK b c) (n:Nat) (sec:Nat→Bool):BOK (bG b n sec).2 (c+17)∧(bG b n sec).2.n=b.n∧(bG b n sec).2.k=b.k:=by
 have h2:n % 2 < b.k:=by have:=hb.k0; omega
 have h3:=lH hb h2 (d9 n sec)
 have h4:=nX hb h2 (d9 n sec)
 have h5:=s9 hb h2 (d9 n sec)
 unfold bG
 split
 ·exact⟨k6 h3,(g5 _).trans h4,(mS _).trans h5⟩
 ·exact⟨h3.le (by omega),h4,h5⟩
theorem methFlush : methF Tryz.prog 49 "Flush" = some 60 := by kernel_rfl
theorem resFlush (a : AV) : resM Tryz.prog (.clo (.method "Flush") [.ifc 49 a] []) = .clo (.func 60) [a] [] := by
 show (match methF Tryz.prog 49 "Flush" with
  | some f=>AV.clo (.func f) [a] []
  | none=>.undef)=_
 rw[methFlush]
def ComP (b:Bk) (n:Nat) (sec:Nat→Bool) (i:Nat) (H:Heap):Prop:=
 (i=0∧H=aE b 4 (aM [lateB b])) ∨
 (i=1∧(bE b (n % 2) (d9 n sec)).1=0∧H=aE (bE b (n % 2) (d9 n sec)).2 5 (aM [.dead,lateB (bE b (n % 2) (d9 n sec)).2])) ∨
 (i=2∧(bE b (n % 2) (d9 n sec)).1=0∧(bN (bE b (n % 2) (d9 n sec)).2).1=0∧H=aE (bN (bE b (n % 2) (d9 n sec)).2).2 6 (aM [.dead,.dead,lateB (bN (bE b (n % 2) (d9 n sec)).2).2]))
def ComQ (b:Bk) (n:Nat) (sec:Nat→Bool) (e:Int) (H:Heap):Prop:=
 ((bE b (n % 2) (d9 n sec)).1=e∧H=aE (bE b (n % 2) (d9 n sec)).2 5 (aM [.dead,lateB (bE b (n % 2) (d9 n sec)).2])) ∨
 ((bE b (n % 2) (d9 n sec)).1=0∧(bN (bE b (n % 2) (d9 n sec)).2).1=e∧H=aE (bN (bE b (n % 2) (d9 n sec)).2).2 6 (aM [.dead,.dead,lateB (bN (bE b (n % 2) (d9 n sec)).2).2]))
def comL (n : Nat) (sec : Nat → Bool) : List AV := [.clo (.func 137) [] [.cptr [.ifc 49 (.ptr 0 0 0 0)], .cptr (rootR n sec)], .clo (.method "Flush") [.ifc 49 (.ptr 0 0 0 0)] []]
theorem comS {b:Bk} {c:Nat} (hb:BOK b c) (hc:c < 10000000) (n:Nat) (sec:Nat→Bool):
  aD Tryz.prog 77 [.list 1 ((comL n sec).map fun c=>[c])] (aE b 4 (aM [lateB b])) fun res H'=>∃ e:Int,res=.sc (.int .i64 e)∧if e=0 then ComP b n sec 2 H' else ComQ b n sec e H':=by
 have h2:n % 2 < b.k:=by have:=hb.k0; omega
 have h3:=lH hb h2 (d9 n sec)
 refine tO (ComP b n sec) (ComQ b n sec) (.inl ⟨rfl,rfl⟩) (nlB rfl) fun i hi H hP hH=>?_
 match i with
 | 0=>
  rcases hP with⟨_,rfl⟩ | ⟨h,_⟩ | ⟨h,_⟩
  ·refine⟨137,[],_,rfl,(A1 hb (by omega) n sec).mono ?_⟩
   rintro res H' ⟨rfl,rfl⟩
   refine⟨nlB rfl,_,rfl,?_⟩
   show if (_:Int)=0 then _ else _
   split
   ·rename_i e
    exact .inr (.inl ⟨rfl,e,rfl⟩)
   ·exact .inl ⟨rfl,rfl⟩
  ·cases h
  ·cases h
 | 1=>
  rcases hP with⟨h,_⟩ | ⟨_,he,rfl⟩ | ⟨h,_⟩
  ·cases h
  ·refine⟨60,[.ptr 0 0 0 0],[],resFlush _,(aD.bk0 (args:=[.ptr 0 0 0 0]) (mV h3 (by omega)) (g5 _) (.sc _) rfl ⟨.ptr _ _ _ _ _ _ rfl,trivial⟩).mono ?_⟩
   rintro res H' ⟨rfl,rfl⟩
   refine⟨nlB rfl,_,rfl,?_⟩
   show if (_:Int)=0 then _ else _
   split
   ·rename_i e
    exact .inr (.inr ⟨rfl,he,e,rfl⟩)
   ·exact .inr ⟨he,rfl,rfl⟩
  ·cases h
 | i+2=>exact absurd hi (by simp[comL])
theorem uF {b:Bk} {c:Nat} (hb:BOK b c) (hc:c < 10000000) (n:Nat) (sec:Nat→Bool):
  aD Tryz.prog 83 [.ifc 49 (.ptr 0 0 0 0),.agg (rootR n sec)] (aE b 4 (aM [lateB b])) fun res H'=>res=.sc (.int .i64 (bG b n sec).1)∧H'=aE (bG b n sec).2 5 (aM [.dead,lateB (bG b n sec).2]):=by
 refine aD.of cF83 ?_ (nlB rfl)
 have hl:=cK n sec
 have hcc:=fJ n sec
 refine aB ?_
 refine Reg.sub (fr':=[(9,.list 1 ((comL n sec).map fun c=>[c]))]) (H':=aE b 4 (aM [lateB b])) ?_ ?_
 ·refine Sub.bk [] [[(4,0)]] [] ?_ ?_
  ·refine aO.cons (To.fzT rfl rfl rfl ?_) aO.nil
   refine To.listR ⟨ToL.cons (To.cloL ToL.nil (ToL.cons (To.fzp rfl rfl rfl ?_) (ToL.cons (To.fzp rfl rfl rfl ?_) ToL.nil))) ToL.nil,ToL.cons (To.cloL (ToL.cons (To.ifc _ _ _ (To.ptrO rfl rfl rfl)) ToL.nil) ToL.nil) ToL.nil,trivial⟩
   ·exact To.cptrL (ToL.cons (To.ifc _ _ _ (To.ptrO rfl rfl rfl)) ToL.nil)
   ·exact .pure (pv _)
  ·(all_goals exact bO)
 refine Reg.c (nlB rfl) rfl ((comS hb hc n sec).mono ?_)
 rintro res H' ⟨e,rfl,hR⟩
 have hE:bG b n sec=if (bE b (n % 2) (d9 n sec)).1=0 then bN (bE b (n % 2) (d9 n sec)).2 else bE b (n % 2) (d9 n sec):=rfl
 by_cases he:e=0
 ·rw[if_pos he] at hR
  rcases hR with⟨h,_⟩ | ⟨h,_⟩ | ⟨_,e1,e2,rfl⟩
  ·cases h
  ·cases h
  ·rw[hE,if_pos e1]
   subst he
   refine aB ?_
   refine c7 5 (aM [.dead,lateB _]) [[(4,0)],[(6,0)]] [] (res':=.sc (.int .i64 0)) ⟨by rw[e2],rfl⟩ ?_
   ·exact⟨⟨⟨_,rfl,.dead _⟩,trivial⟩,⟨⟨_,rfl,ToB.rows rfl (prs _)⟩,trivial⟩,trivial⟩
 ·rw[if_neg he] at hR
  rcases hR with⟨e1,rfl⟩ | ⟨e1,e2,rfl⟩
  ·rw[hE,if_neg (by rw[e1]; exact he)]
   refine aB ?_
   refine c7 5 (aM [.dead,lateB _]) [[(4,0)],[(5,0)]] [] (res':=.sc (.int .i64 e)) ⟨by rw[e1],rfl⟩ ?_
   ·exact⟨⟨⟨_,rfl,.dead _⟩,trivial⟩,⟨⟨_,rfl,ToB.rows rfl (prs _)⟩,trivial⟩,trivial⟩
  ·rw[hE,if_pos e1]
   refine aB ?_
   refine c7 5 (aM [.dead,lateB _]) [[(4,0)],[(6,0)]] [] (res':=.sc (.int .i64 e)) ⟨by rw[e2],rfl⟩ ?_
   ·exact⟨⟨⟨_,rfl,.dead _⟩,trivial⟩,⟨⟨_,rfl,ToB.rows rfl (prs _)⟩,trivial⟩,trivial⟩
variable {b:Bk} {c:Nat}
theorem HH {s:Nat}:aD Tryz.prog 76 [.agg (hO b s)] (aE b 4 (aM [lateB b])) fun res H'=>res=.sc (.bool (b.lost s))∧H'=aE b 4 (aM [lateB b]):=by
 refine aD.of cF76 ?_ (nlB rfl)
 refine aB ?_
 refine c7 4 (aM [lateB b]) [[(4,0)]] [] (res':=.sc (.bool (b.lost s))) ⟨rfl,rfl⟩ ?_
 ·exact⟨⟨⟨_,rfl,ToB.rows rfl (prs _)⟩,trivial⟩,trivial⟩
theorem GA (hb:BOK b c) (hl:∀ s,s < b.n→b.lost s=false):aD Tryz.prog 134 [.hsl 1 0 0 b.n,.sc (.func (.func 76) #[] #[])] (aE b 4 (aM [lateB b])) fun res H'=>res=.sc (.int .i64 (-1))∧H'=aE b 4 (aM [lateB b]):=by
 refine aD.of K0 ?_ (nlB rfl)
 have hn8:=hb.n8
 refine aB ?_
 refine AWP.loop (fun s:Nat=>[(0,.hsl 1 0 0 b.n),(1,.sc (.func (.func 76) #[] #[])),(7,.sc (.int .i64 (b.n:Nat))),(8,.sc (.int .i64 (s:Nat)))]) (fun _=>aE b 4 (aM [lateB b])) (fun s=>s≤b.n) (fun s=>b.n - s) 0 (Nat.zero_le _) ?_ ?_
 ·(refine Sub.keep ?_; repeat' (first | exact trivial | exact Le.refl _ | refine⟨?_,?_⟩))
 rintro s hs
 refine aB ?_
 refine AWP.condD rfl (fun h=>?_) (fun h=>?_)
 ·have hls:=hl s h
  refine aB ?_
  refine Reg.o rfl (bH rfl rfl sO h (by rw[bV])) ?_
  refine Reg.o rfl (o6 rfl sO (bL h) rfl) ?_
  refine Reg.cv (g:=76) (fs:=[]) (cs:=[]) (Nat.le_refl _) rfl rfl (HH.mono ?_)
  rintro res H' ⟨rfl,rfl⟩
  rw[hls]
  refine aB ?_
  refine⟨s+1,by omega,by omega,?_⟩
  (refine Sub.keep ?_; repeat' (first | exact trivial | exact Le.refl _ | refine⟨?_,?_⟩))
 ·refine aB ?_
  exact cZ ⟨rfl,rfl⟩
theorem zD (hb:BOK b c) (hl:∀ s,s < b.n→b.lost s=false):aD Tryz.prog 75 [.hsl 1 0 0 b.n,.sc (.func (.func 76) #[] #[])] (aE b 4 (aM [lateB b])) fun res H'=>res=.sc (.bool false)∧H'=aE b 4 (aM [lateB b]):=by
 refine aD.of cF75 ?_ (nlB rfl)
 refine aB ?_
 refine Reg.c (by first | exact Nat.le_refl _ | exact nlB rfl) rfl ((GA hb hl).mono ?_); rintro res H' ⟨rfl,rfl⟩; try (refine aB ?_)
 exact cZ ⟨rfl,rfl⟩
theorem IX (hb:BOK b c) (hf:∀ s,s < b.n→b.fresh s=false) {lg:Nat} {X:Heap}:aD Tryz.prog 78 [.cptr [.ptr 0 0 0 0]] (aE b lg X) fun res H'=>res=.sc (.int .i64 0)∧H'=aE b lg X:=by
 refine aD.of cF78 ?_ (nlB rfl)
 have hn8:=hb.n8
 refine aB ?_
 refine AWP.loop (fun s:Nat=>[(0,.cptr [.ptr 0 0 0 0]),(8,.sc (.int .i64 (b.n:Nat))),(9,.sc (.int .i64 (s:Nat)))]) (fun _=>aE b lg X) (fun s=>s≤b.n) (fun s=>b.n - s) 0 (Nat.zero_le _) ?_ ?_
 ·(refine Sub.keep ?_; repeat' (first | exact trivial | exact Le.refl _ | refine⟨?_,?_⟩))
 rintro s hs
 refine aB ?_
 refine AWP.condD rfl (fun h=>?_) (fun h=>?_)
 ·have hfs:=hf s h
  refine aB ?_
  refine Reg.o rfl (bH rfl rfl sO h (by rw[bV])) ?_
  refine aB ?_
  refine Reg.o rfl (bF rfl sO (bL h) dk3) ?_
  rw[hfs]
  refine aB ?_
  refine⟨s+1,by omega,by omega,?_⟩
  (refine Sub.keep ?_; repeat' (first | exact trivial | exact Le.refl _ | refine⟨?_,?_⟩))
 ·refine aB ?_
  exact cZ ⟨rfl,rfl⟩
def gT:Nat→Nat→Bk→Int×Bk
 | 0,_,b=>(0,b)
 | r+1,i,b=>if (bE b i fun _=>0).1=0 then gT r (i+1) (bE b i fun _=>0).2 else bE b i fun _=>0
theorem sD (r i:Nat) (b:Bk):gT (r+1) i b=if (bE b i fun _=>0).1=0 then gT r (i+1) (bE b i fun _=>0).2 else bE b i fun _=>0:=rfl
theorem zH:∀ {r i:Nat} {b:Bk} {c:Nat},BOK b c→i+r≤b.k→BOK (gT r i b).2 (c+16 * r)∧(gT r i b).2.n=b.n∧(gT r i b).2.k=b.k
 | 0,_,_,_,hb,_=>⟨hb,rfl,rfl⟩
 | r+1,i,b,c,hb,h=>by
  unfold gT
  have h1:=lH hb (show i < b.k by omega) fun _=>0
  have h2:=nX hb (show i < b.k by omega) fun _=>0
  have h3:=s9 hb (show i < b.k by omega) fun _=>0
  split
  ·obtain⟨q1,q2,q3⟩:=zH (r:=r) (i:=i+1) h1 (by omega)
   exact⟨q1.le (by omega),q2.trans h2,q3.trans h3⟩
  ·exact⟨h1.le (by omega),h2,h3⟩
def lJ (b:Bk):Int×Bk:=if (gT b.k 0 b).1=0 then bN (gT b.k 0 b).2 else gT b.k 0 b
theorem JY (hb:BOK b c):BOK (lJ b).2 (c+16 * b.k+1)∧(lJ b).2.n=b.n∧(lJ b).2.k=b.k:=by
 obtain⟨q1,q2,q3⟩:=zH (r:=b.k) (i:=0) hb (by omega)
 unfold lJ
 split
 ·exact⟨k6 q1,(g5 _).trans q2,(mS _).trans q3⟩
 ·exact⟨q1.le (by omega),q2,q3⟩
theorem I4 (hb:BOK b c) (hc:c < 1000000):aD Tryz.prog 80 [.cptr [.ptr 0 0 0 0]] (aE b 4 (aM [lateB b])) fun res H'=>res=.sc (.int .i64 (lJ b).1)∧H'=aE (lJ b).2 5 (aM [.dead,lateB (lJ b).2]):=by
 refine aD.of cF80 ?_ (nlB rfl)
 have hk8:=hb.k8
 refine aB ?_
 refine AWP.loop2 (fun(i:Nat) (b1:Bk)=>[(0,.cptr [.ptr 0 0 0 0]),(7,.sc (.int .i64 (b.k:Nat))),(8,.sc (.int .i64 (i:Nat)))]) (fun i b1=>aE b1 5 (aM [.dead,lateB b1]))
  (fun i b1=>i≤b.k∧gT (b.k - i) i b1=gT b.k 0 b∧BOK b1 (c+16 * i)∧b1.n=b.n∧b1.k=b.k) (fun i b1=>b.k - i) 0 b ⟨Nat.zero_le _,rfl,hb,rfl,rfl⟩ ?_ ?_
 ·refine Sub.bk [] [[(4,0)],[(4,0)]] [4] ?_ ?_
  ·(all_goals exact bO)
  ·exact⟨⟨⟨_,rfl,.dead _⟩,trivial⟩,⟨⟨_,rfl,ToB.rows rfl (prs _)⟩,trivial⟩,trivial⟩
 rintro i b1 ⟨hi,he,h1,hn,hk⟩
 refine aB ?_
 refine AWP.condD rfl (fun h=>?_) (fun h=>?_)
 ·have h2:i < b1.k:=by omega
  obtain⟨m,hm⟩:∃ m,b.k - i=m+1:=⟨b.k - i - 1,by omega⟩
  rw[hm] at he
  rw[sD] at he
  have q1:=lH h1 h2 fun _=>0
  have q2:=nX h1 h2 fun _=>0
  have q3:=s9 h1 h2 fun _=>0
  have hev:=xJ h1 (by omega) h2 fun _=>0
  refine aB ?_
  refine Reg.c (nlB rfl) rfl ((aD.bk0 (args:=[.ifc 49 (.ptr 0 0 0 0),.sc (.int .i64 (i:Nat)),.agg (bR fun _=>0)]) hev q2 (.sc _) rfl ⟨.ifc _ _ _ (.ptr _ _ _ _ _ _ rfl),.sc _,.pure (pv _),trivial⟩).mono ?_)
  rintro res H' ⟨rfl,rfl⟩
  generalize (bE b1 i fun _=>0)=w at *
  obtain⟨e,b2⟩:=w
  refine aB ?_
  refine AWP.condN (¬ e=0) rfl (gQ e) (fun h0=>?_) (fun h0=>?_)
  ·rw[if_neg h0] at he
   have hE:lJ b=(e,b2):=by unfold lJ; rw[← he,if_neg h0]
   rw[hE]
   refine aB ?_
   refine c7 5 (aM [.dead,lateB b2]) [[(4,0)],[(6,0)]] [] (res':=.sc (.int .i64 e)) ⟨rfl,rfl⟩ ?_
   ·exact⟨⟨⟨_,rfl,.dead _⟩,trivial⟩,⟨⟨_,rfl,ToB.rows rfl (prs _)⟩,trivial⟩,trivial⟩
  ·replace h0:e=0:=Decidable.byContradiction h0
   rw[if_pos h0] at he
   refine aB ?_
   refine⟨i+1,b2,⟨by omega,by rw[← he,show b.k - (i+1)=m by omega],q1.le (by omega),by rw[← hn,← q2],by rw[← hk,← q3]⟩,by omega,?_⟩
   refine Sub.bk [] [[(4,0)],[(6,0)]] [] ?_ ?_
   ·(all_goals exact bO)
   ·exact⟨⟨⟨_,rfl,.dead _⟩,trivial⟩,⟨⟨_,rfl,ToB.rows rfl (prs _)⟩,trivial⟩,trivial⟩
 ·obtain rfl:i=b.k:=by omega
  rw[Nat.sub_self] at he
  have hE:lJ b=bN b1:=by unfold lJ; rw[← he,if_pos (show(gT 0 b.k b1).1=0 from rfl)]; rfl
  rw[hE]
  refine aB ?_
  refine Reg.c (nlB rfl) rfl ((aD.bk0 (args:=[.ptr 0 0 0 0]) (mV h1 (by omega)) (g5 _) (.sc _) rfl ⟨.ptr _ _ _ _ _ _ rfl,trivial⟩).mono ?_)
  rintro res H' ⟨rfl,rfl⟩
  generalize bN b1=w at *
  obtain⟨e,b2⟩:=w
  refine aB ?_
  refine c7 5 (aM [.dead,lateB b2]) [[(4,0)],[(6,0)]] [] (res':=.sc (.int .i64 e)) ⟨rfl,rfl⟩ ?_
  ·exact⟨⟨⟨_,rfl,.dead _⟩,trivial⟩,⟨⟨_,rfl,ToB.rows rfl (prs _)⟩,trivial⟩,trivial⟩
theorem JM (hb:BOK b c) (hc:c < 10000000):aD Tryz.prog 82 [.cptr [.ptr 0 0 0 0]] (aE b 4 (aM [lateB b])) fun res H'=>res=.sc (.int .i64 (bG b 1 fun _=>false).1)∧H'=aE (bG b 1 fun _=>false).2 5 (aM [.dead,lateB (bG b 1 fun _=>false).2]):=by
 refine aD.of cF82 ?_ (nlB rfl)
 refine aB ?_
 refine Reg.c (nlB rfl) rfl ((uF hb hc 1 fun _=>false).mono ?_)
 rintro res H' ⟨rfl,rfl⟩
 refine aB ?_
 exact cZ ⟨rfl,rfl⟩
structure Sto where
 id:Nat
 fails:Nat
 num:Nat
 sec:Nat→Bool
 bytes:List Nat
 ch:List Nat
def stoR (s:Sto) (bp mp:Nat×Nat):List AV:=.ptr 0 0 0 0::.ifc 49 (.ptr 0 0 0 0)::.sc (.int .i64 (s.id:Nat))::.sc (.int .i64 (s.fails:Nat))::(rootR s.num s.sec++[.hsl bp.1 bp.2 0 s.bytes.length,.mref mp.1 mp.2])
def chE (l:List Nat):List (Value×AV):=l.map fun i=>(.int .i64 (i:Nat),.sc (.bool true))
theorem ToL.append {T:AV→AV→Prop} {ρ:Nat→Nat→Option (Nat×Nat)}:∀ {l l' m m':List AV},ToL T ρ l l'→ToL T ρ m m'→ToL T ρ (l++m) (l'++m')
 | [],[],_,_,_,h=>h
 | _::_,_::_,_,_,⟨h1,h2⟩,h=>⟨h1,ToL.append h2 h⟩
theorem ToL.stoR {T:AV→AV→Prop} {ρ:Nat→Nat→Option (Nat×Nat)} {s:Sto} {bp mp bp' mp':Nat×Nat} (r0:ρ 0 0=some (0,0)) (rb:ρ bp'.1 bp'.2=some bp) (rm:ρ mp'.1 mp'.2=some mp):ToL T ρ (stoR s bp mp) (YtgdocflpobncmaaGreat.stoR s bp' mp'):=
 ToL.cons (To.ptrO r0 rfl rfl) (ToL.cons (To.ifc _ _ _ (To.ptrO r0 rfl rfl)) (ToL.cons (.sc _) (ToL.cons (.sc _) (ToL.append (ToL.pure (pr _)) (ToL.cons (To.hslL rb rfl) (ToL.cons (To.mrefO rm) ToL.nil))))))
theorem cB.append {ρ:Nat→Nat→Option (Nat×Nat)}:∀ {l l' m m':List AV},cB ρ l l'→cB ρ m m'→cB ρ (l++m) (l'++m')
 | [],[],_,_,_,h=>h
 | [],_::_,_,_,h,_=>h.elim
 | _::_,[],_,_,h,_=>h.elim
 | _::_,_::_,_,_,⟨h1,h2⟩,h=>⟨h1,cB.append h2 h⟩
theorem cB.pures {ρ:Nat→Nat→Option (Nat×Nat)}:∀ {l:List AV},(∀ c∈l,aX c)→cB ρ l l
 | [],_=>trivial
 | _::_,h=>⟨.pure (h _ (by simp)),cB.pures fun c hc=>h c (by simp[hc])⟩
theorem bJ.stoR {ρ:Nat→Nat→Option (Nat×Nat)} {s:Sto} {bp mp bp' mp':Nat×Nat} (r0:ρ 0 0=some (0,0)) (rb:ρ bp'.1 bp'.2=some bp) (rm:ρ mp'.1 mp'.2=some mp):bJ ρ (.cells 263 [stoR s bp mp]) (.cells 263 [YtgdocflpobncmaaGreat.stoR s bp' mp']):=
 bJ.one ⟨.ptr _ _ _ _ _ _ r0,.ifc _ _ _ (.ptr _ _ _ _ _ _ r0),.sc _,.sc _,cB.append (cB.pures (pr _)) ⟨.hsl _ _ _ _ _ _ rb,.mref _ _ _ _ rm,trivial⟩⟩
variable {b:Bk} {c:Nat}
def pC (b:Bk):Bk:={ b with stores:=b.stores+1 }
theorem D3 (hb:BOK b c) (hc:c < 1000000000) (n:Nat) (sec:Nat→Bool) (l:List Nat):
  aD Tryz.prog 85 [.ptr 0 0 0 0,.agg (rootR n sec),.hsl 5 0 0 l.length] (aE b 4 (aM [lateB b,.cells 1 (byR l)])) fun res H'=>res=.ptr 8 0 0 0 ∧
   H'=aE (pC b) 6 (aM [.dead,.cells 1 (byR l),lateB b,.map [],.cells 263 [stoR ⟨b.stores+1,b.fails,n,sec,l,[]⟩ (5,0) (7,0)]]):=by
 refine aD.of cF85 ?_ (nlB rfl)
 have hl:=cK n sec
 have hcc:=fJ n sec
 have hst:=hb.st
 refine aB ?_
 refine DK.nil ⟨by kernel_rfl,?_⟩
 refine aB ?_
 refine qX (pC b) (r0:=[.hsl 1 0 0 b.n,.sc (.int .i64 (b.k:Nat)),.hsl 4 0 0 b.late.length,.sc (.int .i64 b.fuse),.list 1 (byR b.picks),.sc (.bool b.down),.sc (.int .i64 (b.fails:Nat)),.sc (.int .i64 (b.stores+1:Nat))]) 6
  (aM [.dead,.cells 1 (byR l),lateB b,.map [],.cells 263 [stoR ⟨b.stores+1,b.fails,n,sec,l,[]⟩ (5,0) (7,0)]]) [] [[(4,0)],[(5,0)],[(4,0)],[(7,13)],[(7,15)]] [4] (e0:=rfl) (res':=.ptr 8 0 0 0) ⟨rfl,rfl⟩ ?_ ?_
 ·(all_goals exact bO)
 ·refine⟨⟨⟨_,rfl,.dead _⟩,trivial⟩,⟨⟨_,rfl,ToB.rows rfl (prs _)⟩,trivial⟩,⟨⟨_,rfl,ToB.rows rfl (prs _)⟩,trivial⟩,⟨⟨_,rfl,ToB.mapE rfl (fun x hx=>by simp at hx)⟩,trivial⟩,⟨⟨_,rfl,ToB.one ?_⟩,trivial⟩,trivial⟩
  show ToL _ _ (.ptr 0 0 0 0::.ifc 49 (.ptr 0 0 0 0)::.sc (.int .i64 (b.stores+1:Nat))::.sc (.int .i64 (b.fails:Nat))::(rootR n sec++[.hsl 5 0 0 l.length,.mref 7 13])) _
  exact ToL.cons (To.ptrO rfl rfl rfl) (ToL.cons (To.ifc _ _ _ (To.ptrO rfl rfl rfl)) (ToL.cons (.sc _) (ToL.cons (.sc _) (ToL.append (ToL.pure (pr _)) (ToL.cons (To.hslL rfl rfl) (ToL.cons (To.mrefO rfl) ToL.nil))))))
theorem E1 (hb:BOK b c) (hc:c < 1000000000) (n:Nat) (sec:Nat→Bool) (l:List Nat) {lg dg di:Nat} {X:Heap} (hlate:hget X (lg - 4) 0=some (lateB b)) (hd:hget X (dg - 4) di=some (.cells 1 (byR l))) (hlg:4≤lg:=by decide) (hdg:4≤dg:=by decide) (hne:(lg,0)≠(dg,di):=by decide):
  aD Tryz.prog 85 [.ptr 0 0 0 0,.agg (rootR n sec),.hsl dg di 0 l.length] (aE b lg X) fun res H'=>res=.ptr (X.length+6) 0 0 0 ∧
   H'=aE (pC b) (X.length+4) (aJ (aJ X (lg - 4) 0 .dead) (dg - 4) di (.cells 1 (byR l))++aM [lateB b,.map [],.cells 263 [stoR ⟨b.stores+1,b.fails,n,sec,l,[]⟩ (dg,di) (X.length+5,0)]]):=by
 have hnd:[(lg,0),(dg,di)].Nodup:=by simp; exact fun h1 h2=>hne (by rw[h1,h2])
 have hL:bkL b.n [(lg,0),(dg,di)] dg di=some (5,0):=by
  obtain⟨d,rfl⟩:∃ d,dg=d+4:=⟨dg - 4,by omega⟩
  show(pos (d+4,di) _).map _=_
  rw[z5 (j:=1) hnd rfl]
  rfl
 have hXl:dg - 4 < X.length:=c8 (by rw[hd]; rfl)
 refine aD.bkG (E0:=[.cells 1 (byR l)]) [(dg,di)] (D3 hb hc n sec l) rfl hnd hlg (by simp[hdg]) hlate ⟨.ptr _ _ _ _ _ _ rfl,.pure (pv _),.hsl _ _ _ _ _ _ rfl,trivial⟩ (fun j p x h1 h2=>?_) fun res H' hr=>?_
 ·cases j with
  | zero=>
   injection h1 with h1
   injection h2 with h2
   subst h1 h2
   exact⟨rfl,_,hd,bJ.pure _ _ (prs _)⟩
  | succ j=>simp at h1
 ·obtain⟨rfl,rfl⟩:=hr
  refine⟨pC b,[.cells 1 (byR l)],[.cells 1 (byR l)],[.map [],.cells 263 [stoR ⟨b.stores+1,b.fails,n,sec,l,[]⟩ (5,0) (7,0)]],[.map [],.cells 263 [stoR ⟨b.stores+1,b.fails,n,sec,l,[]⟩ (dg,di) (X.length+5,0)]],.ptr (X.length+6) 0 0 0,rfl,rfl,rfl,rfl,rfl,?_,fun j x y h1 h2=>?_,fun j x y h1 h2=>?_,rfl,rfl⟩
  ·refine .ptr _ _ _ _ _ _ ?_
   rw[fG (by omega)]
   congr 2
   simp
  ·cases j with
   | zero=>
    injection h1 with h1
    injection h2 with h2
    subst h1 h2
    exact bJ.pure _ _ (prs _)
   | succ j=>simp at h1
  ·match j with
   | 0=>
    injection h1 with h1
    injection h2 with h2
    subst h1 h2
    exact .map _ _ rfl (fun j x y h=>by simp at h) fun j x y h=>by simp at h
   | 1=>
    injection h1 with h1
    injection h2 with h2
    subst h1 h2
    refine bJ.stoR ?_ ?_ ?_
    ·exact fA (by omega)
    ·exact(fA (by show dg < _; omega)).trans hL
    ·rw[fG (by show _≤X.length+5; omega)]
     congr 2
     simp
   | j+2=>simp at h1
variable {b:Bk} {c:Nat}
theorem wC (hb:(bN b).1=0):(bN b).2.fresh=b.fresh:=by
 unfold bN at hb ⊢
 split
 ·rfl
 ·split
  ·rename_i h1 h2
   rw[if_neg h1,if_pos h2] at hb
   cases hb
  ·unfold eQ
   split
   ·rfl
   ·split<;>rfl
def tA (b:Bk):Bk:=(bN b).2
def AW (b:Bk):Bk:=(lJ (tA b)).2
def g8 (b:Bk):Bk:=(bG (AW b) 1 fun _=>false).2
structure GF (b:Bk):Prop where
 dn:b.down=false
 lost:∀ s,s < b.n→b.lost s=false
 fresh:∀ s,s < b.n→b.fresh s=false
 s1:(bN b).1=0
 s2:(lJ (tA b)).1=0
 s3:(bG (AW b) 1 fun _=>false).1=0
def NI:List AV:=[.clo (.func 60) [.ptr 0 0 0 0] [],.clo (.func 78) [] [.cptr [.ptr 0 0 0 0]],.clo (.func 80) [] [.cptr [.ptr 0 0 0 0]],.clo (.func 82) [] [.cptr [.ptr 0 0 0 0]]]
def FmtP (b:Bk) (i:Nat) (H:Heap):Prop:=
 (i=0∧H=aE b 4 (aM [lateB b]))∨((i=1∨i=2)∧H=aE (tA b) 5 (aM [.dead,lateB (tA b)])) ∨
 (i=3∧H=aE (AW b) 6 (aM [.dead,.dead,lateB (AW b)]))∨(i=4∧H=aE (g8 b) 7 (aM [.dead,.dead,.dead,lateB (g8 b)]))
theorem CY (hb:BOK b c):BOK (tA b) (c+1)∧(tA b).n=b.n∧(tA b).k=b.k:=⟨k6 hb,g5 b,mS b⟩
theorem CB (hb:BOK b c):BOK (AW b) (c+16 * 512+2)∧(AW b).n=b.n∧(AW b).k=b.k:=by
 obtain⟨h1,h2,h3⟩:=CY hb
 obtain⟨q1,q2,q3⟩:=JY h1
 have:=hb.k8
 exact⟨q1.le (by omega),q2.trans h2,q3.trans h3⟩
theorem CM (hb:BOK b c):BOK (g8 b) (c+10000)∧(g8 b).n=b.n∧(g8 b).k=b.k:=by
 obtain⟨h1,h2,h3⟩:=CB hb
 obtain⟨q1,q2,q3⟩:=jT h1 1 fun _=>false
 exact⟨q1.le (by omega),q2.trans h2,q3.trans h3⟩
theorem fmtS (hb:BOK b c) (hc:c < 100000) (hf:GF b):aD Tryz.prog 77 [.list 1 (NI.map fun c=>[c])] (aE b 4 (aM [lateB b])) fun res H'=>res=.sc (.int .i64 0)∧H'=aE (g8 b) 7 (aM [.dead,.dead,.dead,lateB (g8 b)]):=by
 obtain⟨h1,n1,k1⟩:=CY hb
 obtain⟨h2,n2,k2⟩:=CB hb
 refine(tO (FmtP b) (fun _ _=>False) (.inl ⟨rfl,rfl⟩) (nlB rfl) fun i hi H hP hH=>?_).mono ?_
 ·match i with
  | 0=>
   rcases hP with⟨_,rfl⟩ | ⟨h | h,_⟩ | ⟨h,_⟩ | ⟨h,_⟩<;>try (cases h)
   refine⟨60,[.ptr 0 0 0 0],[],rfl,(mV hb (by omega)).mono ?_⟩
   rintro res H' ⟨rfl,rfl⟩
   exact⟨nlB rfl,_,rfl,(if_pos hf.s1).mpr (.inr (.inl ⟨.inl rfl,rfl⟩))⟩
  | 1=>
   rcases hP with⟨h,_⟩ | ⟨h | h,rfl⟩ | ⟨h,_⟩ | ⟨h,_⟩<;>try (cases h)
   refine⟨78,[],_,rfl,(IX h1 (fun s hs=>?_)).mono ?_⟩
   ·rw[show(tA b).fresh=b.fresh from wC hf.s1]
    exact hf.fresh s (by rw[← n1]; exact hs)
   rintro res H' ⟨rfl,rfl⟩
   exact⟨Nat.le_refl _,_,rfl,(if_pos rfl).mpr (.inr (.inl ⟨.inr rfl,rfl⟩))⟩
  | 2=>
   rcases hP with⟨h,_⟩ | ⟨h | h,rfl⟩ | ⟨h,_⟩ | ⟨h,_⟩<;>try (cases h)
   refine⟨80,[],_,rfl,(aD.bk0 (args:=[.cptr [.ptr 0 0 0 0]]) (I4 h1 (by omega)) (n2.trans n1.symm) (.sc _) rfl ⟨.cptr _ _ rfl (fun j x y a b=>?_),trivial⟩).mono ?_⟩
   ·cases j with
    | zero=>
     injection a with a
     injection b with b
     subst a b
     exact .ptr _ _ _ _ _ _ rfl
    | succ j=>simp at a
   rintro res H' ⟨rfl,rfl⟩
   exact⟨nlB rfl,_,rfl,(if_pos hf.s2).mpr (.inr (.inr (.inl ⟨rfl,rfl⟩)))⟩
  | 3=>
   rcases hP with⟨h,_⟩ | ⟨h | h,_⟩ | ⟨h,rfl⟩ | ⟨h,_⟩<;>try (cases h)
   refine⟨82,[],_,rfl,(aD.bk0 (args:=[.cptr [.ptr 0 0 0 0]]) (JM h2 (by omega)) (jT h2 1 fun _=>false).2.1 (.sc _) rfl ⟨.cptr _ _ rfl (fun j x y a b=>?_),trivial⟩).mono ?_⟩
   ·cases j with
    | zero=>
     injection a with a
     injection b with b
     subst a b
     exact .ptr _ _ _ _ _ _ rfl
    | succ j=>simp at a
   rintro res H' ⟨rfl,rfl⟩
   exact⟨nlB rfl,_,rfl,(if_pos hf.s3).mpr (.inr (.inr (.inr ⟨rfl,rfl⟩)))⟩
  | i+4=>exact absurd hi (by simp[NI])
 ·rintro res H' ⟨e,rfl,hR⟩
  by_cases he:e=0
  ·rw[if_pos he] at hR
   rcases hR with⟨h,_⟩ | ⟨h | h,_⟩ | ⟨h,_⟩ | ⟨_,rfl⟩<;>try (cases h)
   exact⟨by rw[he],rfl⟩
  ·rw[if_neg he] at hR
   exact hR.elim
def pR (b:Bk):Nat:=aU b * aV b
def zY (b:Bk):Sto:=⟨(g8 b).stores+1,(g8 b).fails,1,fun _=>false,List.replicate (pR b) 0,[]⟩
theorem BZ (m:Nat):List.replicate m [AV.sc (.int .u8 0)]=byR (List.replicate m 0):=by simp[byR]
theorem D8 (hb:BOK b c) (hc:c < 100000) (hf:GF b):aD Tryz.prog 24 [.ptr 0 0 0 0] (aE b 4 (aM [lateB b])) fun res H'=>res=.tup [.ptr 8 0 0 0,.sc (.int .i64 0)] ∧
  H'=aE (pC (g8 b)) 5 (aM [.dead,lateB (g8 b),.cells 1 (byR (zY b).bytes),.map [],.cells 263 [stoR (zY b) (6,0) (7,0)]]):=by
 refine aD.of cF24 ?_ (nlB rfl)
 obtain⟨h1,n1,k1⟩:=CM hb
 have hd:=hf.dn
 have hn0:=hb.n0
 have hn8:=hb.n8
 have hk8:=hb.k8
 have hk0:=hb.k0
 have hsn:aU (g8 b)=aU b:=by unfold aU; rw[k1]
 have hsz:aV (g8 b)=aV b:=by unfold aV; rw[n1]
 have hs1:aU b≤512:=by unfold aU; omega
 have hs2:aV b≤512:=by unfold aV; omega
 have hrm:pR b≤262144:=Nat.mul_le_mul hs1 hs2
 refine aB ?_
 refine Reg.sub (fr':=[(1,.cptr [.ptr 0 0 0 0]),(8,.ptr 0 0 0 0)]) (H':=aE b 4 (aM [lateB b])) ?_ ?_
 ·refine Sub.bk [] [[(4,0)]] [] ?_ ?_
  ·(all_goals exact bO)
  ·(all_goals exact bO)
 refine Reg.c (by first | exact Nat.le_refl _ | exact nlB rfl) rfl ((uW hb.n0).mono ?_); rintro res H' ⟨rfl,rfl⟩; try (refine aB ?_)
 rw[hd]
 refine aB ?_
 refine Reg.c (by first | exact Nat.le_refl _ | exact nlB rfl) rfl ((zD hb hf.lost).mono ?_); rintro res H' ⟨rfl,rfl⟩; try (refine aB ?_)
 refine Reg.sub (fr':=[(1,.cptr [.ptr 0 0 0 0]),(27,.list 1 (NI.map fun c=>[c]))]) (H':=aE b 4 (aM [lateB b])) ?_ ?_
 ·refine Sub.bk [] [[(4,0)]] [] ?_ ?_
  ·refine aO.cons ?_ (aO.cons (To.fzT rfl rfl rfl ?_) aO.nil)
   ·exact To.cptrL (ToL.cons (To.ptrO rfl rfl rfl) ToL.nil)
   refine To.listR ⟨ToL.cons (To.cloL (ToL.cons (To.ptrO rfl rfl rfl) ToL.nil) ToL.nil) ToL.nil,ToL.cons (To.cloL ToL.nil (ToL.cons (To.cptrL (ToL.cons (To.ptrO rfl rfl rfl) ToL.nil)) ToL.nil)) ToL.nil,
    ToL.cons (To.cloL ToL.nil (ToL.cons (To.cptrL (ToL.cons (To.ptrO rfl rfl rfl) ToL.nil)) ToL.nil)) ToL.nil,ToL.cons (To.cloL ToL.nil (ToL.cons (To.cptrL (ToL.cons (To.ptrO rfl rfl rfl) ToL.nil)) ToL.nil)) ToL.nil,trivial⟩
  ·(all_goals exact bO)
 refine Reg.c (by first | exact Nat.le_refl _ | exact nlB rfl) rfl ((fmtS hb hc hf).mono ?_); rintro res H' ⟨rfl,rfl⟩; try (refine aB ?_)
 refine Reg.c (nlB rfl) rfl ((lZ (b:=g8 b) (by omega) (by omega) (by omega)).mono ?_)
 rintro res H' ⟨rfl,rfl⟩
 rw[hsn,hsz]
 refine d5 ?_
 refine AWP.dkm 6 _ jY rfl rfl (by kernel_rfl) (by kernel_rfl) (by kernel_rfl) ?_
 refine aB ?_
 rw[show IntKind.i64.wrap ((aU b:Int) * (aV b:Int))=((pR b:Nat):Int) by
  rw[show((aU b:Int) * (aV b:Int))=((pR b:Nat):Int) by unfold pR; rw[Int.natCast_mul]]
  exact Av.wrap_small (by omega) (by omega)]
 refine aB ?_
 refine DK.o rfl (kA rfl (by omega) (by omega)) ?_
 refine aB ?_
 refine DK.nil ⟨by kernel_rfl,?_⟩
 have ho:=E1 h1 (by omega) 1 (fun _=>false) (List.replicate (pR b) 0) (lg:=7) (dg:=8) (di:=5) (X:=[[.dead],[.dead],[.dead],[lateB (g8 b)],(List.replicate 6 .dead).set 5 (.cells 1 (byR (List.replicate (pR b) 0)))]) rfl rfl
 rw[List.length_replicate,← BZ] at ho
 refine Reg.c (nlB rfl) rfl (ho.mono ?_)
 rintro res H' ⟨rfl,rfl⟩
 rw[BZ]
 refine aB ?_
 refine DK.nil ⟨by kernel_rfl,?_⟩
 refine aB ?_
 refine c7 5 (aM [.dead,lateB (g8 b),.cells 1 (byR (zY b).bytes),.map [],.cells 263 [stoR (zY b) (6,0) (7,0)]]) [[(4,0)],[(9,0)],[(8,5)],[(10,0)],[(11,0)]] [] (res':=.tup [.ptr 8 0 0 0,.sc (.int .i64 0)]) ⟨rfl,rfl⟩ ?_
 ·refine⟨⟨⟨_,rfl,.dead _⟩,trivial⟩,⟨⟨_,rfl,ToB.rows rfl (prs _)⟩,trivial⟩,⟨⟨_,rfl,ToB.rows rfl (prs _)⟩,trivial⟩,⟨⟨_,rfl,ToB.mapE rfl (fun x hx=>by simp at hx)⟩,trivial⟩,⟨⟨_,rfl,ToB.one ?_⟩,trivial⟩,trivial⟩
  exact ToL.stoR rfl rfl rfl
def gY (n k:Nat):Bk:=⟨n,k,fun _ _ _=>0,fun _ _ _=>0,fun _=>false,fun _=>false,fun _=>0,[],-1,[],false,0,0⟩
def nbR (i k:Nat):List AV:=[.hsl 1 0 0 i,.sc (.int .i64 (k:Nat)),.sc (.slice none 0 0),.sc (.int .i64 (-1)),.sc (.slice none 0 0),.sc (.bool false),.sc (.int .i64 0),.sc (.int .i64 0)]
theorem LN (k:Nat):List.replicate k (dQ [(64,Value.int IntKind.u8 0)])=dR k fun _ _=>0:=by
 unfold dR
 rw[List.map_const',List.length_range,MB]
theorem ToR.app {T:AV→AV→Prop} {ρ:Nat→Nat→Option (Nat×Nat)} {l m l' m':List (List AV)} (h:ToR T ρ l m) (h':ToR T ρ l' m'):ToR T ρ (l++l') (m++m'):=ToR.append h h'
theorem AB {n k:Nat} (hn:3≤n∧n≤8) (hk:4≤k∧k≤512):aD Tryz.prog 23 [.sc (.int .i64 (n:Nat)),.sc (.int .i64 (k:Nat))] [] fun res H'=>res=.tup [.ptr 0 0 0 0,.sc (.int .i64 0)]∧H'=aE (gY n k) 4 (aM [lateB (gY n k)]):=by
 refine aD.of cF23 ?_ (nlB rfl)
 refine aB ?_
 rw[dFa (show¬ (n < 3) by omega)]
 refine aB ?_
 rw[dFa (show¬ (8 < n) by omega)]
 refine aB ?_
 rw[dFa (show¬ (k < 4) by omega)]
 refine aB ?_
 rw[dFa (show¬ (512 < k) by omega)]
 refine aB ?_
 refine AWP.loop (fun i:Nat=>[(1,.sc (.int .i64 (k:Nat))),(6,.ptr 0 0 0 0),(24,.sc (.int .i64 (n:Nat))),(25,.sc (.int .i64 (i:Nat)))]) (fun i=>eE (nbR i k) (gY i k) []) (fun i=>i≤n) (fun i=>n - i) 0 (Nat.zero_le _) ?_ ?_
 ·refine Sub.toK [5] [.c [(0,0)],.c [(1,0)],.c [],.c []] ?_ ?_ trivial
  ·(all_goals exact bO)
  ·((all_goals (repeat' (first | exact aO.nil | exact aI.nil | exact bD.nil | exact ToL.nil | exact ToR.nil | refine aO.cons ?_ ?_ | refine aI.cons ?_ ?_ | refine f8 ?_ ?_ | exact To.undef _ | exact To.sc _ | exact To.hslL rfl rfl | exact To.asl _ _ _ _ _ _ _ rfl | refine To.ifc _ _ _ ?_ | exact To.ptrO rfl rfl rfl | exact To.mrefO rfl | exact To.nil rfl rfl rfl | exact wt1 | exact To.nilL | refine To.int ?_ | refine To.bool ?_ | refine To.hslL rfl ?_ | refine wt2 rfl ?_ ?_ ?_ | refine To.tupL ?_ | refine To.aggL ?_ | refine To.cptrL ?_ | refine To.fzp rfl rfl rfl ?_ | refine To.fzm rfl rfl ?_ | refine To.cloL ?_ ?_ | refine wt3 ?_ | refine wt4 ?_ | exact wt5 | refine wt6 ?_ | refine ToB.one ?_ | exact wt7 | ((with_reducible apply ToL.consE); case e9=>rfl) | refine wt8 ?_ | refine ToL.cons ?_ ?_ | exact wt11 | refine wt9 ?_ ?_ | refine wt12 ?_ | (with_reducible rfl) | assumption)); all_goals (first | rfl | assumption | (simp; done) | (simp; omega) | (rw[wrap_small (by omega) (by omega)]; done) | (rw[wrap_small (by omega) (by omega)]; omega) | (refine congrArg Nat.cast ?_; assumption) | skip)))
   exact ToB.rows rfl (fun r hr=>absurd hr (by simp[disksR,gY]))
 rintro i hi
 refine aB ?_
 refine AWP.condD rfl (fun h=>?_) (fun h=>?_)
 ·have hdl:(disksR (gY i k)).length=i:=bV _
  refine aB ?_
  refine DK.o rfl (kA rfl (by omega) (by omega)) ?_
  refine dC ?_
  refine DK.o rfl (kA rfl (by omega) (by omega)) ?_
  refine dC ?_
  refine DK.nil ⟨by kernel_rfl,?_⟩
  refine aB ?_
  refine⟨i+1,by omega,by omega,?_⟩
  refine Sub.toK [] [.c [(0,0)],.c [(4,11)],.w 2 i [(4,6)],.w 3 i [(4,8)]] ?_ ?_ trivial
  ·(all_goals exact bO)
  ·refine⟨⟨⟨_,rfl,ToB.one ?_⟩,trivial⟩,⟨⟨_,rfl,?_⟩,trivial⟩,bD.famS (fun j hj=>⟨_,cD hj,ToB.rows rfl (prs _)⟩) rfl (ToB.rows (LN k) (prs _)),bD.famS (fun j hj=>⟨_,cD hj,ToB.rows rfl (prs _)⟩) rfl (ToB.rows (LN k) (prs _)),trivial⟩
   ·show ToL _ _ [.hsl 4 11 0 (i+1),.sc (.int .i64 (k:Nat)),.sc (.slice none 0 0),.sc (.int .i64 (-1)),.sc (.slice none 0 0),.sc (.bool false),.sc (.int .i64 0),.sc (.int .i64 0)] _
    (all_goals exact bO)
   ·rw[show disksR (gY (i+1) k)=disksR (gY i k)++[hO (gY (i+1) k) i] by unfold disksR; rw[show(gY (i+1) k).n=i+1 from rfl,List.range_succ,List.map_append]; rfl]
    refine ToB.rowsR (ToR.app (ToR.map fun s hs=>?_) ⟨?_,trivial⟩)
    ·have hs:=List.mem_range.1 hs
     exact ToL.cons (To.hslL (vX rfl hs) rfl) (ToL.cons (To.hslL (vX rfl hs) rfl) (ToL.cons (.sc _) (ToL.cons (.sc _) (ToL.cons (.sc _) ToL.nil))))
    ·show ToL _ _ [.hsl 4 6 0 k,.hsl 4 8 0 k,.sc (.bool false),.sc (.bool false),.sc (.int .i64 0)] _
     exact ToL.cons (To.hslL (HF (i:=0) rfl rfl) rfl) (ToL.cons (To.hslL (HF (i:=0) rfl rfl) rfl) (ToL.cons (.sc _) (ToL.cons (.sc _) (ToL.cons (.sc _) ToL.nil))))
 ·obtain rfl:i=n:=by omega
  refine aB ?_
  refine qX (gY i k) (r0:=nbR i k) 4 (X:=[]) (aM [lateB (gY i k)]) [66] [[(4,0)]] [] (e0:=rfl) (res':=.tup [.ptr 0 0 0 0,.sc (.int .i64 0)]) ⟨rfl,rfl⟩ ?_ ?_
  ·(all_goals exact bO)
  ·(all_goals exact bO)
def stX (b:Bk) (s:Sto):Heap:=aM [lateB b,.cells 1 (byR s.bytes),.map (chE s.ch),.cells 263 [stoR s (5,0) (6,0)]]
def stH (b:Bk) (s:Sto) (G:Heap):Heap:=aE b 4 (stX b s++G)
instance (l:List Nat):PM (chE l):=⟨fun x hx=>by
 obtain⟨a,_,rfl⟩:=List.mem_map.1 hx
 exact .sc _⟩
theorem st1 (s:Sto) (bp mp:Nat×Nat):(stoR s bp mp)[1]?=some (.ifc 49 (.ptr 0 0 0 0)):=rfl
theorem st2 (s:Sto) (bp mp:Nat×Nat):(stoR s bp mp)[2]?=some (.sc (.int .i64 (s.id:Nat))):=rfl
variable {b:Bk} {s:Sto} {c:Nat} {G:Heap}
theorem hst:hget (stH b s G) 7 0=some (.cells 263 [stoR s (5,0) (6,0)]):=rfl
theorem CQ {T:AV→AV→Prop} {ρ:Nat→Nat→Option (Nat×Nat)} {Z:Heap} (s':Sto) (e1:s'.bytes=s.bytes:=by rfl) (e2:s'.ch=s.ch:=by rfl) (e3:stoR s (5,0) (6,0)=stoR s' (5,0) (6,0):=by rfl) (r0:ρ 0 0=some (0,0):=by rfl) (r5:ρ 5 0=some (5,0):=by rfl) (r6:ρ 6 0=some (6,0):=by rfl):
  aI (ToB T ρ) (stH b s Z) [[(4,0)],[(5,0)],[(6,0)],[(7,0)]] (stX b s'):=by
 refine⟨⟨⟨_,rfl,ToB.rows rfl (prs _)⟩,trivial⟩,⟨⟨_,rfl,ToB.rows (by rw[e1]) (prs _)⟩,trivial⟩,⟨⟨_,rfl,ToB.mapE (by rw[e2]) PM.out⟩,trivial⟩,⟨⟨_,rfl,ToB.one ?_⟩,trivial⟩,trivial⟩
 rw[e3]
 exact ToL.stoR r0 r5 r6
theorem Sub.st {k N:Nat} {fr fr':Fr} {Z:Heap}
  (h5:aO (ToT (stH b s Z++gh []) (stH b s Z).length (dF (bK b.n [[(4,0)],[(5,0)],[(6,0)],[(7,0)]]))) (rho (idK (bK b.n [[(4,0)],[(5,0)],[(6,0)],[(7,0)]]))) fr fr') (h1:j9 0 k (bK b.n [[(4,0)],[(5,0)],[(6,0)],[(7,0)]]) (stH b s Z++gh []):=by(repeat' (first | exact trivial | exact mM.c _ rfl rfl | exact mM.w _ _ (Nat.le_of_eq (c9 _ _)) | refine⟨?_,?_⟩))):Sub k N fr (stH b s Z) fr' (stH b s []):=
 Sub.bk [] [[(4,0)],[(5,0)],[(6,0)],[(7,0)]] [] h5 (CQ (Z:=Z++gh []) s) rfl trivial h1 rfl
theorem fH {k:Nat} {rs:List gJ} {fr:Fr} {e:Exit} {R:AV→Heap→Prop} {res res':AV} {Z:Heap} (hR:R res' (stH b s [])) (he:e=.normal∨e=.ret:=by first | exact .inr rfl | exact .inl rfl) (hres:eF fr (stH b s Z) rs=some res:=by rfl)
  (h5:To (ToT (stH b s Z++gh []) (stH b s Z).length (dF (bK b.n [[(4,0)],[(5,0)],[(6,0)],[(7,0)]]))) (rho (idK (bK b.n [[(4,0)],[(5,0)],[(6,0)],[(7,0)]]))) res res':=by(all_goals exact bO)) (h1:j9 0 k (bK b.n [[(4,0)],[(5,0)],[(6,0)],[(7,0)]]) (stH b s Z++gh []):=by(repeat' (first | exact trivial | exact mM.c _ rfl rfl | exact mM.w _ _ (Nat.le_of_eq (c9 _ _)) | refine⟨?_,?_⟩))):
  (e=.normal∨e=.ret)∧∃ res res' H2,eF fr (stH b s Z) rs=some res∧cQ k (stH b s Z) res H2 res'∧R res' H2:=
 c7 4 (stX b s) [[(4,0)],[(5,0)],[(6,0)],[(7,0)]] [] hR (CQ (Z:=Z++gh []) s) he hres h5 rfl trivial h1 rfl
theorem vE (b:Bk) (s s':Sto):zX (stH b s []) (stH b s' []):=by
 refine⟨rfl,fun g i=>?_,fun g i x hx=>?_⟩
 ·match g with
  | 0=>rfl
  | 1=>rfl
  | 2=>rfl
  | 3=>rfl
  | 4=>rfl
  | 5=>cases i<;>rfl
  | 6=>cases i<;>rfl
  | 7=>cases i<;>rfl
  | g+8=>rfl
 ·have hn2:∀ j,j < b.n→idH (stH b s []) 2 j=some (2,j):=fun j hj=>oT (by rw[show hget (stH b s []) 2 j=_ from cD hj]; rfl)
  have hn3:∀ j,j < b.n→idH (stH b s []) 3 j=some (3,j):=fun j hj=>oT (by rw[show hget (stH b s []) 3 j=_ from cD hj]; rfl)
  match g with
  | 0=>match i with
   | 0=>
    injection (show some _=some x from hx) with hx
    subst hx
    exact⟨rfl,bJ.boxB rfl rfl⟩
   | i+1=>cases hx
  | 1=>match i with
   | 0=>
    injection (show some _=some x from hx) with hx
    subst hx
    exact⟨rfl,bJ.disksR hn2 hn3⟩
   | i+1=>cases hx
  | 2=>
   have hi:i < b.n:=by
    have:=(gEs.1 (show(fam b.n _)[i]?=some x from hx)).1
    rwa[c9] at this
   rw[show hget (stH b s' []) 2 i=_ from cD hi] at hx
   injection hx with hx
   subst hx
   exact⟨rfl,bJ.pure _ _ (prs _)⟩
  | 3=>
   have hi:i < b.n:=by
    have:=(gEs.1 (show(fam b.n _)[i]?=some x from hx)).1
    rwa[c9] at this
   rw[show hget (stH b s' []) 3 i=_ from cD hi] at hx
   injection hx with hx
   subst hx
   exact⟨rfl,bJ.pure _ _ (prs _)⟩
  | 4=>match i with
   | 0=>
    injection (show some _=some x from hx) with hx
    subst hx
    exact⟨rfl,bJ.pure _ _ (prs _)⟩
   | i+1=>cases hx
  | 5=>match i with
   | 0=>
    injection (show some _=some x from hx) with hx
    subst hx
    exact⟨rfl,bJ.pure _ _ (prs _)⟩
   | i+1=>cases hx
  | 6=>match i with
   | 0=>
    injection (show some _=some x from hx) with hx
    subst hx
    exact⟨rfl,.pureMap _ PM.out⟩
   | i+1=>cases hx
  | 7=>match i with
   | 0=>
    injection (show some _=some x from hx) with hx
    subst hx
    exact⟨rfl,bJ.stoR rfl rfl rfl⟩
   | i+1=>cases hx
  | g+8=>cases hx
theorem w8 {f:FuncId} {args:List AV} {v:AV} {s':Sto} (G:Heap) (h:aD Tryz.prog f args (stH b s []) fun res H'=>res=v∧H'=stH b s' []) (hv:aX v) (ha:∀ a∈args,Ren (idH (stH b s [])) a a):
  aD Tryz.prog f args (stH b s G) fun res H'=>res=v∧H'=stH b s' G:=by
 have h2:=aD.more G (vE b s s) (R:=fun res H'=>res=v∧H'=stH b s' []) (h.mono fun res H' h=>by
  obtain⟨rfl,rfl⟩:=h
  exact⟨hv,vE b s s',rfl,rfl⟩) ha
 have e:∀ s,stH b s []++G=stH b s G:=fun s=>by
  show aE b 4 ((stX b s++[])++G)=_
  rw[List.append_nil]
  rfl
 rw[e] at h2
 refine h2.mono fun res H' h=>?_
 obtain⟨H1,rfl,rfl,rfl⟩:=h
 exact⟨rfl,e s'⟩
theorem CR (hid:s.id=b.stores):aD Tryz.prog 25 [.ptr 7 0 0 0] (stH b s []) fun res H'=>res=.sc (.int .i64 (s.bytes.length:Nat))∧H'=stH b s []:=by
 refine aD.of cF25 ?_ (nlB rfl)
 refine aB ?_
 refine DK.nil ⟨by kernel_rfl,?_⟩
 rw[hid,dTr (rfl:b.stores=b.stores)]
 refine aB ?_
 exact fH ⟨rfl,rfl⟩
def dI (b:Bk) (s:Sto):Int:=if s.id≠b.stores then 28 else if b.down=true∨s.fails≠b.fails then 22 else if 1 < v9 b b.n then 19 else 0
theorem rF (hb:BOK b c):aD Tryz.prog 86 [.ptr 7 0 0 0] (stH b s []) fun res H'=>res=.sc (.int .i64 (dI b s))∧H'=stH b s []:=by
 refine aD.of cF86 ?_ (nlB rfl)
 unfold dI
 refine aB ?_
 refine DK.nil ⟨by kernel_rfl,?_⟩
 by_cases h1:s.id=b.stores
 ·rw[if_neg (fun h=>h h1),dTr h1]
  refine aB ?_
  cases hd:b.down with
  | true=>
   rw[if_pos (.inl rfl)]
   refine aB ?_
   refine DK.nil ⟨by kernel_rfl,?_⟩
   refine aB ?_
   exact fH ⟨rfl,rfl⟩
  | false=>
   refine aB ?_
   refine DK.nil ⟨by kernel_rfl,?_⟩
   by_cases h2:s.fails=b.fails
   ·rw[if_neg (fun h=>h.elim (by simp) (fun h=>h h2)),dTr h2]
    refine aB ?_
    refine Reg.c (nlB rfl) rfl ((NB hb.n0 hb.n8).mono ?_)
    rintro res H' ⟨rfl,rfl⟩
    have hbd:=CP b b.n
    refine aB ?_
    by_cases h3:1 < v9 b b.n
    ·rw[if_pos h3,dTr h3]
     refine aB ?_
     exact fH ⟨rfl,rfl⟩
    ·rw[if_neg h3,dFa h3]
     refine aB ?_
     exact fH ⟨rfl,rfl⟩
   ·rw[if_pos (.inr h2),dFa h2]
    refine aB ?_
    exact fH ⟨rfl,rfl⟩
 ·rw[if_pos h1,dFa h1]
  refine aB ?_
  exact fH ⟨rfl,rfl⟩
variable {b:Bk} {s:Sto} {c:Nat}
def eB (l:List (Int×Int)):List (List AV):=l.map fun x=>[.sc (.int .i64 x.1),.sc (.int .i64 x.2)]
instance (l:List (Int×Int)):PRs (eB l):=⟨fun r hr=>by
 obtain⟨a,_,rfl⟩:=List.mem_map.1 hr
 intro c hc
 rcases List.mem_cons.1 hc with rfl | hc
 ·exact .sc _
 ·rw[List.mem_singleton.1 hc]; exact .sc _⟩
theorem rA (l:List (Int×Int)):(eB l).length=l.length:=by simp[eB]
theorem qG (l:List (Int×Int)) (k:Nat) (h:k < l.length):iD (eB l) (k:Int)=some [.sc (.int .i64 l[k].1),.sc (.int .i64 l[k].2)]:=kY (fun x:Int×Int=>[.sc (.int .i64 x.1),.sc (.int .i64 x.2)]) l k h
def j7 (room:Nat) (x:Int×Int):Bool:=decide (x.2 < 0) || (decide (0 < x.2) && (decide (x.1 < 0) || (decide ((room:Int)≤x.1) || decide ((room:Int) - x.1 < x.2))))
def tY:List (Int×Int)→Int→Option Int
 | [],n=>some n
 | x::l,n=>if 4096 < n+x.2 then none else tY l (n+x.2)
def cU (room:Nat) (l:List (Int×Int)):Int×Int:=if l.any (j7 room)=true then(0,3) else match tY l 0 with
 | some n=>(n,0)
 | none=>(0,9)
theorem xO (l:List (Int×Int)) (hl:l.length≤1000000) (hr:s.bytes.length≤1000000):aD Tryz.prog 87 [.ptr 7 0 0 0,.list 2 (eB l)] (stH b s []) fun res H'=>res=.tup [.sc (.int .i64 (cU s.bytes.length l).1),.sc (.int .i64 (cU s.bytes.length l).2)]∧H'=stH b s []:=by
 refine aD.of cF87 ?_ (nlB rfl)
 have hsl:=rA l
 refine aB ?_
 refine AWP.loop (fun i:Nat=>[(1,.list 2 (eB l)),(6,.sc (.int .i64 (s.bytes.length:Nat))),(17,.list 2 (eB l)),(18,.sc (.int .i64 (l.length:Nat))),(19,.sc (.int .i64 (i:Nat)))]) (fun i=>stH b s []) (fun i=>i≤l.length∧(l.take i).any (j7 s.bytes.length)=false) (fun i=>l.length - i) 0 ⟨Nat.zero_le _,rfl⟩ ?_ ?_
 ·refine Sub.keep ⟨Le.refl _,Le.refl _,Le.refl _,?_,Le.refl _,trivial⟩
  show Le (.sc (.int .i64 ((eB l).length:Nat))) _
  rw[hsl]
  exact Le.refl _
 ·rintro i ⟨hi,hb⟩
  refine aB ?_
  refine AWP.condN (i < l.length) rfl (by rfl) (fun h=>?_) (fun h=>?_)
  ·have hrow:=qG l i h
   have hany:(l.take (i+1)).any (j7 s.bytes.length)=j7 s.bytes.length l[i]:=by
    rw[List.take_add_one,gEg h]
    show(l.take i++[l[i]]).any _=_
    rw[List.any_append,hb]
    simp
   have hall:j7 s.bytes.length l[i]=true→l.any (j7 s.bytes.length)=true:=fun e=>List.any_eq_true.2 ⟨l[i],List.getElem_mem _,e⟩
   generalize l[i]=x at *
   obtain⟨at',len⟩:=x
   refine d5 ?_
   refine Reg.sub (fr':=[(1,.list 2 (eB l)),(6,.sc (.int .i64 (s.bytes.length:Nat))),(8,.cptr [.sc (.int .i64 at'),.sc (.int .i64 len)]),(17,.list 2 (eB l)),(18,.sc (.int .i64 (l.length:Nat))),(19,.sc (.int .i64 (i:Nat))),(26,.sc (.bool (decide (len < 0))))]) (H':=stH b s []) ?_ ?_
   ·refine Sub.st ?_
    (all_goals exact bO)
   have hE3:j7 s.bytes.length (at',len)=true→cU s.bytes.length l=(0,3):=fun e=>by unfold cU; rw[if_pos (hall e)]
   have hnext:j7 s.bytes.length (at',len)=false→(l.take (i+1)).any (j7 s.bytes.length)=false:=fun e=>by rw[hany,e]
   unfold j7 at hE3 hnext
   by_cases h1:len < 0
   ·rw[hE3 (by simp[h1]),dTr h1]
    refine aB ?_
    refine fH ⟨rfl,rfl⟩
   rw[dFa h1]
   refine aB ?_
   by_cases h2:0 < len
   ·rw[show decide (len > 0)=true from dTr h2]
    refine aB ?_
    by_cases h3:at' < 0
    ·rw[hE3 (by simp[h2,h3]),dTr h3]
     refine aB ?_
     refine fH ⟨rfl,rfl⟩
    rw[dFa h3]
    refine aB ?_
    by_cases h4:(s.bytes.length:Int)≤at'
    ·rw[hE3 (by simp[h2,h4]),show decide (at'≥(s.bytes.length:Int))=true from dTr h4]
     refine aB ?_
     refine fH ⟨rfl,rfl⟩
    rw[show decide (at'≥(s.bytes.length:Int))=false from dFa h4]
    refine aB ?_
    have hw:IntKind.i64.wrap ((s.bytes.length:Int) - at')=(s.bytes.length:Int) - at':=Av.wrap_small (by omega) (by omega)
    refine AWP.condN ((s.bytes.length:Int) - at' < len) rfl (by rw[hw]) (fun h5=>?_) (fun h5=>?_)
    ·rw[hE3 (by simp[h2,h5])]
     refine aB ?_
     refine fH ⟨rfl,rfl⟩
    ·refine aB ?_
     refine⟨i+1,⟨by omega,hnext (by simp[h1,h3,h4,h5])⟩,by omega,?_⟩
     refine Sub.st ?_
     (all_goals exact bO)
   ·rw[show decide (len > 0)=false from dFa h2]
    refine aB ?_
    refine⟨i+1,⟨by omega,hnext (by simp[h1,h2])⟩,by omega,?_⟩
    refine Sub.st ?_
    (all_goals exact bO)
  ·obtain rfl:i=l.length:=by omega
   rw[List.take_length] at hb
   have hE:cU s.bytes.length l=match tY l 0 with
    | some n=>(n,0)
    | none=>(0,9):=by unfold cU; rw[hb]; rfl
   have hgood:∀(k:Nat) (h:k < l.length),0≤l[k].2∧l[k].2≤1000000:=fun k h=>by
    have h0:=List.any_eq_false.1 hb l[k] (List.getElem_mem _)
    unfold j7 at h0
    simp at h0
    by_cases h2:0 < l[k].2
    ·have:=h0.2 h2
     omega
    ·omega
   refine aB ?_
   refine AWP.loop2 (fun(i:Nat) (n:Int)=>[(52,.list 2 (eB l)),(53,.sc (.int .i64 (l.length:Nat))),(54,.sc (.int .i64 (i:Nat))),(9,.sc (.int .i64 n))]) (fun i n=>stH b s []) (fun i n=>i≤l.length∧tY (l.drop i) n=tY l 0∧0≤n∧n≤4096) (fun i n=>l.length - i) 0 0 ⟨Nat.zero_le _,rfl,by omega,by omega⟩ ?_ ?_
   ·refine Sub.trans (Sub.keep (fr':=[(52,.list 2 (eB l)),(53,.sc (.int .i64 (l.length:Nat))),(54,.sc (.int .i64 (0:Nat))),(9,.sc (.int .i64 0))]) ⟨Le.refl _,?_,Le.refl _,Le.refl _,trivial⟩) (Sub.refl _ _ _ _)
    show Le (.sc (.int .i64 ((eB l).length:Nat))) _
    rw[hsl]
    exact Le.refl _
   rintro i n ⟨hi,he,hn0,hn1⟩
   refine aB ?_
   refine AWP.condN (i < l.length) rfl (by rfl) (fun h=>?_) (fun h=>?_)
   ·have hrow:=qG l i h
    have hg:=hgood i h
    rw[List.drop_eq_getElem_cons h] at he
    generalize l[i]=x at *
    obtain⟨at',len⟩:=x
    replace he:(if 4096 < n+len then none else tY (l.drop (i+1)) (n+len))=tY l 0:=he
    refine d5 ?_
    have hw:IntKind.i64.wrap (n+len)=n+len:=Av.wrap_small (by simp at hg; omega) (by simp at hg; omega)
    rw[hw]
    refine AWP.condN (4096 < n+len) rfl (by rfl) (fun h5=>?_) (fun h5=>?_)
    ·rw[if_pos h5] at he
     rw[hE,← he]
     refine aB ?_
     refine fH ⟨rfl,rfl⟩
    ·rw[if_neg h5] at he
     refine aB ?_
     refine⟨i+1,n+len,⟨by omega,he,by simp at hg; omega,by omega⟩,by omega,?_⟩
     refine Sub.st ?_
     (all_goals exact bO)
   ·obtain rfl:i=l.length:=by omega
    rw[List.drop_length] at he
    rw[hE,← he]
    refine aB ?_
    exact cZ ⟨rfl,rfl⟩
variable {b:Bk} {s:Sto} {c:Nat}
def okX (room:Nat) (x:Int×Int):Prop:=0≤x.2∧x.2≤1000000∧(0 < x.2→0≤x.1∧x.1+x.2≤room)
def plX (x:Int×Int):List Nat:=(List.range x.2.toNat).map fun i=>x.1.toNat+i
def plL (l:List (Int×Int)):List Nat:=l.flatMap plX
def iG (s:Sto) (p:Nat):Nat:=(s.bytes[p]?).getD 0
def i8 (s:Sto) (l:List Nat):List Nat:=l.map (iG s)
theorem z0 {s:Sto} {p:Nat} (h:p < s.bytes.length):(byR s.bytes)[p]?=some [.sc (.int .u8 (iG s p:Nat))]:=by
 unfold byR iG
 rw[List.getElem?_map,gEg h]
 rfl
theorem FF (l:List Nat) (x:Nat):byR l++[[.sc (.int .u8 (x:Nat))]]=byR (l++[x]):=by simp[byR]
theorem xR (l:List (Int×Int)) (x:Int×Int):plL (l++[x])=plL l++plX x:=by simp[plL]
theorem nC (x:Int×Int):(plX x).length=x.2.toNat:=by simp[plX]
def rdF (l:List (Int×Int)):Fr:=[(2,.cptr [.ptr 7 0 0 0]),(9,.ptr 8 0 0 0),(26,.clo (.func 138) [] [.cptr [.list 2 (eB l)]])]
def rdG (b:Bk) (s:Sto) (l:List (Int×Int)) (L:LC) (o:List Nat):Heap:=stH b s [[.cells 1 [[.hsl 10 0 0 o.length]]],[.lp L (rdF l) .ready none],[.cells 1 (byR o)]]
theorem B1 {T:AV→AV→Prop} {ρ:Nat→Nat→Option (Nat×Nat)} {l:List (Int×Int)} {L:LC} {st:LoopState} (r7:ρ 7 0=some (7,0)) (r8:ρ 8 0=some (8,0)):ToB T ρ (.lp L (rdF l) st none) (.lp L (rdF l) st none):=by
 refine ToB.lp _ _ _ _ _ fun x hx=>?_
 simp only[rdF,List.mem_cons,List.not_mem_nil,or_false] at hx
 rcases hx with rfl | rfl | rfl
 ·exact To.cptrL (ToL.cons (To.ptrO r7 rfl rfl) ToL.nil)
 ·exact To.ptrO r8 rfl rfl
 ·exact To.pure (pv (AV.clo (.func 138) [] [.cptr [.list 2 (eB l)]]))
set_option maxHeartbeats 4000000 in
theorem E8 (l:List (Int×Int)) (hl:∀ x∈l,okX s.bytes.length x) (hn:l.length≤1000000) (hp:(plL l).length≤1000000) (hr:s.bytes.length≤1000000) (L:LC)
  (hL:LOK Tryz.prog 39 L [27] (.region [⟨some 10,none,.op (.move (.tmp 27))⟩]) (.block 1 (.draw [⟨some 28,none,.op (.load 1 false (.tmp 9))⟩,⟨some 29,none,.op (.load 1 false (.tmp 2))⟩,⟨some 30,none,.op (.mop (.nilM nT) [(.tmp 29)])⟩,⟨some 31,none,.op (.fieldAddr 261 (.tmp 30))⟩,⟨some 32,none,.op (.load 1 false (.tmp 31))⟩,⟨some 33,none,.op (.move (.tmp 10))⟩,⟨some 34,none,.op (.idxSl 1 (.tmp 32) (.tmp 33))⟩,⟨some 35,none,.op (.load 1 false (.tmp 34))⟩,⟨some 36,none,.op (.buildSlice 1 [(1,(.int .u8 0))] 1 [(0,(.tmp 35))])⟩,⟨some 37,none,.op (.append 1 1 (.tmp 28) (.tmp 36))⟩,⟨none,none,.op (.store 1 (.tmp 9) (.tmp 37))⟩] [[],[],[1],[2],[3],[],[4,5],[6],[7],[0,8],[9,9,0,1,2,3,4,5,6,7,8,9]]))):
  aD Tryz.prog 138 [.yld 9 0,.cptr [.list 2 (eB l)]] (stH b s [[.cells 1 [[.sc (.slice none 0 0)]]],[.lp L (rdF l) .ready none]]) fun _ H'=>H'=rdG b s l L (i8 s (plL l)):=by
 refine aD.of HA ?_ (nlB rfl)
 have hsl:=rA l
 refine aB ?_
 refine AWP.loop (fun i:Nat=>[(0,.yld 9 0),(6,.list 2 (eB l)),(7,.sc (.int .i64 (l.length:Nat))),(8,.sc (.int .i64 (i:Nat)))]) (fun i=>rdG b s l L (i8 s (plL (l.take i)))) (fun i=>i≤l.length) (fun i=>l.length - i) 0 (Nat.zero_le _) ?_ ?_
 ·refine Sub.bk [1] [[(4,0)],[(5,0)],[(6,0)],[(7,0)],[(8,0)],[(9,0)],[(10,0)]] [] ?_ ?_
  ·rw[← hsl]
   ((all_goals (repeat' (first | exact aO.nil | exact aI.nil | exact bD.nil | exact ToL.nil | exact ToR.nil | refine aO.cons ?_ ?_ | refine aI.cons ?_ ?_ | refine f8 ?_ ?_ | exact To.undef _ | exact To.sc _ | exact To.hslL rfl rfl | exact To.asl _ _ _ _ _ _ _ rfl | refine To.ifc _ _ _ ?_ | exact To.ptrO rfl rfl rfl | exact To.mrefO rfl | exact To.nil rfl rfl rfl | exact wt1 | exact To.nilL | refine To.int ?_ | refine To.bool ?_ | refine To.hslL rfl ?_ | refine wt2 rfl ?_ ?_ ?_ | refine To.tupL ?_ | refine To.aggL ?_ | refine To.cptrL ?_ | refine To.fzp rfl rfl rfl ?_ | refine To.fzm rfl rfl ?_ | refine To.cloL ?_ ?_ | refine wt3 ?_ | refine wt4 ?_ | exact wt5 | refine wt6 ?_ | refine ToB.one ?_ | exact wt7 | ((with_reducible apply ToL.consE); case e9=>rfl) | refine wt8 ?_ | refine ToL.cons ?_ ?_ | exact wt11 | refine wt9 ?_ ?_ | refine wt12 ?_ | (with_reducible rfl) | assumption)); all_goals (first | rfl | assumption | (simp; done) | (simp; omega) | (rw[wrap_small (by omega) (by omega)]; done) | (rw[wrap_small (by omega) (by omega)]; omega) | (refine congrArg Nat.cast ?_; assumption) | skip)))
   all_goals exact .yld _ _ _ _ rfl
  ·refine⟨⟨⟨_,rfl,ToB.rows rfl (prs _)⟩,trivial⟩,⟨⟨_,rfl,ToB.rows rfl (prs _)⟩,trivial⟩,⟨⟨_,rfl,ToB.mapE rfl PM.out⟩,trivial⟩,⟨⟨_,rfl,ToB.one (ToL.stoR rfl rfl rfl)⟩,trivial⟩,⟨⟨_,rfl,ToB.one ?_⟩,trivial⟩,⟨⟨_,rfl,B1 rfl rfl⟩,trivial⟩,⟨⟨_,rfl,ToB.rows rfl (prs _)⟩,trivial⟩,trivial⟩
   exact ToL.cons (To.nil rfl rfl rfl) ToL.nil
 rintro i hi
 refine aB ?_
 refine AWP.condN (i < l.length) rfl (by rfl) (fun h=>?_) (fun h=>?_)
 ·have hrow:=qG l i h
  have hx:=hl l[i] (List.getElem_mem _)
  have hsn:plL (l.take (i+1))=plL (l.take i)++plX l[i]:=by
   rw[List.take_add_one,gEg h]
   exact xR _ _
  have hle:(plL (l.take i)).length+(plX l[i]).length≤1000000:=by
   rw[← List.length_append,← hsn]
   refine Nat.le_trans ?_ hp
   conv=>rhs; rw[← List.take_append_drop (i+1) l]
   unfold plL
   rw[List.flatMap_append,List.length_append]
   exact Nat.le_add_right _ _
  rw[nC] at hle
  generalize l[i]=x at *
  obtain⟨at',len⟩:=x
  obtain⟨h1,h2,h3⟩:=hx
  replace h1:0≤len:=h1
  replace h2:len≤1000000:=h2
  replace h3:0 < len→0≤at'∧at'+len≤s.bytes.length:=h3
  obtain⟨m,rfl⟩:∃ m:Nat,len=(m:Int):=⟨len.toNat,by omega⟩
  replace hle:(plL (l.take i)).length+m≤1000000:=hle
  obtain⟨o,ho⟩:∃ o,o=i8 s (plL (l.take i)):=⟨_,rfl⟩
  have hol:o.length+m≤1000000:=by rw[ho]; unfold i8; rw[List.length_map]; exact hle
  rw[← ho]
  unfold rdG
  refine d5 ?_
  refine AWP.loop (fun q:Nat=>[(0,.yld 9 0),(4,.cptr [.sc (.int .i64 at'),.sc (.int .i64 (m:Nat))]),(6,.list 2 (eB l)),(7,.sc (.int .i64 (l.length:Nat))),(8,.sc (.int .i64 (i:Nat))),(13,.sc (.int .i64 (m:Nat))),(14,.sc (.int .i64 (q:Nat)))]) (fun q=>rdG b s l L (o++i8 s ((List.range q).map fun j=>at'.toNat+j))) (fun q=>q≤m) (fun q=>m - q) 0 (Nat.zero_le _) ?_ ?_
  ·rw[show o++i8 s ((List.range 0).map fun j=>at'.toNat+j)=o from List.append_nil _]
   refine Sub.bk [] [[(4,0)],[(5,0)],[(6,0)],[(7,0)],[(8,0)],[(9,0)],[(10,0)]] [] ?_ ?_
   ·((all_goals (repeat' (first | exact aO.nil | exact aI.nil | exact bD.nil | exact ToL.nil | exact ToR.nil | refine aO.cons ?_ ?_ | refine aI.cons ?_ ?_ | refine f8 ?_ ?_ | exact To.undef _ | exact To.sc _ | exact To.hslL rfl rfl | exact To.asl _ _ _ _ _ _ _ rfl | refine To.ifc _ _ _ ?_ | exact To.ptrO rfl rfl rfl | exact To.mrefO rfl | exact To.nil rfl rfl rfl | exact wt1 | exact To.nilL | refine To.int ?_ | refine To.bool ?_ | refine To.hslL rfl ?_ | refine wt2 rfl ?_ ?_ ?_ | refine To.tupL ?_ | refine To.aggL ?_ | refine To.cptrL ?_ | refine To.fzp rfl rfl rfl ?_ | refine To.fzm rfl rfl ?_ | refine To.cloL ?_ ?_ | refine wt3 ?_ | refine wt4 ?_ | exact wt5 | refine wt6 ?_ | refine ToB.one ?_ | exact wt7 | ((with_reducible apply ToL.consE); case e9=>rfl) | refine wt8 ?_ | refine ToL.cons ?_ ?_ | exact wt11 | refine wt9 ?_ ?_ | refine wt12 ?_ | (with_reducible rfl) | assumption)); all_goals (first | rfl | assumption | (simp; done) | (simp; omega) | (rw[wrap_small (by omega) (by omega)]; done) | (rw[wrap_small (by omega) (by omega)]; omega) | (refine congrArg Nat.cast ?_; assumption) | skip)))
    all_goals exact .yld _ _ _ _ rfl
   ·refine⟨⟨⟨_,rfl,ToB.rows rfl (prs _)⟩,trivial⟩,⟨⟨_,rfl,ToB.rows rfl (prs _)⟩,trivial⟩,⟨⟨_,rfl,ToB.mapE rfl PM.out⟩,trivial⟩,⟨⟨_,rfl,ToB.one (ToL.stoR rfl rfl rfl)⟩,trivial⟩,⟨⟨_,rfl,ToB.one ?_⟩,trivial⟩,⟨⟨_,rfl,B1 rfl rfl⟩,trivial⟩,⟨⟨_,rfl,ToB.rows rfl (prs _)⟩,trivial⟩,trivial⟩
    exact ToL.cons (To.hslL rfl rfl) ToL.nil
  rintro q hq
  have hsq:o++i8 s ((List.range (q+1)).map fun j=>at'.toNat+j)=(o++i8 s ((List.range q).map fun j=>at'.toNat+j))++[iG s (at'.toNat+q)]:=by
   rw[List.range_succ,List.map_append]
   unfold i8
   rw[List.map_append,List.append_assoc]
   rfl
  have hol2:(o++i8 s ((List.range q).map fun j=>at'.toNat+j)).length≤1000000:=by
   rw[List.length_append]
   unfold i8
   rw[List.length_map,List.length_map,List.length_range]
   omega
  refine aB ?_
  refine AWP.condN (q < m) rfl (by rfl) (fun h4=>?_) (fun h4=>?_)
  ·obtain⟨h5,h6⟩:=h3 (by omega)
   have hat:at'+(q:Int)=((at'.toNat+q:Nat):Int):=by omega
   have hpl:at'.toNat+q < s.bytes.length:=by omega
   obtain⟨o2,ho2⟩:∃ o2,o2=o++i8 s ((List.range q).map fun j=>at'.toNat+j):=⟨_,rfl⟩
   rw[← ho2] at hol2 hsq ⊢
   unfold rdG
   refine AWP.skip ?_
   refine AWP.seq ?_
   refine AWP.block ?_
   refine AWP.seq ?_
   refine AWP.region ?_
   refine dC ?_
   refine AWP.seq ?_
   refine AWP.rY rfl ?_
   refine aB ?_
   rw[show IntKind.i64.wrap (at'+(q:Int))=((at'.toNat+q:Nat):Int) by rw[Av.wrap_small (by omega) (by omega),hat]]
   refine⟨rfl,nlB rfl,9,0,rfl,?_⟩
   refine⟨L,_,_,_,_,_,hL,rfl,rfl,?_⟩
   refine aB ?_
   refine⟨rfl,_,rfl,?_⟩
   refine AWP.fin ?_
   have hbl:=hU o2
   refine aB ?_
   refine DK.o rfl (bH rfl rfl (show hget (stH b s _) 5 0=some (.cells 1 (byR s.bytes)) from rfl) hpl (by rw[hU])) ?_
   refine dC ?_
   refine DK.o rfl (bF rfl (show hget (stH b s _) 5 0=some (.cells 1 (byR s.bytes)) from rfl) (z0 hpl) rfl) ?_
   refine dC ?_
   refine DK.nil ⟨by kernel_rfl,?_⟩
   refine⟨[],stH b s [[.cells 1 [[.hsl 11 0 0 (o2.length+1)]]],[.lp L (rdF l) .busy none],[.dead],[.cells 1 (byR (o2++[iG s (at'.toNat+q)]))]],?_,_,rfl,?_⟩
   ·refine Sub.bk [] [[(4,0)],[(5,0)],[(6,0)],[(7,0)],[(8,0)],[(9,0)],[(10,0)],[(11,9)]] [] ?_ ?_
    ·(all_goals exact bO)
    ·refine⟨⟨⟨_,rfl,ToB.rows rfl (prs _)⟩,trivial⟩,⟨⟨_,rfl,ToB.rows rfl (prs _)⟩,trivial⟩,⟨⟨_,rfl,ToB.mapE rfl PM.out⟩,trivial⟩,⟨⟨_,rfl,ToB.one (ToL.stoR rfl rfl rfl)⟩,trivial⟩,⟨⟨_,rfl,ToB.one ?_⟩,trivial⟩,⟨⟨_,rfl,B1 rfl rfl⟩,trivial⟩,⟨⟨_,rfl,.dead _⟩,trivial⟩,⟨⟨_,rfl,ToB.rows ?_ (prs _)⟩,trivial⟩,trivial⟩
     ·exact ToL.cons (To.hslL rfl rfl) ToL.nil
     ·exact FF _ _
   show Reg Tryz.prog F138.n _ _ _ _ _
   refine aB ?_
   refine⟨q+1,by omega,by omega,?_⟩
   rw[hsq]
   refine Sub.bk [] [[(4,0)],[(5,0)],[(6,0)],[(7,0)],[(8,0)],[(9,0)],[(11,0)]] [] ?_ ?_
   ·((all_goals (repeat' (first | exact aO.nil | exact aI.nil | exact bD.nil | exact ToL.nil | exact ToR.nil | refine aO.cons ?_ ?_ | refine aI.cons ?_ ?_ | refine f8 ?_ ?_ | exact To.undef _ | exact To.sc _ | exact To.hslL rfl rfl | exact To.asl _ _ _ _ _ _ _ rfl | refine To.ifc _ _ _ ?_ | exact To.ptrO rfl rfl rfl | exact To.mrefO rfl | exact To.nil rfl rfl rfl | exact wt1 | exact To.nilL | refine To.int ?_ | refine To.bool ?_ | refine To.hslL rfl ?_ | refine wt2 rfl ?_ ?_ ?_ | refine To.tupL ?_ | refine To.aggL ?_ | refine To.cptrL ?_ | refine To.fzp rfl rfl rfl ?_ | refine To.fzm rfl rfl ?_ | refine To.cloL ?_ ?_ | refine wt3 ?_ | refine wt4 ?_ | exact wt5 | refine wt6 ?_ | refine ToB.one ?_ | exact wt7 | ((with_reducible apply ToL.consE); case e9=>rfl) | refine wt8 ?_ | refine ToL.cons ?_ ?_ | exact wt11 | refine wt9 ?_ ?_ | refine wt12 ?_ | (with_reducible rfl) | assumption)); all_goals (first | rfl | assumption | (simp; done) | (simp; omega) | (rw[wrap_small (by omega) (by omega)]; done) | (rw[wrap_small (by omega) (by omega)]; omega) | (refine congrArg Nat.cast ?_; assumption) | skip)))
    all_goals exact .yld _ _ _ _ rfl
   ·refine⟨⟨⟨_,rfl,ToB.rows rfl (prs _)⟩,trivial⟩,⟨⟨_,rfl,ToB.rows rfl (prs _)⟩,trivial⟩,⟨⟨_,rfl,ToB.mapE rfl PM.out⟩,trivial⟩,⟨⟨_,rfl,ToB.one (ToL.stoR rfl rfl rfl)⟩,trivial⟩,⟨⟨_,rfl,ToB.one ?_⟩,trivial⟩,⟨⟨_,rfl,B1 rfl rfl⟩,trivial⟩,⟨⟨_,rfl,ToB.rows rfl (prs _)⟩,trivial⟩,trivial⟩
    exact ToL.cons (To.hslL rfl (by simp)) ToL.nil
  ·obtain rfl:q=m:=by omega
   have hfin:o++i8 s ((List.range q).map fun j=>at'.toNat+j)=i8 s (plL (l.take (i+1))):=by
    rw[hsn,ho]
    unfold i8
    rw[List.map_append]
    rfl
   rw[hfin]
   unfold rdG
   refine aB ?_
   refine⟨i+1,by omega,by omega,?_⟩
   (refine Sub.keep ?_; repeat' (first | exact trivial | exact Le.refl _ | refine⟨?_,?_⟩))
 ·obtain rfl:i=l.length:=by omega
  rw[List.take_length]
  refine aB ?_
  exact cZ rfl
theorem C2 (l:List (Int×Int)):aF Tryz.prog 88 [.list 2 (eB l)] (.clo (.func 138) [] [.cptr [.list 2 (eB l)]]):=by
 refine aF.mkI cF88 (nlB rfl) ?_
 refine aB ?_
 exact fM.w
def lN (b:Bk) (s:Sto) (l:List (Int×Int)):List Nat×Int:=if dI b s=0 then(if (cU s.bytes.length l).2=0 then(i8 s (plL l),0) else([],(cU s.bytes.length l).2)) else([],dI b s)
theorem uU {room:Nat} {l:List (Int×Int)} (hr:room≤1000000) (h:(cU room l).2=0):(∀ x∈l,okX room x)∧(plL l).length≤4096∧(cU room l).1=((plL l).length:Nat):=by
 unfold cU at h ⊢
 by_cases hb:l.any (j7 room)=true
 ·rw[if_pos hb] at h; cases h
 rw[if_neg hb] at h ⊢
 have hx:∀ x∈l,okX room x:=fun x hx=>by
  have h0:=List.any_eq_false.1 (show l.any (j7 room)=false by simpa using hb) x hx
  unfold j7 at h0
  simp at h0
  refine⟨by omega,?_,fun h2=>by have:=h0.2 h2; omega⟩
  by_cases h2:0 < x.2
  ·have:=h0.2 h2; omega
  ·omega
 have key:∀(l:List (Int×Int)) (n m:Int),(∀ x∈l,okX room x)→n≤4096→tY l n=some m→m=n+((plL l).length:Nat)∧m≤4096:=by
  intro l
  induction l with
  | nil=>
   intro n m _ hn h
   injection h with h
   subst h
   exact⟨by simp[plL],hn⟩
  | cons x l ih=>
   intro n m hx hn h
   unfold tY at h
   split at h
   ·cases h
   ·rename_i h5
    obtain⟨q1,q2⟩:=ih (n+x.2) m (fun y hy=>hx y (by simp[hy])) (by omega) h
    refine⟨?_,q2⟩
    have h0:=(hx x (by simp)).1
    have:(plL (x::l)).length=x.2.toNat+(plL l).length:=by
     show(plX x++plL l).length=_
     rw[List.length_append,nC]
    rw[this,q1]
    omega
 cases hs:tY l 0 with
 | none=>rw[hs] at h; cases h
 | some m=>
  obtain⟨q1,q2⟩:=key l 0 m hx (by omega) hs
  refine⟨hx,by omega,?_⟩
  show m=_
  omega
theorem DG (hb:BOK b c) (l:List (Int×Int)) (hn:l.length≤1000000) (hr:s.bytes.length≤1000000):aD Tryz.prog 55 [.ptr 7 0 0 0,.list 2 (eB l)] (stH b s []) fun res H'=>res=.tup [.list 1 (byR (lN b s l).1),.sc (.int .i64 (lN b s l).2)]∧H'=stH b s []:=by
 refine aD.of cF55 ?_ (nlB rfl)
 have he:=C2 l
 unfold lN
 refine aB ?_
 refine Reg.sub (fr':=[(1,.list 2 (eB l)),(2,.cptr [.ptr 7 0 0 0]),(11,.ptr 7 0 0 0)]) (H':=stH b s []) ?_ ?_
 ·refine Sub.st ?_
  (all_goals exact bO)
 refine Reg.c (Nat.le_refl _) rfl ((rF hb).mono ?_)
 rintro res H' ⟨rfl,rfl⟩
 refine aB ?_
 refine AWP.condN (¬ dI b s=0) rfl (gQ _) (fun h0=>?_) (fun h0=>?_)
 ·rw[if_neg h0]
  refine aB ?_
  refine fH (Z:=[]) ⟨rfl,rfl⟩
 replace h0:dI b s=0:=Decidable.byContradiction h0
 rw[if_pos h0]
 refine aB ?_
 refine Reg.c (Nat.le_refl _) rfl ((xO l hn hr).mono ?_)
 rintro res H' ⟨rfl,rfl⟩
 refine aB ?_
 refine AWP.condN (¬ (cU s.bytes.length l).2=0) rfl (gQ _) (fun h1=>?_) (fun h1=>?_)
 ·rw[if_neg h1]
  refine aB ?_
  refine fH (Z:=[]) ⟨rfl,rfl⟩
 replace h1:(cU s.bytes.length l).2=0:=Decidable.byContradiction h1
 obtain⟨hx,hp,_⟩:=uU hr h1
 rw[if_pos h1]
 refine aB ?_
 refine AWP.sub (fr':=rdF l) (H':=stH b s [[.cells 1 [[.sc (.slice none 0 0)]]]]) ?_ ?_
 ·refine Sub.bk [] [[(4,0)],[(5,0)],[(6,0)],[(7,0)],[(8,0)]] [] ?_ ?_
  ·unfold rdF
   (all_goals exact bO)
  ·exact⟨⟨⟨_,rfl,ToB.rows rfl (prs _)⟩,trivial⟩,⟨⟨_,rfl,ToB.rows rfl (prs _)⟩,trivial⟩,⟨⟨_,rfl,ToB.mapE rfl PM.out⟩,trivial⟩,⟨⟨_,rfl,ToB.one (ToL.stoR rfl rfl rfl)⟩,trivial⟩,⟨⟨_,rfl,ToB.rows rfl (prs [[AV.sc (.slice none 0 0)]])⟩,trivial⟩,trivial⟩
 refine AWP.rangeF (g:=138) (fs:=[]) (cs:=[.cptr [.list 2 (eB l)]]) rfl (nlB rfl) rfl fun L hL=>?_
 refine(E8 l hx hn (by omega) hr L hL).mono ?_
 rintro res H' rfl
 refine⟨_,_,none,rfl,by decide,?_⟩
 refine aB ?_
 have hbl:=hU (i8 s (plL l))
 refine fH (Z:=[[.cells 1 [[.hsl 10 0 0 (i8 s (plL l)).length]]],[.dead],[.cells 1 (byR (i8 s (plL l)))]]) (res':=.tup [.list 1 (byR (i8 s (plL l))),.sc (.int .i64 0)]) ⟨rfl,rfl⟩
end Go.Proofs.YtgdocflpobncmaaGreat
