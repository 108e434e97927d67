import Derived.Test.YtkjoolaahocgdaaGreatGWiU6
import Derived.Test.YtkjoolaahocgdaaGreatGAvSo
namespace Go.Proofs.YtkjoolaahocgdaaGreat
open Go.Av Go.Proofs
set_option maxRecDepth 20000
theorem sdP (n:Nat) (s:St) (sd:Nat) (b:Nat→Nat×Nat):[Blk.cells 3 (procsH n s b)]=[Blk.cells 3 (procsH n { s with seed:=sd } b)]:=rfl
theorem sdM (n:Nat) (s:St) (sd:Nat):[Blk.cells 1 (memH n s)]=[Blk.cells 1 (memH n { s with seed:=sd })]:=rfl
theorem sdR (n:Nat) (s:St) (sd:Nat):iB n s=iB n { s with seed:=sd }:=rfl
theorem sdF (n:Nat) (s:St) (sd:Nat):jV n s=jV n { s with seed:=sd }:=rfl
theorem sdL (n:Nat) (s:St) (sd:Nat):fP n s=fP n { s with seed:=sd }:=rfl
set_option maxHeartbeats 4000000 in
theorem I5 (p:Pg) (ls:List Ln) (s:St) {n:Nat} (hn:0 < n) (hn2:n≤1000000):
  aQ Tryz.prog 45 [.ptr 0 0 0 0,.sc (.int .i64 (n:Int))] (worldH p ls s) fun res H'=>res=.sc (.int .i64 ((o6 (jO s.seed) n:Nat):Int))∧H'=worldH p ls { s with seed:=jO s.seed }:=by
 refine aQ.of cF45 ?_ (nlB rfl)
 have h1:(6364136223846793005 * s.seed % 18446744073709551616+1442695040888963407) % 18446744073709551616=jO s.seed:=by unfold jO; omega
 have h3:o6 (jO s.seed) n < n:=Nat.mod_lt _ hn
 have h4:jO s.seed < 18446744073709551616:=Nat.mod_lt _ (by decide)
 have hpk:o6 (jO s.seed) n=jO s.seed / 2 ^ 33 % n:=rfl
 unfold worldH aZ boxW
 generalize hc:ckV p ls=c at *
 refine AWP.seq ?_
 refine AWP.region ?_
 refine bI ?_
 refine AWP.seq ?_
 refine AWP.region ?_
 refine bI ?_
 obtain⟨sd,hsd⟩:∃ x,x=jO s.seed:=⟨_,rfl⟩
 rw[← hsd] at h1 h3 h4 hpk ⊢
 rw[h1]
 subst hc
 refine AWP.sub (fr':=[(0,.ptr 0 0 0 0),(1,.sc (.int .i64 (n:Int)))]) (H':=aZ p ls { s with seed:=sd } b4 (cC ls.length s)++[]) ?_ ?_
 ·refine Sub.wg p ls { s with seed:=sd } b4 b4 (cC ls.length s) [] [] [] [] ?_ rfl (sdP _ _ _ _) (sdM _ _ _) rfl (aM _ _) (sdR _ _ _) (sdF _ _ _) (sdL _ _ _) (bO fun r hr=>aO hr) dF trivial
  (all_goals exact eP)
 unfold aZ boxW
 generalize ckV p ls=c at *
 refine aA ?_
 obtain⟨k,hk⟩:∃ x,x=o6 sd n:=⟨_,rfl⟩
 rw[← hk] at h3 hpk ⊢
 rw[← hpk,sX (by omega)]
 exact⟨.inr rfl,_,_,_,rfl,.refl _ _ _,rfl,rfl⟩
section
variable {g i:Nat} {fr:Fr} {H:Heap}
theorem CU {sz bytes:Nat} {s x:Operand} {g' i' len:Nat} {rows1 rows2:List (List AV)} (hx:f4 sz H (ev fr x)=some (sz,rows2)) (hs:ev fr s=.hsl g' i' 0 len) (hh:hget H g' i'=some (.cells sz rows1)) (hz:0 < sz)
  (h1:len < rows1.length) (h2:len+rows2.length≤rows1.length) (hg:(Nat.beq g g' && Nat.beq i i')=false):
  aH g i (.append sz bytes s x) fr H=some (.hsl g i 0 (len+rows2.length),bH (bH H g' i' .dead) g i (.cells sz (rows1.take len++(rows2++rows1.drop (len+rows2.length))))):=by
 have e1:Nat.beq sz sz=true:=by simp
 have e2:Nat.beq rows1.length len=false:=Bool.eq_false_iff.2 fun h=>by have:=Nat.eq_of_beq_eq_true h; omega
 have e3:Nat.blt 0 sz=true:=by simpa[Nat.blt_eq] using hz
 have e4:Nat.blt len rows1.length=true:=by simpa[Nat.blt_eq] using h1
 have e5:Nat.ble (len+rows2.length) rows1.length=true:=Nat.ble_eq_true_of_le h2
 simp only[aH,hx,e1,hs,hh,e2,e3,e4,e5,hg,Bool.and_false,Bool.false_and,Bool.and_self]
theorem DX {sz:Nat} {x lo hi:Operand} {k k':IntKind} {g' i' len l h:Nat} {rows:List (List AV)} (hx:ev fr x=.hsl g' i' 0 len) (hl:ev fr lo=.sc (.int k (l:Int))) (hi':ev fr hi=.sc (.int k' (h:Int))) (hh:hget H g' i'=some (.cells sz rows)) (hz:0 < sz)
  (h1:len < h) (h2:l < h) (h3:h≤rows.length):aH g i (.slice sz x (some lo) (some hi) none) fr H=some (.hsl g' i' (0+l) (h - l),H):=by
 have e1:Nat.beq sz sz=true:=by simp
 have b1:fI fr 0 (some lo)=some l:=by simp only[fI,hl]
 have b2:∀ d,fI fr d (some hi)=some h:=fun d=>by simp only[fI,hi']
 have b3:∀ d,fI fr d none=some d:=fun d=>rfl
 have c1:Nat.ble l h=true:=Nat.ble_eq_true_of_le (Nat.le_of_lt h2)
 have c2:Nat.ble h len=false:=Bool.eq_false_iff.2 fun q=>by have:=nlB q; omega
 have c3:∀ d,Nat.ble d d=true:=fun d=>by simp
 have c4:Nat.ble h rows.length=true:=Nat.ble_eq_true_of_le h3
 have d1:cY fr len (some lo) (some hi) none=none:=by
  simp only[cY,b1,b2,b3,c1,c2,c3,Bool.false_and,Bool.and_false]
 have d2:cY fr (rows.length - 0) (some lo) (some hi) none=some (l,h):=by
  simp only[Nat.sub_zero,cY,b1,b2,b3,c1,c3,c4,Bool.and_self]
  rfl
 have e3:Nat.blt 0 sz=true:=by simpa[Nat.blt_eq] using hz
 have e4:Nat.blt l h=true:=by simpa[Nat.blt_eq] using h2
 simp only[aH,hx,hh,e1,d1,d2,e3,e4,Bool.and_self]
theorem CQ {sz:Nat} {x lo hi mx:Operand} {k k' k2:IntKind} {g' i' len l h m:Nat} {rows:List (List AV)} (hx:ev fr x=.hsl g' i' 0 len) (hl:ev fr lo=.sc (.int k (l:Int))) (hi':ev fr hi=.sc (.int k' (h:Int))) (hm:ev fr mx=.sc (.int k2 (m:Int))) (hh:hget H g' i'=some (.cells sz rows))
  (h1:l≤h) (h2:h≤m) (h3:m≤len):aH g i (.slice sz x (some lo) (some hi) (some mx)) fr H=some (.undef,H):=by
 have e1:Nat.beq sz sz=true:=by simp
 have b1:fI fr 0 (some lo)=some l:=by simp only[fI,hl]
 have b2:∀ d,fI fr d (some hi)=some h:=fun d=>by simp only[fI,hi']
 have b3:∀ d,fI fr d (some mx)=some m:=fun d=>by simp only[fI,hm]
 have c1:Nat.ble l h=true:=Nat.ble_eq_true_of_le h1
 have c2:Nat.ble h m=true:=Nat.ble_eq_true_of_le h2
 have c3:Nat.ble m len=true:=Nat.ble_eq_true_of_le h3
 have d1:cY fr len (some lo) (some hi) (some mx)=some (l,h):=by
  simp only[cY,b1,b2,b3,c1,c2,c3,Bool.and_self]
  rfl
 simp only[aH,hx,hh,e1,d1]
theorem GJ {z:List (Nat×Value)} {x:Operand} {g' i' st len s:Nat} {rows:List (List AV)} (hx:ev fr x=.hsl g' i' st (len+1)) (hh:hget H g' i'=some (.cells s rows)) (hs:s=(fF z).length) (h1:st+(len+1)≤rows.length):
  aH g i (.mop (.clear z) [x]) fr H=some (.tup [],bH H g' i' (.cells s (rows.take st++((List.replicate (len+1) (fF z)).take (len+1)++rows.drop (st+(len+1)))))):=by
 have e1:Nat.beq s (fF z).length=true:=by rw[hs]; simp
 have e2:Nat.ble (st+(len+1)) rows.length=true:=Nat.ble_eq_true_of_le h1
 simp only[aH,aX,List.map_cons,List.map_nil,gT,hx,hh,e1,e2,Bool.and_self]
end
theorem DW {g' i' k:Nat} {q:List Nat} (hk:k < q.length):∃ v,(∀ {g i:Nat} {fr:Fr} {H:Heap} {x lo:Operand} {kd:IntKind},ev fr x=.hsl g' i' 0 q.length→ev fr lo=.sc (.int kd ((k+1:Nat):Int))→hget H g' i'=some (.cells 1 (bF q)) →
  aH g i (.slice 1 x (some lo) none none) fr H=some (v,H))∧∀ {H:Heap},hget H g' i'=some (.cells 1 (bF q))→f4 1 H v=some (1,bF (q.drop (k+1))):=by
 have hql:=bZ q
 by_cases h5:k+1 < q.length
 ·refine⟨.hsl g' i' (0+(k+1)) (q.length - (k+1)),fun {g i fr H x lo kd} hx hl hh=>EQ hx hl hh (by omega) h5,fun {H} hh=>?_⟩
  show(match hget H g' i' with
   | some (.cells sz rows)=>match Nat.ble (0+(k+1)+(q.length - (k+1))) rows.length with
    | true=>some (sz,(rows.drop (0+(k+1))).take (q.length - (k+1)))
    | false=>none
   | _=>none)=_
  rw[hh]
  show(match Nat.ble (0+(k+1)+(q.length - (k+1))) (bF q).length with
    | true=>some (1,((bF q).drop (0+(k+1))).take (q.length - (k+1)))
    | false=>none)=_
  rw[Nat.ble_eq_true_of_le (show 0+(k+1)+(q.length - (k+1))≤(bF q).length by omega)]
  show some (1,_)=_
  rw[Nat.zero_add,List.take_of_length_le (by rw[List.length_drop]; omega)]
  unfold bF
  rw[List.map_drop]
 ·have h6:k+1=q.length:=by omega
  refine⟨.list 1 [],fun {g i fr H x lo kd} hx hl hh=>?_,fun {H} hh=>?_⟩
  ·have b1:Nat.ble (k+1) q.length=true:=Nat.ble_eq_true_of_le (by omega)
   have b2:Nat.ble q.length q.length=true:=by simp
   have e1:cY fr q.length (some lo) none none=some (k+1,q.length):=by
    have b3:fI fr 0 (some lo)=some (k+1):=by simp only[fI,hl]
    have b4:fI fr q.length none=some q.length:=rfl
    simp only[cY,b3,b4,b1,b2]
    rfl
   have e3:Nat.beq (k+1) 0=false:=rfl
   have e4:Nat.beq (k+1) q.length=true:=by rw[h6]; simp
   simp only[aH,hx,hh,e1,e3,e4]
  ·show some (1,[])=_
   rw[List.drop_of_length_le (by omega)]
   rfl
theorem CC {q:List Nat} {k:Nat} (hk:k < q.length):∃ y:List AV,(bF q).take k++(bF (q.drop (k+1))++(bF q).drop (k+(bF (q.drop (k+1))).length))=bF (q.eraseIdx k)++[y]:=by
 have h1:(bF (q.drop (k+1))).length=q.length - (k+1):=by rw[bZ,List.length_drop]
 have h2:k+(bF (q.drop (k+1))).length=q.length - 1:=by rw[h1]; omega
 have h3:=bZ q
 refine⟨(bF q)[q.length - 1]'(by omega),?_⟩
 have h4:(bF q).drop (q.length - 1)=[(bF q)[q.length - 1]'(by omega)]:=by
  rw[List.drop_eq_getElem_cons (by omega),List.drop_of_length_le (by omega)]
 rw[h2,h4,← List.append_assoc]
 congr 1
 unfold bF
 rw[← List.map_take,← List.map_append,List.eraseIdx_eq_take_drop_succ]
theorem m4 {q:List Nat} {k:Nat} (hk:k < q.length):(q.eraseIdx k).length=q.length - 1:=by rw[List.length_eraseIdx]; rw[if_pos hk]
set_option maxHeartbeats 4000000 in
theorem NU (p:Pg) (ls:List Ln) (s:St) {r k:Nat} (hr:r < ls.length) (hk:k < (aI s r).q.length) (hq:(aI s r).q.length≤1000000):
  aQ Tryz.prog 70 [.hsl 4 r 0 (aI s r).q.length,.sc (.int .i64 (k:Int)),.sc (.int .i64 ((k+1:Nat):Int))] (worldH p ls s) fun res H'=>res=.hsl 8 0 0 ((aI s r).q.length - 1)∧H'=aZ p ls s b4 (pendD ls.length s r)++[[.cells 1 (bF ((aI s r).q.eraseIdx k))]]:=by
 refine aQ.of cF70 ?_ (nlB rfl)
 have h4:hget (worldH p ls s) 4 r=some (.cells 1 (bF (aI s r).q)):=aO hr
 obtain⟨q,hqe⟩:∃ q,q=(aI s r).q:=⟨_,rfl⟩
 rw[← hqe] at hk hq h4 ⊢
 unfold worldH aZ at *
 refine aA ?_
 refine Reg.o rfl (CQ rfl rfl rfl rfl h4 (by omega) (by omega) (by omega)) ?_
 refine aA ?_
 rw[dFa (by omega)]
 refine aA ?_
 obtain⟨y,hy⟩:=CC hk
 have hel:=bZ (q.eraseIdx k)
 rw[m4 hk] at hel
 have hdl:(bF (q.drop (k+1))).length=q.length - (k+1):=by rw[bZ,List.length_drop]
 have hql:=bZ q
 refine DK.o rfl (DC rfl rfl (aV h4) (by omega)) ?_
 refine aA ?_
 obtain⟨v,hv,hv2⟩:=DW (g':=4) (i':=r) hk
 refine DK.o rfl (hv rfl rfl (aV h4)) ?_
 refine DK.o rfl (CU (hv2 (aV h4)) rfl (aV h4) (by decide) (by omega) (by omega) rfl) ?_
 rw[hy,hdl,show k+(q.length - (k+1))=q.length - 1 by omega]
 refine aA ?_
 refine DK.nil ⟨by kernel_rfl,?_⟩
 refine aA ?_
 refine Reg.o rfl (DX rfl rfl rfl rfl (by decide) (by omega) (by omega) (by rw[List.length_append]; simp; omega)) ?_
 rw[show q.length - (q.length - 1)=0+1 by omega]
 refine Reg.on rfl (GJ rfl rfl rfl (by rw[List.length_append]; simp; omega)) ?_
 refine Reg.nil ?_
 refine AWP.sub (Sub.trunc (g:=8) (i:=6) (q.length - 1) rfl) ?_
 have htr:∀ X:List (List AV),((bF (q.eraseIdx k)++[y]).take (0+(q.length - 1))++X).take (q.length - 1)=bF (q.eraseIdx k):=fun X=>by
  rw[Nat.zero_add,List.take_append_of_le_length (by omega:q.length - 1≤(bF (q.eraseIdx k)).length),List.take_of_length_le (by omega:(bF (q.eraseIdx k)).length≤q.length - 1),List.take_append_of_le_length (by omega:q.length - 1≤(bF (q.eraseIdx k)).length),List.take_of_length_le (by omega:(bF (q.eraseIdx k)).length≤q.length - 1)]
 rw[htr]
 subst hqe
 have hrp:∀ l∈bF ((aI s r).q.eraseIdx k),∀ c∈l,bQ c:=prs _
 generalize bF ((aI s r).q.eraseIdx k)=rows at *
 refine aA ?_
 have hps:(cC ls.length s).set r Blk.dead=pendD ls.length s r:=xM
 refine JM (.hsl 8 0 0 ((aI s r).q.length - 1)) p ls s b4 b4 (pendD ls.length s r) [] [[(8,6)]] [[.cells 1 rows]] ⟨rfl,rfl⟩ rfl rfl rfl rfl (by rw[hps]; exact aM _ _) rfl rfl rfl (by rw[hps]; exact m8 fun i hi=>aO hi) dF ⟨⟨⟨_,rfl,ToB.rows rfl hrp⟩,trivial⟩,trivial⟩
theorem FG (n:Nat):IntKind.i64.wrap ((n:Nat):Int)=toS n:=by
 rw[IntKind.wrap_i64]
 unfold toS
 split<;>omega
def iK (n:Nat) (F4:List Blk):Prop:=F4.length=n∧∀(T:AV→AV→Prop) (ρ:Nat→Nat→Option (Nat×Nat)) (H:Heap),(∀ i,i < n→hget H 4 i=F4[i]?)→aY (ToB T ρ) H (FK.w 4 n []).l F4
theorem iK.pend (n:Nat) (s:St):iK n (cC n s):=⟨aM _ _,fun _ _ _ h=>bO fun i hi=>(h i hi).trans (aO hi)⟩
theorem iK.pendD (n:Nat) (s:St) (r:Nat):iK n (pendD n s r):=⟨aM _ _,fun _ _ _ h=>m8 fun i hi=>(h i hi).trans (aO hi)⟩
def rI (r i:Nat) (x:Act) (b c:Nat):Fr:=[(0,.ptr 0 0 0 0),(3,.cptr (plR (r,i))),(4,.cptr (aJ x)),(6,.ptr 6 b c 0)]
theorem AB {p:Pg} {ls:List Ln} {s:St} {B:Nat→Nat×Nat} {F4:List Blk} (hB:∀ j,j < ls.length→B j=(4,j)) (hF:iK ls.length F4) {fr fr':Fr} {b0 b1 b2 b3 b5 b6 b7:List Blk} {X:Heap}
  (e0:b0=[.cells 5 [boxW p ls s.seed]]) (e1:b1=[.cells 3 (procsH ls.length s B)]) (e2:b2=[.cells 1 (memH ls.length s)]) (e3:b3=[.cells 1 (heldH ls.length)]) (e5:b5=iB ls.length s) (e6:b6=jV ls.length s) (e7:b7=fP ls.length s)
  (h5:aB (ToT ((b0::b1::b2::b3::F4::b5::b6::b7 ::  X)++gh []) (b0::b1::b2::b3::F4::b5::b6::b7 ::  X).length (fG (wKg ls.length (.w 4 ls.length []) []))) (rho (idK (wKg ls.length (.w 4 ls.length []) []))) fr fr'):
  Sub 8 F71.n fr (b0::b1::b2::b3::F4::b5::b6::b7 ::  X) fr' (aZ p ls (s) B F4):=by
 subst e0 e1 e2 e3 e5 e6 e7
 exact Sub.wgL p ls s B B F4 [] [] [] [] h5 rfl rfl rfl rfl rfl rfl rfl (hF.2 _ _ _ fun i hi=>rfl) (fun j hj=>by rw[hB j hj]; exact c9 rfl hj) trivial
  ⟨.c _ rfl rfl,.c _ rfl rfl,.c _ rfl rfl,.c _ rfl rfl,.w _ _ (Nat.le_of_eq hF.1),.w _ _ (Nat.le_of_eq (aM _ _)),.w _ _ (Nat.le_of_eq (aM _ _)),.w _ _ (Nat.le_of_eq (aM _ _)), trivial⟩
set_option maxHeartbeats 16000000 in
theorem effA (p:Pg) (ls:List Ln) (s:St) (hC:d9 p ls) {r i:Nat} {l:List Act} {x:Act} {b c d:Nat} (hra:p.acts[r]?=some l) (hx:l[i]?=some x) (hac:acN ls (r,i)=⟨b,c,d⟩) (hb:b < ls.length) (hc:c < (bC s b).length)
  (B:Nat→Nat×Nat) (F4:List Blk) (hB:∀ j,j < ls.length→B j=(4,j)) (hF:iK ls.length F4) (Q:Exit→Fr→Heap→Prop) (h:AWP Tryz.prog F71.n 8 (aG [1,1,1] F71.code) Q (rI r i x b c) (aZ p ls (s) B F4)):
  AWP Tryz.prog F71.n 8 F71.code Q (jT 0 [.ptr 0 0 0 0,.agg (plR (r,i))]) (aZ p ls (s) B F4):=by
 have ha1:=jX p ls hra hx
 have hlen:=(gEs.1 hra).1
 have hrl:r < ls.length:=by have:=hC.len; omega
 have hL:=gEg hrl
 have hr1:=dD hL
 unfold lnR epR at hr1
 have hlk:=fun g k fr H x ix h1 h2=>rE (g:=g) (k:=k) (fr:=fr) (H:=H) (x:=x) (ix:=ix) (i:=i) hL h1 h2
 rw[hac] at hlk
 have hm6:hget (aZ p ls (s) B F4) 6 b=some (.cells 1 (bE (bC s b))):=aO hb
 have hm2:=BG (s:=s) hb
 have hm2l:=oG ls.length s
 have hil:=cD (bC s b)
 unfold rI at h
 unfold aZ boxW plN plR aJ acR at *
 unfold ckV at *
 dsimp only at *
 refine aA ?_
 refine DK.o rfl (hlk _ _ _ _ _ _ rfl rfl) ?_
 refine aA ?_
 refine DK.nil ⟨by kernel_rfl,?_⟩
 refine AWP.sub (fr':=[(0,.ptr 0 0 0 0),(3,.cptr [.sc (.int .i64 (r:Int)),.sc (.int .i64 (i:Int))]),(4,.cptr [.sc (.int .i64 x.k),.sc (.int .i64 x.r),.sc (.int .i64 x.a),.sc (.int .i64 x.o),.sc (.int .i64 x.v),.sc (.int .i64 x.w),.list 1 (bE x.g)]),(5,.cptr [.sc (.int .i64 (b:Int)),.sc (.int .i64 (c:Int)),.sc (.int .i64 (d:Int))])]) (H':=aZ p ls (s) B F4) ?_ ?_
 ·refine AB  hB hF rfl rfl rfl rfl rfl rfl rfl ?_
  (all_goals exact eP)
 unfold aZ boxW ckV
 refine AWP.seq ?_
 refine AWP.dk mixed ?_
 refine aA ?_
 refine DK.o rfl (eJ rfl rfl (aV hm6) hc hil) ?_
 refine aA ?_
 refine DK.nil ⟨by kernel_rfl,?_⟩
 refine AWP.sub ?_ h
 refine AB  hB hF rfl rfl rfl rfl rfl rfl rfl ?_
 (all_goals (repeat' (first | exact aB.nil | exact aS.nil | exact aY.nil | exact ToL.nil | exact ToR.nil | refine aB.cons ?_ ?_ | refine aS.cons ?_ ?_ | refine dZ ?_ ?_ | exact To.undef _ | exact To.sc _ | exact To.hslL rfl rfl | exact To.asl _ _ _ _ _ _ rfl | exact To.ptrO rfl rfl rfl | exact To.mrefO rfl | exact To.nil rfl rfl rfl | exact wt1 | exact To.nilL | refine To.int ?_ | refine To.bool ?_ | refine To.hslL rfl ?_ | refine wt2 rfl ?_ ?_ ?_ | refine To.tupL ?_ | refine To.aggL ?_ | refine To.cptrL ?_ | refine To.fzp rfl rfl rfl ?_ | refine To.fzm rfl rfl ?_ | refine To.cloL ?_ ?_ | refine wt3 ?_ | refine wt4 ?_ | exact wt5 | refine wt6 ?_ | refine ToB.one ?_ | exact wt7 | ((with_reducible apply ToL.consE); case e9=>rfl) | refine wt8 ?_ | refine ToL.cons ?_ ?_ | exact wt11 | refine wt9 ?_ ?_ | refine dX ?_ | (with_reducible rfl) | assumption)); all_goals (first | rfl | assumption | (simp; done) | (simp; omega) | (rw[wrap_small (by omega) (by omega)]; done) | (rw[wrap_small (by omega) (by omega)]; omega) | (refine congrArg Nat.cast ?_; assumption) | skip))
 exact To.ptrO (c9 rfl hb) rfl rfl
theorem t8 {p:Pg} {ls:List Ln} {s:St} {B:Nat→Nat×Nat} {F4:List Blk} {y:List (List AV)} (hy:∀ r∈y,∀ c∈r,bQ c) (hB:∀ j,j < ls.length→(B j=(4,j)∨B j=(8,0))) (hF:iK ls.length F4) {fr fr':Fr} {b0 b1 b2 b3 b5 b6 b7:List Blk} {X:Heap}
  (e0:b0=[.cells 5 [boxW p ls s.seed]]) (e1:b1=[.cells 3 (procsH ls.length s B)]) (e2:b2=[.cells 1 (memH ls.length s)]) (e3:b3=[.cells 1 (heldH ls.length)]) (e5:b5=iB ls.length s) (e6:b6=jV ls.length s) (e7:b7=fP ls.length s)
  (h5:aB (ToT ((b0::b1::b2::b3::F4::b5::b6::b7::[.cells 1 y]::X)++gh []) (b0::b1::b2::b3::F4::b5::b6::b7::[.cells 1 y]::X).length (fG (wKg ls.length (.w 4 ls.length []) [[(8,0)]]))) (rho (idK (wKg ls.length (.w 4 ls.length []) [[(8,0)]]))) fr fr'):
  Sub 9 F71.n fr (b0::b1::b2::b3::F4::b5::b6::b7::[.cells 1 y]::X) fr' (aZ p ls (s) B F4++[[.cells 1 y]]):=by
 subst e0 e1 e2 e3 e5 e6 e7
 exact Sub.wgL p ls s B B F4 [] [] [[(8,0)]] [[.cells 1 y]] h5 rfl rfl rfl rfl rfl rfl rfl (hF.2 _ _ _ fun i hi=>rfl) (fun j hj=>by rcases hB j hj with h | h<;>rw[h]; exact c9 rfl hj; rfl) ⟨⟨⟨_,rfl,ToB.rows rfl hy⟩,trivial⟩,trivial⟩
  ⟨.c _ rfl rfl,.c _ rfl rfl,.c _ rfl rfl,.c _ rfl rfl,.w _ _ (Nat.le_of_eq hF.1),.w _ _ (Nat.le_of_eq (aM _ _)),.w _ _ (Nat.le_of_eq (aM _ _)),.w _ _ (Nat.le_of_eq (aM _ _)),.c _ rfl rfl,trivial⟩
set_option maxHeartbeats 16000000 in
theorem effAX (p:Pg) (ls:List Ln) (s:St) (hC:d9 p ls) {r i:Nat} {l:List Act} {x:Act} {b c d:Nat} (hra:p.acts[r]?=some l) (hx:l[i]?=some x) (hac:acN ls (r,i)=⟨b,c,d⟩) (hb:b < ls.length) (hc:c < (bC s b).length)
  (B:Nat→Nat×Nat) (F4:List Blk) {y:List (List AV)} (hy:∀ r∈y,∀ c∈r,bQ c) (hB:∀ j,j < ls.length→(B j=(4,j)∨B j=(8,0))) (hF:iK ls.length F4) (Q:Exit→Fr→Heap→Prop) (h:AWP Tryz.prog F71.n 9 (aG [1,1,1] F71.code) Q (rI r i x b c) (aZ p ls (s) B F4++[[.cells 1 y]])):
  AWP Tryz.prog F71.n 9 F71.code Q (jT 0 [.ptr 0 0 0 0,.agg (plR (r,i))]) (aZ p ls (s) B F4++[[.cells 1 y]]):=by
 have ha1:=jX p ls hra hx
 have hlen:=(gEs.1 hra).1
 have hrl:r < ls.length:=by have:=hC.len; omega
 have hL:=gEg hrl
 have hr1:=dD hL
 unfold lnR epR at hr1
 have hlk:=fun g k fr H x ix h1 h2=>rE (g:=g) (k:=k) (fr:=fr) (H:=H) (x:=x) (ix:=ix) (i:=i) hL h1 h2
 rw[hac] at hlk
 have hm6:hget (aZ p ls (s) B F4++[[.cells 1 y]]) 6 b=some (.cells 1 (bE (bC s b))):=aO hb
 have hm2:=BG (s:=s) hb
 have hm2l:=oG ls.length s
 have hil:=cD (bC s b)
 unfold rI at h
 unfold aZ boxW plN plR aJ acR at *
 unfold ckV at *
 dsimp only at *
 refine aA ?_
 refine DK.o rfl (hlk _ _ _ _ _ _ rfl rfl) ?_
 refine aA ?_
 refine DK.nil ⟨by kernel_rfl,?_⟩
 refine AWP.sub (fr':=[(0,.ptr 0 0 0 0),(3,.cptr [.sc (.int .i64 (r:Int)),.sc (.int .i64 (i:Int))]),(4,.cptr [.sc (.int .i64 x.k),.sc (.int .i64 x.r),.sc (.int .i64 x.a),.sc (.int .i64 x.o),.sc (.int .i64 x.v),.sc (.int .i64 x.w),.list 1 (bE x.g)]),(5,.cptr [.sc (.int .i64 (b:Int)),.sc (.int .i64 (c:Int)),.sc (.int .i64 (d:Int))])]) (H':=aZ p ls (s) B F4++[[.cells 1 y]]) ?_ ?_
 ·refine t8 hy hB hF rfl rfl rfl rfl rfl rfl rfl ?_
  (all_goals exact eP)
 unfold aZ boxW ckV
 refine AWP.seq ?_
 refine AWP.dk mixed ?_
 refine aA ?_
 refine DK.o rfl (eJ rfl rfl (aV hm6) hc hil) ?_
 refine aA ?_
 refine DK.nil ⟨by kernel_rfl,?_⟩
 refine AWP.sub ?_ h
 refine t8 hy hB hF rfl rfl rfl rfl rfl rfl rfl ?_
 (all_goals (repeat' (first | exact aB.nil | exact aS.nil | exact aY.nil | exact ToL.nil | exact ToR.nil | refine aB.cons ?_ ?_ | refine aS.cons ?_ ?_ | refine dZ ?_ ?_ | exact To.undef _ | exact To.sc _ | exact To.hslL rfl rfl | exact To.asl _ _ _ _ _ _ rfl | exact To.ptrO rfl rfl rfl | exact To.mrefO rfl | exact To.nil rfl rfl rfl | exact wt1 | exact To.nilL | refine To.int ?_ | refine To.bool ?_ | refine To.hslL rfl ?_ | refine wt2 rfl ?_ ?_ ?_ | refine To.tupL ?_ | refine To.aggL ?_ | refine To.cptrL ?_ | refine To.fzp rfl rfl rfl ?_ | refine To.fzm rfl rfl ?_ | refine To.cloL ?_ ?_ | refine wt3 ?_ | refine wt4 ?_ | exact wt5 | refine wt6 ?_ | refine ToB.one ?_ | exact wt7 | ((with_reducible apply ToL.consE); case e9=>rfl) | refine wt8 ?_ | refine ToL.cons ?_ ?_ | exact wt11 | refine wt9 ?_ ?_ | refine dX ?_ | (with_reducible rfl) | assumption)); all_goals (first | rfl | assumption | (simp; done) | (simp; omega) | (rw[wrap_small (by omega) (by omega)]; done) | (rw[wrap_small (by omega) (by omega)]; omega) | (refine congrArg Nat.cast ?_; assumption) | skip))
 exact To.ptrO (c9 rfl hb) rfl rfl
def nC (s:St) (r i b c:Nat) (x:Act):St:=if lV x.k=true then setP s r { aI s r with g:=o4 i ((bC s b).getD c 0) (aI s r).g } else s
theorem wT {n:Nat} {s:St} {B:Nat→Nat×Nat} {r:Nat} {g:List (Nat×Int)} (h:r < s.ps.length):procsH n s B=procsH n (setP s r { aI s r with g:=g }) B:=yQ fun j _=>by
 rw[eD h]
 split
 ·rename_i e; subst e; exact⟨rfl,rfl⟩
 ·exact⟨rfl,rfl⟩
set_option maxHeartbeats 16000000 in
theorem effB (p:Pg) (ls:List Ln) (s:St) {r i:Nat} (x:Act) {b c:Nat} (hrl:r < ls.length) (hpl:s.ps.length=ls.length) (hk1:1≤x.k) (hk2:x.k≤16) (hb:b < ls.length) (hc:c < (bC s b).length)
  (B:Nat→Nat×Nat) (F4:List Blk) (hB:∀ j,j < ls.length→B j=(4,j)) (hF:iK ls.length F4) (Q:Exit→Fr→Heap→Prop):
  AWP Tryz.prog F71.n 8 (aG [1,1,1,0] F71.code) (gG (fun fr H=>Sub 8 F71.n fr H (rI r i x b c) (aZ p ls (nC s r i b c x) B F4)) Q) (rI r i x b c) (aZ p ls (s) B F4):=by
 show AWP _ _ _ (.seq _ _) _ _ _
 have f1:=gU hk1 hk2
 unfold jI at f1
 have u1:lV ((x.k.toNat:Nat):Int)=lV x.k:=by rw[show((x.k.toNat:Nat):Int)=x.k by omega]
 rw[u1] at f1
 have hm6:hget (aZ p ls (s) B F4) 6 b=some (.cells 1 (bE (bC s b))):=aO hb
 have hm5:hget (aZ p ls (s) B F4) 5 r=some (.map (retE (aI s r).g)):=aO hrl
 have hp1:=iY (s:=s) (b:=B) hrl
 have hp1l:=eU ls.length s B
 have hil:=cD (bC s b)
 have hcg:=oR (bC s b) c hc
 have hgd:(bC s b).getD c 0=(bC s b)[c]:=by rw[List.getD_eq_getElem?_getD,gEg hc]; rfl
 unfold nC
 unfold rI aZ boxW plR aJ at *
 unfold ckV at *
 dsimp only at *
 refine aA ?_
 refine DK.o rfl (bS rfl rfl f1) ?_
 refine aA ?_
 refine DK.nil ⟨by kernel_rfl,?_⟩
 cases hr:lV x.k with
 | false=>
  rw[if_neg (by simp)]
  refine aA ?_
  refine AB  hB hF rfl rfl rfl rfl rfl rfl rfl ?_
  (all_goals (repeat' (first | exact aB.nil | exact aS.nil | exact aY.nil | exact ToL.nil | exact ToR.nil | refine aB.cons ?_ ?_ | refine aS.cons ?_ ?_ | refine dZ ?_ ?_ | exact To.undef _ | exact To.sc _ | exact To.hslL rfl rfl | exact To.asl _ _ _ _ _ _ rfl | exact To.ptrO rfl rfl rfl | exact To.mrefO rfl | exact To.nil rfl rfl rfl | exact wt1 | exact To.nilL | refine To.int ?_ | refine To.bool ?_ | refine To.hslL rfl ?_ | refine wt2 rfl ?_ ?_ ?_ | refine To.tupL ?_ | refine To.aggL ?_ | refine To.cptrL ?_ | refine To.fzp rfl rfl rfl ?_ | refine To.fzm rfl rfl ?_ | refine To.cloL ?_ ?_ | refine wt3 ?_ | refine wt4 ?_ | exact wt5 | refine wt6 ?_ | refine ToB.one ?_ | exact wt7 | ((with_reducible apply ToL.consE); case e9=>rfl) | refine wt8 ?_ | refine ToL.cons ?_ ?_ | exact wt11 | refine wt9 ?_ ?_ | refine dX ?_ | (with_reducible rfl) | assumption)); all_goals (first | rfl | assumption | (simp; done) | (simp; omega) | (rw[wrap_small (by omega) (by omega)]; done) | (rw[wrap_small (by omega) (by omega)]; omega) | (refine congrArg Nat.cast ?_; assumption) | skip))
  exact To.ptrO (c9 rfl hb) rfl rfl
 | true=>
  rw[if_pos rfl,hgd]
  refine aA ?_
  refine DK.o rfl (eE rfl (aV (aV hm6)) hcg rfl) ?_
  refine DK.on rfl (oL rfl rfl rfl (aV (aV hm5))) ?_
  refine DK.nil ⟨by kernel_rfl,?_⟩
  have hrs:r < s.ps.length:=by omega
  refine AB (s:=setP s r { aI s r with g:=o4 i (bC s b)[c] (aI s r).g })  hB hF rfl (congrArg (fun z=>[Blk.cells 3 z]) (wT hrs)) rfl rfl (AL hrs) rfl rfl ?_
  (all_goals (repeat' (first | exact aB.nil | exact aS.nil | exact aY.nil | exact ToL.nil | exact ToR.nil | refine aB.cons ?_ ?_ | refine aS.cons ?_ ?_ | refine dZ ?_ ?_ | exact To.undef _ | exact To.sc _ | exact To.hslL rfl rfl | exact To.asl _ _ _ _ _ _ rfl | exact To.ptrO rfl rfl rfl | exact To.mrefO rfl | exact To.nil rfl rfl rfl | exact wt1 | exact To.nilL | refine To.int ?_ | refine To.bool ?_ | refine To.hslL rfl ?_ | refine wt2 rfl ?_ ?_ ?_ | refine To.tupL ?_ | refine To.aggL ?_ | refine To.cptrL ?_ | refine To.fzp rfl rfl rfl ?_ | refine To.fzm rfl rfl ?_ | refine To.cloL ?_ ?_ | refine wt3 ?_ | refine wt4 ?_ | exact wt5 | refine wt6 ?_ | refine ToB.one ?_ | exact wt7 | ((with_reducible apply ToL.consE); case e9=>rfl) | refine wt8 ?_ | refine ToL.cons ?_ ?_ | exact wt11 | refine wt9 ?_ ?_ | refine dX ?_ | (with_reducible rfl) | assumption)); all_goals (first | rfl | assumption | (simp; done) | (simp; omega) | (rw[wrap_small (by omega) (by omega)]; done) | (rw[wrap_small (by omega) (by omega)]; omega) | (refine congrArg Nat.cast ?_; assumption) | skip))
  exact To.ptrO (c9 rfl hb) rfl rfl
set_option maxHeartbeats 16000000 in
theorem effBX (p:Pg) (ls:List Ln) (s:St) {r i:Nat} (x:Act) {b c:Nat} (hrl:r < ls.length) (hpl:s.ps.length=ls.length) (hk1:1≤x.k) (hk2:x.k≤16) (hb:b < ls.length) (hc:c < (bC s b).length)
  (B:Nat→Nat×Nat) (F4:List Blk) {y:List (List AV)} (hy:∀ r∈y,∀ c∈r,bQ c) (hB:∀ j,j < ls.length→(B j=(4,j)∨B j=(8,0))) (hF:iK ls.length F4) (Q:Exit→Fr→Heap→Prop):
  AWP Tryz.prog F71.n 9 (aG [1,1,1,0] F71.code) (gG (fun fr H=>Sub 9 F71.n fr H (rI r i x b c) (aZ p ls (nC s r i b c x) B F4++[[.cells 1 y]])) Q) (rI r i x b c) (aZ p ls (s) B F4++[[.cells 1 y]]):=by
 show AWP _ _ _ (.seq _ _) _ _ _
 have f1:=gU hk1 hk2
 unfold jI at f1
 have u1:lV ((x.k.toNat:Nat):Int)=lV x.k:=by rw[show((x.k.toNat:Nat):Int)=x.k by omega]
 rw[u1] at f1
 have hm6:hget (aZ p ls (s) B F4++[[.cells 1 y]]) 6 b=some (.cells 1 (bE (bC s b))):=aO hb
 have hm5:hget (aZ p ls (s) B F4++[[.cells 1 y]]) 5 r=some (.map (retE (aI s r).g)):=aO hrl
 have hp1:=iY (s:=s) (b:=B) hrl
 have hp1l:=eU ls.length s B
 have hil:=cD (bC s b)
 have hcg:=oR (bC s b) c hc
 have hgd:(bC s b).getD c 0=(bC s b)[c]:=by rw[List.getD_eq_getElem?_getD,gEg hc]; rfl
 unfold nC
 unfold rI aZ boxW plR aJ at *
 unfold ckV at *
 dsimp only at *
 refine aA ?_
 refine DK.o rfl (bS rfl rfl f1) ?_
 refine aA ?_
 refine DK.nil ⟨by kernel_rfl,?_⟩
 cases hr:lV x.k with
 | false=>
  rw[if_neg (by simp)]
  refine aA ?_
  refine t8 hy hB hF rfl rfl rfl rfl rfl rfl rfl ?_
  (all_goals (repeat' (first | exact aB.nil | exact aS.nil | exact aY.nil | exact ToL.nil | exact ToR.nil | refine aB.cons ?_ ?_ | refine aS.cons ?_ ?_ | refine dZ ?_ ?_ | exact To.undef _ | exact To.sc _ | exact To.hslL rfl rfl | exact To.asl _ _ _ _ _ _ rfl | exact To.ptrO rfl rfl rfl | exact To.mrefO rfl | exact To.nil rfl rfl rfl | exact wt1 | exact To.nilL | refine To.int ?_ | refine To.bool ?_ | refine To.hslL rfl ?_ | refine wt2 rfl ?_ ?_ ?_ | refine To.tupL ?_ | refine To.aggL ?_ | refine To.cptrL ?_ | refine To.fzp rfl rfl rfl ?_ | refine To.fzm rfl rfl ?_ | refine To.cloL ?_ ?_ | refine wt3 ?_ | refine wt4 ?_ | exact wt5 | refine wt6 ?_ | refine ToB.one ?_ | exact wt7 | ((with_reducible apply ToL.consE); case e9=>rfl) | refine wt8 ?_ | refine ToL.cons ?_ ?_ | exact wt11 | refine wt9 ?_ ?_ | refine dX ?_ | (with_reducible rfl) | assumption)); all_goals (first | rfl | assumption | (simp; done) | (simp; omega) | (rw[wrap_small (by omega) (by omega)]; done) | (rw[wrap_small (by omega) (by omega)]; omega) | (refine congrArg Nat.cast ?_; assumption) | skip))
  exact To.ptrO (c9 rfl hb) rfl rfl
 | true=>
  rw[if_pos rfl,hgd]
  refine aA ?_
  refine DK.o rfl (eE rfl (aV (aV hm6)) hcg rfl) ?_
  refine DK.on rfl (oL rfl rfl rfl (aV (aV hm5))) ?_
  refine DK.nil ⟨by kernel_rfl,?_⟩
  have hrs:r < s.ps.length:=by omega
  refine t8 (s:=setP s r { aI s r with g:=o4 i (bC s b)[c] (aI s r).g }) hy hB hF rfl (congrArg (fun z=>[Blk.cells 3 z]) (wT hrs)) rfl rfl (AL hrs) rfl rfl ?_
  (all_goals (repeat' (first | exact aB.nil | exact aS.nil | exact aY.nil | exact ToL.nil | exact ToR.nil | refine aB.cons ?_ ?_ | refine aS.cons ?_ ?_ | refine dZ ?_ ?_ | exact To.undef _ | exact To.sc _ | exact To.hslL rfl rfl | exact To.asl _ _ _ _ _ _ rfl | exact To.ptrO rfl rfl rfl | exact To.mrefO rfl | exact To.nil rfl rfl rfl | exact wt1 | exact To.nilL | refine To.int ?_ | refine To.bool ?_ | refine To.hslL rfl ?_ | refine wt2 rfl ?_ ?_ ?_ | refine To.tupL ?_ | refine To.aggL ?_ | refine To.cptrL ?_ | refine To.fzp rfl rfl rfl ?_ | refine To.fzm rfl rfl ?_ | refine To.cloL ?_ ?_ | refine wt3 ?_ | refine wt4 ?_ | exact wt5 | refine wt6 ?_ | refine ToB.one ?_ | exact wt7 | ((with_reducible apply ToL.consE); case e9=>rfl) | refine wt8 ?_ | refine ToL.cons ?_ ?_ | exact wt11 | refine wt9 ?_ ?_ | refine dX ?_ | (with_reducible rfl) | assumption)); all_goals (first | rfl | assumption | (simp; done) | (simp; omega) | (rw[wrap_small (by omega) (by omega)]; done) | (rw[wrap_small (by omega) (by omega)]; omega) | (refine congrArg Nat.cast ?_; assumption) | skip))
  exact To.ptrO (c9 rfl hb) rfl rfl
def gD (s:St) (b c:Nat) (v:Int):St:=setM s b ((bC s b).set c v)
theorem e8 {n:Nat} {s:St} {b c:Nat} {v:Int} (h:b < s.mem.length):memH n s=memH n (gD s b c v):=DS fun j _=>by
 unfold gD
 rw[qD h]
 split
 ·rename_i e; subst e; rw[List.length_set]
 ·rfl
theorem gE {n:Nat} {s:St} {b c:Nat} {v:Int} (h:b < s.mem.length):(jV n s).set b (.cells 1 ((bE (bC s b)).set c [.sc (.int .i64 v)]))=jV n (gD s b c v):=by
 rw[GU]
 exact IE h
theorem BS {s:St} {b c:Nat} (hc:c < (bC s b).length) {v:Int} (hv:v=(bC s b)[c]):gD s b c v=setM s b (bC s b):=by
 subst hv
 unfold gD
 rw[List.set_getElem_self]
theorem FJ {s:St} {b:Nat} (h:b < s.mem.length):setM s b (bC s b)=s:=by
 unfold setM bC
 rw[gEg h,Option.getD_some,List.set_getElem_self]
def vX (_:Nat) (k:Nat) (rs:List nI) (R:AV→Heap→Prop) (e:Exit) (fr:Fr) (H:Heap):Prop:=(e=.normal∨e=.ret)∧∃ res res' H2,hN fr H rs=some res∧gY k H res H2 res'∧R res' H2
theorem zI (v:Int):toU v < 18446744073709551616:=by unfold toU; omega
theorem nQ {p:Pg} {ls:List Ln} {s:St} {B:Nat→Nat×Nat} {F4:List Blk} (hB:∀ j,j < ls.length→B j=(4,j)) (hF:iK ls.length F4) {fr:Fr} {b0 b1 b2 b3 b5 b6 b7:List Blk} {X:Heap}
  (e0:b0=[.cells 5 [boxW p ls s.seed]]) (e1:b1=[.cells 3 (procsH ls.length s B)]) (e2:b2=[.cells 1 (memH ls.length s)]) (e3:b3=[.cells 1 (heldH ls.length)]) (e5:b5=iB ls.length s) (e6:b6=jV ls.length s) (e7:b7=fP ls.length s):
  vX F71.n 8 F71.res (fun res H'=>res=.tup []∧H'=aZ p ls (s) B F4) .normal fr (b0::b1::b2::b3::F4::b5::b6::b7 ::  X):=by
 subst e0 e1 e2 e3 e5 e6 e7
 exact wA (.tup []) p ls s B B F4 [] [] [] ⟨rfl,rfl⟩ rfl rfl rfl rfl rfl rfl rfl (hF.2 _ _ _ fun i hi=>rfl) (fun j hj=>by rw[hB j hj]; exact c9 rfl hj) trivial
  ⟨.c _ rfl rfl,.c _ rfl rfl,.c _ rfl rfl,.c _ rfl rfl,.w _ _ (Nat.le_of_eq hF.1),.w _ _ (Nat.le_of_eq (aM _ _)),.w _ _ (Nat.le_of_eq (aM _ _)),.w _ _ (Nat.le_of_eq (aM _ _)), trivial⟩
set_option maxHeartbeats 16000000 in
theorem effC (p:Pg) (ls:List Ln) (s:St) {r i:Nat} (x:Act) {b c:Nat} (hml:s.mem.length=ls.length) (hk1:1≤x.k) (hk2:x.k≤7) (hop:x.k=3∨x.k=4→kL x.o 1=0) (hb:b < ls.length) (hc:c < (bC s b).length)
  (B:Nat→Nat×Nat) (F4:List Blk) (hB:∀ j,j < ls.length→B j=(4,j)) (hF:iK ls.length F4):
  AWP Tryz.prog F71.n 8 (aG [1,1,1,1] F71.code) (vX F71.n 8 F71.res (fun res H'=>res=.tup []∧H'=aZ p ls (gD s b c (fS x ((bC s b).getD c 0))) B F4)) (rI r i x b c) (aZ p ls (s) B F4):=by
 show AWP _ _ _ (.seq _ _) _ _ _
 have hbs:b < s.mem.length:=by omega
 have hm6:hget (aZ p ls (s) B F4) 6 b=some (.cells 1 (bE (bC s b))):=aO hb
 have hil:=cD (bC s b)
 have hcg:=oR (bC s b) c hc
 have hgd:(bC s b).getD c 0=(bC s b)[c]:=by rw[List.getD_eq_getElem?_getD,gEg hc]; rfl
 rw[hgd]
 have hnone:fS x (bC s b)[c]=(bC s b)[c]→gD s b c (fS x (bC s b)[c])=s:=fun e=>by rw[e,BS hc rfl,FJ hbs]
 obtain⟨v0,hv0⟩:∃ v,v=(bC s b)[c]:=⟨_,rfl⟩
 rw[← hv0] at hcg hnone ⊢
 obtain⟨k,xr,a,o,v,w,g⟩:=x
 dsimp only at hk1 hk2 hop
 have hdo:k=3∨k=4→aD Tryz.prog 118 [.sc (.int .i64 o),.sc (.int .i64 1),.agg [.sc (.int .u64 (IntKind.u64.wrap v0)),.sc (.int .i64 0)],.agg [.sc (.int .u64 (IntKind.u64.wrap v)),.sc (.int .i64 0)]] (.tup [.agg [.sc (.int .u64 ((opI o (toU v0) (toU v):Nat):Int)),.sc (.int .i64 0)],.sc (.int .i64 0)]):=fun hk=>by
  rw[pD,pD]
  exact M0 (hop hk) (zI _) (zI _)
 have hkk:k=1∨k=2∨k=3∨k=4∨k=5∨k=6∨k=7:=by omega
 unfold rI plR aJ
 unfold aZ boxW ckV at *
 dsimp only
 rcases hkk with rfl | rfl | rfl | rfl | rfl | rfl | rfl
 ·rw[show fS _ v0=v by simp[fS]]
  refine aA ?_
  (refine Reg.on rfl (eR rfl rfl (hm6) hcg rfl (Nat.le_refl _) rfl) ?_; refine aA ?_; exact nQ (s:=gD s b c _)  hB hF rfl rfl (congrArg (fun z=>[Blk.cells 1 z]) (e8 hbs)) rfl rfl (gE hbs) rfl)
 ·rw[hnone (by simp[fS])]
  refine aA ?_
  exact nQ  hB hF rfl rfl rfl rfl rfl rfl rfl
 ·rw[show fS _ v0=toS (opI o (toU v0) (toU v)) by simp[fS]]
  (have hd:=hdo (by omega); generalize opI o (toU v0) (toU v)=rs at *; refine aA ?_; refine DK.o rfl (eE rfl (aV hm6) hcg rfl) ?_; refine aA ?_; refine DK.nil ⟨by kernel_rfl,?_⟩; refine aA ?_; rw[FG]; (refine Reg.on rfl (eR rfl rfl (aV hm6) hcg rfl (Nat.le_refl _) rfl) ?_; refine aA ?_; exact nQ (s:=gD s b c _)  hB hF rfl rfl (congrArg (fun z=>[Blk.cells 1 z]) (e8 hbs)) rfl rfl (gE hbs) rfl))
 ·rw[show fS _ v0=toS (opI o (toU v0) (toU v)) by simp[fS]]
  (have hd:=hdo (by omega); generalize opI o (toU v0) (toU v)=rs at *; refine aA ?_; refine DK.o rfl (eE rfl (aV hm6) hcg rfl) ?_; refine aA ?_; refine DK.nil ⟨by kernel_rfl,?_⟩; refine aA ?_; rw[FG]; (refine Reg.on rfl (eR rfl rfl (aV hm6) hcg rfl (Nat.le_refl _) rfl) ?_; refine aA ?_; exact nQ (s:=gD s b c _)  hB hF rfl rfl (congrArg (fun z=>[Blk.cells 1 z]) (e8 hbs)) rfl rfl (gE hbs) rfl))
 ·refine aA ?_
  refine DK.o rfl (eE rfl (aV hm6) hcg rfl) ?_
  refine aA ?_
  refine DK.nil ⟨by kernel_rfl,?_⟩
  refine aA ?_
  by_cases he:v0=w
  ·rw[show fS _ v0=v by simp[fS,he]]
   rw[show(v0 == w)=true by simpa using he]
   refine aA ?_
   (refine Reg.on rfl (eR rfl rfl (aV hm6) hcg rfl (Nat.le_refl _) rfl) ?_; refine aA ?_; exact nQ (s:=gD s b c _)  hB hF rfl rfl (congrArg (fun z=>[Blk.cells 1 z]) (e8 hbs)) rfl rfl (gE hbs) rfl)
  ·rw[hnone (by simp[fS,he])]
   rw[show(v0 == w)=false by simpa using he]
   refine aA ?_
   exact nQ  hB hF rfl rfl rfl rfl rfl rfl rfl
 ·rw[hnone (by simp[fS])]
  refine aA ?_
  exact nQ  hB hF rfl rfl rfl rfl rfl rfl rfl
 ·rw[show fS _ v0=v by simp[fS]]
  refine aA ?_
  (refine Reg.on rfl (eR rfl rfl (hm6) hcg rfl (Nat.le_refl _) rfl) ?_; refine aA ?_; exact nQ (s:=gD s b c _)  hB hF rfl rfl (congrArg (fun z=>[Blk.cells 1 z]) (e8 hbs)) rfl rfl (gE hbs) rfl)
theorem k9 {p:Pg} {ls:List Ln} {s:St} {B:Nat→Nat×Nat} {F4:List Blk} {y:List (List AV)} (hy:∀ r∈y,∀ c∈r,bQ c) (hB:∀ j,j < ls.length→(B j=(4,j)∨B j=(8,0))) (hF:iK ls.length F4) {fr:Fr} {b0 b1 b2 b3 b5 b6 b7:List Blk} {X:Heap}
  (e0:b0=[.cells 5 [boxW p ls s.seed]]) (e1:b1=[.cells 3 (procsH ls.length s B)]) (e2:b2=[.cells 1 (memH ls.length s)]) (e3:b3=[.cells 1 (heldH ls.length)]) (e5:b5=iB ls.length s) (e6:b6=jV ls.length s) (e7:b7=fP ls.length s):
  vX F71.n 9 F71.res (fun res H'=>res=.tup []∧H'=aZ p ls (s) B F4++[[.cells 1 y]]) .normal fr (b0::b1::b2::b3::F4::b5::b6::b7::[.cells 1 y]::X):=by
 subst e0 e1 e2 e3 e5 e6 e7
 exact wA (.tup []) p ls s B B F4 [] [[(8,0)]] [[.cells 1 y]] ⟨rfl,rfl⟩ rfl rfl rfl rfl rfl rfl rfl (hF.2 _ _ _ fun i hi=>rfl) (fun j hj=>by rcases hB j hj with h | h<;>rw[h]; exact c9 rfl hj; rfl) ⟨⟨⟨_,rfl,ToB.rows rfl hy⟩,trivial⟩,trivial⟩
  ⟨.c _ rfl rfl,.c _ rfl rfl,.c _ rfl rfl,.c _ rfl rfl,.w _ _ (Nat.le_of_eq hF.1),.w _ _ (Nat.le_of_eq (aM _ _)),.w _ _ (Nat.le_of_eq (aM _ _)),.w _ _ (Nat.le_of_eq (aM _ _)),.c _ rfl rfl,trivial⟩
set_option maxHeartbeats 16000000 in
theorem effCX (p:Pg) (ls:List Ln) (s:St) {r i:Nat} (x:Act) {b c:Nat} (hml:s.mem.length=ls.length) (hk1:1≤x.k) (hk2:x.k≤7) (hop:x.k=3∨x.k=4→kL x.o 1=0) (hb:b < ls.length) (hc:c < (bC s b).length)
  (B:Nat→Nat×Nat) (F4:List Blk) {y:List (List AV)} (hy:∀ r∈y,∀ c∈r,bQ c) (hB:∀ j,j < ls.length→(B j=(4,j)∨B j=(8,0))) (hF:iK ls.length F4):
  AWP Tryz.prog F71.n 9 (aG [1,1,1,1] F71.code) (vX F71.n 9 F71.res (fun res H'=>res=.tup []∧H'=aZ p ls (gD s b c (fS x ((bC s b).getD c 0))) B F4++[[.cells 1 y]])) (rI r i x b c) (aZ p ls (s) B F4++[[.cells 1 y]]):=by
 show AWP _ _ _ (.seq _ _) _ _ _
 have hbs:b < s.mem.length:=by omega
 have hm6:hget (aZ p ls (s) B F4++[[.cells 1 y]]) 6 b=some (.cells 1 (bE (bC s b))):=aO hb
 have hil:=cD (bC s b)
 have hcg:=oR (bC s b) c hc
 have hgd:(bC s b).getD c 0=(bC s b)[c]:=by rw[List.getD_eq_getElem?_getD,gEg hc]; rfl
 rw[hgd]
 have hnone:fS x (bC s b)[c]=(bC s b)[c]→gD s b c (fS x (bC s b)[c])=s:=fun e=>by rw[e,BS hc rfl,FJ hbs]
 obtain⟨v0,hv0⟩:∃ v,v=(bC s b)[c]:=⟨_,rfl⟩
 rw[← hv0] at hcg hnone ⊢
 obtain⟨k,xr,a,o,v,w,g⟩:=x
 dsimp only at hk1 hk2 hop
 have hdo:k=3∨k=4→aD Tryz.prog 118 [.sc (.int .i64 o),.sc (.int .i64 1),.agg [.sc (.int .u64 (IntKind.u64.wrap v0)),.sc (.int .i64 0)],.agg [.sc (.int .u64 (IntKind.u64.wrap v)),.sc (.int .i64 0)]] (.tup [.agg [.sc (.int .u64 ((opI o (toU v0) (toU v):Nat):Int)),.sc (.int .i64 0)],.sc (.int .i64 0)]):=fun hk=>by
  rw[pD,pD]
  exact M0 (hop hk) (zI _) (zI _)
 have hkk:k=1∨k=2∨k=3∨k=4∨k=5∨k=6∨k=7:=by omega
 unfold rI plR aJ
 unfold aZ boxW ckV at *
 dsimp only
 rcases hkk with rfl | rfl | rfl | rfl | rfl | rfl | rfl
 ·rw[show fS _ v0=v by simp[fS]]
  refine aA ?_
  (refine Reg.on rfl (eR rfl rfl (hm6) hcg rfl (Nat.le_refl _) rfl) ?_; refine aA ?_; exact k9 (s:=gD s b c _) hy hB hF rfl rfl (congrArg (fun z=>[Blk.cells 1 z]) (e8 hbs)) rfl rfl (gE hbs) rfl)
 ·rw[hnone (by simp[fS])]
  refine aA ?_
  exact k9 hy hB hF rfl rfl rfl rfl rfl rfl rfl
 ·rw[show fS _ v0=toS (opI o (toU v0) (toU v)) by simp[fS]]
  (have hd:=hdo (by omega); generalize opI o (toU v0) (toU v)=rs at *; refine aA ?_; refine DK.o rfl (eE rfl (aV hm6) hcg rfl) ?_; refine aA ?_; refine DK.nil ⟨by kernel_rfl,?_⟩; refine aA ?_; rw[FG]; (refine Reg.on rfl (eR rfl rfl (aV hm6) hcg rfl (Nat.le_refl _) rfl) ?_; refine aA ?_; exact k9 (s:=gD s b c _) hy hB hF rfl rfl (congrArg (fun z=>[Blk.cells 1 z]) (e8 hbs)) rfl rfl (gE hbs) rfl))
 ·rw[show fS _ v0=toS (opI o (toU v0) (toU v)) by simp[fS]]
  (have hd:=hdo (by omega); generalize opI o (toU v0) (toU v)=rs at *; refine aA ?_; refine DK.o rfl (eE rfl (aV hm6) hcg rfl) ?_; refine aA ?_; refine DK.nil ⟨by kernel_rfl,?_⟩; refine aA ?_; rw[FG]; (refine Reg.on rfl (eR rfl rfl (aV hm6) hcg rfl (Nat.le_refl _) rfl) ?_; refine aA ?_; exact k9 (s:=gD s b c _) hy hB hF rfl rfl (congrArg (fun z=>[Blk.cells 1 z]) (e8 hbs)) rfl rfl (gE hbs) rfl))
 ·refine aA ?_
  refine DK.o rfl (eE rfl (aV hm6) hcg rfl) ?_
  refine aA ?_
  refine DK.nil ⟨by kernel_rfl,?_⟩
  refine aA ?_
  by_cases he:v0=w
  ·rw[show fS _ v0=v by simp[fS,he]]
   rw[show(v0 == w)=true by simpa using he]
   refine aA ?_
   (refine Reg.on rfl (eR rfl rfl (aV hm6) hcg rfl (Nat.le_refl _) rfl) ?_; refine aA ?_; exact k9 (s:=gD s b c _) hy hB hF rfl rfl (congrArg (fun z=>[Blk.cells 1 z]) (e8 hbs)) rfl rfl (gE hbs) rfl)
  ·rw[hnone (by simp[fS,he])]
   rw[show(v0 == w)=false by simpa using he]
   refine aA ?_
   exact k9 hy hB hF rfl rfl rfl rfl rfl rfl rfl
 ·rw[hnone (by simp[fS])]
  refine aA ?_
  exact k9 hy hB hF rfl rfl rfl rfl rfl rfl rfl
 ·rw[show fS _ v0=v by simp[fS]]
  refine aA ?_
  (refine Reg.on rfl (eR rfl rfl (hm6) hcg rfl (Nat.le_refl _) rfl) ?_; refine aA ?_; exact k9 (s:=gD s b c _) hy hB hF rfl rfl (congrArg (fun z=>[Blk.cells 1 z]) (e8 hbs)) rfl rfl (gE hbs) rfl)
theorem oF (s:St) (r i b c:Nat) (x:Act) (j:Nat):bC (nC s r i b c x) j=bC s j:=by
 unfold nC
 split<;>rfl
theorem xO (s:St) (r i b c:Nat) (x:Act):(nC s r i b c x).mem=s.mem:=by
 unfold nC
 split<;>rfl
theorem FN {p:Pg} {ls:List Ln} {s:St} {r i:Nat} {x:Act} {b c d:Nat} (hap:jS p (r,i)=x) (hac:acN ls (r,i)=⟨b,c,d⟩):kP p ls s (r,i)=gD (nC s r i b c x) b c (fS x ((bC (nC s r i b c x) b).getD c 0)):=by
 unfold kP gD
 rw[hap,hac,oF]
 rfl
theorem NR (p:Pg) (ls:List Ln) (s:St) (hC:d9 p ls) {r i:Nat} {l:List Act} {x:Act} {b c d:Nat} (hra:p.acts[r]?=some l) (hx:l[i]?=some x) (hac:acN ls (r,i)=⟨b,c,d⟩) (hb:b < ls.length) (hc:c < (bC s b).length)
  (hpl:s.ps.length=ls.length) (hml:s.mem.length=ls.length) (hk1:1≤x.k) (hk2:x.k≤7) (hop:x.k=3∨x.k=4→kL x.o 1=0)
  (B:Nat→Nat×Nat) (F4:List Blk) (hB:∀ j,j < ls.length→B j=(4,j)) (hF:iK ls.length F4):
  aQ Tryz.prog 71 [.ptr 0 0 0 0,.agg (plR (r,i))] (aZ p ls (s) B F4) fun res H'=>res=.tup []∧H'=aZ p ls (kP p ls s (r,i)) B F4:=by
 have hlen:=(gEs.1 hra).1
 have hrl:r < ls.length:=by have:=hC.len; omega
 rw[FN (jL hra hx) hac]
 refine aQ.of cF71 ?_ (nlB rfl)
 refine effA p ls s hC hra hx hac hb hc B F4  hB hF _ ?_
 refine AWP.seq ?_
 refine AWP.joinT0 _ _ (effB p ls s x hrl hpl hk1 (by omega) hb hc B F4  hB hF _) ?_
 exact effC p ls (nC s r i b c x) x (by rw[xO]; exact hml) hk1 hk2 hop hb (by rw[oF]; exact hc) B F4  hB hF
theorem K6 (p:Pg) (ls:List Ln) (s:St) (hC:d9 p ls) {r i:Nat} {l:List Act} {x:Act} {b c d:Nat} (hra:p.acts[r]?=some l) (hx:l[i]?=some x) (hac:acN ls (r,i)=⟨b,c,d⟩) (hb:b < ls.length) (hc:c < (bC s b).length)
  (hpl:s.ps.length=ls.length) (hml:s.mem.length=ls.length) (hk1:1≤x.k) (hk2:x.k≤7) (hop:x.k=3∨x.k=4→kL x.o 1=0)
  (B:Nat→Nat×Nat) (F4:List Blk) {y:List (List AV)} (hy:∀ r∈y,∀ c∈r,bQ c) (hB:∀ j,j < ls.length→(B j=(4,j)∨B j=(8,0))) (hF:iK ls.length F4):
  aQ Tryz.prog 71 [.ptr 0 0 0 0,.agg (plR (r,i))] (aZ p ls (s) B F4++[[.cells 1 y]]) fun res H'=>res=.tup []∧H'=aZ p ls (kP p ls s (r,i)) B F4++[[.cells 1 y]]:=by
 have hlen:=(gEs.1 hra).1
 have hrl:r < ls.length:=by have:=hC.len; omega
 rw[FN (jL hra hx) hac]
 refine aQ.of cF71 ?_ (nlB rfl)
 refine effAX p ls s hC hra hx hac hb hc B F4 hy hB hF _ ?_
 refine AWP.seq ?_
 refine AWP.joinT0 _ _ (effBX p ls s x hrl hpl hk1 (by omega) hb hc B F4 hy hB hF _) ?_
 exact effCX p ls (nC s r i b c x) x (by rw[xO]; exact hml) hk1 hk2 hop hb (by rw[oF]; exact hc) B F4 hy hB hF
theorem B2 {n:Nat} {s:St} {b:Nat→Nat×Nat} {r:Nat} {x:Pr} (h:r < s.ps.length):(procsH n s b).set r [.sc (.int .i64 (x.d:Int)),.hsl (b r).1 (b r).2 0 x.q.length,.mref 5 r]=procsH n (setP s r x) b:=by
 rw[pZ h]
 congr 1
 funext j
 split
 ·rename_i e; rw[e]
 ·rfl
theorem wSub {p:Pg} {ls:List Ln} {s:St} {k N:Nat} {fr fr':Fr} {b0 b1 b2 b3 b4' b5 b6 b7:List Blk} {X:Heap} (e0:b0=[.cells 5 [boxW p ls s.seed]]) (e1:b1=[.cells 3 (procsH ls.length s b4)]) (e2:b2=[.cells 1 (memH ls.length s)]) (e3:b3=[.cells 1 (heldH ls.length)])
  (e4:b4'=cC ls.length s) (e5:b5=iB ls.length s) (e6:b6=jV ls.length s) (e7:b7=fP ls.length s)
  (h5:aB (ToT ((b0::b1::b2::b3::b4'::b5::b6::b7::X)++gh []) (b0::b1::b2::b3::b4'::b5::b6::b7::X).length (fG (wKg ls.length (.w 4 ls.length []) []))) (rho (idK (wKg ls.length (.w 4 ls.length []) []))) fr fr') (hk:k≤8:=by exact nlB rfl):
  Sub k N fr (b0::b1::b2::b3::b4'::b5::b6::b7::X) fr' (worldH p ls s):=by
 subst e4
 exact Sub.wg p ls s b4 b4 (cC ls.length s) [] [] [] [] h5 e0 e1 e2 e3 (aM _ _) e5 e6 e7 (bO fun i hi=>by subst e0 e1 e2 e3; exact aO hi) dF trivial hk
theorem HV {p:Pg} {ls:List Ln} {s:St} {N:Nat} {rs:List nI} {fr:Fr} {e:Exit} {b0 b1 b2 b3 b4' b5 b6 b7:List Blk} {X:Heap} (e0:b0=[.cells 5 [boxW p ls s.seed]]) (e1:b1=[.cells 3 (procsH ls.length s b4)]) (e2:b2=[.cells 1 (memH ls.length s)]) (e3:b3=[.cells 1 (heldH ls.length)])
  (e4:b4'=cC ls.length s) (e5:b5=iB ls.length s) (e6:b6=jV ls.length s) (e7:b7=fP ls.length s) {R:AV→Heap→Prop} (hR:R (.tup []) (worldH p ls s)) (hrs:hN fr (b0::b1::b2::b3::b4'::b5::b6::b7::X) rs=some (.tup []):=by rfl) (he:e=.normal∨e=.ret:=by first | exact .inr rfl | exact .inl rfl):
  vX N 8 rs R e fr (b0::b1::b2::b3::b4'::b5::b6::b7::X):=by
 subst e4
 exact JM (.tup []) p ls s b4 b4 (cC ls.length s) [] [] [] hR e0 e1 e2 e3 (aM _ _) e5 e6 e7 (bO fun i hi=>by subst e0 e1 e2 e3; exact aO hi) dF trivial (he:=he) (hres:=hrs) (hr:=To.tupL ToL.nil)
def j6 (r d:Nat) (x:Act):Fr:=[(0,.ptr 0 0 0 0),(1,.sc (.int .i64 (r:Int))),(4,.cptr (plR (r,d))),(5,.cptr (aJ x))]
set_option maxHeartbeats 16000000 in
theorem stepA {p:Pg} {ls:List Ln} {s:St} {r:Nat} {l:List Act} {x:Act} (_:d9 p ls) (hrl:r < ls.length) (hpl:s.ps.length=ls.length) (hra:p.acts[r]?=some l) (hx:l[(aI s r).d]?=some x) (hd:(aI s r).d≤1000000) (Q:Exit→Fr→Heap→Prop)
  (h:AWP Tryz.prog F68.n 8 (aG [1,1,1] F68.code) Q (j6 r (aI s r).d x) (worldH p ls (setP s r ⟨(aI s r).d+1,(aI s r).q,(aI s r).g⟩))):AWP Tryz.prog F68.n 8 F68.code Q (jT 0 [.ptr 0 0 0 0,.sc (.int .i64 (r:Int))]) (worldH p ls s):=by
 have ha1:=jX p ls hra hx
 have hrs:r < s.ps.length:=by omega
 have hp1:=iY (s:=s) (b:=b4) hrl
 have hp1l:=eU ls.length s b4
 obtain⟨d,hde⟩:∃ d,d=(aI s r).d:=⟨_,rfl⟩
 obtain⟨q,hqe⟩:∃ q,q=(aI s r).q:=⟨_,rfl⟩
 rw[← hde] at ha1 hd hp1 h
 rw[← hqe] at hp1 h
 have hp2:(procsH ls.length s b4).set r [.sc (.int .i64 ((d+1:Nat):Int)),.hsl 4 r 0 q.length,.mref 5 r]=procsH ls.length (setP s r ⟨d+1,q,(aI s r).g⟩) b4:=by
  rw[← B2 hrs]
  rfl
 unfold plN aJ ckV at ha1
 unfold b4 at hp1
 dsimp only at ha1 hp1
 unfold worldH aZ boxW ckV
 refine aA ?_
 refine DK.nil ⟨by kernel_rfl,?_⟩
 refine AWP.sub ?_ h
 refine wSub rfl (congrArg (fun z=>[Blk.cells 3 z]) hp2) rfl rfl (tA fun j _=>?_) (qK fun j _=>?_) rfl rfl ?_
 ·rw[eD hrs]
  split
  ·rename_i e; rw[e,hqe]
  ·rfl
 ·rw[eD hrs]
  split
  ·rename_i e; rw[e]
  ·rfl
 ·unfold j6 plR aJ
  (all_goals exact eP)
def WOr (p:Pg) (ls:List Ln) (s:St) (H:Heap):Prop:=H=worldH p ls s∨∃ r,r < ls.length∧H=aZ p ls s (bX r 8) (pendD ls.length s r)++[[.cells 1 (bF (aI s r).q)]]
set_option maxHeartbeats 16000000 in
theorem MO {p:Pg} {ls:List Ln} {s:St} {r d:Nat} (x:Act) (hrl:r < ls.length) (hpl:s.ps.length=ls.length) (hk1:1≤x.k) (hk2:x.k≤16) (hk:dW x.k=true) (hq:(aI s r).q.length≤1000000):
  AWP Tryz.prog F68.n 8 (aG [1,1,1] F68.code) (vX F68.n 8 F68.res fun res H'=>res=.tup []∧WOr p ls (setP s r ⟨(aI s r).d,(aI s r).q++[d],(aI s r).g⟩) H') (j6 r d x) (worldH p ls s):=by
 show AWP _ _ _ (.block _ _) _ _ _
 have hrs:r < s.ps.length:=by omega
 have f1:=gU hk1 hk2
 unfold jI at f1
 have u1:dW ((x.k.toNat:Nat):Int)=true:=by rw[show((x.k.toNat:Nat):Int)=x.k by omega]; exact hk
 rw[u1] at f1
 have hp1:=iY (s:=s) (b:=b4) hrl
 have hp1l:=eU ls.length s b4
 have hm4:hget (worldH p ls s) 4 r=some (.cells 1 (bF (aI s r).q)):=aO hrl
 have hql:=bZ (aI s r).q
 unfold b4 at hp1
 dsimp only at hp1
 unfold worldH aZ boxW ckV j6 plR aJ
 dsimp only
 refine aA ?_
 refine DK.o rfl (bS rfl rfl f1) ?_
 refine aA ?_
 refine DK.nil ⟨by kernel_rfl,?_⟩
 refine aA ?_
 refine DK.o rfl (sD rfl (rows2:=[[.sc (.int .i64 (d:Int))]]) rfl (aO hrl) hql (by simp; omega) rfl) ?_
 refine aA ?_
 refine DK.nil ⟨by kernel_rfl,?_⟩
 refine aA ?_
 have hs1:=eD (s:=s) (x:=⟨(aI s r).d,(aI s r).q++[d],(aI s r).g⟩) hrs
 have hp2:(procsH ls.length s b4).set r [.sc (.int .i64 ((aI s r).d:Int)),.hsl 9 16 0 ((aI s r).q.length+1),.mref 5 r]=procsH ls.length (setP s r ⟨(aI s r).d,(aI s r).q++[d],(aI s r).g⟩) (fun j=>if j=r then(9,16) else b4 j):=by
  rw[← pZ hrs,List.length_append]
  rfl
 have hpd:(cC ls.length s).set r Blk.dead=pendD ls.length (setP s r ⟨(aI s r).d,(aI s r).q++[d],(aI s r).g⟩) r:=by
  rw[xM]
  refine fD fun j _=>?_
  by_cases e:j=r
  ·rw[if_pos e,if_pos e]
  ·rw[if_neg e,if_neg e,hs1,if_neg e]
 have hret:iB ls.length s=iB ls.length (setP s r ⟨(aI s r).d,(aI s r).q++[d],(aI s r).g⟩):=qK fun j _=>by
  rw[hs1]
  split
  ·rename_i e; rw[e]
  ·rfl
 have hqs:(aI (setP s r ⟨(aI s r).d,(aI s r).q++[d],(aI s r).g⟩) r).q=(aI s r).q++[d]:=by rw[hs1,if_pos rfl]
 refine JM (.tup []) p ls (setP s r ⟨(aI s r).d,(aI s r).q++[d],(aI s r).g⟩) (fun j=>if j=r then(9,16) else b4 j) (bX r 8) (pendD ls.length (setP s r ⟨(aI s r).d,(aI s r).q++[d],(aI s r).g⟩) r) [] [[(9,16)]] [[.cells 1 (bF (aI s r).q++[[.sc (.int .i64 (d:Int))]])]]
  ⟨rfl,.inr ⟨r,hrl,by rw[hqs,iT]⟩⟩ rfl (congrArg (fun z=>[Blk.cells 3 z]) hp2) rfl rfl (by rw[hpd]; exact aM _ _) hret rfl rfl (by rw[hpd]; exact m8 fun i hi=>aO hi) (fun j hj=>?_) ⟨⟨⟨_,rfl,ToB.rows rfl (prs _)⟩,trivial⟩,trivial⟩ (hr:=To.tupL ToL.nil)
 unfold bX
 by_cases e:j=r
 ·rw[if_pos e,if_pos e]
  rfl
 ·rw[if_neg e,if_neg e]
  exact c9 rfl hj
def lC (p:Pg) (ls:List Ln) (s:St) (res:AV) (H':Heap):Prop:=res=.tup []∧WOr p ls s H'
set_option maxHeartbeats 16000000 in
theorem F2 {p:Pg} {ls:List Ln} {s:St} {r d:Nat} (x:Act) (hk1:1≤x.k) (hk2:x.k≤16) (hk:dW x.k=false) {Q:Exit→Fr→Heap→Prop}
  (h:AWP Tryz.prog F68.n 8 (aG [1,1,1,0,1,1] F68.code) (D9 0 Q) (j6 r d x) (worldH p ls s)):AWP Tryz.prog F68.n 8 (aG [1,1,1] F68.code) Q (j6 r d x) (worldH p ls s):=by
 show AWP _ _ _ (.block _ _) _ _ _
 have f1:=gU hk1 hk2
 unfold jI at f1
 have u1:dW ((x.k.toNat:Nat):Int)=false:=by rw[show((x.k.toNat:Nat):Int)=x.k by omega]; exact hk
 rw[u1] at f1
 refine AWP.block ?_
 refine AWP.seq ?_
 refine AWP.dk mixed ?_
 unfold worldH aZ boxW ckV j6 plR aJ
 dsimp only
 refine aA ?_
 refine DK.o rfl (bS rfl rfl f1) ?_
 refine aA ?_
 refine DK.nil ⟨by kernel_rfl,?_⟩
 refine AWP.condF rfl ?_
 refine AWP.sub ?_ h
 refine wSub rfl rfl rfl rfl rfl rfl rfl rfl ?_
 unfold j6 plR aJ
 (all_goals exact eP)
theorem pV (p:Pg) (ls:List Ln) (s:St) (x:Pl) (h:x.1 < s.ps.length) (j:Nat):(aI (kP p ls s x) j).q=(aI s j).q∧(aI (kP p ls s x) j).d=(aI s j).d:=by
 unfold kP
 dsimp only
 rw[F3]
 split
 ·rw[eD h]
  split
  ·rename_i e; rw[e]; exact⟨rfl,rfl⟩
  ·exact⟨rfl,rfl⟩
 ·exact⟨rfl,rfl⟩
set_option maxHeartbeats 16000000 in
theorem K3 {p:Pg} {ls:List Ln} {s:St} {r d:Nat} {l:List Act} {x:Act} {b c e:Nat} (hC:d9 p ls) (hrl:r < ls.length) (hpl:s.ps.length=ls.length) (hml:s.mem.length=ls.length) (hra:p.acts[r]?=some l) (hx:l[d]?=some x) (hk:x.k=6∨x.k=7) (hac:acN ls (r,d)=⟨b,c,e⟩) (hb:b < ls.length) (hc:c < (bC s b).length):
  AWP Tryz.prog F68.n 8 (aG [1,1,1] F68.code) (vX F68.n 8 F68.res (lC p ls (kP p ls s (r,d)))) (j6 r d x) (worldH p ls s):=by
 have hk6:dW x.k=false:=by rcases hk with h | h<;>rw[h]<;>rfl
 refine F2 x (by omega) (by omega) hk6 ?_
 have he:=NR p ls s hC hra hx hac hb hc hpl hml (by omega) (by omega) (by omega) b4 (cC ls.length s) (fun _ _=>rfl) (iK.pend _ _)
 have hpe:cC ls.length s=cC ls.length (kP p ls s (r,d)):=tA fun j _=>((pV p ls s (r,d) (by show r < s.ps.length; omega) j).1).symm
 obtain⟨k,xr,a,o,v,w,g⟩:=x
 dsimp only at hk
 unfold j6 aJ
 unfold plR at *
 dsimp only at *
 show AWP _ _ _ (.seq _ _) _ _ _
 rcases hk with rfl | rfl
 ·refine aA ?_
  refine Reg.c (Nat.le_refl _) rfl (he.mono ?_)
  rintro res H' ⟨rfl,rfl⟩
  rw[hpe]
  unfold aZ
  refine aA ?_
  exact HV (N:=0) rfl rfl rfl rfl rfl rfl rfl rfl ⟨rfl,.inl rfl⟩
 ·refine aA ?_
  refine Reg.c (Nat.le_refl _) rfl (he.mono ?_)
  rintro res H' ⟨rfl,rfl⟩
  rw[hpe]
  unfold aZ
  refine aA ?_
  exact HV (N:=0) rfl rfl rfl rfl rfl rfl rfl rfl ⟨rfl,.inl rfl⟩
set_option maxHeartbeats 16000000 in
theorem IJ {p:Pg} {ls:List Ln} {s:St} {r d:Nat} (x:Act) {b:Nat} (hhl:s.held.length=ls.length) (hk:x.k=13∨x.k=14) (hb:x.r=(b:Int)) (hbl:b < ls.length):
  AWP Tryz.prog F68.n 8 (aG [1,1,1] F68.code) (vX F68.n 8 F68.res (lC p ls (setL s b (o4 r x.k (dG s b))))) (j6 r d x) (worldH p ls s):=by
 have hk6:dW x.k=false:=by rcases hk with h | h<;>rw[h]<;>rfl
 refine F2 x (by omega) (by omega) hk6 ?_
 have hp1:=xP hbl
 have hp1l:=lS ls.length
 obtain⟨k,xr,a,o,v,w,g⟩:=x
 dsimp only at hk hb
 subst hb
 unfold j6 aJ plR worldH aZ boxW ckV
 dsimp only
 show AWP _ _ _ (.seq _ _) _ _ _
 rcases hk with rfl | rfl
 ·refine aA ?_
  refine DK.on rfl (oL rfl rfl rfl (aV (aO hbl))) ?_
  refine DK.nil ⟨by kernel_rfl,?_⟩
  refine aA ?_
  exact HV (N:=0) (s:=setL s b (o4 r 13 (dG s b))) rfl rfl rfl rfl rfl rfl rfl (sI (by omega)) ⟨rfl,.inl rfl⟩
 ·refine aA ?_
  refine DK.on rfl (oL rfl rfl rfl (aV (aO hbl))) ?_
  refine DK.nil ⟨by kernel_rfl,?_⟩
  refine aA ?_
  exact HV (N:=0) (s:=setL s b (o4 r 14 (dG s b))) rfl rfl rfl rfl rfl rfl rfl (sI (by omega)) ⟨rfl,.inl rfl⟩
set_option maxHeartbeats 16000000 in
theorem C3 {p:Pg} {ls:List Ln} {s:St} {r d:Nat} (x:Act) {b:Nat} (hhl:s.held.length=ls.length) (hk:x.k=16) (hb:x.r=(b:Int)) (hbl:b < ls.length):
  AWP Tryz.prog F68.n 8 (aG [1,1,1] F68.code) (vX F68.n 8 F68.res (lC p ls (setL s b (qV r (dG s b))))) (j6 r d x) (worldH p ls s):=by
 have hk6:dW x.k=false:=by rw[hk]; rfl
 refine F2 x (by omega) (by omega) hk6 ?_
 have hp1:=xP hbl
 have hp1l:=lS ls.length
 obtain⟨k,xr,a,o,v,w,g⟩:=x
 dsimp only at hk hb
 subst hb
 subst hk
 unfold j6 aJ plR worldH aZ boxW ckV
 dsimp only
 show AWP _ _ _ (.seq _ _) _ _ _
 refine aA ?_
 refine DK.on rfl (DZ rfl rfl (aV (aO hbl))) ?_
 refine DK.nil ⟨by kernel_rfl,?_⟩
 refine aA ?_
 exact HV (N:=0) (s:=setL s b (qV r (dG s b))) rfl rfl rfl rfl rfl rfl rfl (sI (by omega)) ⟨rfl,.inl rfl⟩
set_option maxHeartbeats 16000000 in
theorem HN {p:Pg} {ls:List Ln} {s:St} {r d:Nat} (x:Act) (hk:x.k=8∨x.k=9∨x.k=10∨x.k=11∨x.k=12∨x.k=15):
  AWP Tryz.prog F68.n 8 (aG [1,1,1] F68.code) (vX F68.n 8 F68.res (lC p ls s)) (j6 r d x) (worldH p ls s):=by
 have hk6:dW x.k=false:=by rcases hk with h | h | h | h | h | h<;>rw[h]<;>rfl
 refine F2 x (by omega) (by omega) hk6 ?_
 obtain⟨k,xr,a,o,v,w,g⟩:=x
 dsimp only at hk
 unfold j6 aJ plR worldH aZ boxW ckV
 dsimp only
 show AWP _ _ _ (.seq _ _) _ _ _
 rcases hk with rfl | rfl | rfl | rfl | rfl | rfl<;>(refine aA ?_; exact HV (N:=0) rfl rfl rfl rfl rfl rfl rfl rfl ⟨rfl,.inl rfl⟩)
theorem EY {p:Pg} {r i:Nat} {l:List Act} {ls:List Ln} {L:Ln} (hL:ls[r]?=some L) (hO:zO p r l L) (hi:i < l.length):pW ls (r,i)=sG r l i:=by
 unfold pW
 simp only[hL]
 rw[hO.pre.acc i,if_pos hi]
theorem ER {p:Pg} {r i:Nat} {l:List Act} {x:Act} {ls:List Ln} {L:Ln} (hL:ls[r]?=some L) (hO:zO p r l L) (hx:l[i]?=some x) (hk:x.k=6∨x.k=7):acN ls (r,i)=⟨(r:Int),((x.a.toNat:Nat):Int),i⟩∧x.a.toNat < p.cells.toNat:=by
 have hi:=(gEs.1 hx).1
 have ha:=(hO.act i x hx).cell (by unfold lZ; simp; omega)
 refine⟨?_,by omega⟩
 unfold acN
 rw[EY hL hO hi]
 unfold sG
 rw[hx]
 simp only
 rw[if_neg (by rcases hk with h | h<;>rw[h]<;>decide),if_pos hk]
 show Ac.mk _ _ _=_
 rw[show((x.a.toNat:Nat):Int)=x.a by omega]
theorem FL {p:Pg} {r i:Nat} {l:List Act} {x:Act} {ls:List Ln} {L:Ln} (hL:ls[r]?=some L) (hO:zO p r l L) (hx:l[i]?=some x) (hk:dW x.k=true):
  acN ls (r,i)=⟨((x.r.toNat:Nat):Int),((x.a.toNat:Nat):Int),(o9 l (k6 l i) i x).1⟩∧x.r.toNat < p.acts.length∧x.a.toNat < p.cells.toNat:=by
 have hi:=(gEs.1 hx).1
 have hk5:1≤x.k∧x.k≤5:=of_decide_eq_true hk
 have ha:=(hO.act i x hx).cell (by unfold lZ; simp; omega)
 have hr:=(hO.act i x hx).rank (by unfold eW; simp; omega)
 refine⟨?_,by omega,by omega⟩
 unfold acN
 rw[EY hL hO hi]
 unfold sG
 rw[hx]
 simp only
 rw[if_pos hk]
 show Ac.mk _ _ _=_
 rw[show((x.a.toNat:Nat):Int)=x.a by omega,show((x.r.toNat:Nat):Int)=x.r by omega]
theorem cA.q100 {p:Pg} {ls:List Ln} {s:St} (hC:d9 p ls) (hS:cA p ls s) {b:Nat} (hb:b < ls.length):(aI s b).q.length≤100∧(aI s b).d≤100:=by
 have h1:=hS.d b hb
 have h2:=hS.q b hb
 have hn:=hC.len
 have h3:=gEg (show b < p.acts.length by omega)
 obtain⟨L',hL',hO'⟩:=hC.get h3
 have:=hO'.len
 have:=dP h3
 omega
theorem K8 {p:Pg} {ls:List Ln} {s:St} {r:Nat} (hC:d9 p ls) (hS:cA p ls s) (hrl:r < ls.length) (hdl:(aI s r).d < cI p r):
  aQ Tryz.prog 68 [.ptr 0 0 0 0,.sc (.int .i64 (r:Int))] (worldH p ls s) (lC p ls (qQ p ls s r)):=by
 have hn:=hC.len
 have hra:=gEg (show r < p.acts.length by omega)
 have hlen:=dP hra
 obtain⟨L,hL,hO⟩:=hC.get hra
 rw[hlen] at hdl
 have hx:=gEg hdl
 have hok:=hO.act _ _ hx
 have hap:=jL hra hx
 have hq:=hS.q100 hC hrl
 have hpl:r < s.ps.length:=by have:=hS.pl; omega
 have hsp:qQ p ls s r=if dW p.acts[r][(aI s r).d].k=true then setP s r ⟨(aI s r).d+1,(aI s r).q++[(aI s r).d],(aI s r).g⟩
   else if p.acts[r][(aI s r).d].k=6∨p.acts[r][(aI s r).d].k=7 then kP p ls (setP s r ⟨(aI s r).d+1,(aI s r).q,(aI s r).g⟩) (r,(aI s r).d)
   else if p.acts[r][(aI s r).d].k=13∨p.acts[r][(aI s r).d].k=14 then setL (setP s r ⟨(aI s r).d+1,(aI s r).q,(aI s r).g⟩) p.acts[r][(aI s r).d].r.toNat (o4 r p.acts[r][(aI s r).d].k (dG s p.acts[r][(aI s r).d].r.toNat))
   else if p.acts[r][(aI s r).d].k=16 then setL (setP s r ⟨(aI s r).d+1,(aI s r).q,(aI s r).g⟩) p.acts[r][(aI s r).d].r.toNat (qV r (dG s p.acts[r][(aI s r).d].r.toNat))
   else setP s r ⟨(aI s r).d+1,(aI s r).q,(aI s r).g⟩:=by
  unfold qQ
  dsimp only
  rw[hap]
 rw[hsp]
 clear hsp
 refine aQ.of cF68 ?_ (nlB rfl)
 refine stepA hC hrl hS.pl hra hx (by omega) _ ?_
 generalize p.acts[r]=l at *
 generalize l[(aI s r).d]=x at *
 have hs1:=eD (s:=s) (x:=⟨(aI s r).d+1,(aI s r).q,(aI s r).g⟩) hpl
 have hs1r:aI (setP s r ⟨(aI s r).d+1,(aI s r).q,(aI s r).g⟩) r=⟨(aI s r).d+1,(aI s r).q,(aI s r).g⟩:=by rw[hs1,if_pos rfl]
 have hk1:=hok.k1
 have hk16:=hok.k16
 by_cases h1:dW x.k=true
 ·rw[if_pos h1]
  have:=MO (p:=p) (ls:=ls) (s:=setP s r ⟨(aI s r).d+1,(aI s r).q,(aI s r).g⟩) (r:=r) (d:=(aI s r).d) x hrl (by unfold setP; simp[hS.pl]) hk1 hk16 h1 (by rw[hs1r]; show(aI s r).q.length≤_; omega)
  rw[hs1r] at this
  have e:setP (setP s r ⟨(aI s r).d+1,(aI s r).q,(aI s r).g⟩) r ⟨(aI s r).d+1,(aI s r).q++[(aI s r).d],(aI s r).g⟩=setP s r ⟨(aI s r).d+1,(aI s r).q++[(aI s r).d],(aI s r).g⟩:=by
   unfold setP
   simp
  dsimp only at this
  rw[e] at this
  exact this
 rw[if_neg h1]
 have h1':¬ (1≤x.k∧x.k≤5):=fun h=>h1 (dTr h)
 by_cases h2:x.k=6∨x.k=7
 ·rw[if_pos h2]
  obtain⟨a1,a2⟩:=ER hL hO hx h2
  exact K3 (s:=setP s r ⟨(aI s r).d+1,(aI s r).q,(aI s r).g⟩) hC hrl (by unfold setP; simp[hS.pl]) hS.ml hra hx h2 a1 hrl (by rw[pN,hS.m r hrl]; exact a2)
 rw[if_neg h2]
 by_cases h3:x.k=13∨x.k=14
 ·rw[if_pos h3]
  have hrk:=hok.rank (by unfold eW; simp; omega)
  exact IJ (s:=setP s r ⟨(aI s r).d+1,(aI s r).q,(aI s r).g⟩) x (b:=x.r.toNat) hS.hl h3 (by omega) (by omega)
 rw[if_neg h3]
 by_cases h4:x.k=16
 ·rw[if_pos h4]
  have hrk:=hok.rank (by unfold eW; simp; omega)
  exact C3 (s:=setP s r ⟨(aI s r).d+1,(aI s r).q,(aI s r).g⟩) x (b:=x.r.toNat) hS.hl h4 (by omega) (by omega)
 rw[if_neg h4]
 exact HN x (by omega)
theorem N7 {p:Pg} {ls:List Ln} {s:St} {r:Nat} (hC:d9 p ls) (hS:cA p ls s) (hrl:r < ls.length) (hdl:(aI s r).d < cI p r):
  aQ Tryz.prog 67 [.cptr [.ptr 0 0 0 0],.cptr [.sc (.int .i64 (r:Int))]] (worldH p ls s) (lC p ls (qQ p ls s r)):=by
 refine aQ.of cF67 ?_ (nlB rfl)
 have h:=K8 hC hS hrl hdl
 refine aA ?_
 refine Reg.c (Nat.le_refl _) rfl (h.mono ?_)
 rintro res H' ⟨rfl,hH⟩
 refine aA ?_
 exact⟨.inl rfl,_,_,_,rfl,.refl _ _ _,rfl,hH⟩
end Go.Proofs.YtkjoolaahocgdaaGreat
