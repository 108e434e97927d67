import Derived.Test.YtgdocflpobncmaaGreatGFtG5
import Derived.Test.YtgdocflpobncmaaGreatGFtD7
import Derived.Test.YtgdocflpobncmaaGreatGAvM3
import Derived.Test.YtgdocflpobncmaaGreatGFtE5
set_option maxHeartbeats 4000000
namespace Go.Proofs.YtgdocflpobncmaaGreat
open Go.Av Go.Proofs
set_option maxRecDepth 20000
theorem lX (n:Int):aB Tryz.prog 158 [iv n] (bv (!aJ n (-mP) mP)):=by
 refine aB.mkI cF158 (nlB rfl) ?_;unfold aJ mP
 by_cases h1:n < -1048576
 ·rw[dFa (show¬ -1048576≤n by omega)]
  refine aA ?_;rw[dTr h1];refine aA ?_;exact aG.w
 ·rw[dTr (show -1048576≤n by omega)]
  refine aA ?_;rw[dFa h1];refine aA ?_
  by_cases h2:1048576 < n
  ·rw[dTr h2,dFa (show¬ n≤1048576 by omega)]
   exact aG.w
  ·rw[dFa h2,dTr (show n≤1048576 by omega)]
   exact aG.w
def OM (k c st:Int):Bool:=!aJ st (-mP) mP || (decide (k=6∨k=7) && !aJ c 1 4096)
def y9 (k c b st:Int):Bool:=OM k c st || (decide (k=7) && !aJ b 1 4096)
theorem xM (l:List Int) (n lo hi:Int):cO (l++[n]) lo hi=(cO l lo hi && aJ n lo hi):=by simp[cO]
def LE (sz bl pl:List Int) (i:Nat):Bool:=aJ (sz.getD i 0) 1 4096 && aJ (bl.getD i 0) 1 (sz.getD i 0) && aJ (pl.getD i 0) 0 (sz.getD i 0 - bl.getD i 0)
def iJ (sz bl pl:List Int) (n:Nat):Bool:=(List.range n).all (LE sz bl pl)
theorem IA (sz bl pl:List Int) (n:Nat):iJ sz bl pl (n+1)=(iJ sz bl pl n && LE sz bl pl n):=by simp[iJ,List.range_succ]
theorem dB {l:List Int} {i:Nat} (h:i < l.length):dO (inR l) (i:Int)=some [iv (l.getD i 0)]:=by
 rw[dJ l i h];simp[h]
theorem num4 {k c b st:Int} {sz bl pl:List Int} {of:List Ty} {g s:Bool} (h10:k=10→pl.length=2) (h11:k=11→bl.length=sz.length∧pl.length=sz.length) (hsz:sz.length≤1000000):
  AWP Tryz.prog F179.n 0 (gZ [1,1,1,1,1,1,1] F179.code) (aG F179.res (iv (if (g || (if k=8∨k=9 then !s else if k=10 then decide (pl.getD 1 0 < 0) else if k=11 then !iJ sz bl pl sz.length else false))=true then 3 else 0))) [(1,.cptr [iv k,iv c,iv b,iv st,.list 1 (inR sz),.list 1 (inR bl),.list 1 (inR pl),.list 8 (aM of)]),(3,bv g),(4,bv s)] []:=by
 show AWP _ _ _ (.seq _ _) _ _ _;have l1:=bF sz
 by_cases k8:k=8
 ·subst k8
  cases g<;>cases s<;>(refine aA ?_; exact aG.w)
 by_cases k9:k=9
 ·subst k9
  cases g<;>cases s<;>(refine aA ?_; exact aG.w)
 by_cases k10:k=10
 ·subst k10
  have hr:=dB (l:=pl) (i:=1) (by rw[h10 rfl]; decide)
  cases g with
  | true=>refine aA ?_; exact aG.w
  | false=>
   generalize pl.getD 1 0=y at *;refine aA ?_
   by_cases hy:y < 0
   ·rw[dTr hy]
    refine aA ?_;exact aG.w
   ·rw[dFa hy]
    refine aA ?_;exact aG.w
 by_cases k11:k=11
 ·subst k11
  obtain⟨e1,e2⟩:=h11 rfl;rw[if_neg (show¬ ((11:Int)=8∨(11:Int)=9) by decide),if_neg (show¬ (11:Int)=10 by decide),if_pos (rfl:(11:Int)=11)];refine aA ?_;refine AWP.loop (fun i:Nat=>[(1,.cptr [iv 11,iv c,iv b,iv st,.list 1 (inR sz),.list 1 (inR bl),.list 1 (inR pl),.list 8 (aM of)]),(3,bv (g || !iJ sz bl pl i)),(7,iv i)]) (fun _=>[]) (fun i=>i≤sz.length) (fun i=>sz.length - i) 0 (nZl _) ?_ ?_
  ·rw[show(g || !iJ sz bl pl 0)=g by simp[iJ]]
   exact Sub.w [] []
  rintro i hi;refine aA ?_;rw[l1];refine AWP.condN (i < sz.length) rfl rfl (fun h=>?_) (fun h=>?_)
  ·have r1:=dB (l:=sz) h
   have r2:=dB (l:=bl) (i:=i) (by omega);have r3:=dB (l:=pl) (i:=i) (by omega);have hsn:=IA sz bl pl i
   cases hg:(g || !iJ sz bl pl i) with
   | true=>
    refine aA ?_;refine DK.nil ⟨by kernel_rfl,?_⟩;refine aA ?_;refine⟨i+1,by omega,by omega,?_⟩;rw[hsn,show(g || !(iJ sz bl pl i && LE sz bl pl i))=true by cases g<;>simp_all];exact Sub.w [] []
   | false=>
    obtain⟨rfl,hs⟩:g=false∧iJ sz bl pl i=true:=by cases g<;>simp_all
    rw[hs,Bool.true_and] at hsn;unfold LE aJ at hsn;generalize sz.getD i 0=x at *;generalize bl.getD i 0=y at *;generalize pl.getD i 0=z at *;refine aA ?_
    by_cases n1:x < 1
    ·rw[dTr n1]
     (have e:iJ sz bl pl (i+1)=false:=(by rw[hsn,Bool.eq_false_iff]; intro q; simp only[bAe,decide_eq_true_eq] at q; omega); refine aA ?_; refine DK.nil ⟨by kernel_rfl,?_⟩; refine aA ?_; refine⟨i+1,by omega,by omega,?_⟩; rw[e]; exact Sub.w [] [])
    rw[dFa n1];refine aA ?_
    by_cases n2:4096 < x
    ·rw[dTr n2]
     (have e:iJ sz bl pl (i+1)=false:=(by rw[hsn,Bool.eq_false_iff]; intro q; simp only[bAe,decide_eq_true_eq] at q; omega); refine aA ?_; refine DK.nil ⟨by kernel_rfl,?_⟩; refine aA ?_; refine⟨i+1,by omega,by omega,?_⟩; rw[e]; exact Sub.w [] [])
    rw[dFa n2];refine aA ?_
    by_cases n3:y < 1
    ·rw[dTr n3]
     (have e:iJ sz bl pl (i+1)=false:=(by rw[hsn,Bool.eq_false_iff]; intro q; simp only[bAe,decide_eq_true_eq] at q; omega); refine aA ?_; refine DK.nil ⟨by kernel_rfl,?_⟩; refine aA ?_; refine⟨i+1,by omega,by omega,?_⟩; rw[e]; exact Sub.w [] [])
    rw[dFa n3];refine aA ?_
    by_cases n4:x < y
    ·rw[dTr n4]
     (have e:iJ sz bl pl (i+1)=false:=(by rw[hsn,Bool.eq_false_iff]; intro q; simp only[bAe,decide_eq_true_eq] at q; omega); refine aA ?_; refine DK.nil ⟨by kernel_rfl,?_⟩; refine aA ?_; refine⟨i+1,by omega,by omega,?_⟩; rw[e]; exact Sub.w [] [])
    rw[dFa n4];refine aA ?_
    by_cases n5:z < 0
    ·rw[dTr n5]
     (have e:iJ sz bl pl (i+1)=false:=(by rw[hsn,Bool.eq_false_iff]; intro q; simp only[bAe,decide_eq_true_eq] at q; omega); refine aA ?_; refine DK.nil ⟨by kernel_rfl,?_⟩; refine aA ?_; refine⟨i+1,by omega,by omega,?_⟩; rw[e]; exact Sub.w [] [])
    rw[dFa n5];refine aA ?_;rw[Av.wrap_small (show -9223372036854775808≤x - y by omega) (by omega)];refine aA ?_
    by_cases n6:x - y < z
    ·rw[dTr n6]
     (have e:iJ sz bl pl (i+1)=false:=(by rw[hsn,Bool.eq_false_iff]; intro q; simp only[bAe,decide_eq_true_eq] at q; omega); refine aA ?_; refine DK.nil ⟨by kernel_rfl,?_⟩; refine aA ?_; refine⟨i+1,by omega,by omega,?_⟩; rw[e]; exact Sub.w [] [])
    rw[dFa n6]
    have e:iJ sz bl pl (i+1)=true:=by
     rw[hsn];simp only[bAe,decide_eq_true_eq];omega
    refine aA ?_;refine DK.nil ⟨by kernel_rfl,?_⟩;refine aA ?_;refine⟨i+1,by omega,by omega,?_⟩;rw[e];exact Sub.w [] []
  ·obtain rfl:sz.length=i:=by omega
   generalize (g || !iJ sz bl pl sz.length)=w
   cases w<;>(refine aA ?_; exact aG.w)
 rw[if_neg (show¬ (k=8∨k=9) by omega),if_neg k10,if_neg k11,Bool.or_false]
 cases g <;>
  (refine aA ?_
   refine AWP.condN (k=8) rfl rfl (fun h=>absurd h k8) (fun _=>?_);refine aA ?_;refine AWP.condN (k=9) rfl rfl (fun h=>absurd h k9) (fun _=>?_);refine aA ?_;refine AWP.condN (k=10) rfl rfl (fun h=>absurd h k10) (fun _=>?_);refine aA ?_;refine AWP.condN (k=11) rfl rfl (fun h=>absurd h k11) (fun _=>?_);refine aA ?_
   exact aG.w)
theorem num2 {k c b st:Int} {sz bl pl:List Int} {of:List Ty} {g:Bool} (h10:k=10→pl.length=2) (h11:k=11→bl.length=sz.length∧pl.length=sz.length) (hsz:sz.length≤1000000) (hbl:bl.length≤1000000) (hpl:pl.length≤1000000):
  AWP Tryz.prog F179.n 0 (gZ [1,1,1,1] F179.code) (aG F179.res (iv (if (((g || !cO bl 0 4096) || !cO pl (-mP) mP) || (if k=8∨k=9 then !(bl.any fun n=>n != 0) else if k=10 then decide (pl.getD 1 0 < 0) else if k=11 then !iJ sz bl pl sz.length else false))=true then 3 else 0))) [(1,.cptr [iv k,iv c,iv b,iv st,.list 1 (inR sz),.list 1 (inR bl),.list 1 (inR pl),.list 8 (aM of)]),(3,bv g)] []:=by
 show AWP _ _ _ (.seq _ _) _ _ _;have l2:=bF bl;have l3:=bF pl;refine aA ?_;refine AWP.loop (fun i:Nat=>[(1,.cptr [iv k,iv c,iv b,iv st,.list 1 (inR sz),.list 1 (inR bl),.list 1 (inR pl),.list 8 (aM of)]),(3,bv (g || !cO (bl.take i) 0 4096)),(4,bv ((bl.take i).any fun n=>n != 0)),(5,iv i)]) (fun _=>[]) (fun i=>i≤bl.length) (fun i=>bl.length - i) 0 (nZl _) ?_ ?_
 ·rw[show(g || !cO (bl.take 0) 0 4096)=g by simp[cO],show((bl.take 0).any fun n=>n != 0)=false from rfl]
  exact Sub.w [] []
 ·rintro i hi
  refine aA ?_;rw[l2];refine AWP.condN (i < bl.length) rfl rfl (fun h=>?_) (fun h=>?_)
  ·have r:=dB h
   have e1:cO (bl.take (i+1)) 0 4096=(cO (bl.take i) 0 4096 && aJ (bl.getD i 0) 0 4096):=by
    rw[List.take_add_one,gEg h,show bl.getD i 0=bl[i] by simp[h]];exact xM _ _ _ _
   have e2:((bl.take (i+1)).any fun n=>n != 0)=(((bl.take i).any fun n=>n != 0) || (bl.getD i 0 != 0)):=by
    rw[List.take_add_one,gEg h,show bl.getD i 0=bl[i] by simp[h],List.any_append];simp only[Option.toList_some,List.any_cons,List.any_nil,Bool.or_false]
   generalize (bl.take i).any (fun n=>n != 0)=s at *;generalize cO (bl.take i) 0 4096=a at *;generalize bl.getD i 0=x at *;unfold aJ at e1
   obtain⟨w,hw⟩:∃ w,w=(g || !a):=⟨_,rfl⟩
   have e3:(g || !(a && (decide (0≤x) && decide (x≤4096))))=(w || (decide (x < 0) || decide (4096 < x))):=by
    rw[hw,show decide (0≤x)=!decide (x < 0) by(rw[← decide_not]; exact decide_eq_decide.2 (by omega)),show decide (x≤4096)=!decide (4096 < x) by(rw[← decide_not]; exact decide_eq_decide.2 (by omega))]
    cases g<;>cases a<;>simp
   rw[← hw];clear hw;refine aA ?_
   cases w with
   | true=>
    refine aA ?_
    cases s with
    | true=>
     refine aA ?_
     (refine⟨i+1,by omega,by omega,?_⟩; rw[e1,e2,e3]; show Sub _ _ _ _ [(1,.cptr [iv k,iv c,iv b,iv st,.list 1 (inR sz),.list 1 (inR bl),.list 1 (inR pl),.list 8 (aM of)]),(3,bv true),(4,bv true),(5,iv ((i+1:Nat):Int))] []; exact Sub.w [] [])
    | false=>
     refine aA ?_
     (refine⟨i+1,by omega,by omega,?_⟩; rw[e1,e2,e3]; show Sub _ _ _ _ [(1,.cptr [iv k,iv c,iv b,iv st,.list 1 (inR sz),.list 1 (inR bl),.list 1 (inR pl),.list 8 (aM of)]),(3,bv true),(4,bv (x != 0)),(5,iv ((i+1:Nat):Int))] []; exact Sub.w [] [])
   | false=>
    refine aA ?_
    by_cases n1:x < 0
    ·rw[dTr n1] at e3 ⊢
     refine aA ?_
     cases s with
     | true=>
      refine aA ?_
      (refine⟨i+1,by omega,by omega,?_⟩; rw[e1,e2,e3]; show Sub _ _ _ _ [(1,.cptr [iv k,iv c,iv b,iv st,.list 1 (inR sz),.list 1 (inR bl),.list 1 (inR pl),.list 8 (aM of)]),(3,bv true),(4,bv true),(5,iv ((i+1:Nat):Int))] []; exact Sub.w [] [])
     | false=>
      refine aA ?_
      (refine⟨i+1,by omega,by omega,?_⟩; rw[e1,e2,e3]; show Sub _ _ _ _ [(1,.cptr [iv k,iv c,iv b,iv st,.list 1 (inR sz),.list 1 (inR bl),.list 1 (inR pl),.list 8 (aM of)]),(3,bv true),(4,bv (x != 0)),(5,iv ((i+1:Nat):Int))] []; exact Sub.w [] [])
    ·rw[dFa n1] at e3 ⊢
     refine aA ?_
     cases s with
     | true=>
      refine aA ?_
      (refine⟨i+1,by omega,by omega,?_⟩; rw[e1,e2,e3]; show Sub _ _ _ _ [(1,.cptr [iv k,iv c,iv b,iv st,.list 1 (inR sz),.list 1 (inR bl),.list 1 (inR pl),.list 8 (aM of)]),(3,bv (decide (4096 < x))),(4,bv true),(5,iv ((i+1:Nat):Int))] []; exact Sub.w [] [])
     | false=>
      refine aA ?_
      (refine⟨i+1,by omega,by omega,?_⟩; rw[e1,e2,e3]; show Sub _ _ _ _ [(1,.cptr [iv k,iv c,iv b,iv st,.list 1 (inR sz),.list 1 (inR bl),.list 1 (inR pl),.list 8 (aM of)]),(3,bv (decide (4096 < x))),(4,bv (x != 0)),(5,iv ((i+1:Nat):Int))] []; exact Sub.w [] [])
  ·obtain rfl:bl.length=i:=by omega
   rw[List.take_length];generalize (bl.any fun n=>n != 0)=s at *
   obtain⟨g2,hg2⟩:∃ g2,g2=(g || !cO bl 0 4096):=⟨_,rfl⟩
   rw[← hg2];refine aA ?_;refine AWP.loop (fun i:Nat=>[(1,.cptr [iv k,iv c,iv b,iv st,.list 1 (inR sz),.list 1 (inR bl),.list 1 (inR pl),.list 8 (aM of)]),(3,bv (g2 || !cO (pl.take i) (-mP) mP)),(4,bv s),(6,iv i)]) (fun _=>[]) (fun i=>i≤pl.length) (fun i=>pl.length - i) 0 (nZl _) ?_ ?_
   ·rw[show(g2 || !cO (pl.take 0) (-mP) mP)=g2 by simp[cO]]
    exact Sub.w [] []
   rintro i hi;refine aA ?_;rw[l3];refine AWP.condN (i < pl.length) rfl rfl (fun h=>?_) (fun h=>?_)
   ·have r:=dB h
    have e1:cO (pl.take (i+1)) (-mP) mP=(cO (pl.take i) (-mP) mP && aJ (pl.getD i 0) (-mP) mP):=by
     rw[List.take_add_one,gEg h,show pl.getD i 0=pl[i] by simp[h]];exact xM _ _ _ _
    have hf:=lX (pl.getD i 0)
    have e3:(g2 || !cO (pl.take (i+1)) (-mP) mP)=((g2 || !cO (pl.take i) (-mP) mP) || !aJ (pl.getD i 0) (-mP) mP):=by
     rw[e1]
     cases g2<;>cases cO (pl.take i) (-mP) mP<;>simp
    generalize (g2 || !cO (pl.take i) (-mP) mP)=w at *;generalize pl.getD i 0=x at *
    cases w with
    | true=>
     refine aA ?_;refine⟨i+1,by omega,by omega,?_⟩;rw[e3];show Sub _ _ _ _ [(1,.cptr [iv k,iv c,iv b,iv st,.list 1 (inR sz),.list 1 (inR bl),.list 1 (inR pl),.list 8 (aM of)]),(3,bv true),(4,bv s),(6,iv ((i+1:Nat):Int))] [];exact Sub.w [] []
    | false=>
     refine aA ?_;refine⟨i+1,by omega,by omega,?_⟩;rw[e3];show Sub _ _ _ _ [(1,.cptr [iv k,iv c,iv b,iv st,.list 1 (inR sz),.list 1 (inR bl),.list 1 (inR pl),.list 8 (aM of)]),(3,bv (!aJ x (-mP) mP)),(4,bv s),(6,iv ((i+1:Nat):Int))] [];exact Sub.w [] []
   ·obtain rfl:pl.length=i:=by omega
    rw[List.take_length];refine AWP.exit ?_;refine AWP.sub ?_ (num4 (k:=k) (c:=c) (b:=b) (st:=st) (of:=of) (s:=s) h10 h11 hsz);exact Sub.w [] []
def D0 (k c b st:Int) (sz bl pl:List Int):Bool:=!(((y9 k c b st || !cO bl 0 4096) || !cO pl (-mP) mP) || (if k=8∨k=9 then !(bl.any fun n=>n != 0) else if k=10 then decide (pl.getD 1 0 < 0) else if k=11 then !iJ sz bl pl sz.length else false))
theorem vB {k c b st:Int} {sz bl pl:List Int} {of:List Ty} (h10:k=10→pl.length=2) (h11:k=11→bl.length=sz.length∧pl.length=sz.length) (hsz:sz.length≤1000000) (hbl:bl.length≤1000000) (hpl:pl.length≤1000000):
  aB Tryz.prog 179 [.agg (tyR (.mk k c b st sz bl pl of))] (iv (if D0 k c b st sz bl pl=true then 0 else 3)):=by
 rw[tyR];refine aB.mkI cF179 (nlB rfl) ?_;have hf:=lX st
 have e0:(if D0 k c b st sz bl pl=true then(0:Int) else 3)=if (((y9 k c b st || !cO bl 0 4096) || !cO pl (-mP) mP) || (if k=8∨k=9 then !(bl.any fun n=>n != 0) else if k=10 then decide (pl.getD 1 0 < 0) else if k=11 then !iJ sz bl pl sz.length else false))=true then 3 else 0:=by
  unfold D0;generalize (((y9 k c b st || !cO bl 0 4096) || !cO pl (-mP) mP) || (if k=8∨k=9 then !(bl.any fun n=>n != 0) else if k=10 then decide (pl.getD 1 0 < 0) else if k=11 then !iJ sz bl pl sz.length else false))=w
  cases w<;>rfl
 rw[e0]
 have key:∀ g,g=y9 k c b st→AWP Tryz.prog F179.n 0 (gZ [1,1,1,1] F179.code) (aG F179.res (iv (if (((y9 k c b st || !cO bl 0 4096) || !cO pl (-mP) mP) || (if k=8∨k=9 then !(bl.any fun n=>n != 0) else if k=10 then decide (pl.getD 1 0 < 0) else if k=11 then !iJ sz bl pl sz.length else false))=true then 3 else 0))) [(1,.cptr [iv k,iv c,iv b,iv st,.list 1 (inR sz),.list 1 (inR bl),.list 1 (inR pl),.list 8 (aM of)]),(3,bv g)] []:=fun g hg=>by
  subst hg;exact num2 h10 h11 hsz hbl hpl
 generalize (if (((y9 k c b st || !cO bl 0 4096) || !cO pl (-mP) mP) || (if k=8∨k=9 then !(bl.any fun n=>n != 0) else if k=10 then decide (pl.getD 1 0 < 0) else if k=11 then !iJ sz bl pl sz.length else false))=true then(3:Int) else 0)=V at *;unfold y9 OM at key
 have w1:∀ x:Int,(!aJ x 1 4096)=(decide (x < 1) || decide (4096 < x)):=fun x=>by
  unfold aJ;rw[Bool.not_and,← decide_not,← decide_not,decide_eq_decide.2 (show¬ 1≤x↔x < 1 by omega),decide_eq_decide.2 (show¬ x≤4096↔4096 < x by omega)]
 rw[w1,w1] at key;clear w1 e0;generalize (!aJ st (-mP) mP)=g at *;refine AWP.seq ?_;refine AWP.region ?_;refine sY ?_;refine AWP.seq ?_;refine AWP.region ?_;refine sY ?_;refine AWP.joinE (σ:=Unit) (fun _=>[(1,.cptr [iv k,iv c,iv b,iv st,.list 1 (inR sz),.list 1 (inR bl),.list 1 (inR pl),.list 8 (aM of)]),(3,bv (g || (decide (k=6∨k=7) && (decide (c < 1) || decide (4096 < c)))))]) (fun _=>[]) (fun _=>True) ?_ ?_
 ·by_cases k6:k=6
  ·rw[show decide (k=6∨k=7)=true by simp[k6],Bool.true_and]
   subst k6
   (cases g with | true=>(refine aA ?_; (refine⟨(),trivial,?_⟩; exact Sub.w [] [])) | false=>(refine aA ?_; by_cases n1:c < 1; (rw[dTr n1]; refine aA ?_; (refine⟨(),trivial,?_⟩; exact Sub.w [] [])); rw[dFa n1]; refine aA ?_; (refine⟨(),trivial,?_⟩; exact Sub.w [] [])))
  by_cases k7:k=7
  ·rw[show decide (k=6∨k=7)=true by simp[k7],Bool.true_and]
   subst k7
   (cases g with | true=>(refine aA ?_; (refine⟨(),trivial,?_⟩; exact Sub.w [] [])) | false=>(refine aA ?_; by_cases n1:c < 1; (rw[dTr n1]; refine aA ?_; (refine⟨(),trivial,?_⟩; exact Sub.w [] [])); rw[dFa n1]; refine aA ?_; (refine⟨(),trivial,?_⟩; exact Sub.w [] [])))
  ·rw[show decide (k=6∨k=7)=false by simp[k6,k7],Bool.false_and,Bool.or_false]
   refine aA ?_;rw[show(k == 6)=false by simpa using k6];refine aA ?_;refine AWP.condN (k=7) rfl rfl (fun h=>absurd h k7) (fun _=>?_);refine aA ?_
   (refine⟨(),trivial,?_⟩; exact Sub.w [] [])
 rintro _ _;generalize (g || (decide (k=6∨k=7) && (decide (c < 1) || decide (4096 < c))))=g at *;refine AWP.joinE (σ:=Unit) (fun _=>[(1,.cptr [iv k,iv c,iv b,iv st,.list 1 (inR sz),.list 1 (inR bl),.list 1 (inR pl),.list 8 (aM of)]),(3,bv (g || (decide (k=7) && (decide (b < 1) || decide (4096 < b)))))]) (fun _=>[]) (fun _=>True) ?_ ?_
 ·by_cases k7:k=7
  ·rw[dTr k7,Bool.true_and]
   subst k7
   (cases g with | true=>(refine aA ?_; (refine⟨(),trivial,?_⟩; exact Sub.w [] [])) | false=>(refine aA ?_; by_cases n1:b < 1; (rw[dTr n1]; refine aA ?_; (refine⟨(),trivial,?_⟩; exact Sub.w [] [])); rw[dFa n1]; refine aA ?_; (refine⟨(),trivial,?_⟩; exact Sub.w [] [])))
  ·rw[dFa k7,Bool.false_and,Bool.or_false]
   refine aA ?_;refine AWP.condN (k=7) rfl rfl (fun h=>absurd h k7) (fun _=>?_);refine aA ?_
   (refine⟨(),trivial,?_⟩; exact Sub.w [] [])
 rintro _ _;exact key _ rfl
theorem qC {k c b st:Int} {sz bl pl:List Int} {n:Nat} (h:dE k c b st sz bl pl n=0):(fl1 k=true∨c=0)∧(fl2 k=true∨b=0∧st=0)∧(fl3 k=true∨bl=[])∧(fl4 k=true∨pl=[])∧(fl5 k=true∨sz=[]):=by
 unfold dE at h;split at h
 ·cases h
 ·rename_i q
  simp only[t8,Bool.or_eq_true,bAe,Bool.not_eq_true',bne_iff_ne,decide_eq_true_eq,not_or,not_and] at q;obtain⟨q1,q2,q3,q4,q5,_⟩:=q;refine⟨?_,?_,?_,?_,?_⟩
  ·cases e:fl1 k with
   | true=>exact .inl rfl
   | false=>exact .inr (dBc (q1 e))
  ·cases e:fl2 k with
   | true=>exact .inl rfl
   | false=>exact .inr ⟨dBc (q2 e).1,dBc (q2 e).2⟩
  ·cases e:fl3 k with
   | true=>exact .inl rfl
   | false=>exact .inr (List.eq_nil_of_length_eq_zero (by have:=q3 e; omega))
  ·cases e:fl4 k with
   | true=>exact .inl rfl
   | false=>exact .inr (List.eq_nil_of_length_eq_zero (by have:=q4 e; omega))
  ·cases e:fl5 k with
   | true=>exact .inl rfl
   | false=>exact .inr (List.eq_nil_of_length_eq_zero (by have:=q5 e; omega))
theorem GH {l:List Int} (h:cO l 0 4096=true):(l.any fun n=>n != 0)=l.any fun n=>decide (0 < n):=by
 unfold cO aJ at h;rw[List.all_eq_true] at h;rw[Bool.eq_iff_iff,List.any_eq_true,List.any_eq_true];constructor
 ·rintro⟨x,hx,q⟩
  have:=h x hx;simp only[bAe,decide_eq_true_eq] at this;simp only[bne_iff_ne] at q;exact⟨x,hx,by simp only[decide_eq_true_eq]; omega⟩
 ·rintro⟨x,hx,q⟩
  simp only[decide_eq_true_eq] at q;exact⟨x,hx,by simp only[bne_iff_ne]; omega⟩
theorem LG {sz bl pl:List Int} (hl:bl.length=sz.length) (h:iJ sz bl pl sz.length=true):cO bl 0 4096=true:=by
 unfold cO;rw[List.all_eq_true];intro x hx;obtain⟨i,hi,rfl⟩:=List.mem_iff_getElem.1 hx;unfold iJ at h;have:=List.all_eq_true.1 h i (List.mem_range.2 (by omega));simp only[LE,aJ,bAe,decide_eq_true_eq] at this ⊢
 have e:bl.getD i 0=bl[i]:=by simp[hi]
 rw[e] at this;omega
theorem J8 {k c b st:Int} {sz bl pl:List Int} {n:Nat} (hk:6≤k∧k≤11) (h:dE k c b st sz bl pl n=0):D0 k c b st sz bl pl=qX k c b st sz bl pl:=by
 obtain⟨i1,i2,i3,i4,i5,i6⟩:=i9 hk h;obtain⟨b1,b2,b3,b4,b5⟩:=qC h;unfold D0 y9 OM qX;generalize aJ st (-mP) mP=ws;generalize hwp:cO pl (-mP) mP=wp
 obtain rfl | rfl | rfl | rfl | rfl | rfl:k=6∨k=7∨k=8∨k=9∨k=10∨k=11:=by omega
 ·have e:bl=[]:=by rcases b3 with q | q; cases q; exact q
  subst e;rw[show cO [] 0 4096=true from rfl];generalize aJ c 1 4096=wc
  cases ws<;>cases wp<;>cases wc<;>rfl
 ·have e:bl=[]:=by rcases b3 with q | q; cases q; exact q
  subst e;rw[show cO [] 0 4096=true from rfl];generalize aJ c 1 4096=wc;generalize aJ b 1 4096=wb
  cases ws<;>cases wp<;>cases wc<;>cases wb<;>rfl
 ·rw[if_pos (show(8:Int)=8∨(8:Int)=9 by decide),if_neg (show¬ (8:Int)=6 by decide),if_neg (show¬ (8:Int)=7 by decide),if_pos (show(8:Int)=8∨(8:Int)=9 by decide)]
  unfold tB
  cases wb:cO bl 0 4096 with
  | false=>cases ws<;>cases wp<;>simp
  | true=>
   rw[GH wb];generalize (bl.any fun n=>decide (0 < n))=an
   cases ws<;>cases wp<;>cases an<;>rfl
 ·rw[if_pos (show(9:Int)=8∨(9:Int)=9 by decide),if_neg (show¬ (9:Int)=6 by decide),if_neg (show¬ (9:Int)=7 by decide),if_pos (show(9:Int)=8∨(9:Int)=9 by decide)]
  unfold tB
  cases wb:cO bl 0 4096 with
  | false=>cases ws<;>cases wp<;>simp
  | true=>
   rw[GH wb];generalize (bl.any fun n=>decide (0 < n))=an
   cases ws<;>cases wp<;>cases an<;>rfl
 ·have e:bl=[]:=by rcases b3 with q | q; cases q; exact q
  subst e;rw[show cO [] 0 4096=true from rfl];generalize pl.getD 1 0=y;rw[if_neg (show¬ ((10:Int)=8∨(10:Int)=9) by decide),if_pos (rfl:(10:Int)=10),if_neg (show¬ (10:Int)=6 by decide),if_neg (show¬ (10:Int)=7 by decide),if_neg (show¬ ((10:Int)=8∨(10:Int)=9) by decide),if_pos (rfl:(10:Int)=10),show decide (0≤y)=!decide (y < 0) by(rw[← decide_not]; exact decide_eq_decide.2 (by omega))];generalize decide (y < 0)=d
  cases ws<;>cases wp<;>cases d<;>rfl
 ·rw[if_neg (show¬ ((11:Int)=8∨(11:Int)=9) by decide),if_neg (show¬ (11:Int)=10 by decide),if_pos (rfl:(11:Int)=11),if_neg (show¬ (11:Int)=6 by decide),if_neg (show¬ (11:Int)=7 by decide),if_neg (show¬ ((11:Int)=8∨(11:Int)=9) by decide),if_neg (show¬ (11:Int)=10 by decide),show xA sz bl pl=iJ sz bl pl sz.length from rfl]
  cases ws2:iJ sz bl pl sz.length with
  | false=>cases ws<;>cases wp<;>simp
  | true=>
   rw[LG (i6 rfl).2.2.1 ws2]
   cases ws<;>cases wp<;>rfl
theorem JG {k c b st:Int} {sz bl pl:List Int} {n:Nat} (hk:1≤k∧k≤5) (h:dE k c b st sz bl pl n=0):D0 k c b st sz bl pl=true:=by
 obtain⟨b1,b2,b3,b4,b5⟩:=qC h
 obtain rfl | rfl | rfl | rfl | rfl:k=1∨k=2∨k=3∨k=4∨k=5:=by omega
 all_goals
  obtain⟨e1,e2⟩:b=0∧st=0:=by rcases b2 with q | q; cases q; exact q
  obtain e3:bl=[]:=by rcases b3 with q | q; cases q; exact q
  obtain e4:pl=[]:=by rcases b4 with q | q; cases q; exact q
  subst e1 e2 e3 e4;rfl
def fE (l:List Shp) (i:Nat):Nat:=(l.getD i shp0).es.length
def shL (l:List Shp):List (List AV):=l.map shR
theorem iY (l:List Shp):(shL l).length=l.length:=by simp[shL]
theorem kM (l:List Shp) (i:Nat) (h:i < l.length):dO (shL l) (i:Int)=some (shR (l.getD i shp0)):=by
 have:=eD shR l i h;rw[show l.getD i shp0=l[i] by simp[h]];exact this
instance (l:List Shp):PRs (shL l):=by unfold shL; infer_instance
def lS (bl:List Int) (l:List Shp):Nat→Int
 | 0=>0
 | n+1=>lS bl l n+bl.getD n 0 * fE l (min n (l.length - 1))
def lI:List Int→Int→Int
 | [],n=>n
 | x::xs,n=>if n≤4096 then lI xs (n * x) else n
def IU (k c b:Int) (bl:List Int) (l:List Shp):Int:=
 if k=6 then c * fE l 0 else if k=7 then c * b * fE l 0 else if k=8∨k=9 then lS bl l bl.length else if k=10 then fE l 0 else if k=11 then lI bl (fE l 0) else 1
theorem zF {bl:List Int} {l:List Shp} (h1:∀ i,fE l i≤4096) (h2:∀ i,0≤bl.getD i 0∧bl.getD i 0≤4096):∀ n:Nat,0≤lS bl l n∧lS bl l n≤n * 16777216
 | 0=>⟨Int.le_refl _,Int.le_refl _⟩
 | n+1=>by
  obtain⟨q1,q2⟩:=zF h1 h2 n;obtain⟨q3,q4⟩:=h2 n;have q5:=h1 (min n (l.length - 1));have m1:0≤bl.getD n 0 * (fE l (min n (l.length - 1)):Int):=Int.mul_nonneg q3 (by omega);have m2:bl.getD n 0 * (fE l (min n (l.length - 1)):Int)≤4096 * 4096:=Int.mul_le_mul q4 (by omega) (by omega) (by omega);unfold lS;rw[Int.natCast_add];omega
theorem NT {k c b st:Int} {sz bl pl:List Int} {of:List Ty} {l:List Shp} (h1:∀ i,fE l i≤4096) (hl:6≤k∧k≤11→l≠[]) (hc:0≤c∧c≤4096) (hb:0≤b∧b≤4096) (h2:∀ i,0≤bl.getD i 0∧bl.getD i 0≤4096) (hbl:bl.length≤4096) (hn:l.length≤1000000):
  aB Tryz.prog 180 [.agg (tyR (.mk k c b st sz bl pl of)),.list 3 (shL l)] (iv (IU k c b bl l)):=by
 rw[tyR];refine aB.mkI cF180 (nlB rfl) ?_
 obtain⟨C,rfl⟩:∃ C:Nat,c=C:=⟨c.toNat,by omega⟩
 obtain⟨B,rfl⟩:∃ B:Nat,b=B:=⟨b.toNat,by omega⟩
 have hll:=iY l;have hel:=bZ (l.getD 0 shp0).es;have h10:=h1 0;unfold IU
 by_cases hk:6≤k∧k≤11
 ·have hl0:=List.length_pos_iff.2 (hl hk)
  have r0:=kM l 0 hl0;unfold fE at h10 ⊢;generalize l.getD 0 shp0=s0 at *;unfold shR at r0;have m1:C * s0.es.length≤4096 * 4096:=Nat.mul_le_mul (by omega) h10;have m2:C * B≤4096 * 4096:=Nat.mul_le_mul (by omega) (by omega);have m3:C * B * s0.es.length≤4096 * 4096 * 4096:=Nat.mul_le_mul m2 h10
  obtain rfl | rfl | rfl | rfl | rfl | rfl:k=6∨k=7∨k=8∨k=9∨k=10∨k=11:=by omega
  ·refine aA ?_
   refine DK.nil ⟨by kernel_rfl,?_⟩;refine aA ?_;refine OH (.inr rfl) rfl ?_;rw[hel,if_pos rfl,← Int.natCast_mul,Av.wrap_small (by omega) (by omega)]
  ·refine aA ?_
   refine DK.nil ⟨by kernel_rfl,?_⟩;refine aA ?_;refine OH (.inr rfl) rfl ?_;rw[hel,if_neg (by decide),if_pos rfl,← Int.natCast_mul,← Int.natCast_mul,Av.wrap_small (by omega) (by omega),Int.natCast_mul]
  ·rw[if_neg (by decide),if_neg (by decide),if_pos (.inl rfl)]
   have l2:=bF bl;refine aA ?_;refine AWP.loop (fun i:Nat=>[(1,.list 3 (shL l)),(2,.cptr [iv 8,iv (C:Nat),iv (B:Nat),iv st,.list 1 (inR sz),.list 1 (inR bl),.list 1 (inR pl),.list 8 (aM of)]),(5,iv (lS bl l i)),(6,iv i)]) (fun _=>[]) (fun i=>i≤bl.length) (fun i=>bl.length - i) 0 (nZl _) ?_ ?_
   ·exact Sub.w [] []
   rintro i hi;refine aA ?_;rw[l2];refine AWP.condN (i < bl.length) rfl rfl (fun h=>?_) (fun h=>?_)
   ·have r2:=dB h
    have r3:=kM l (min i (l.length - 1)) (by omega);have hes:lS bl l (i+1)=lS bl l i+bl.getD i 0 * (fE l (min i (l.length - 1)):Int):=rfl;obtain⟨q1,q2⟩:=zF h1 h2 i;obtain⟨q3,q4⟩:=h2 i;have q5:=h1 (min i (l.length - 1));have u1:0≤bl.getD i 0 * (fE l (min i (l.length - 1)):Int):=Int.mul_nonneg q3 (by omega);have u2:bl.getD i 0 * (fE l (min i (l.length - 1)):Int)≤4096 * 4096:=Int.mul_le_mul q4 (by omega) (by omega) (by omega);unfold fE at hes q5 u1 u2;have hel2:=bZ (l.getD (min i (l.length - 1)) shp0).es;generalize l.getD (min i (l.length - 1)) shp0=s1 at *;unfold shR at r3;generalize lS bl l i=n at *;generalize bl.getD i 0=x at *;rw[← hll] at r3
    have hl1:0 < (shL l).length:=by omega
    refine aA ?_;rw[hel2,Av.wrap_small (show -9223372036854775808≤x * (s1.es.length:Int) by omega) (by omega),Av.wrap_small (show -9223372036854775808≤n+x * (s1.es.length:Int) by omega) (by omega)];refine DK.nil ⟨by kernel_rfl,?_⟩;refine aA ?_;refine⟨i+1,by omega,by omega,?_⟩;rw[hes];exact Sub.w [] []
   ·obtain rfl:bl.length=i:=by omega
    refine aA ?_;exact aG.w
  ·rw[if_neg (by decide),if_neg (by decide),if_pos (.inr rfl)]
   have l2:=bF bl;refine aA ?_;refine AWP.loop (fun i:Nat=>[(1,.list 3 (shL l)),(2,.cptr [iv 9,iv (C:Nat),iv (B:Nat),iv st,.list 1 (inR sz),.list 1 (inR bl),.list 1 (inR pl),.list 8 (aM of)]),(5,iv (lS bl l i)),(6,iv i)]) (fun _=>[]) (fun i=>i≤bl.length) (fun i=>bl.length - i) 0 (nZl _) ?_ ?_
   ·exact Sub.w [] []
   rintro i hi;refine aA ?_;rw[l2];refine AWP.condN (i < bl.length) rfl rfl (fun h=>?_) (fun h=>?_)
   ·have r2:=dB h
    have r3:=kM l (min i (l.length - 1)) (by omega);have hes:lS bl l (i+1)=lS bl l i+bl.getD i 0 * (fE l (min i (l.length - 1)):Int):=rfl;obtain⟨q1,q2⟩:=zF h1 h2 i;obtain⟨q3,q4⟩:=h2 i;have q5:=h1 (min i (l.length - 1));have u1:0≤bl.getD i 0 * (fE l (min i (l.length - 1)):Int):=Int.mul_nonneg q3 (by omega);have u2:bl.getD i 0 * (fE l (min i (l.length - 1)):Int)≤4096 * 4096:=Int.mul_le_mul q4 (by omega) (by omega) (by omega);unfold fE at hes q5 u1 u2;have hel2:=bZ (l.getD (min i (l.length - 1)) shp0).es;generalize l.getD (min i (l.length - 1)) shp0=s1 at *;unfold shR at r3;generalize lS bl l i=n at *;generalize bl.getD i 0=x at *;rw[← hll] at r3
    have hl1:0 < (shL l).length:=by omega
    refine aA ?_;rw[hel2,Av.wrap_small (show -9223372036854775808≤x * (s1.es.length:Int) by omega) (by omega),Av.wrap_small (show -9223372036854775808≤n+x * (s1.es.length:Int) by omega) (by omega)];refine DK.nil ⟨by kernel_rfl,?_⟩;refine aA ?_;refine⟨i+1,by omega,by omega,?_⟩;rw[hes];exact Sub.w [] []
   ·obtain rfl:bl.length=i:=by omega
    refine aA ?_;exact aG.w
  ·refine aA ?_
   refine OH (.inr rfl) rfl ?_;rw[hel];rfl
  ·have l2:=bF bl
   rw[if_neg (by decide),if_neg (by decide),if_neg (by decide),if_neg (by decide),if_pos rfl];refine aA ?_;rw[hel];generalize hV:lI bl (s0.es.length:Nat)=V at *;refine AWP.loop (fun s:Nat×Int=>[(2,.cptr [iv 11,iv (C:Nat),iv (B:Nat),iv st,.list 1 (inR sz),.list 1 (inR bl),.list 1 (inR pl),.list 8 (aM of)]),(5,iv s.2),(7,iv s.1)]) (fun _=>[]) (fun s=>s.1≤bl.length∧lI (bl.drop s.1) s.2=V∧0≤s.2∧s.2≤16777216) (fun s=>bl.length - s.1) (0,(s0.es.length:Nat)) ⟨nZl _,hV,by show(0:Int)≤(s0.es.length:Nat); omega,by show((s0.es.length:Nat):Int)≤_; omega⟩ ?_ ?_
   ·show Sub _ _ _ _ [(2,.cptr [iv 11,iv (C:Nat),iv (B:Nat),iv st,.list 1 (inR sz),.list 1 (inR bl),.list 1 (inR pl),.list 8 (aM of)]),(5,iv (s0.es.length:Nat)),(7,iv 0)] []
    exact Sub.w [] []
   rintro⟨i,n⟩ ⟨hi,hv,n1,n2⟩;replace hi:i≤bl.length:=hi;replace hv:lI (bl.drop i) n=V:=hv;replace n1:0≤n:=n1;replace n2:n≤16777216:=n2;show AWP _ _ _ _ _ [(2,.cptr [iv 11,iv (C:Nat),iv (B:Nat),iv st,.list 1 (inR sz),.list 1 (inR bl),.list 1 (inR pl),.list 8 (aM of)]),(5,iv n),(7,iv i)] [];refine aA ?_;rw[l2]
   by_cases h:i < bl.length
   ·have r2:=dB h
    obtain⟨q3,q4⟩:=h2 i
    have hd:lI (bl.drop i) n=if n≤4096 then lI (bl.drop (i+1)) (n * bl.getD i 0) else n:=by
     rw[List.drop_eq_getElem_cons h,show bl.getD i 0=bl[i] by simp[h]];rfl
    rw[hd] at hv;generalize bl.getD i 0=x at *;rw[dTr h];refine aA ?_
    by_cases h4:n≤4096
    ·rw[dTr h4]
     rw[if_pos h4] at hv;have u1:0≤n * x:=Int.mul_nonneg n1 q3;have u2:n * x≤4096 * 4096:=Int.mul_le_mul h4 q4 (by omega) (by omega);refine aA ?_;rw[Av.wrap_small (show -9223372036854775808≤n * x by omega) (by omega)];refine⟨(i+1,n * x),⟨by show i+1≤_; omega,hv,u1,by show n * x≤_; omega⟩,by show _ - (i+1) < _ - i; omega,?_⟩;show Sub _ _ _ _ [(2,.cptr [iv 11,iv (C:Nat),iv (B:Nat),iv st,.list 1 (inR sz),.list 1 (inR bl),.list 1 (inR pl),.list 8 (aM of)]),(5,iv (n * x)),(7,iv ((i+1:Nat):Int))] [];exact Sub.w [] []
    ·rw[if_neg h4] at hv
     rw[dFa h4,← hv];refine aA ?_;exact aG.w
   ·obtain rfl:bl.length=i:=by omega
    rw[List.drop_length] at hv;replace hv:n=V:=hv;rw[dFa h,← hv];refine aA ?_;exact aG.w
 ·rw[if_neg (by omega),if_neg (by omega),if_neg (by omega),if_neg (by omega),if_neg (by omega)]
  refine aA ?_;refine AWP.condN (k=6) rfl rfl (fun h=>by omega) (fun _=>?_);refine aA ?_;refine AWP.condN (k=7) rfl rfl (fun h=>by omega) (fun _=>?_);refine aA ?_;refine AWP.condN (k=8) rfl rfl (fun h=>by omega) (fun _=>?_);refine aA ?_;refine AWP.condN (k=9) rfl rfl (fun h=>by omega) (fun _=>?_);refine aA ?_;refine AWP.condN (k=10) rfl rfl (fun h=>by omega) (fun _=>?_);refine aA ?_;refine AWP.condN (k=11) rfl rfl (fun h=>by omega) (fun _=>?_);refine aA ?_;exact aG.w
theorem MF {s x:Shp} {by':Int} (B D:Blk) (hs:stB s) (hx:shB x) (h1:-1200000000000000000≤by') (h2:by'≤1200000000000000000):
  aH Tryz.prog 203 [.agg [.hsl 0 0 0 s.es.length,iv s.lo,iv s.hi],.agg [.list 2 (enR x.es),iv x.lo,iv x.hi],iv by'] [[.cells 2 (enR s.es)],[B],[D]] fun res H'=>
   res=.agg [.hsl 3 0 0 (cX s x by').es.length,iv (cX s x by').lo,iv (cX s x by').hi]∧H'=[[.dead],[B],[D],[.cells 2 (enR (cX s x by').es)]]:=by
 refine aH.ins [[B],[D]] (H0:=[[.cells 2 (enR s.es)]]) (HT hs hx h1 h2) ⟨rfl,fun _ _=>rfl,fun g i y hy=>?_⟩ (fun a ha=>?_) ?_
 ·obtain⟨rfl,rfl,rfl⟩:=lA _ hy
  exact⟨rfl,.pure _ _ (prs _)⟩
 ·simp only[List.mem_cons,List.not_mem_nil,or_false] at ha
  rcases ha with rfl | rfl | rfl
  ·refine .agg _ _ rfl fun j c d e1 e2=>?_
   match j,e1,e2 with
   | 0,e1,e2=>injection e1 with e1; injection e2 with e2; subst e1 e2; exact .hsl _ _ _ _ _ _ (rP rfl)
   | 1,e1,e2=>injection e1 with e1; injection e2 with e2; subst e1 e2; exact .sc _
   | 2,e1,e2=>injection e1 with e1; injection e2 with e2; subst e1 e2; exact .sc _
   | j+3,e1,_=>simp at e1
  ·exact .pure (pv _)
  ·exact .sc _
 ·rintro res H' ⟨rfl,rfl⟩
  refine⟨.agg [.hsl 3 0 0 (cX s x by').es.length,iv (cX s x by').lo,iv (cX s x by').hi],[[.dead]],[[.cells 2 (enR (cX s x by').es)]],[[.dead]],[[.cells 2 (enR (cX s x by').es)]],rfl,rfl,rfl,fun g i h=>?_,?_,fun g i y hy hl=>?_,fun g i h=>?_,fun g i y hy hl=>?_,fun _ _ h=>h,rfl,rfl⟩
  ·match g,i,h with
   | 0,0,_=>rfl
   | 0,i+1,h=>simp[hget] at h
   | g+1,i,h=>simp[hget] at h
  ·refine .agg _ _ rfl fun j c d e1 e2=>?_
   match j,e1,e2 with
   | 0,e1,e2=>injection e1 with e1; injection e2 with e2; subst e1 e2; exact .hsl _ _ _ _ _ _ rfl
   | 1,e1,e2=>injection e1 with e1; injection e2 with e2; subst e1 e2; exact .sc _
   | 2,e1,e2=>injection e1 with e1; injection e2 with e2; subst e1 e2; exact .sc _
   | j+3,e1,_=>simp at e1
  ·obtain⟨rfl,rfl,rfl⟩:=lA _ hy
   cases hl
  ·match g,i,h with
   | 0,0,_=>rfl
   | 0,i+1,h=>simp[hget] at h
   | g+1,i,h=>simp[hget] at h
  ·obtain⟨rfl,rfl,rfl⟩:=lA _ hy
   exact⟨_,rfl,.pure _ _ (prs _)⟩
theorem zV {s x:Shp} {by':Int} (B D:Blk) (E:List Blk) (hs:stB s) (hx:shB x) (h1:-1200000000000000000≤by') (h2:by'≤1200000000000000000):
  aH Tryz.prog 203 [.agg [.hsl 0 0 0 s.es.length,iv s.lo,iv s.hi],.agg [.list 2 (enR x.es),iv x.lo,iv x.hi],iv by'] [[.cells 2 (enR s.es)],[B],[D],E] fun res H'=>
   res=.agg [.hsl 4 0 0 (cX s x by').es.length,iv (cX s x by').lo,iv (cX s x by').hi]∧H'=[[.dead],[B],[D],E,[.cells 2 (enR (cX s x by').es)]]:=by
 refine aH.ins [[B],[D],E] (H0:=[[.cells 2 (enR s.es)]]) (HT hs hx h1 h2) ⟨rfl,fun _ _=>rfl,fun g i y hy=>?_⟩ (fun a ha=>?_) ?_
 ·obtain⟨rfl,rfl,rfl⟩:=lA _ hy
  exact⟨rfl,.pure _ _ (prs _)⟩
 ·simp only[List.mem_cons,List.not_mem_nil,or_false] at ha
  rcases ha with rfl | rfl | rfl
  ·refine .agg _ _ rfl fun j c d e1 e2=>?_
   match j,e1,e2 with
   | 0,e1,e2=>injection e1 with e1; injection e2 with e2; subst e1 e2; exact .hsl _ _ _ _ _ _ (rP rfl)
   | 1,e1,e2=>injection e1 with e1; injection e2 with e2; subst e1 e2; exact .sc _
   | 2,e1,e2=>injection e1 with e1; injection e2 with e2; subst e1 e2; exact .sc _
   | j+3,e1,_=>simp at e1
  ·exact .pure (pv _)
  ·exact .sc _
 ·rintro res H' ⟨rfl,rfl⟩
  refine⟨.agg [.hsl 4 0 0 (cX s x by').es.length,iv (cX s x by').lo,iv (cX s x by').hi],[[.dead]],[[.cells 2 (enR (cX s x by').es)]],[[.dead]],[[.cells 2 (enR (cX s x by').es)]],rfl,rfl,rfl,fun g i h=>?_,?_,fun g i y hy hl=>?_,fun g i h=>?_,fun g i y hy hl=>?_,fun _ _ h=>h,rfl,rfl⟩
  ·match g,i,h with
   | 0,0,_=>rfl
   | 0,i+1,h=>simp[hget] at h
   | g+1,i,h=>simp[hget] at h
  ·refine .agg _ _ rfl fun j c d e1 e2=>?_
   match j,e1,e2 with
   | 0,e1,e2=>injection e1 with e1; injection e2 with e2; subst e1 e2; exact .hsl _ _ _ _ _ _ rfl
   | 1,e1,e2=>injection e1 with e1; injection e2 with e2; subst e1 e2; exact .sc _
   | 2,e1,e2=>injection e1 with e1; injection e2 with e2; subst e1 e2; exact .sc _
   | j+3,e1,_=>simp at e1
  ·obtain⟨rfl,rfl,rfl⟩:=lA _ hy
   cases hl
  ·match g,i,h with
   | 0,0,_=>rfl
   | 0,i+1,h=>simp[hget] at h
   | g+1,i,h=>simp[hget] at h
  ·obtain⟨rfl,rfl,rfl⟩:=lA _ hy
   exact⟨_,rfl,.pure _ _ (prs _)⟩
def zS:List AV:=[.sc (.slice none 0 0),iv 0,iv 0]
def bH (s:Shp):Heap:=[[.cells 2 (enR s.es)],[.cells 3 [[.hsl 0 0 0 s.es.length,iv s.lo,iv s.hi]]],[.cells 3 [zS]]]
def cP (of:List Shp) (l:List (Int×Int)):Shp:=l.foldl (fun s m=>cX s (of.getD m.1.toNat shp0) m.2) shp0
theorem nC (of:List Shp) (l:List (Int×Int)) (m:Int×Int):cP of (l++[m])=cX (cP of l) (of.getD m.1.toNat shp0) m.2:=by simp[cP]
theorem SW {c b st:Int} {sz bl pl:List Int} {of:List Ty} {l:List Shp} (hl:l≠[]) (hx:shB (l.getD 0 shp0)) (hc:1≤c∧c≤4096) (hn:∀ i:Nat,(i:Int)≤c→stB (cP l ((List.range i).map fun i:Nat=>(0,(i:Int) * (l.getD 0 shp0).ext)))) (_hln:l.length≤1000000):
  aH Tryz.prog 181 [.agg (tyR (.mk 6 c b st sz bl pl of)),.list 3 (shL l)] [] fun res H'=>res=.agg (shR (cP l (bI c (l.getD 0 shp0).ext)))∧H'=[]:=by
 rw[tyR];refine aH.of wE ?_ (nlB rfl);have hb:=fO 6;have hl0:=List.length_pos_iff.2 hl;have r0:=kM l 0 hl0;have hll:=iY l
 obtain⟨C,rfl⟩:∃ C:Nat,c=C:=⟨c.toNat,by omega⟩
 have hpu:=fun s B D by' hs h1 h2=>@MF s (l.getD 0 shp0) by' B D hs hx h1 h2
 have hxb:=hx;obtain⟨b1,b2,b3,b4,b5,b6,b7,b8,b9⟩:=hxb;have hexd:(l.getD 0 shp0).ext=(l.getD 0 shp0).hi - (l.getD 0 shp0).lo:=rfl
 have hsn:∀ i:Nat,cP l ((List.range (i+1)).map fun i:Nat=>(0,(i:Int) * (l.getD 0 shp0).ext))=cX (cP l ((List.range i).map fun i:Nat=>(0,(i:Int) * (l.getD 0 shp0).ext))) (l.getD 0 shp0) ((i:Int) * (l.getD 0 shp0).ext):=fun i=>by
  rw[List.range_succ,List.map_append];exact nC _ _ _
 have hend:bI (C:Nat) (l.getD 0 shp0).ext=(List.range C).map fun i:Nat=>(0,(i:Int) * (l.getD 0 shp0).ext):=by
  unfold bI;rw[show(max 1 (C:Int)).toNat=C by omega]
 rw[hend];have h00:cP l ((List.range 0).map fun i:Nat=>(0,(i:Int) * (l.getD 0 shp0).ext))=shp0:=rfl;generalize hF:(fun i:Nat=>cP l ((List.range i).map fun i:Nat=>(0,(i:Int) * (l.getD 0 shp0).ext)))=F at *
 have hFi:∀ i:Nat,cP l ((List.range i).map fun i:Nat=>(0,(i:Int) * (l.getD 0 shp0).ext))=F i:=fun i=>by rw[← hF]
 simp only[hFi] at *;generalize l.getD 0 shp0=x at *;unfold shR at r0;unfold mP at *;refine aA ?_;rw[Av.wrap_small (show -9223372036854775808≤x.hi - x.lo by omega) (by omega),← hexd];refine AWP.loop (fun i:Nat=>[(2,.cptr [iv 6,iv (C:Nat),iv b,iv st,.list 1 (inR sz),.list 1 (inR bl),.list 1 (inR pl),.list 8 (aM of)]),(4,.ptr 2 0 0 0),(5,.ptr 1 0 0 0),(8,.cptr [.list 2 (enR x.es),iv x.lo,iv x.hi]),(9,iv x.ext),(10,iv i)]) (fun i=>bH (F i)) (fun i=>i≤C) (fun i=>C - i) 0 (nZl _) ?_ ?_
 ·rw[h00]
  show Sub _ _ _ _ _ [[.cells 2 []],[.cells 3 [[.hsl 0 0 0 0,iv 0,iv 0]]],[.cells 3 [zS]]];unfold zS;exact Sub.wl [2] [[(4,0)],[(2,0)],[(1,0)]]
 rintro i hi;have hni:=hn i (by omega);have hsi:=hsn i;unfold bH;refine aA ?_;refine AWP.condN (i < C) rfl rfl (fun h=>?_) (fun h=>?_)
 ·have m1:(i:Int) * x.ext≤4096 * 1048576:=by
   have:=iL (a:=(i:Int)) (b:=x.ext) (A:=4096) (B:=1048576) (by omega) (by omega) (by omega) (by omega);omega
  have m2:-(4096 * 1048576)≤(i:Int) * x.ext:=by
   have:=iL (a:=(i:Int)) (b:=x.ext) (A:=4096) (B:=1048576) (by omega) (by omega) (by omega) (by omega);omega
  have hp:=hpu (F i) (.cells 3 [[.hsl 0 0 0 (F i).es.length,iv (F i).lo,iv (F i).hi]]) (.cells 3 [zS]) ((i:Int) * x.ext) hni (by omega) (by omega);rw[← hsi] at hp;generalize hs2:F (i+1)=s2 at *;generalize F i=s1 at *;refine aA ?_;rw[Av.wrap_small (show -9223372036854775808≤(i:Int) * x.ext by omega) (by omega)];refine Reg.c (nZl _) rfl (hp.mono ?_);rintro res H' ⟨rfl,rfl⟩;refine aA ?_;refine⟨i+1,by omega,by omega,?_⟩;rw[hs2];exact Sub.wl [] [[(3,0)],[(1,0)],[(2,0)]]
 ·obtain rfl:C=i:=by omega
  have hel:=bZ (F C).es;unfold shR;refine aA ?_;exact DD [] ⟨rfl,rfl⟩
theorem TL {c b st:Int} {sz bl pl:List Int} {of:List Ty} {l:List Shp} {f:Nat→List (Int×Int)} (hl:l≠[]) (hx:shB (l.getD 0 shp0)) (hc:0≤c∧c≤4096) (hb:0≤b∧b≤4096) (hst:-1048576≤st∧st≤1048576) (hf:∀ i,f i=(List.range b.toNat).map fun j:Nat=>(0,((i:Int) * st+j) * (l.getD 0 shp0).ext)) (hn:∀ i j:Nat,(i:Int) < c→(j:Int)≤b→stB (cP l (cC f i j))) (_hln:l.length≤1000000):
  aH Tryz.prog 181 [.agg (tyR (.mk 7 c b st sz bl pl of)),.list 3 (shL l)] [] fun res H'=>res=.agg (shR (cP l (cC f c.toNat 0)))∧H'=[]:=by
 rw[tyR];refine aH.of wE ?_ (nlB rfl);have hbk:=fO 7;have hl0:=List.length_pos_iff.2 hl;have r0:=kM l 0 hl0;have hll:=iY l
 obtain⟨C,rfl⟩:∃ C:Nat,c=C:=⟨c.toNat,by omega⟩
 obtain⟨B,rfl⟩:∃ B:Nat,b=B:=⟨b.toNat,by omega⟩
 rw[Int.toNat_natCast];rw[Int.toNat_natCast] at hf
 have hpu:=fun s D D' by' hs h1 h2=>@MF s (l.getD 0 shp0) by' D D' hs hx h1 h2
 obtain⟨b1,b2,b3,b4,b5,b6,b7,b8,b9⟩:=id hx;have hexd:(l.getD 0 shp0).ext=(l.getD 0 shp0).hi - (l.getD 0 shp0).lo:=rfl
 have hfl:∀ i,(f i).length=B:=fun i=>by rw[hf]; simp
 have hsn:∀ i j:Nat,j < B→cP l (cC f i (j+1))=cX (cP l (cC f i j)) (l.getD 0 shp0) (((i:Int) * st+j) * (l.getD 0 shp0).ext):=fun i j hj=>by
  rw[eR (m:=(0,((i:Int) * st+j) * (l.getD 0 shp0).ext)) (by rw[hf]; simp[hj]),nC];rfl
 have hnx:∀ i,cP l (cC f i B)=cP l (cC f (i+1) 0):=fun i=>by rw[gF (hfl i)]
 have h00:cP l (cC f 0 0)=shp0:=by rw[iG]; rfl
 generalize hF:(fun i j=>cP l (cC f i j))=F at *
 have hFi:∀ i j:Nat,cP l (cC f i j)=F i j:=fun i j=>by rw[← hF]
 simp only[hFi] at *;clear hf hfl;generalize l.getD 0 shp0=x at *;unfold shR at r0;unfold mP at *;refine aA ?_;rw[Av.wrap_small (show -9223372036854775808≤x.hi - x.lo by omega) (by omega),← hexd];refine AWP.loop (fun i:Nat=>[(2,.cptr [iv 7,iv (C:Nat),iv (B:Nat),iv st,.list 1 (inR sz),.list 1 (inR bl),.list 1 (inR pl),.list 8 (aM of)]),(4,.ptr 2 0 0 0),(5,.ptr 1 0 0 0),(8,.cptr [.list 2 (enR x.es),iv x.lo,iv x.hi]),(9,iv x.ext),(11,iv i)]) (fun i=>bH (F i 0)) (fun i=>i≤C) (fun i=>C - i) 0 (nZl _) ?_ ?_
 ·rw[h00]
  show Sub _ _ _ _ _ [[.cells 2 []],[.cells 3 [[.hsl 0 0 0 0,iv 0,iv 0]]],[.cells 3 [zS]]];unfold zS;exact Sub.wl [2] [[(4,0)],[(2,0)],[(1,0)]]
 rintro i hi;unfold bH;refine aA ?_;refine AWP.condN (i < C) rfl rfl (fun h=>?_) (fun h=>?_)
 ·refine aA ?_
  refine AWP.loop (fun j:Nat=>[(2,.cptr [iv 7,iv (C:Nat),iv (B:Nat),iv st,.list 1 (inR sz),.list 1 (inR bl),.list 1 (inR pl),.list 8 (aM of)]),(4,.ptr 2 0 0 0),(5,.ptr 1 0 0 0),(8,.cptr [.list 2 (enR x.es),iv x.lo,iv x.hi]),(9,iv x.ext),(11,iv i),(12,iv j)]) (fun j=>bH (F i j)) (fun j=>j≤B) (fun j=>B - j) 0 (nZl _) ?_ ?_
  ·unfold bH
   exact Sub.wl [] [[(0,0)],[(1,0)],[(2,0)]]
  rintro j hj;unfold bH;refine aA ?_;refine AWP.condN (j < B) rfl rfl (fun h2=>?_) (fun h2=>?_)
  ·obtain⟨m1,m2⟩:=iL (a:=(i:Int)) (b:=st) (A:=4096) (B:=1048576) (by omega) (by omega) (by omega) (by omega)
   obtain⟨m3,m4⟩:=iL (a:=(i:Int) * st+j) (b:=x.ext) (A:=4300000000) (B:=1048576) (by omega) (by omega) (by omega) (by omega);have hp:=hpu (F i j) (.cells 3 [[.hsl 0 0 0 (F i j).es.length,iv (F i j).lo,iv (F i j).hi]]) (.cells 3 [zS]) (((i:Int) * st+j) * x.ext) (hn i j (by omega) (by omega)) (by omega) (by omega);rw[← hsn i j h2] at hp;generalize hs2:F i (j+1)=s2 at *;generalize F i j=s1 at *;refine aA ?_;rw[Av.wrap_small (show -9223372036854775808≤(i:Int) * st by omega) (by omega),Av.wrap_small (show -9223372036854775808≤(i:Int) * st+j by omega) (by omega),Av.wrap_small (show -9223372036854775808≤((i:Int) * st+j) * x.ext by omega) (by omega)];refine Reg.c (nZl _) rfl (hp.mono ?_);rintro res H' ⟨rfl,rfl⟩;refine aA ?_;refine⟨j+1,by omega,by omega,?_⟩;rw[hs2];exact Sub.wl [] [[(3,0)],[(1,0)],[(2,0)]]
  ·obtain rfl:B=j:=by omega
   rw[hnx];refine aA ?_;refine⟨i+1,by omega,by omega,?_⟩;exact Sub.wl [] [[(0,0)],[(1,0)],[(2,0)]]
 ·obtain rfl:C=i:=by omega
  have hel:=bZ (F C 0).es;unfold shR;refine aA ?_;exact DD [] ⟨rfl,rfl⟩
theorem UG {c b st:Int} {sz bl pl:List Int} {of:List Ty} {l:List Shp} {f:Nat→List (Int×Int)} (hl:l≠[]) (hx:shB (l.getD 0 shp0)) (hbn:bl.length≤4096) (hpn:pl.length=bl.length) (hbl:∀ i,0≤bl.getD i 0∧bl.getD i 0≤4096) (hpl:∀ i,-1048576≤pl.getD i 0∧pl.getD i 0≤1048576) (hf:∀ i,f i=(List.range (bl.getD i 0).toNat).map fun j:Nat=>(0,(pl.getD i 0+j) * (l.getD 0 shp0).ext)) (hn:∀ i j:Nat,i < bl.length→(j:Int)≤bl.getD i 0→stB (cP l (cC f i j))) (_hln:l.length≤1000000):
  aH Tryz.prog 181 [.agg (tyR (.mk 8 c b st sz bl pl of)),.list 3 (shL l)] [] fun res H'=>res=.agg (shR (cP l (cC f bl.length 0)))∧H'=[]:=by
 rw[tyR];refine aH.of wE ?_ (nlB rfl);have hbk:=fO 8;have hl0:=List.length_pos_iff.2 hl;have r0:=kM l 0 hl0;have hll:=iY l;have l2:=bF bl
 have hpu:=fun s D D' by' hs h1 h2=>@zV s (l.getD 0 shp0) by' D D' (List.replicate 11 .dead) hs hx h1 h2
 obtain⟨b1,b2,b3,b4,b5,b6,b7,b8,b9⟩:=id hx;have hexd:(l.getD 0 shp0).ext=(l.getD 0 shp0).hi - (l.getD 0 shp0).lo:=rfl
 have hfl:∀ i,(f i).length=(bl.getD i 0).toNat:=fun i=>by rw[hf]; simp
 have hsn:∀ i j:Nat,j < (bl.getD i 0).toNat→cP l (cC f i (j+1))=cX (cP l (cC f i j)) (l.getD 0 shp0) ((pl.getD i 0+j) * (l.getD 0 shp0).ext):=fun i j hj=>by
  rw[eR (m:=(0,(pl.getD i 0+j) * (l.getD 0 shp0).ext)) (by rw[hf,List.getElem?_map,List.getElem?_range hj]; rfl),nC];rfl
 have hnx:∀ i,cP l (cC f i (bl.getD i 0).toNat)=cP l (cC f (i+1) 0):=fun i=>by rw[gF (hfl i)]
 have h00:cP l (cC f 0 0)=shp0:=by rw[iG]; rfl
 generalize hF:(fun i j=>cP l (cC f i j))=F at *
 have hFi:∀ i j:Nat,cP l (cC f i j)=F i j:=fun i j=>by rw[← hF]
 simp only[hFi] at *;clear hf hfl;generalize l.getD 0 shp0=x at *;unfold shR at r0;unfold mP at *;refine aA ?_;rw[Av.wrap_small (show -9223372036854775808≤x.hi - x.lo by omega) (by omega),← hexd];refine AWP.loop (fun i:Nat=>[(2,.cptr [iv 8,iv c,iv b,iv st,.list 1 (inR sz),.list 1 (inR bl),.list 1 (inR pl),.list 8 (aM of)]),(4,.ptr 2 0 0 0),(5,.ptr 1 0 0 0),(8,.cptr [.list 2 (enR x.es),iv x.lo,iv x.hi]),(9,iv x.ext),(13,iv i)]) (fun i=>bH (F i 0)) (fun i=>i≤bl.length) (fun i=>bl.length - i) 0 (nZl _) ?_ ?_
 ·rw[h00]
  show Sub _ _ _ _ _ [[.cells 2 []],[.cells 3 [[.hsl 0 0 0 0,iv 0,iv 0]]],[.cells 3 [zS]]];unfold zS;exact Sub.wl [2] [[(4,0)],[(2,0)],[(1,0)]]
 rintro i hi;unfold bH;refine aA ?_;rw[l2];refine AWP.condN (i < bl.length) rfl rfl (fun h=>?_) (fun h=>?_)
 ·have r2:=dB h
  have r3:=dB (l:=pl) (i:=i) (by omega)
  obtain⟨Y,hY⟩:∃ Y:Nat,bl.getD i 0=Y:=⟨(bl.getD i 0).toNat,by have:=hbl i; omega⟩
  have hY2:=hbl i;have hZ:=hpl i;have hsi:=hsn i;have hni:=hnx i;rw[hY] at r2 hY2;rw[hY,Int.toNat_natCast] at hsi hni;generalize pl.getD i 0=z at *;refine aA ?_;refine AWP.loop (fun j:Nat=>[(2,.cptr [iv 8,iv c,iv b,iv st,.list 1 (inR sz),.list 1 (inR bl),.list 1 (inR pl),.list 8 (aM of)]),(4,.ptr 2 0 0 0),(5,.ptr 1 0 0 0),(8,.cptr [.list 2 (enR x.es),iv x.lo,iv x.hi]),(9,iv x.ext),(13,iv i),(14,iv j)]) (fun j=>bH (F i j)) (fun j=>j≤Y) (fun j=>Y - j) 0 (nZl _) ?_ ?_
  ·unfold bH
   exact Sub.wl [] [[(0,0)],[(1,0)],[(2,0)]]
  rintro j hj;unfold bH;refine aA ?_;refine AWP.condN (j < Y) rfl rfl (fun h2=>?_) (fun h2=>?_)
  ·obtain⟨m3,m4⟩:=iL (a:=z+j) (b:=x.ext) (A:=4300000000) (B:=1048576) (by omega) (by omega) (by omega) (by omega)
   have hp:=hpu (F i j) (.cells 3 [[.hsl 0 0 0 (F i j).es.length,iv (F i j).lo,iv (F i j).hi]]) (.cells 3 [zS]) ((z+j) * x.ext) (hn i j (by omega) (by omega)) (by omega) (by omega);rw[← hsi j h2] at hp;generalize hs2:F i (j+1)=s2 at *;generalize F i j=s1 at *;refine dS ?_;refine AWP.dkm 11 _ mixed rfl rfl (by kernel_rfl) (by kernel_rfl) (by kernel_rfl) ?_;refine aA ?_;rw[Av.wrap_small (show -9223372036854775808≤z+(j:Int) by omega) (by omega),Av.wrap_small (show -9223372036854775808≤(z+(j:Int)) * x.ext by omega) (by omega)];refine DK.nil ⟨by kernel_rfl,?_⟩;refine Reg.c (nZl _) rfl (hp.mono ?_);rintro res H' ⟨rfl,rfl⟩;refine Reg.nil ?_;refine aA ?_;refine DK.nil ⟨by kernel_rfl,?_⟩;refine aA ?_;refine⟨j+1,by omega,by omega,?_⟩;rw[hs2];exact Sub.wl [] [[(4,0)],[(1,0)],[(2,0)]]
  ·obtain rfl:Y=j:=by omega
   rw[hni];refine aA ?_;refine⟨i+1,by omega,by omega,?_⟩;exact Sub.wl [] [[(0,0)],[(1,0)],[(2,0)]]
 ·obtain rfl:bl.length=i:=by omega
  have hel:=bZ (F bl.length 0).es;unfold shR;refine aA ?_;exact DD [] ⟨rfl,rfl⟩
theorem S7 {c b st:Int} {sz bl pl:List Int} {of:List Ty} {l:List Shp} {f:Nat→List (Int×Int)} (hl:l≠[]) (hx:∀ i,i < l.length→shB (l.getD i shp0)) (hbn:bl.length≤4096) (hpn:pl.length=bl.length) (hlb:l.length=bl.length) (hbl:∀ i,0≤bl.getD i 0∧bl.getD i 0≤4096) (hpl:∀ i,-1048576≤pl.getD i 0∧pl.getD i 0≤1048576) (hf:∀ i,f i=(List.range (bl.getD i 0).toNat).map fun j:Nat=>((i:Int),pl.getD i 0+j * (l.getD i shp0).ext)) (hn:∀ i j:Nat,i < bl.length→(j:Int)≤bl.getD i 0→stB (cP l (cC f i j))) (_hln:l.length≤1000000):
  aH Tryz.prog 181 [.agg (tyR (.mk 9 c b st sz bl pl of)),.list 3 (shL l)] [] fun res H'=>res=.agg (shR (cP l (cC f bl.length 0)))∧H'=[]:=by
 rw[tyR];refine aH.of wE ?_ (nlB rfl);have hbk:=fO 9;have hl0:=List.length_pos_iff.2 hl;have r0:=kM l 0 hl0;have hll:=iY l;have l2:=bF bl
 have hpu:=fun i hi s D D' by' hs h1 h2=>@zV s (l.getD i shp0) by' D D' (List.replicate 24 .dead) hs (hx i hi) h1 h2
 obtain⟨b1,b2,b3,b4,b5,b6,b7,b8,b9⟩:=hx 0 hl0
 have hfl:∀ i,(f i).length=(bl.getD i 0).toNat:=fun i=>by rw[hf]; simp
 have hsn:∀ i j:Nat,j < (bl.getD i 0).toNat→cP l (cC f i (j+1))=cX (cP l (cC f i j)) (l.getD i shp0) (pl.getD i 0+j * (l.getD i shp0).ext):=fun i j hj=>by
  rw[eR (m:=((i:Int),pl.getD i 0+j * (l.getD i shp0).ext)) (by rw[hf,List.getElem?_map,List.getElem?_range hj]; rfl),nC];rfl
 have hnx:∀ i,cP l (cC f i (bl.getD i 0).toNat)=cP l (cC f (i+1) 0):=fun i=>by rw[gF (hfl i)]
 have h00:cP l (cC f 0 0)=shp0:=by rw[iG]; rfl
 generalize hF:(fun i j=>cP l (cC f i j))=F at *
 have hFi:∀ i j:Nat,cP l (cC f i j)=F i j:=fun i j=>by rw[← hF]
 simp only[hFi] at *;clear hf hfl;generalize hx0:l.getD 0 shp0=x0 at *;unfold shR at r0;unfold mP at b1 b2 b3 b4 b5 b6;refine aA ?_;refine AWP.loop (fun i:Nat=>[(1,.list 3 (shL l)),(2,.cptr [iv 9,iv c,iv b,iv st,.list 1 (inR sz),.list 1 (inR bl),.list 1 (inR pl),.list 8 (aM of)]),(4,.ptr 2 0 0 0),(5,.ptr 1 0 0 0),(15,iv i)]) (fun i=>bH (F i 0)) (fun i=>i≤bl.length) (fun i=>bl.length - i) 0 (nZl _) ?_ ?_
 ·rw[h00]
  show Sub _ _ _ _ _ [[.cells 2 []],[.cells 3 [[.hsl 0 0 0 0,iv 0,iv 0]]],[.cells 3 [zS]]];unfold zS;exact Sub.wl [2] [[(4,0)],[(2,0)],[(1,0)]]
 rintro i hi;unfold bH;refine aA ?_;rw[l2];refine AWP.condN (i < bl.length) rfl rfl (fun h=>?_) (fun h=>?_)
 ·have r2:=dB h
  have r3:=dB (l:=pl) (i:=i) (by omega)
  obtain⟨Y,hY⟩:∃ Y:Nat,bl.getD i 0=Y:=⟨(bl.getD i 0).toNat,by have:=hbl i; omega⟩
  have hY2:=hbl i;have hZ:=hpl i;have hsi:=hsn i;have hni:=hnx i;rw[hY] at r2 hY2;rw[hY,Int.toNat_natCast] at hsi hni;obtain⟨b1,b2,b3,b4,b5,b6,b7,b8,b9⟩:=hx i (by omega);have rx:=kM l i (by omega);have hpi:=hpu i (by omega);have hexd:(l.getD i shp0).ext=(l.getD i shp0).hi - (l.getD i shp0).lo:=rfl;generalize pl.getD i 0=z at *;generalize l.getD i shp0=x at *;unfold shR at rx;unfold mP at b1 b2 b3 b4 b5 b6;refine aA ?_;refine AWP.loop (fun j:Nat=>[(1,.list 3 (shL l)),(2,.cptr [iv 9,iv c,iv b,iv st,.list 1 (inR sz),.list 1 (inR bl),.list 1 (inR pl),.list 8 (aM of)]),(4,.ptr 2 0 0 0),(5,.ptr 1 0 0 0),(15,iv i),(16,iv j)]) (fun j=>bH (F i j)) (fun j=>j≤Y) (fun j=>Y - j) 0 (nZl _) ?_ ?_
  ·unfold bH
   exact Sub.wl [] [[(0,0)],[(1,0)],[(2,0)]]
  rintro j hj;unfold bH;refine aA ?_;refine AWP.condN (j < Y) rfl rfl (fun h2=>?_) (fun h2=>?_)
  ·obtain⟨m3,m4⟩:=iL (a:=(j:Int)) (b:=x.ext) (A:=4096) (B:=1048576) (by omega) (by omega) (by omega) (by omega)
   have hp:=hpi (F i j) (.cells 3 [[.hsl 0 0 0 (F i j).es.length,iv (F i j).lo,iv (F i j).hi]]) (.cells 3 [zS]) (z+j * x.ext) (hn i j (by omega) (by omega)) (by omega) (by omega);rw[← hsi j h2] at hp;generalize hs2:F i (j+1)=s2 at *;generalize F i j=s1 at *;refine dS ?_;refine AWP.dkm 24 _ mixed rfl rfl (by kernel_rfl) (by kernel_rfl) (by kernel_rfl) ?_;refine aA ?_;rw[Av.wrap_small (show -9223372036854775808≤x.hi - x.lo by omega) (by omega),← hexd,Av.wrap_small (show -9223372036854775808≤(j:Int) * x.ext by omega) (by omega),Av.wrap_small (show -9223372036854775808≤z+(j:Int) * x.ext by omega) (by omega)];refine DK.nil ⟨by kernel_rfl,?_⟩;refine Reg.c (nZl _) rfl (hp.mono ?_);rintro res H' ⟨rfl,rfl⟩;refine Reg.nil ?_;refine aA ?_;refine DK.nil ⟨by kernel_rfl,?_⟩;refine aA ?_;refine⟨j+1,by omega,by omega,?_⟩;rw[hs2];exact Sub.wl [] [[(4,0)],[(1,0)],[(2,0)]]
  ·obtain rfl:Y=j:=by omega
   rw[hni];refine aA ?_;refine⟨i+1,by omega,by omega,?_⟩;exact Sub.wl [] [[(0,0)],[(1,0)],[(2,0)]]
 ·obtain rfl:bl.length=i:=by omega
  have hel:=bZ (F bl.length 0).es;unfold shR;refine aA ?_;exact DD [] ⟨rfl,rfl⟩
theorem T0 {k c b st:Int} {sz bl pl:List Int} {of:List Ty} {l:List Shp} (hk:1≤k∧k≤5):aH Tryz.prog 181 [.agg (tyR (.mk k c b st sz bl pl of)),.list 3 (shL l)] [] fun res H'=>res=.agg (shR ⟨[(k,0)],0,bJ k⟩)∧H'=[]:=by
 rw[tyR];refine aH.of wE ?_ (nlB rfl);have hb:=fO k;rw[dTr hk] at hb;generalize bJ k=z at *;unfold shR;refine aA ?_;exact DD [] ⟨rfl,rfl⟩
theorem QL {c b st:Int} {sz bl pl:List Int} {of:List Ty} {l:List Shp} (hl:l≠[]) (hx:shB (l.getD 0 shp0)) (hp:pl.length=2) (hpl:∀ i,-1048576≤pl.getD i 0∧pl.getD i 0≤1048576) (_hln:l.length≤1000000):
  aH Tryz.prog 181 [.agg (tyR (.mk 10 c b st sz bl pl of)),.list 3 (shL l)] [] fun res H'=>res=.agg (shR ⟨(l.getD 0 shp0).es,pl.getD 0 0,pl.getD 0 0+pl.getD 1 0⟩)∧H'=[]:=by
 rw[tyR];refine aH.of wE ?_ (nlB rfl);have hb:=fO 10;have hl0:=List.length_pos_iff.2 hl;have r0:=kM l 0 hl0;have hll:=iY l;obtain⟨b1,b2,b3,b4,b5,b6,b7,b8,b9⟩:=hx;have p0:=dB (l:=pl) (i:=0) (by omega);have p1:=dB (l:=pl) (i:=1) (by omega);have q0:=hpl 0;have q1:=hpl 1;generalize pl.getD 0 0=y0 at *;generalize pl.getD 1 0=y1 at *;generalize l.getD 0 shp0=x at *;have hel:=bZ x.es;unfold shR at r0 ⊢;unfold mP at *;refine aA ?_;rw[Av.wrap_small (show -9223372036854775808≤y0+y1 by omega) (by omega)];refine DK.nil ⟨by kernel_rfl,?_⟩;refine aA ?_;exact DD [] ⟨rfl,rfl⟩
def eG (of:List Shp) (l:List (Int×Int)):Nat:=(l.map fun m=>fE of m.1.toNat).sum
theorem BA (of:List Shp):∀(l:List (Int×Int)) (s:Shp),s.es.length≤4096→fG of l s=if s.es.length+eG of l≤4096 then some (l.foldl (fun s m=>cX s (of.getD m.1.toNat shp0) m.2) s) else none
 | [],s,h=>by
  rw[if_pos (by simpa[eG] using h)];rfl
 | m::l,s,h=>by
  have e:eG of (m::l)=(of.getD m.1.toNat shp0).es.length+eG of l:=by simp[eG,fE]
  have e2:(cX s (of.getD m.1.toNat shp0) m.2).es.length=s.es.length+(of.getD m.1.toNat shp0).es.length:=by simp[cX]
  show(if 4096 < s.es.length+(of.getD m.1.toNat shp0).es.length then none else fG of l (cX s (of.getD m.1.toNat shp0) m.2))=_
  by_cases q:4096 < s.es.length+(of.getD m.1.toNat shp0).es.length
  ·rw[if_pos q,if_neg (by omega)]
  ·rw[if_neg q,BA of l _ (by omega),e,e2,Nat.add_assoc]
   rfl
theorem JZ (of:List Shp) (l:List (Int×Int)):fG of l shp0=if eG of l≤4096 then some (cP of l) else none:=by
 have:=BA of l shp0 (by decide);rw[this,show shp0.es.length=0 from rfl,Nat.zero_add];rfl
theorem nR {of:List Shp}:∀ {l:List (Int×Int)},(∀ m∈l,m.1=0)→eG of l=l.length * fE of 0
 | [],_=>by simp[eG]
 | m::l,h=>by
  have h1:=h m (by simp)
  have h2:=nR (of:=of) fun m' hm=>h m' (mCm _ hm)
  unfold eG at h2 ⊢;rw[List.map_cons,List.sum_cons,h2,h1,List.length_cons,Nat.succ_mul,Nat.add_comm];rfl
theorem tot6 (of:List Shp) (c e:Int) (hc:1≤c):(eG of (bI c e):Int)=c * fE of 0:=by
 rw[nR (fun m hm=>by
  obtain⟨i,_,rfl⟩:=List.mem_map.1 hm
  rfl)]
 unfold bI;rw[List.length_map,List.length_range,Int.natCast_mul,show(((max 1 c).toNat:Nat):Int)=c by omega]
theorem A4 {f:Nat→List (Int×Int)} {B:Nat} (h:∀ i,(f i).length=B):∀ n,((List.range n).flatMap f).length=n * B
 | 0=>by simp
 | n+1=>by
  rw[List.range_succ,List.flatMap_append,lAp,A4 h n,Nat.succ_mul];simp[h]
theorem tot7 (of:List Shp) (c b st e:Int) (hc:1≤c) (hb:1≤b):(eG of (hU c b st e):Int)=c * b * fE of 0:=by
 rw[nR (fun m hm=>by
  obtain⟨i,_,hm⟩:=List.mem_flatMap.1 hm;obtain⟨j,_,rfl⟩:=List.mem_map.1 hm
  rfl)]
 unfold hU;rw[A4 (B:=b.toNat) (fun i=>by simp),Int.natCast_mul,Int.natCast_mul,show((c.toNat:Nat):Int)=c by omega,show((b.toNat:Nat):Int)=b by omega]
theorem F7 (of:List Shp) (l m:List (Int×Int)):eG of (l++m)=eG of l+eG of m:=by simp[eG]
theorem CM {of:List Shp} {a:Int}:∀ {l:List (Int×Int)},(∀ m∈l,m.1=a)→eG of l=l.length * fE of a.toNat
 | [],_=>by simp[eG]
 | m::l,h=>by
  have h1:=h m (by simp)
  have h2:=CM (of:=of) fun m' hm=>h m' (mCm _ hm)
  unfold eG at h2 ⊢;rw[List.map_cons,List.sum_cons,h2,h1,List.length_cons,Nat.succ_mul,Nat.add_comm]
theorem AY {of:List Shp} {bl:List Int} {f:Nat→List (Int×Int)} {a:Nat→Int} (hf:∀ i,∀ m∈f i,m.1=a i) (hl:∀ i,((f i).length:Int)=bl.getD i 0):∀ n:Nat,(∀ i,i < n→(a i).toNat=min i (of.length - 1))→(eG of ((List.range n).flatMap f):Int)=lS bl of n
 | 0,_=>by simp[eG,lS]
 | n+1,ha=>by
  have ih:=AY hf hl n fun i hi=>ha i (by omega)
  rw[List.range_succ,List.flatMap_append,F7,Int.natCast_add,ih];simp only[List.flatMap_cons,List.flatMap_nil,List.append_nil];rw[CM (hf n),Int.natCast_mul,hl n,ha n (by omega)];rfl
theorem tot8 (of:List Shp) (bl pl:List Int) (e:Int) (h1:of.length=1) (hb:∀ i,0≤bl.getD i 0):(eG of (gU bl pl e):Int)=lS bl of bl.length:=
 AY (a:=fun _=>0) (fun i m hm=>by
  obtain⟨j,_,rfl⟩:=List.mem_map.1 hm
  rfl) (fun i=>by
  rw[List.length_map,List.length_range];have:=hb i
  omega) bl.length fun i _=>by
  rw[h1];show(0:Int).toNat=_;omega
theorem tot9 (of:List Shp) (bl pl:List Int) (h1:of.length=bl.length) (hb:∀ i,0≤bl.getD i 0):(eG of (kW bl pl of):Int)=lS bl of bl.length:=
 AY (a:=fun i=>(i:Int)) (fun i m hm=>by
  obtain⟨j,_,rfl⟩:=List.mem_map.1 hm
  rfl) (fun i=>by
  rw[List.length_map,List.length_range];have:=hb i
  omega) bl.length fun i hi=>by
  show((i:Int)).toNat=_;omega
theorem GW {of:List Shp}:∀ {l:List (Int×Int)} {s:Shp},stB s→(∀ m∈l,shB (of.getD m.1.toNat shp0)∧-1200000000000000000≤m.2∧m.2≤1200000000000000000)→s.es.length+eG of l≤4096→stB (l.foldl (fun s m=>cX s (of.getD m.1.toNat shp0) m.2) s)
 | [],_,hs,_,_=>hs
 | m::l,s,hs,h,ht=>by
  have e:eG of (m::l)=(of.getD m.1.toNat shp0).es.length+eG of l:=by simp[eG,fE]
  have e2:(cX s (of.getD m.1.toNat shp0) m.2).es.length=s.es.length+(of.getD m.1.toNat shp0).es.length:=by simp[cX]
  obtain⟨h1,h2,h3⟩:=h m (by simp);exact GW (l:=l) (s:=cX s (of.getD m.1.toNat shp0) m.2) (AG hs h1 h2 h3 (by omega)) (fun m' hm=>h m' (mCm _ hm)) (by omega)
theorem EM {of:List Shp} {l m:List (Int×Int)} (h:eG of (l++m)≤4096):eG of l≤4096:=by
 rw[F7] at h;omega
theorem F8 {of:List Shp} {l r:List (Int×Int)} (h:∀ m∈l++r,shB (of.getD m.1.toNat shp0)∧-1200000000000000000≤m.2∧m.2≤1200000000000000000) (ht:eG of (l++r)≤4096):stB (cP of l):=
 GW xH (fun m hm=>h m (List.mem_append_left _ hm)) (by
  have:=EM ht;show 0+_≤4096
  omega)
theorem UF (pl:List Int) (ext:Int) (hb:pl.length≤1000000000):aB Tryz.prog 70 [.list 1 (inR pl),iv ext] (bv (lG pl ext)):=by
 refine aB.mkI cF70 (nlB rfl) ?_;have hl:=bF pl
 have hno:∀ i,i < pl.length→¬ (gJ pl i < pl.getD i 0∧pl.getD i 0 < ext)→lG pl ext=false:=fun i hi h=>by
  rw[Bool.eq_false_iff];intro q;have:=List.all_eq_true.1 q i (List.mem_range.2 hi);simp only[bAe,decide_eq_true_eq] at this;exact h this
 refine aA ?_;refine AWP.loop (fun i:Nat=>[(0,.list 1 (inR pl)),(1,iv ext),(5,iv i)]) (fun _=>[]) (fun i=>i≤pl.length∧(∀ j,j < i→gJ pl j < pl.getD j 0∧pl.getD j 0 < ext)∧∀ j,j < i→0≤pl.getD j 0) (fun i=>pl.length - i) 0 ⟨nZl _,fun j h=>absurd h (Nat.not_lt_zero j),fun j h=>absurd h (Nat.not_lt_zero j)⟩ ?_ ?_
 ·exact Sub.w [] []
 rintro i ⟨hi,hg,hz⟩;refine aA ?_;rw[hl];refine AWP.condN (i < pl.length) rfl rfl (fun h=>?_) (fun h=>?_)
 ·have r:=dJ pl i h
  rw[show pl[i]=pl.getD i 0 by simp[h]] at r;have hni:=hno i h
  have hgo:gJ pl i < pl.getD i 0∧pl.getD i 0 < ext→0≤pl.getD i 0→(∀ j,j < i+1→gJ pl j < pl.getD j 0∧pl.getD j 0 < ext)∧∀ j,j < i+1→0≤pl.getD j 0:=fun q1 q2=>by
   refine⟨fun j hj=>?_,fun j hj=>?_⟩
   ·rcases Nat.lt_or_ge j i with z | z
    ·exact hg j z
    ·obtain rfl:j=i:=by omega
     exact q1
   ·rcases Nat.lt_or_ge j i with z | z
    ·exact hz j z
    ·obtain rfl:j=i:=by omega
     exact q2
  cases i with
  | zero=>
   have hl0:gJ pl 0=-1:=rfl;rw[hl0] at hni hgo;generalize pl.getD 0 0=y at *;refine aA ?_
   by_cases n1:y < 0
   ·rw[hni (by omega),dTr n1]
    refine aA ?_;refine DK.nil ⟨by kernel_rfl,?_⟩;refine aA ?_;exact aG.w
   rw[dFa n1];refine aA ?_
   by_cases n2:ext≤y
   ·rw[hni (by omega)]
    rw[show decide (y≥ext)=true from dTr n2];refine aA ?_;refine DK.nil ⟨by kernel_rfl,?_⟩;refine aA ?_;exact aG.w
   rw[show decide (y≥ext)=false from dFa n2];refine aA ?_;refine DK.nil ⟨by kernel_rfl,?_⟩;refine aA ?_;refine⟨1,⟨by omega,hgo (by omega) (by omega)⟩,by omega,?_⟩;exact Sub.w [] []
  | succ j=>
   have r2:=dJ pl j (by omega);rw[show pl[j]'(by omega)=pl.getD j 0 by simp[show j < pl.length by omega]] at r2
   have hl1:gJ pl (j+1)=pl.getD j 0:=by unfold gJ; rw[if_neg (by omega),Nat.add_sub_cancel]
   have hzj:=hz j (by omega);rw[hl1] at hni hgo;generalize pl.getD (j+1) 0=y at *;generalize pl.getD j 0=x at *;refine aA ?_
   by_cases n1:y < 0
   ·rw[hni (by omega),dTr n1]
    refine aA ?_;refine DK.nil ⟨by kernel_rfl,?_⟩;refine aA ?_;exact aG.w
   rw[dFa n1];refine aA ?_
   by_cases n2:ext≤y
   ·rw[hni (by omega)]
    rw[show decide (y≥ext)=true from dTr n2];refine aA ?_;refine DK.nil ⟨by kernel_rfl,?_⟩;refine aA ?_;exact aG.w
   rw[show decide (y≥ext)=false from dFa n2];refine aA ?_;refine DK.nil ⟨by kernel_rfl,?_⟩;refine AWP.condN (y≤x) rfl rfl (fun n3=>?_) (fun n3=>?_)
   ·rw[hni (by omega)]
    refine aA ?_;exact aG.w
   refine aA ?_;have hgo2:=hgo (And.intro (by omega) (by omega)) (by omega);refine⟨j+1+1,And.intro (by omega) hgo2,by omega,?_⟩;exact Sub.w [] []
 ·obtain rfl:pl.length=i:=by omega
  rw[show lG pl ext=true from List.all_eq_true.2 fun j hj=>by
   have:=hg j (List.mem_range.1 hj);simp only[bAe,decide_eq_true_eq]
   exact this]
  refine aA ?_;exact aG.w
end Go.Proofs.YtgdocflpobncmaaGreat
