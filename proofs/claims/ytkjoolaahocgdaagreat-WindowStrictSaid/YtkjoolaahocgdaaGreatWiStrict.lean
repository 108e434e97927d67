/- The law WindowStrict answers true for every input; no further condition. -/
import Derived.Test.YtkjoolaahocgdaaGreatGWiB4
import Derived.Test.YtkjoolaahocgdaaGreatGWiLo
namespace Go.Proofs.YtkjoolaahocgdaaGreat
open Go.Av Go.Proofs
set_option maxRecDepth 20000
set_option linter.unusedVariables false
def zP (z:Int×Int):Pl:=(z.1.toNat,z.2.toNat)
theorem xW {p:Pg} (h:(cL p).1.2=0) (x y:Int×Int):∃ a f,MO p x y=.tup [.sc (.bool a),.sc (.int .i64 f)]∧(f=0→inP p x=true∧inP p y=true∧(a=true↔vH p (cL p).2 (zP x) (zP y))):=by
 unfold MO
 rw[if_pos h]
 split
 ·rename_i h1
  obtain⟨h1,h2⟩:=Bool.and_eq_true_iff.1 h1
  exact⟨_,_,rfl,fun _=>⟨h1,h2,decide_eq_true_iff⟩⟩
 ·exact⟨_,_,rfl,fun e=>absurd e (by decide)⟩
theorem HZ {p:Pg} {ls:List Ln} (hC:bL p ls) {s:Nat} (hs:s < 18446744073709551616) (hk:dA p (eQ p ls (st0 p ls.length s)) ls.length=[]) {x y z:Int×Int} (hx:inP p x=true) (hy:inP p y=true) (hz:inP p z=true) {a b c d:Bool}
  (ha:a=true↔vH p ls (zP x) (zP y)) (hb:b=true↔vH p ls (zP y) (zP z)) (hc:c=true↔vH p ls (zP x) (zP z)) (hd:d=true↔vH p ls (zP y) (zP x)):
  ¬ (a=true∧d=true)∧(a=true→b=true→c=true)∧(x.1=y.1→(a=true↔x.2 < y.2)):=by
 obtain⟨A,hA⟩:=times hC hs hk
 have hn:=hC.len
 unfold inP at hx hy hz
 simp only[Bool.and_eq_true,decide_eq_true_eq] at hx hy hz
 have hyl:(zP y).2 < aW p (zP y).1:=by show y.2.toNat < aW p y.1.toNat; omega
 have hxl:(zP x).2 < aW p (zP x).1:=by show x.2.toNat < aW p x.1.toNat; omega
 have hzl:(zP z).2 < aW p (zP z).1:=by show z.2.toNat < aW p z.1.toNat; omega
 have hx1:(zP x).1 < ls.length:=by show x.1.toNat < _; omega
 have hy1:(zP y).1 < ls.length:=by show y.1.toNat < _; omega
 have hz1:(zP z).1 < ls.length:=by show z.1.toNat < _; omega
 refine⟨fun⟨h1,h2⟩=>?_,fun h1 h2=>?_,fun e=>?_⟩
 ·have q1:=hA.bef hC hx1 hy1 hyl (ha.1 h1)
  have q2:=hA.bef hC hy1 hx1 hxl (hd.1 h2)
  omega
 ·exact hc.2 (hA.trans hC hy1 hz1 hzl (ha.1 h1) (hb.1 h2))
 ·rw[ha,hA.same hC hy1 hyl (show x.1.toNat=y.1.toNat by rw[e])]
  show x.2.toNat < y.2.toNat↔_
  omega
theorem KR (z:Pl4):raR z=[.sc (.int .i64 (z.1.1.val:Nat)),.sc (.int .i64 (z.1.2.val:Nat)),.sc (.int .i64 (z.2.1.val:Nat)),.sc (.int .i64 (z.2.2.val:Nat))]:=rfl
theorem QS {α:Type} {f:α→Nat} {l:List α} (h:l.Pairwise fun x y=>f x < f y):∀(k:Nat) (hk:k < l.length),k≤f l[k]
 | 0,_=>Nat.zero_le _
 | k+1,hk=>by
  have h1:=QS h k (by omega)
  have h2:=List.pairwise_iff_getElem.1 h k (k+1) (by omega) hk (by omega)
  omega
set_option maxHeartbeats 16000000 in
theorem xL (p:Pg) (hp:POK p) (hn:p.acts.length≤9223372036854775807) (hl:∀ l∈p.acts,l.length≤9223372036854775807) (x y z:Int×Int) {s:Nat} (hs:s < 18446744073709551616):aD Tryz.prog 12 [dH p,plA x,plA y,plA z,.sc (.int .u64 (s:Int))] (.sc (.bool true)):=by
 refine aD.mkI cF12 (nlB rfl) ?_
 have hw:=works_ok
 have hsm:=F0 5 12 p hp hn hl
 have hsB:vN 5 12 p=true→(cL p).1.2=0:=fun h=>of_decide_eq_true (Bool.and_eq_true_iff.1 h).2
 cases hS:vN 5 12 p with
 | false=>
  rw[hS] at hsm
  unfold dH plA at *
  refine aA ?_
  exact aN.w
 | true=>
  have h0:=hsB hS
  rw[hS] at hsm
  have hC:=mX h0
  have hra:=nI p hp
  have hrun:=s7 p hp hs
  have hA:=rN p hp x y
  have hB:=rN p hp y z
  have hCc:=rN p hp x z
  have hD:=rN p hp y x
  obtain⟨a,fa,ea,qa⟩:=xW h0 x y
  obtain⟨b,fb,eb,qb⟩:=xW h0 y z
  obtain⟨c,fc,ec,qc⟩:=xW h0 x z
  obtain⟨d,fd,ed,qd⟩:=xW h0 y x
  rw[ea] at hA
  rw[eb] at hB
  rw[ec] at hCc
  rw[ed] at hD
  clear ea eb ec ed
  unfold l8 at hra
  unfold BJ at hrun
  rw[if_pos h0] at hra hrun
  have hlaw:=fun hk hx hy hz ha hb hc hd=>HZ hC hs hk (x:=x) (y:=y) (z:=z) hx hy hz (a:=a) (b:=b) (c:=c) (d:=d) ha hb hc hd
  generalize (cL p).2=ls at *
  have hro:=I5 hC (eE ls.length p ls)
  have hn2:=hC.len
  have hn64:=hC.n64
  generalize eQ p ls (st0 p ls.length s)=S at *
  unfold AQ at hrun
  have hsl:=tQ p S ls.length
  have hsl2:=bY (dA p S ls.length)
  have i1:PRs (eK p S ls.length):=inferInstance
  have i2:PRs (iM ls.length S):=inferInstance
  generalize g9 p ls (eE ls.length p ls)=R at *
  have hrl:(R.map raR).length=R.length:=List.length_map _
  generalize eK p S ls.length=V at *
  generalize iM ls.length S=M at *
  generalize dA p S ls.length=T at *
  unfold dH plA at *
  refine aA ?_
  refine AWP.loop (fun k:Nat=>[(6,.cptr [.sc (.int .i64 x.1),.sc (.int .i64 x.2)]),(7,.cptr [.sc (.int .i64 y.1),.sc (.int .i64 y.2)]),(11,.cptr [.list 1 V,.list 1 M,.list 1 (bB T)]),(13,.sc (.bool a)),(14,.sc (.int .i64 fa)),(15,.sc (.bool b)),(16,.sc (.int .i64 fb)),(17,.sc (.bool c)),(18,.sc (.int .i64 fc)),(19,.sc (.bool d)),(20,.sc (.int .i64 fd)),(21,.list 4 (R.map raR)),(23,.sc (.int .i64 (k:Int)))]) (fun _=>[]) (fun k=>k≤R.length) (fun k=>R.length - k) 0 (Nat.zero_le _) ?_ ?_
  ·exact Sub.w [] []
  rintro k hk
  refine aA ?_
  rw[hrl]
  refine aA ?_
  refine AWP.condD rfl (fun h=>?_) (fun h=>?_)
  ·have h1:cQ (R.map raR) (k:Int)=some (raR R[k]):=fS raR R k h
   rw[KR] at h1
   have h2:=hro.1 _ (List.getElem_mem h)
   have hl1:=DM R[k].1.1.val R[k].1.2.val R[k].2.1.val R[k].2.2.val
   have e1:(decide (R[k].1.1.val < R[k].2.1.val) || (decide (R[k].1.1.val=R[k].2.1.val) && decide (R[k].1.2.val < R[k].2.2.val)))=true:=by
    have:=R[k].1.2.isLt
    have:=R[k].2.2.isLt
    unfold kFi kSe at h2
    simp only[Bool.or_eq_true,Bool.and_eq_true,decide_eq_true_eq]
    omega
   rw[e1] at hl1
   by_cases hk0:k=0
   ·subst hk0
    generalize R[0]=z0 at *
    refine aA ?_
    refine DK.nil ⟨by kernel_rfl,?_⟩
    refine aA ?_
    refine⟨0+1,by omega,by omega,?_⟩
    exact Sub.w [] []
   ·have h3:=List.pairwise_iff_getElem.1 hro.2 (k - 1) k (by omega) h (by omega)
    have h4:cQ (R.map raR) ((k - 1:Nat):Int)=some (raR R[k - 1]):=fS raR R (k - 1) (by omega)
    rw[KR] at h4
    have hl2:=DM R[k - 1].1.1.val R[k - 1].1.2.val R[k].1.1.val R[k].1.2.val
    have hl3:=DM R[k - 1].2.1.val R[k - 1].2.2.val R[k].2.1.val R[k].2.2.val
    have hge:=QS hro.2 k h
    generalize R[k - 1]=y0 at *
    generalize R[k]=z0 at *
    have q1:=y0.1.2.isLt
    have q2:=y0.2.2.isLt
    have q3:=z0.1.2.isLt
    have q4:=z0.2.2.isLt
    have q5:=y0.2.1.isLt
    have q6:=z0.2.1.isLt
    unfold zI at h3 hge
    have hk1:IntKind.i64.wrap ((k:Int) - 1)=((k - 1:Nat):Int):=by rw[Av.wrap_small (by omega) (by omega)]; omega
    obtain⟨b1,hb1⟩:∃ b,b=(decide (y0.1.1.val < z0.1.1.val) || (decide (y0.1.1.val=z0.1.1.val) && decide (y0.1.2.val < z0.1.2.val))):=⟨_,rfl⟩
    rw[← hb1] at hl2
    have hle:b1=false→y0.1.1.val=z0.1.1.val∧y0.1.2.val=z0.1.2.val∧(decide (y0.2.1.val < z0.2.1.val) || (decide (y0.2.1.val=z0.2.1.val) && decide (y0.2.2.val < z0.2.2.val)))=true:=fun e=>by
     rw[e] at hb1
     have hb1:=hb1.symm
     simp only[Bool.or_eq_false_iff,Bool.and_eq_false_iff,decide_eq_false_iff_not] at hb1
     simp only[Bool.or_eq_true,Bool.and_eq_true,decide_eq_true_eq]
     omega
    clear hb1
    refine aA ?_
    rw[show decide (k > 0)=true from dTr (by omega)]
    refine aA ?_
    cases b1 with
    | true=>
     refine aA ?_
     refine DK.nil ⟨by kernel_rfl,?_⟩
     refine aA ?_
     refine⟨k+1,by omega,by omega,?_⟩
     exact Sub.w [] []
    | false=>
     obtain⟨g1,g2,g3⟩:=hle rfl
     rw[g3] at hl3
     refine aA ?_
     rw[show(true != (decide (((y0.1.1.val:Nat):Int)=((z0.1.1.val:Nat):Int)) && (decide (((y0.1.2.val:Nat):Int)=((z0.1.2.val:Nat):Int)) && true)))=false by rw[dTr (by omega),dTr (by omega)]; rfl]
     refine aA ?_
     refine DK.nil ⟨by kernel_rfl,?_⟩
     refine aA ?_
     refine⟨k+1,by omega,by omega,?_⟩
     exact Sub.w [] []
  ·by_cases hT:T.length=0
   ·have hT0:T=[]:=List.length_eq_zero_iff.1 hT
    subst hT0
    have hlaw:=hlaw rfl
    refine aA ?_
    by_cases ea:fa=0
    rotate_left
    ·rw[show(fa != 0)=true by simpa using ea]
     refine aA ?_
     exact aN.w
    subst ea
    refine aA ?_
    by_cases eb:fb=0
    rotate_left
    ·rw[show(fb != 0)=true by simpa using eb]
     refine aA ?_
     exact aN.w
    subst eb
    refine aA ?_
    by_cases ec:fc=0
    rotate_left
    ·rw[show(fc != 0)=true by simpa using ec]
     refine aA ?_
     exact aN.w
    subst ec
    refine aA ?_
    by_cases ed:fd=0
    rotate_left
    ·rw[show(fd != 0)=true by simpa using ed]
     refine aA ?_
     exact aN.w
    subst ed
    refine aA ?_
    obtain⟨x1,y1,qa⟩:=qa rfl
    obtain⟨_,z1,qb⟩:=qb rfl
    obtain⟨l1,l2,l3⟩:=hlaw x1 y1 z1 qa qb (qc rfl).2.2 (qd rfl).2.2
    clear qa qb qc qd hlaw
    cases a with
    | true=>
     cases d with
     | true=>exact absurd ⟨rfl,rfl⟩ l1
     | false=>
      refine aA ?_
      cases b with
      | true=>
       have hc:=l2 rfl rfl
       subst hc
       refine aA ?_
       by_cases ex:x.1=y.1
       ·rw[show(x.1 == y.1)=true by simpa using ex]
        refine aA ?_
        rw[dTr ((l3 ex).1 rfl)]
        refine aA ?_
        exact aN.w
       ·rw[show(x.1 == y.1)=false by simpa using ex]
        refine aA ?_
        exact aN.w
      | false=>
       refine aA ?_
       by_cases ex:x.1=y.1
       ·rw[show(x.1 == y.1)=true by simpa using ex]
        refine aA ?_
        rw[dTr ((l3 ex).1 rfl)]
        refine aA ?_
        exact aN.w
       ·rw[show(x.1 == y.1)=false by simpa using ex]
        refine aA ?_
        exact aN.w
    | false=>
     refine aA ?_
     by_cases ex:x.1=y.1
     ·rw[show(x.1 == y.1)=true by simpa using ex]
      refine aA ?_
      rw[dFa (fun h=>absurd ((l3 ex).2 h) (by decide))]
      refine aA ?_
      exact aN.w
     ·rw[show(x.1 == y.1)=false by simpa using ex]
      refine aA ?_
      exact aN.w
   ·refine aA ?_
    rw[hsl2,show decide (T.length > 0)=true from dTr (by omega)]
    refine aA ?_
    exact aN.w
theorem tM {a:AV} (h:EP (.agg [.int .i64,.int .i64]) a):∃ z:Int×Int,a=plA z:=by
 cases h with
 | @agg _ cs hl hf=>
  match cs,hl with
  | [c,d],_=>
   obtain⟨n,rfl,_⟩:=iJ (hf 0 _ c rfl rfl)
   obtain⟨m,rfl,_⟩:=iJ (hf 1 _ d rfl rfl)
   exact⟨(n,m),rfl⟩
set_option maxRecDepth 100000 in
theorem sA (os:Os) (started:os.Started) (H:Type) (enc:TypeId×Value→H):
  ReturnsInHanded {} Tryz.checked os 12 .any (Rows.windowStrictSpec.pre6 enc Tryz.prog Tryz.f12 Rows.windowStrictRow.domain false) (Rows.windowStrictSpec.post enc Tryz.prog Tryz.f12 false true false false):=by
 refine returnsInHanded_of_change (C:=Tryz.checked) xT started (by kernel_rfl) Tryz.func12
  (ChangeSpec.witness6 (enc:=enc) (C:=Tryz.checked) false ⟨#[],#[.agg #[.int .i64 0,.slice none 0 0],.agg #[.int .i64 0,.int .i64 0],.agg #[.int .i64 0,.int .i64 0],.agg #[.int .i64 0,.int .i64 0],.int .u64 0],[]⟩ 8 (by kernel_rfl) (by kernel_rfl) (by kernel_rfl) (by kernel_rfl)) ?_
 intro W base args ds gs before hval hW _ _
 refine oI (P:=Tryz.prog) (d:=40) (row:=[.agg [.int .i64,.slice [.slice [.int .i64,.int .i64,.int .i64,.int .i64,.int .i64,.int .i64,.slice [.int .i64]]]],.agg [.int .i64,.int .i64],.agg [.int .i64,.int .i64],.agg [.int .i64,.int .i64],.one (.int .u64)]) (tb:=4) (by kernel_rfl) rfl uG tT o4 (by decide) rfl yA (fun ds hds=>?_) (fun avs hl hf=>?_) hval hW
 ·match ds,hds with
  | [_,_,_,_,_],_=>exact⟨rfl,rfl,rfl⟩
 ·match avs,hl with
  | [a,b,c,d,e],_=>
   obtain⟨p,rfl,hp,hn,hl⟩:=BU (hf 0 _ a rfl rfl)
   obtain⟨x,rfl⟩:=tM (hf 1 _ b rfl rfl)
   obtain⟨y,rfl⟩:=tM (hf 2 _ c rfl rfl)
   obtain⟨z,rfl⟩:=tM (hf 3 _ d rfl rfl)
   obtain⟨s,rfl,hs⟩:=pW (jM (hf 4 _ e rfl rfl))
   exact aO.ofPure (xL p hp hn hl x y z hs) [] rfl
theorem windowStrict_holds:Rows.WindowStrictSaid:=
 OpenClaim.holds_of_wide 12 Tryz.f12 rfl rfl rfl rfl rfl rfl rfl ⟨rfl,rfl,rfl,rfl,rfl⟩ rfl rfl rfl rfl rfl (by kernel_rfl) Tryz.func12 (by kernel_rfl)
  (of_decide_eq_true (by kernel_rfl)) (by unfold Func.isWrapper; first | (rw[if_pos (by decide +kernel)]; kernel_rfl) | (rw[if_neg (by decide +kernel)]; exact⟨rfl,rfl⟩))
  (fun os started H enc _=>sA os started H enc)
end Go.Proofs.YtkjoolaahocgdaaGreat
