import Derived.Test.YtkjoolaahocgdaaGreatGWiLaw
import Derived.Test.YtkjoolaahocgdaaGreatGAvB5
import Derived.Test.YtkjoolaahocgdaaGreatGWiT3
import Derived.Test.YtkjoolaahocgdaaGreatGWiT7
namespace Go.Proofs.YtkjoolaahocgdaaGreat
open Go.Av Go.Proofs
set_option maxRecDepth 20000
theorem pW {a:AV} (h:Fit (.int .u64) a):∃ n:Nat,a=.sc (.int .u64 (n:Int))∧n < 18446744073709551616:=by
 cases h with
 | int k n h=>
  have e1:IntKind.u64.min=0:=rfl
  have e2:IntKind.u64.max=18446744073709551615:=rfl
  simp only[Lit.wf,Bool.and_eq_true,decide_eq_true_eq,e1,e2] at h
  obtain⟨m,rfl⟩:=Int.eq_ofNat_of_zero_le h.1
  exact⟨m,rfl,by omega⟩
theorem jM {s:Sh} {a:AV} (h:EP (.one s) a):Fit s a:=by
 cases h with
 | one h=>exact h
theorem NL {a:AV} (h:Fit (.slice [.int .i64,.int .i64,.int .i64,.int .i64,.int .i64,.int .i64,.slice [.int .i64]]) a):∃ l:List Act,a=.list 7 (dE l)∧l.length≤maxLen∧∀ x∈l,x.g.length≤maxLen:=
 rZ h bQ (fun x=>x.g.length≤maxLen) fun r hl hf=>by
  match r,hl with
  | [a,b,c,d,e,f,g],_=>
   obtain⟨k,rfl,_⟩:=iJ (hf 0 _ a rfl rfl)
   obtain⟨q,rfl,_⟩:=iJ (hf 1 _ b rfl rfl)
   obtain⟨t,rfl,_⟩:=iJ (hf 2 _ c rfl rfl)
   obtain⟨o,rfl,_⟩:=iJ (hf 3 _ d rfl rfl)
   obtain⟨v,rfl,_⟩:=iJ (hf 4 _ e rfl rfl)
   obtain⟨w,rfl,_⟩:=iJ (hf 5 _ f rfl rfl)
   obtain⟨l,rfl,hl,_⟩:=AR (hf 6 _ g rfl rfl)
   exact⟨⟨k,q,t,o,v,w,l⟩,rfl,hl⟩
theorem BU {a:AV} (h:EP (.agg [.int .i64,.slice [.slice [.int .i64,.int .i64,.int .i64,.int .i64,.int .i64,.int .i64,.slice [.int .i64]]]]) a):∃ p:Pg,a=dH p∧POK p∧p.acts.length≤9223372036854775807∧∀ l∈p.acts,l.length≤9223372036854775807:=by
 cases h with
 | @agg _ cs hl hf=>
  match cs,hl with
  | [c,d],_=>
   obtain⟨n,rfl,_⟩:=iJ (hf 0 _ c rfl rfl)
   obtain⟨m,rfl,hm,hok⟩:=rZ (hf 1 _ d rfl rfl) (fun l:List Act=>[AV.list 7 (dE l)]) (fun l=>l.length≤maxLen∧∀ x∈l,x.g.length≤maxLen) fun r hl hf=>by
    match r,hl with
    | [x],_=>
     obtain⟨l,rfl,h1,h2⟩:=NL (hf 0 _ x rfl rfl)
     exact⟨l,rfl,h1,h2⟩
   exact⟨⟨n,m⟩,rfl,fun l hl x hx=>(hok l hl).2 x hx,hm,fun l hl=>(hok l hl).1⟩
end Go.Proofs.YtkjoolaahocgdaaGreat
