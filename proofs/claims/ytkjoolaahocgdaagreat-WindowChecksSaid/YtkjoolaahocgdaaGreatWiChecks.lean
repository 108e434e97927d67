/- The law WindowChecks answers true for every input; no further condition. -/
import Derived.Test.YtkjoolaahocgdaaGreatGWiLaw
import Derived.Test.YtkjoolaahocgdaaGreatGAvB5
import Derived.Test.YtkjoolaahocgdaaGreatGWiD8
import Derived.Test.YtkjoolaahocgdaaGreatGWiL8
import Derived.Test.YtkjoolaahocgdaaGreatGWiD1
namespace Go.Proofs.YtkjoolaahocgdaaGreat
open Go.Av Go.Proofs
set_option maxRecDepth 20000
set_option maxHeartbeats 4000000 in
theorem windowChecks_ok (p:Pg) (hp:POK p) (hn:p.acts.length≤9223372036854775807) (hl:∀ l∈p.acts,l.length≤9223372036854775807):PureRun Tryz.prog 8 [progV p] (.sc (.bool true)):=by
 refine PureRun.mkI cF8 (nlB rfl) ?_
 have hw:=works_ok
 have hf:=few_ok 6 20 p hn hl
 have hc:=check_prog p hp
 have hd:=doc_check p hp
 rw[chk_alike] at hd
 have hr:fewB 6 20 p=true→PureRun Tryz.prog 17 [progV p] (progV p):=fun h=>by
  unfold fewB at h
  rw[Bool.and_eq_true] at h
  obtain⟨h1,h2⟩:=h
  have h1:¬ (6 < p.acts.length∧(p.acts.length≤64∨70 < p.acts.length)):=of_decide_eq_false (by simpa only[Bool.not_eq_true'] using h1)
  refine ref_ok p (by omega) fun l hm=>?_
  have h3:=List.all_eq_true.1 h2 l hm
  unfold fewL at h3
  rw[Bool.and_eq_true] at h3
  have h4:¬ (20 < l.length∧l.length≠101):=of_decide_eq_false (by simpa only[Bool.not_eq_true'] using h3.1)
  omega
 unfold progV at *
 unfold plA at *
 obtain⟨C,hC⟩:∃ C,C=(chkP p).1:=⟨_,rfl⟩
 rw[← hC] at hc hd
 obtain⟨⟨a,b⟩,e⟩:=C
 dsimp only at hc hd
 refine walkX ?_
 cases hB:fewB 6 20 p with
 | false=>
  refine walkX ?_
  exact EndP.w
 | true=>
  have hr:=hr hB
  refine walkX ?_
  rw[show(false != (decide (a=a) && (decide (b=b) && true)))=true by simp]
  refine walkX ?_
  rw[show(e == e)=true by simp]
  refine walkX ?_
  exact EndP.w
theorem open_acts {a:AV} (h:Fit (.slice [.int .i64,.int .i64,.int .i64,.int .i64,.int .i64,.int .i64,.slice [.int .i64]]) a):∃ l:List Act,a=.list 7 (actsR l)∧l.length≤maxLen∧∀ x∈l,x.g.length≤maxLen:=
 open_rows h actR (fun x=>x.g.length≤maxLen) fun r hl hf=>by
  match r,hl with
  | [a,b,c,d,e,f,g],_=>
   obtain⟨k,rfl,_⟩:=open_i64 (hf 0 _ a rfl rfl)
   obtain⟨q,rfl,_⟩:=open_i64 (hf 1 _ b rfl rfl)
   obtain⟨t,rfl,_⟩:=open_i64 (hf 2 _ c rfl rfl)
   obtain⟨o,rfl,_⟩:=open_i64 (hf 3 _ d rfl rfl)
   obtain⟨v,rfl,_⟩:=open_i64 (hf 4 _ e rfl rfl)
   obtain⟨w,rfl,_⟩:=open_i64 (hf 5 _ f rfl rfl)
   obtain⟨l,rfl,hl,_⟩:=open_ints' (hf 6 _ g rfl rfl)
   exact⟨⟨k,q,t,o,v,w,l⟩,rfl,hl⟩
theorem open_prog {a:AV} (h:AFit (.agg [.int .i64,.slice [.slice [.int .i64,.int .i64,.int .i64,.int .i64,.int .i64,.int .i64,.slice [.int .i64]]]]) a):∃ p:Pg,a=progV p∧POK p∧p.acts.length≤9223372036854775807∧∀ l∈p.acts,l.length≤9223372036854775807:=by
 cases h with
 | @agg _ cs hl hf=>
  match cs,hl with
  | [c,d],_=>
   obtain⟨n,rfl,_⟩:=open_i64 (hf 0 _ c rfl rfl)
   obtain⟨m,rfl,hm,hok⟩:=open_rows (hf 1 _ d rfl rfl) (fun l:List Act=>[AV.list 7 (actsR l)]) (fun l=>l.length≤maxLen∧∀ x∈l,x.g.length≤maxLen) fun r hl hf=>by
    match r,hl with
    | [x],_=>
     obtain⟨l,rfl,h1,h2⟩:=open_acts (hf 0 _ x rfl rfl)
     exact⟨l,rfl,h1,h2⟩
   exact⟨⟨n,m⟩,rfl,fun l hl x hx=>(hok l hl).2 x hx,hm,fun l hl=>(hok l hl).1⟩
set_option maxRecDepth 100000 in
theorem windowChecks_lifted (os:Os) (started:os.Started) (H:Type) (enc:TypeId×Value→H):
  ReturnsInHanded {} Tryz.checked os 8 .any (Rows.windowChecksSpec.pre6 enc Tryz.prog Tryz.f8 Rows.windowChecksRow.domain false) (Rows.windowChecksSpec.post enc Tryz.prog Tryz.f8 false true false false):=by
 refine returnsInHanded_of_change (C:=Tryz.checked) Try_own started (by kernel_rfl) Tryz.func8
  (ChangeSpec.witness6 (enc:=enc) (C:=Tryz.checked) false ⟨#[],#[.agg #[.int .i64 0,.slice none 0 0]],[]⟩ 8 (by kernel_rfl) (by kernel_rfl) (by kernel_rfl) (by kernel_rfl)) ?_
 intro W base args ds gs before hval hW _ _
 refine law_calls2 (P:=Tryz.prog) (d:=40) (row:=[.agg [.int .i64,.slice [.slice [.int .i64,.int .i64,.int .i64,.int .i64,.int .i64,.int .i64,.slice [.int .i64]]]]]) (tb:=4) (by kernel_rfl) rfl Try_laid Try_maps Try_slices (by decide) rfl tb_bool (fun ds hds=>?_) (fun avs hl hf=>?_) hval hW
 ·match ds,hds with
  | [_],_=>exact⟨rfl,rfl,rfl⟩
 ·match avs,hl with
  | [a],_=>
   obtain⟨p,rfl,hp,hn,hl⟩:=open_prog (hf 0 _ a rfl rfl)
   exact CallOK.ofPure (windowChecks_ok p hp hn hl) [] rfl
theorem windowChecks_holds:Rows.WindowChecksSaid:=
 OpenClaim.holds_of_wide 8 Tryz.f8 rfl rfl rfl rfl rfl rfl rfl ⟨rfl,rfl,rfl,rfl,rfl⟩ rfl rfl rfl rfl rfl (by kernel_rfl) Tryz.func8 (by kernel_rfl)
  (of_decide_eq_true (by kernel_rfl)) (by unfold Func.isWrapper; first | (rw[if_pos (by decide +kernel)]; kernel_rfl) | (rw[if_neg (by decide +kernel)]; exact⟨rfl,rfl⟩))
  (fun os started H enc _=>windowChecks_lifted os started H enc)
end Go.Proofs.YtkjoolaahocgdaaGreat
