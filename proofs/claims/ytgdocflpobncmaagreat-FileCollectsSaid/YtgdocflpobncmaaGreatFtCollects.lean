/- Collect returns what the document says. -/
import Derived.Test.YtgdocflpobncmaaGreatGFiLaw
namespace Go.Proofs.YtgdocflpobncmaaGreat
open Go.Av Go.Proofs
set_option maxRecDepth 20000
abbrev RqS:List Sh:=.int .i64::(TyS 4++TyS 4)++[.int .i64,.slice [.int .u8]]
theorem zZ:lP Tryz.prog 60 Tryz.f6.params.toList=some [.one (.slice RqS),.one (.int .i64)]:=by kernel_rfl
theorem PE (cs:List AV) (hl:cs.length=RqS.length) (hf:∀(j:Nat) s c,RqS[j]?=some s→cs[j]?=some c→Fit s c):∃ r:Rq,cs=rqR r∧r.kn∧r.off < 9223372036854775808:=by
 match cs,hl with
 | [y0,a0,a1,a2,a3,a4,a5,a6,a7,b0,b1,b2,b3,b4,b5,b6,b7,o,d],_=>
  obtain⟨at',rfl,_⟩:=eS (hf 0 _ y0 rfl rfl)
  obtain⟨e,he,ke⟩:=zK 4 [a0,a1,a2,a3,a4,a5,a6,a7] rfl fun j s c hs hc=>hf (j+1) s c (by
   show(TyS 4++TyS 4++[.int .i64,.slice [.int .u8]])[j]?=some s
   rw[List.append_assoc,List.getElem?_append_left (gEs.1 hs).1]; exact hs) (by
   have hj:=(gEs.1 hc).1
   exact(List.getElem?_append_left (l₂:=[b0,b1,b2,b3,b4,b5,b6,b7,o,d]) hj).trans hc)
  obtain⟨t,ht,kt⟩:=zK 4 [b0,b1,b2,b3,b4,b5,b6,b7] rfl fun j s c hs hc=>hf (j+9) s c (by
   show(TyS 4++[.int .i64,.slice [.int .u8]])[j]?=some s
   rw[List.getElem?_append_left (gEs.1 hs).1]; exact hs) (by
   have hj:=(gEs.1 hc).1
   exact(List.getElem?_append_left (l₂:=[o,d]) hj).trans hc)
  obtain⟨off,rfl,p1⟩:=eS (hf 17 _ o rfl rfl)
  obtain⟨dt,rfl,_,_⟩:=nZ (hf 18 _ d rfl rfl) (fun b:Nat=>[.sc (.int .u8 (b:Int))]) (fun b=>b≤255) fun r hl hf=>by
   match r,hl with
   | [x],_=>
    obtain⟨n,rfl,hn⟩:=PP (hf 0 _ x rfl rfl);exact⟨n,rfl,hn⟩
  refine⟨⟨at',e,t,off,dt⟩,?_,⟨v8 3 e ke,v8 3 t kt⟩,?_⟩
  ·show iv at'::([a0,a1,a2,a3,a4,a5,a6,a7]++([b0,b1,b2,b3,b4,b5,b6,b7]++[iv off,_]))=_
   rw[he,ht];unfold rqR vwR;rw[List.cons_append,List.append_assoc];rfl
  ·show off < _
   omega
set_option maxRecDepth 100000 in
theorem oH (os:Os) (started:os.Started) (H:Type) (enc:TypeId×Value→H):
  ReturnsInHanded {} Tryz.checked os 6 .any (Rows.fileCollectsSpec.pre6 enc Tryz.prog Tryz.f6 Rows.fileCollectsRow.domain false) (Rows.fileCollectsSpec.post enc Tryz.prog Tryz.f6 false true false false):=by
 refine returnsInHanded_of_change (C:=Tryz.checked) PN started (by kernel_rfl) Tryz.func6
  (ChangeSpec.witness6 (enc:=enc) (C:=Tryz.checked) false ⟨#[],#[.slice none 0 0,.int .i64 0],[]⟩ 8 (by kernel_rfl) (by kernel_rfl) (by kernel_rfl) (by kernel_rfl)) ?_
 intro W base args ds gs before hval hW _ _;refine EJ (P:=Tryz.prog) (d:=60) (row:=[.one (.slice RqS),.one (.int .i64)]) (tb:=4) zZ rfl MG NN D9 (by decide) rfl PI (fun ds hds=>?_) (fun avs hl hf=>?_) hval hW
 ·match ds,hds with
  | [_,_],_=>exact⟨rfl,rfl,rfl⟩
 ·obtain⟨x0,x1,rfl,h0,h1⟩:∃ x0 x1,avs=[x0,x1]∧A9 (.one (.slice RqS)) x0∧A9 (.one (.int .i64)) x1:=by
   match avs,hl with
   | [a0,a1],_=>exact⟨a0,a1,rfl,hf 0 _ _ rfl rfl,hf 1 _ _ rfl rfl⟩
  clear hl
  cases h0 with | one h0=>?_
  cases h1 with | one h1=>?_
  obtain⟨parts,rfl,_⟩:=eS h1
  obtain⟨l,rfl,hlen,hrq⟩:=nZ h0 rqR (fun r=>r.kn∧r.off < 9223372036854775808) fun r hl hf=>PE r hl hf
  show aH Tryz.prog 6 [.list 19 (rqs l),iv parts] [] _;exact aH.ofPure (DA (fun r hr=>(hrq r hr).1) (fun r hr=>(hrq r hr).2) (Nat.le_trans hlen (by decide))) _ rfl
theorem fileCollects_holds:Rows.FileCollectsSaid:=
 OpenClaim.holds_of_wide 6 Tryz.f6 rfl rfl rfl rfl rfl rfl rfl ⟨rfl,rfl,rfl,rfl,rfl⟩ rfl rfl rfl rfl rfl (by kernel_rfl) Tryz.func6 (by kernel_rfl)
  (of_decide_eq_true (by kernel_rfl)) (by unfold Func.isWrapper; first | (rw[if_pos (by decide +kernel)]; kernel_rfl) | (rw[if_neg (by decide +kernel)]; exact⟨rfl,rfl⟩))
  (fun os started H enc _=>oH os started H enc)
end Go.Proofs.YtgdocflpobncmaaGreat
