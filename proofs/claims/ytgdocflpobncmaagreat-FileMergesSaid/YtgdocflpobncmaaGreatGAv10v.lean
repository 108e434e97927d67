import Derived.Test.YtgdocflpobncmaaGreatGAv10z
import Derived.Maps.RangeRun
namespace Go.Av
open Go.MapKept
section
variable {P:Program} {M:Mem} {J:Inj} {H:Heap} {w:World} {g i:Nat}
variable {N:Nat} {fr:Fr} {tmps:Array Value} {ds:List Deferred} {o:Oper} {v:AV} {H':Heap}
theorem IE (hF:aU N M J fr tmps) (hH:aN M J H w.heap) (hM:a8 M w.heap) (hn:hok H g i) (hJ:J g i=none) {t kt e:TypeId} {x:Operand} (ht:P.underlying t=some (.map kt e))
  (h:o.op=.range t x) (hs:aD g i (.mop .range [x]) fr H=some (v,H')):bE P M J H w g i (execOp (Act.eval ⟨tmps,ds⟩) o) v H':=by
 have hx:=aH (ds:=ds) hF x;simp only[aD,avals,List.map_cons,List.map_nil,dG] at hs;generalize hcv:Act.eval ⟨tmps,ds⟩ x=cv at hx;split at hs
 ·rename_i es ea
  injection ea with ea _
  rw[ea] at hx;simp only[oIn,pIn] at hs;obtain⟨rfl,rfl⟩:=hs
  cases hx with
  | tmap _ β clock ces hMb hw hl hk hr=>
   have hb:=hM _ _ hMb;refine .new hH hM hn hJ (w':={ w with heap:=w.heap.push (.mapIter (some β) clock #[] clock) }) (.mapIter (some β) clock #[] clock) _ ⟨some w.heap.size,0,0⟩ rfl rfl rfl rfl (cv:=.pointer (some ⟨w.heap.size,0,none⟩)) ?_ rfl ?_ ?_
   ·simp[execOp,h,hcv,Instr.range,run_underlying ht,MapKept.run_getObj_map hb]
   ·have e1:(ces.toList.filter fun e=>!(#[]:Array Nat).contains e.born)=ces.toList:=List.filter_eq_self.2 fun x _=>by simp
    refine⟨w.heap.size,_,rfl,eD _ _,.inr ⟨β,clock,#[],ces,rfl,hMb,hw,by rw[e1]; simpa using hl,fun j x y a b=>?_,fun x hx=>by cases hx⟩⟩;rw[e1] at b
    have b:ces[j]?=some y:=by simpa using b
    exact⟨hk j x y a b,hr j x y a b⟩
   ·have:=Rep.ptr (M:=M) (J:=J.set g i ⟨some w.heap.size,0,0⟩) g i 0 0 w.heap.size _ (Inj.set_self _) rfl
    rwa[Nat.zero_mul] at this
 ·rename_i ea
  injection ea with ea _
  rw[ea] at hx;simp only[oIn,pIn] at hs;obtain⟨rfl,rfl⟩:=hs
  cases hx
  refine .new hH hM hn hJ (w':={ w with heap:=w.heap.push (.mapIter none 0 #[] 0) }) (.mapIter none 0 #[] 0) _ ⟨some w.heap.size,0,0⟩ rfl rfl rfl rfl (cv:=.pointer (some ⟨w.heap.size,0,none⟩)) ?_ rfl ?_ ?_
  ·simp[execOp,h,hcv,Instr.range,run_underlying ht]
  ·exact⟨w.heap.size,_,rfl,eD _ _,.inl ⟨rfl,rfl,_,_,_,rfl⟩⟩
  ·have:=Rep.ptr (M:=M) (J:=J.set g i ⟨some w.heap.size,0,0⟩) g i 0 0 w.heap.size _ (Inj.set_self _) rfl
   rwa[Nat.zero_mul] at this
 ·cases hs
theorem aN.its {H:Heap} {h:Array Obj} (hH:aN M J H h) {g i:Nat} {cur:Option (Value×AV)} {es:List (Value×AV)} (hg:hget H g i=some (.it cur es)) {l:Loc} (hJ:J g i=some l) {β:Nat} (hb:l.blk=some β):
  ∃ o,h[β]?=some o∧mW M J o cur es:=by
 obtain⟨l',h1,β',o,h2,h3,h4⟩:=hH.blk g i _ hg rfl;rw[hJ] at h1
 injection h1 with h1
 subst h1;rw[hb] at h2
 injection h2 with h2
 subst h2;exact⟨o,h3,h4⟩
theorem rF (ces:Array MapEntry) (seen:Array Nat):(leftOf ces seen).toList=ces.toList.filter fun e=>!seen.contains e.born:=by
 unfold leftOf;rw[Array.toList_filter]
theorem DV (hM:a8 M w.heap) {β:Nat} {ob:Obj} (hb:w.heap[β]?=some ob) {cur:Option (Value×AV)} {es:List (Value×AV)} (hi:mW M J ob cur es) (ty:TypeId):
  (es=[]∧(Instr.next (.pointer (some ⟨β,0,none⟩)) false ty).run P w=.ok (.tuple #[.bool false]) w) ∨
  ∃(l1 l2:List (Value×AV)) (x:Value×AV) (e:MapEntry) (w1:World) (ob':Obj),es=l1++x::l2∧(w1=w∨w1=w.drew) ∧
   (Instr.next (.pointer (some ⟨β,0,none⟩)) false ty).run P w=.ok (.tuple #[.bool true,e.key,e.val]) (ChangeMaps.setBlock w1 β ob')∧x.1=e.key∧Rep M J x.2 e.val∧(∃ a b c d,ob'=.mapIter a b c d)∧mW M J ob' (some x) (l1++l2):=by
 rcases hi with⟨rfl,rfl,a,b,c,rfl⟩ | ⟨μ,since,seen,ces,rfl,h2,h3,h4,h5,_⟩
 ·left
  refine⟨rfl,?_⟩;simp[Instr.next,getObj,Sem.run,hb]
 ·have hμ:=hM _ _ h2
  rcases run_next_at (P:=P) w ty β μ since since seen ces since hb hμ h3.lt (Nat.le_refl _) with⟨e0,hrun⟩ | ⟨e,he,w1,hw1,hrun⟩
  ·left
   refine⟨?_,hrun⟩
   have e1:(leftOf ces seen).toList.length=0:=by simpa using e0
   rw[rF] at e1;rw[e1] at h4;exact List.eq_nil_of_length_eq_zero h4
  ·right
   rw[rF] at he;have hmem:=he;rw[List.mem_filter] at hmem;obtain⟨j,hj,hje⟩:=List.getElem_of_mem he
   have hj2:j < es.length:=by omega
   have hes:es=es.take j++es[j]::es.drop (j+1):=by
    rw[← List.drop_eq_getElem_cons hj2,List.take_append_drop]
   obtain⟨q1,q2⟩:=h5 j es[j] e (gEg hj2) (by rw[gEg hj,hje]);refine⟨es.take j,es.drop (j+1),es[j],e,w1,_,hes,hw1,hrun,q1,q2,⟨_,_,_,_,rfl⟩,.inr ⟨μ,since,seen.push e.born,ces,rfl,h2,h3,?_⟩⟩
   -- what is left now
   have hleft:(ces.toList.filter fun x=>!(seen.push e.born).contains x.born)=(ces.toList.filter fun x=>!seen.contains x.born).take j++(ces.toList.filter fun x=>!seen.contains x.born).drop (j+1):=by
    have e1:(ces.toList.filter fun x=>!(seen.push e.born).contains x.born)=(ces.toList.filter fun x=>!seen.contains x.born).filter fun x=>decide (x.born≠e.born):=by
     rw[List.filter_filter]
     refine List.filter_congr fun x _=>?_
     rw[Array.contains_push];rw[Bool.eq_iff_iff];simp;constructor
     ·rintro⟨a,b⟩; exact⟨b,a⟩
     ·rintro⟨a,b⟩; exact⟨b,a⟩
    have nd:(ces.toList.filter fun x=>!seen.contains x.born).Pairwise fun a b=>a.born≠b.born:=h3.nd.sublist List.filter_sublist
    rw[e1];generalize (ces.toList.filter fun x=>!seen.contains x.born)=L at hj hje nd ⊢
    have hL:L=L.take j++e::L.drop (j+1):=by
     rw[← hje,← List.drop_eq_getElem_cons hj,List.take_append_drop]
    generalize hA:L.take j=A at *;generalize hB:L.drop (j+1)=B at *;rw[hL] at nd ⊢;obtain⟨_,n2,n3⟩:=List.pairwise_append.1 nd;obtain⟨n4,_⟩:=List.pairwise_cons.1 n2
    have f1:A.filter (fun x=>decide (x.born≠e.born))=A:=List.filter_eq_self.2 fun x hx=>dTr (n3 x hx e (List.mem_cons_self ..))
    have f2:B.filter (fun x=>decide (x.born≠e.born))=B:=List.filter_eq_self.2 fun x hx=>dTr (fun h=>n4 x hx h.symm)
    rw[List.filter_append,List.filter_cons,if_neg (by simp),f1,f2]
   rw[hleft];refine⟨by rw[lAp,lAp,List.length_take,List.length_take,List.length_drop,List.length_drop,h4],fun q x y a b=>?_,fun x hx=>?_⟩
   ·have ht:(es.take j).length=j:=by rw[List.length_take]; omega
    have ht2:((ces.toList.filter fun x=>!seen.contains x.born).take j).length=j:=by rw[List.length_take]; omega
    rw[List.getElem?_append] at a b;rw[ht] at a;rw[ht2] at b;split at a
    ·rename_i hq
     rw[if_pos hq] at b;rw[List.getElem?_take_of_lt hq] at a b;exact h5 q x y a b
    ·rename_i hq
     rw[if_neg hq] at b;rw[List.getElem?_drop] at a b;exact h5 _ x y a b
   ·injection hx with hx
    subst hx;exact⟨e,hmem.1,by simp,q1,q2⟩
theorem L7 (hF:aU N M J fr tmps) (hH:aN M J H w.heap) (hM:a8 M w.heap) {x:Operand} (h:o.op=.next x false) (hs:aD g i (.mop .next [x]) fr H=some (v,H')):bE P M J H w g i (execOp (Act.eval ⟨tmps,ds⟩) o) v H':=by
 have hx:=aH (ds:=ds) hF x;simp only[aD,avals,List.map_cons,List.map_nil,dG] at hs;generalize hcv:Act.eval ⟨tmps,ds⟩ x=cv at hx;split at hs
 ·rename_i g' i' ea
  injection ea with ea _
  rw[ea] at hx;split at hs
  ·rename_i cur hg
   simp only[oIn,pIn] at hs;obtain⟨rfl,rfl⟩:=hs
   cases hx with
   | ptr _ _ _ _ β l hJ hb=>
    rw[Nat.zero_mul] at hcv;obtain⟨ob,h1,h2⟩:=hH.its hg hJ hb
    rcases DV (P:=P) hM h1 h2 o.type with⟨_,hrun⟩ | ⟨l1,l2,x,e,_,_,h3,_⟩
    ·refine .quiet hH hM (cv:=.tuple #[.bool false]) ?_ (.tup _ _ rfl fun j c v a b=>?_)
     ·simp[execOp,h,hcv,hrun]
     ·cases j with
      | zero=>simp at a b; subst a; subst b; exact .sc _
      | succ j=>simp at a
    ·cases l1<;>cases h3
  ·cases hs
 ·cases hs
theorem JG (hF:aU N M J fr tmps) (hH:aN M J H w.heap) (hM:a8 M w.heap) {x:Operand} (h:o.op=.entry x) (hs:aD g i (.mop .entry [x]) fr H=some (v,H')):bE P M J H w g i (execOp (Act.eval ⟨tmps,ds⟩) o) v H':=by
 have hx:=aH (ds:=ds) hF x;simp only[aD,avals,List.map_cons,List.map_nil,dG] at hs;generalize hcv:Act.eval ⟨tmps,ds⟩ x=cv at hx;split at hs
 ·rename_i g' i' ea
  injection ea with ea _
  rw[ea] at hx;split at hs
  ·rename_i y es hg
   simp only[oIn,pIn] at hs;obtain⟨rfl,rfl⟩:=hs
   cases hx with
   | ptr _ _ _ _ β l hJ hb=>
    rw[Nat.zero_mul] at hcv;obtain⟨ob,h1,h2⟩:=hH.its hg hJ hb
    rcases h2 with⟨_,h2,_⟩ | ⟨μ,since,seen,ces,rfl,h2,h3,_,_,h6⟩
    ·cases h2
    ·obtain⟨e,a1,a2,a3,a4⟩:=h6 y rfl
     have hf:ces.find? (·.born == e.born)=some e:=by rw[← Array.find?_toList]; exact find_born e ces.toList (List.pairwise_map.2 h3.nd) a1
     have hrun:(Instr.entry (.pointer (some ⟨β,0,none⟩))).run P w=.ok (.tuple #[e.key,e.val]) w:=by
      simp only[Instr.entry,getObj,Sem.run_bind,Sem.run,h1,hM _ _ h2,Result.andThen,a2,bne_self_eq_false,Bool.false_eq_true,if_false,hf];rfl
     refine .quiet hH hM (cv:=.tuple #[e.key,e.val]) ?_ (.tup _ _ rfl fun j c v a b=>?_)
     ·simp[execOp,h,hcv,hrun]
     ·cases j with
      | zero=>simp at a b; subst a; subst b; rw[a3]; exact .sc _
      | succ j=>cases j with
       | zero=>simp at a b; subst a; subst b; exact a4
       | succ j=>simp at a
  ·cases hs
 ·cases hs
theorem sD (k k0:IntKind) (n:Int):∀(es:List (Value×AV)) (cl:List MapEntry) (res:Option AV) (q:Nat),es.length=cl.length→(∀(j:Nat) x y,es[j]?=some x→cl[j]?=some y→x.1=y.key) →
  dM k n es=some res →
  (Instr.findNow (.int k0) (.int k n) cl q=some none∧rC n es=es) ∨
  ∃ j v,j < cl.length∧Instr.findNow (.int k0) (.int k n) cl q=some (some (q+j,v))∧rC n es=es.eraseIdx j
 | [],cl,res,q,hl,_,h=>by
  cases cl with
  | nil=>exact .inl ⟨rfl,rfl⟩
  | cons _ _=>simp at hl
 | (key,x)::es,cl,res,q,hl,hk,h=>by
  cases cl with
  | nil=>simp at hl
  | cons c cl=>
   have hkey:key=c.key:=hk 0 _ _ rfl rfl
   cases key with
   | int k' m=>
    simp only[dM] at h;split at h
    ·rename_i e1
     have e1:k=k':=of_decide_eq_true e1;subst e1;split at h
     ·rename_i e2
      have e2:n=m:=of_decide_eq_true e2;subst e2;exact .inr ⟨0,c.val,by simp,by simp[Instr.findNow,← hkey,Instr.sameNow],by simp[rC]⟩
     ·rename_i e2
      have e2:¬ n=m:=of_decide_eq_false e2
      have hs:Instr.sameNow (.int k0) (.int k n) c.key=some false:=by
       rw[← hkey];simp[Instr.sameNow,e2]
      rcases sD k k0 n es cl res (q+1) (by simpa using hl) (fun j x y a b=>hk (j+1) x y a b) h with⟨h1,h2⟩ | ⟨j,v,h1,h2,h3⟩
      ·exact .inl ⟨by simp[Instr.findNow,hs,h1],by simp[rC,e2,h2]⟩
      ·exact .inr ⟨j+1,v,by simpa using h1,by simp[Instr.findNow,hs,h2]; omega,by simp[rC,e2,h3]⟩
    ·cases h
   | _=>simp[dM] at h
theorem MWF.sub {ces ces':Array MapEntry} {c:Nat} (h:MWF ces c) (e:ces'.toList.Sublist ces.toList):MWF ces' c:=⟨fun x hx=>h.lt x (e.subset hx),h.nd.sublist e⟩
theorem QB (hF:aU N M J fr tmps) (hH:aN M J H w.heap) (hM:a8 M w.heap) {t kt e:TypeId} {k:IntKind} {m ix:Operand} {args:Array Operand} {ts:Array TypeId} {tr:List TypeId} (ha:args.toList=[m,ix]) (hts:ts.toList=t::tr) (ht:P.underlying t=some (.map kt e)) (hkt:P.underlying kt=some (.int k))
  (h:o.op=.call ⟨.builtin .delete,args,ts⟩) (hs:aD g i (.mop (.del k) [m,ix]) fr H=some (v,H')):bE P M J H w g i (execOp (Act.eval ⟨tmps,ds⟩) o) v H':=by
 have hm:=aH (ds:=ds) hF m;have hix:=aH (ds:=ds) hF ix
 have ha':args=#[m,ix]:=by cases args; simp_all
 have ht':ts[0]?=some t:=by cases ts; simp_all
 subst ha';simp only[aD,avals,List.map_cons,List.map_nil,dG] at hs;split at hs
 ·rename_i g' i' k' n ea
  injection ea with em ea
  injection ea with ei _
  rw[ei] at hix;rw[em] at hm;have hixv:=hix.sc_inv;split at hs
  ·rename_i hk
   have hk:k=k':=of_decide_eq_true hk;subst hk;have hkey:IsKey (.int k) (.int k n):=rfl;generalize hcv:Act.eval ⟨tmps,ds⟩ m=cv at hm;split at hs
   ·rename_i es hg
    split at hs
    ·rename_i res hmf
     simp only[oIn,pIn] at hs;obtain⟨rfl,rfl⟩:=hs;obtain⟨l',β,ces,clock,p1,p2,p3,p4,p5,p6,p7⟩:=hH.maps hg
     cases hm with
     | mref _ _ β' l hJ hb=>
      rw[hJ] at p1
      injection p1 with p1
      subst p1;rw[hb] at p2
      injection p2 with p2
      subst p2
      have hck:∀ b,(Instr.checkKey b 10000 kt (.int k n)).run P w=.ok () w:=fun b=>run_checkKey hkt hkey b 9999
      have hblt:=bX p3
      have fin:∀(es':List (Value×AV)) (ces':Array MapEntry),(execOp (Act.eval ⟨tmps,ds⟩) o).run P w=.ok (.value (.tuple #[])) { w with heap:=w.heap.setIfInBounds β' (.map ces' clock) } →
        es'.length=ces'.size→(∀(j:Nat) x y,es'[j]?=some x→ces'[j]?=some y→x.1=y.key)→(∀(j:Nat) x y,es'[j]?=some x→ces'[j]?=some y→Rep M J x.2 y.val)→MWF ces' clock →
        bE P M J H w g i (execOp (Act.eval ⟨tmps,ds⟩) o) (.tup []) (aK H g' i' (.map es')):=by
       intro es' ces' hrun q1 q2 q3 q4;refine⟨_,_,J,.inl hrun,.tup _ _ rfl fun j c v a b=>by simp at a,.refl _ _,fun k=>?_,fun _ _ _=>rfl⟩;exact aS.write k hH hM g' i' l β' _ hg rfl hJ hb (.map ces' clock) _ (fun _=>⟨β',ces',clock,hb,by simp[hblt],q1,q2,q3,q4⟩) rfl rfl rfl rfl
      have hexec:∀ r,(Builtin.delete_ ts o.type #[.map (some β'),.int k n]).run P w=.ok (.tuple #[]) r→(execOp (Act.eval ⟨tmps,ds⟩) o).run P w=.ok (.value (.tuple #[])) r:=by
       intro r hr;simp[execOp,h,resolve,invoke,builtin,hcv,hixv,hr]
      rcases sD k k n es ces.toList res 0 (by simpa using p4) (fun j x y a b=>p5 j x y a (by simpa using b)) hmf with⟨e1,e2⟩ | ⟨j,u,e0,e1,e2⟩
      ·rw[e2]
       have hfk:=run_findKey (P:=P) (w:=w) hkt e1;refine fin es ces (hexec _ ?_) p4 p5 p6 p7;simp only[Builtin.delete_,ht',List.getElem?_toArray,List.getElem?_cons_zero,List.getElem?_cons_succ,Sem.run_bind,run_underlying ht,Result.andThen_ok,MapKept.run_getObj_map p3,hck,hfk,MapKept.run_setObj_map _ p3,Sem.run_pure]
      ·rw[e2]
       rw[Nat.zero_add] at e1;have hfk:=run_findKey (P:=P) (w:=w) hkt e1
       have hsz:j < ces.size:=by simpa using e0
       have hel:∀ q:Nat,(ces.eraseIdxIfInBounds j)[q]?=(ces.toList.eraseIdx j)[q]?:=fun q=>by
        rw[← Array.getElem?_toList];congr 1;rw[Array.eraseIdxIfInBounds_eq,dif_pos hsz];simp
       have hel2:(ces.eraseIdxIfInBounds j).toList=ces.toList.eraseIdx j:=by
        rw[Array.eraseIdxIfInBounds_eq,dif_pos hsz];simp
       have hget:∀(q:Nat) (x:Value×AV) (y:MapEntry),(es.eraseIdx j)[q]?=some x→(ces.eraseIdxIfInBounds j)[q]?=some y→∃ q':Nat,es[q']?=some x∧ces[q']?=some y:=by
        intro q x y a b;rw[hel] at b;rw[List.getElem?_eraseIdx] at a b;split at a
        ·rename_i hq
         rw[if_pos hq] at b;exact⟨q,a,by simpa using b⟩
        ·rename_i hq
         rw[if_neg hq] at b;exact⟨q+1,a,by simpa using b⟩
       refine fin _ (ces.eraseIdxIfInBounds j) (hexec _ ?_) ?_ (fun q x y a b=>?_) (fun q x y a b=>?_) (p7.sub (by rw[hel2]; exact List.eraseIdx_sublist _ _))
       ·simp only[Builtin.delete_,ht',List.getElem?_toArray,List.getElem?_cons_zero,List.getElem?_cons_succ,Sem.run_bind,run_underlying ht,Result.andThen_ok,MapKept.run_getObj_map p3,hck,hfk,MapKept.run_setObj_map _ p3,Sem.run_pure]
       ·rw[← Array.length_toList,hel2,List.length_eraseIdx,List.length_eraseIdx,if_pos (by omega),if_pos e0,p4,Array.length_toList]
       ·obtain⟨q',a',b'⟩:=hget q x y a b
        exact p5 q' x y a' b'
       ·obtain⟨q',a',b'⟩:=hget q x y a b
        exact p6 q' x y a' b'
    ·cases hs
   ·cases hs
  ·cases hs
 ·cases hs
theorem FG (hF:aU N M J fr tmps) (hH:aN M J H w.heap) (hM:a8 M w.heap) (hn:hok H g i) (hJ:J g i=none) {t e:TypeId} {x:Operand} {sz:Nat} (ht:P.underlying t=some (.slice e)) (hsz:bH P e=some sz)
  (h:o.op=.slice t x none (some (.const (.int .i64 0))) (some (.const (.int .i64 0)))) (hs:aD g i (.mop (.slice0 sz) [x]) fr H=some (v,H')):bE P M J H w g i (execOp (Act.eval ⟨tmps,ds⟩) o) v H':=by
 have hx:=aH (ds:=ds) hF x
 have key:∀(a:Option Addr) (d cap:Nat),Act.eval ⟨tmps,ds⟩ x=.slice a d cap→bE P M J H w g i (execOp (Act.eval ⟨tmps,ds⟩) o) (.hsl g i 0 0) (aK H g i (.cells sz [])):=by
  intro a d cap hcv;have hc:Act.eval ⟨tmps,ds⟩ (.const (.int .i64 0))=.int .i64 0:=rfl
  have hrun:(execOp (Act.eval ⟨tmps,ds⟩) o).run P w=.ok (.value (.slice a 0 0)) w:=by
   simp[execOp,h,Instr.sliceAt,Instr.slice,run_underlying ht,hcv,run_sizeOf hsz,Instr.sliceBounds,Instr.sliceBound,hc,asIntOf]
  refine⟨_,w,J.set g i ⟨none,sz,0⟩,.inl hrun,.hslNil g i _ _ (Inj.set_self _) rfl,Inj.set_ext _ hJ M,fun k=>?_,fun a b hab=>by simp only[Inj.set,if_neg hab]⟩;exact aS.alloc k hH hM g i hn hJ none _ _ rfl ⟨rfl,fun q r hq=>by simp at hq,rfl⟩ rfl rfl rfl rfl
 simp only[aD,avals,List.map_cons,List.map_nil,dG] at hs;split at hs
 ·rename_i a b ea
  injection ea with ea _
  rw[ea] at hx;simp only[oIn,pIn] at hs;obtain⟨rfl,rfl⟩:=hs;generalize hcv:Act.eval ⟨tmps,ds⟩ x=cv at hx
  cases hx with
  | nilList=>exact key _ _ _ hcv
  | list=>exact key _ _ _ hcv
 ·rename_i a b c d ea
  injection ea with ea _
  rw[ea] at hx;simp only[oIn,pIn] at hs;obtain⟨rfl,rfl⟩:=hs;generalize hcv:Act.eval ⟨tmps,ds⟩ x=cv at hx
  cases hx with
  | hsl=>exact key _ _ _ hcv
  | hslNil=>exact key _ _ _ hcv
 ·rename_i ea
  injection ea with ea _
  rw[ea] at hx;simp only[oIn,pIn] at hs;obtain⟨rfl,rfl⟩:=hs;generalize hcv:Act.eval ⟨tmps,ds⟩ x=cv at hx
  cases hx with
  | asl=>exact key _ _ _ hcv
 ·rename_i ea
  injection ea with ea _
  rw[ea] at hx;simp only[oIn,pIn] at hs;obtain⟨rfl,rfl⟩:=hs;exact key _ _ _ hx.sc_inv
 ·cases hs
theorem PN (hF:aU N M J fr tmps) (hH:aN M J H w.heap) (hM:a8 M w.heap) {t e:TypeId} {x:Operand} {args:Array Operand} {ts:Array TypeId} (ha:args.toList=[x]) (hts:ts.toList=[t]) (ht:P.underlying t=some (.slice e))
  (h:o.op=.call ⟨.builtin .cap,args,ts⟩) (hs:aD g i (.mop .cap [x]) fr H=some (v,H')):bE P M J H w g i (execOp (Act.eval ⟨tmps,ds⟩) o) v H':=by
 have hx:=aH (ds:=ds) hF x
 have ha':args=#[x]:=by cases args; simp_all
 have ht':ts[0]?=some t:=by cases ts; simp_all
 subst ha';simp only[aD,avals,List.map_cons,List.map_nil,dG] at hs;split at hs
 ·rename_i ea
  injection ea with ea _
  rw[ea] at hx;simp only[oIn,pIn] at hs;obtain⟨rfl,rfl⟩:=hs;have hcv:=hx.sc_inv;exact .quiet hH hM (cv:=.int .i64 (0:Nat)) (by simp[execOp,h,resolve,invoke,builtin,Builtin.cap_,hcv,ht',run_underlying ht,goInt]) (.sc _)
 ·cases hs
theorem BB {a:AV} {x:Value} (hr:Rep M J a x) {s0 sz:Nat} {rows:List (List AV)} (h:d9 s0 H a=some (sz,rows)) {n:Nat} (hn:n≤rows.length):
  ∃ a' x',Rep M J a' x'∧d9 s0 H a'=some (sz,rows.take n)∧∀ k,Builtin.firstCells sz k x'=Builtin.firstCells sz k x:=by
 unfold d9 at h;split at h
 ·injection h with h
  injection h with h1 h2
  subst h1; subst h2;refine⟨_,x,hr,?_,fun _=>rfl⟩;simp[d9]
 ·cases hr with
  | nilList s a cap=>
   simp only[cY,oIn,pIn] at h;obtain⟨rfl,rfl⟩:=h;exact⟨.list s [],_,.nilList s a cap,by simp[d9,cY],fun _=>rfl⟩
  | list s rows' β off cap m cs e f hm hMb hrl hle hone hrep=>
   simp only[cY,oIn,pIn] at h;obtain⟨rfl,rfl⟩:=h
   have hg:∀(q:Nat) (r:List AV),(rows'.take n)[q]?=some r→rows'[q]?=some r:=fun q r hq=>by
    rw[List.getElem?_take] at hq;split at hq
    ·exact hq
    ·cases hq
   have hlen:(rows'.take n).length=n:=by rw[List.length_take]; omega
   have hmul:n * s≤rows'.length * s:=Nat.mul_le_mul_right _ hn;refine⟨.list s (rows'.take n),.slice (some ⟨β,off,none⟩) n cap,.list s _ β off cap n cs e f ⟨hlen.symm,by omega⟩ hMb (fun q r hq=>hrl q r (hg q r hq)) (by rw[hlen]; omega) (fun j v hj=>hone j v (by rw[hlen] at hj; omega)) (fun q r j c v hq=>hrep q r j c v (hg q r hq)),by simp[d9,cY],fun _=>rfl⟩
  | hsl g' i' st len cap β l hJ hb hc hlc=>
   simp only[cY] at h;split at h
   ·rename_i s rows0 hg
    split at h
    ·rename_i hb2
     simp only[oIn,pIn] at h;obtain⟨rfl,rfl⟩:=h;have hle:=nlB hb2
     have hnl:n≤len:=by rw[List.length_take] at hn; omega
     refine⟨.hsl g' i' st n,_,.hsl g' i' st n cap β l hJ hb hc (by omega),?_,fun _=>rfl⟩;have e1:Nat.ble (st+n) rows0.length=true:=Nat.ble_eq_true_of_le (by omega);simp only[d9,cY,hg,e1];rw[List.take_take,Nat.min_eq_left hnl]
    ·cases h
   ·cases h
  | asl g' i' row off len cap β l hJ hb hlc=>
   simp only[cY] at h;split at h
   ·rename_i s rows0 hg
    split at h
    ·rename_i r0 hr0
     split at h
     ·rename_i hb2
      simp only[oIn,pIn] at h;obtain⟨rfl,rfl⟩:=h;have hle:=nlB hb2
      have hnl:n≤len:=by rw[List.length_map,List.length_take] at hn; omega
      refine⟨.asl g' i' row off n,_,.asl g' i' row off n cap β l hJ hb (by omega),?_,fun _=>rfl⟩;have e1:Nat.ble (off+n) s=true:=Nat.ble_eq_true_of_le (by omega);simp only[d9,cY,hg,hr0,e1];rw[← List.map_take,List.take_take,Nat.min_eq_left hnl]
     ·cases h
    ·cases h
   ·cases h
  | hslNil g' i' a0 l hJ hb=>
   simp only[cY] at h;split at h
   ·rename_i s rows0 hg
    split at h
    ·rename_i hb2
     simp only[oIn,pIn] at h;obtain⟨rfl,rfl⟩:=h;refine⟨.hsl g' i' 0 0,_,.hslNil g' i' a0 l hJ hb,?_,fun _=>rfl⟩;simp only[d9,cY,hg,hb2];simp
    ·cases h
   ·cases h
  | _=>cases h
theorem GD {b:Option Addr} {m c:Nat} (w:World):(Builtin.lenOf (.slice b m c)).run P w=.ok m w:=by simp[Builtin.lenOf]
theorem MF (hF:aU N M J fr tmps) (hH:aN M J H w.heap) (hM:a8 M w.heap) {t e:TypeId} {sz:Nat} {d x:Operand} {args:Array Operand} {ts:Array TypeId} {tr:List TypeId} (ha:args.toList=[d,x]) (hts:ts.toList=t::tr) (ht:P.underlying t=some (.slice e)) (hsz:bH P e=some sz)
  (h:o.op=.call ⟨.builtin .copy,args,ts⟩) (hs:aD g i (.mop (.copy sz) [d,x]) fr H=some (v,H')):bE P M J H w g i (execOp (Act.eval ⟨tmps,ds⟩) o) v H':=by
 have hx:=aH (ds:=ds) hF x;have hd:=aH (ds:=ds) hF d
 have ha':args=#[d,x]:=by cases args; simp_all
 have ht':ts[0]?=some t:=by cases ts; simp_all
 subst ha';simp only[aD,avals,List.map_cons,List.map_nil,dG] at hs;split at hs
 ·rename_i g' i' st len s ea
  injection ea with ed ea
  injection ea with ex _
  subst ex;rw[ed] at hd;split at hs
  ·rename_i s2 rows2 hr
   split at hs
   ·rename_i s1 rows1 hg
    split at hs
    ·rename_i hb
     simp only[bAe] at hb;obtain⟨⟨hb1,hb2⟩,hb3⟩:=hb;have hb1:=nEb hb1;have hb2:=nEb hb2;have hb3:=nlB hb3;subst hb1; subst hb2;simp only[oIn,pIn] at hs;obtain⟨rfl,rfl⟩:=hs;obtain⟨l',p1,p2,p3,p4⟩:=hH.cells hg;generalize hcd:Act.eval ⟨tmps,ds⟩ d=dv at hd;generalize hcx:Act.eval ⟨tmps,ds⟩ x=xv at hx
     cases hd with
     | hsl _ _ _ _ cap β l hJ hbk hc hlc=>
      rw[hJ] at p1
      injection p1 with p1
      subst p1;obtain⟨cs,e',⟨ff,q1,hff⟩,q2,q3,q4,q5⟩:=p4 β hbk;rw[p2] at hcd hc;have hn1:min rows2.length (len+1)≤rows2.length:=Nat.min_le_left _ _;have hn2:min rows2.length (len+1)≤len+1:=Nat.min_le_right _ _;obtain⟨b0,m0,c0,hxv,hm0,hrl2,_⟩:=gU (P:=P) hH hM hx hr;subst hm0;obtain⟨a',x',r1,r2,r3⟩:=BB hx hr hn1;obtain⟨b,m,c,hx'v,hm,hrl,news,hnl,hnone,hnrep,hnrun⟩:=gU (P:=P) hH hM r1 r2;rw[r3] at hnrun;subst hxv
      have hml:m=min rows2.length (len+1):=by rw[hm,List.length_take]; omega
      subst hml;generalize hnn:min rows2.length (len+1)=n at *;have hmul:(st+n) * s2=st * s2+n * s2:=Nat.add_mul _ _ _;have hmul2:(st+n) * s2≤rows1.length * s2:=Nat.mul_le_mul_right _ (by omega);have hst:=eC P β (st * s2) e' news w cs 0 q1 hff (by rw[hnl]; omega) hnone;rw[Nat.add_zero] at hst
      have hrun:(Builtin.copy_ ts o.type #[.slice (some ⟨β,st * s2,none⟩) len.succ cap,.slice b0 rows2.length c0]).run P w=.ok (.int .i64 (n:Nat)) (iA w β (.cells (splice cs (st * s2) news) e' ff)):=by
       have:=hnrun w rfl;have hmin:Nat.min rows2.length len.succ=n:=hnn;simp[Builtin.copy_,ht',run_underlying ht,run_sizeOf hsz,GD,hmin,this,hst,goInt]
      have hexec:(execOp (Act.eval ⟨tmps,ds⟩) o).run P w=.ok (.value (.int .i64 (n:Nat))) (iA w β (.cells (splice cs (st * s2) news) e' ff)):=by
       simp[execOp,h,resolve,invoke,builtin,hcd,hcx,hrun]
      have hblt:=bX q1;refine⟨_,_,J,.inl hexec,.sc _,.refl _ _,fun k=>?_,fun _ _ _=>rfl⟩
      have hlen':(rows1.take st++(rows2.take n++rows1.drop (st+n))).length=rows1.length:=by
       rw[lAp,lAp,List.length_take,List.length_take,List.length_drop]; omega
      refine aS.write k hH hM g' i' l β _ hg rfl hJ hbk (.cells (splice cs (st * s2) news) e' ff) _ (fun _=>⟨p2,fun q r hq=>?_,?_⟩) rfl rfl rfl rfl
      ·rw[fU (by omega) hn1] at hq
       split at hq
       ·exact p3 q r hq
       ·split at hq
        ·exact hrl2 _ r hq
        ·exact p3 q r hq
      ·rw[hbk]
       refine⟨_,e',⟨_,cS _ _ _ hblt,by simpa using hff⟩,by rw[← q2]; simp,by rw[hlen']; exact q3,fun j v hj hv=>?_,fun q r j c v hq hc' hv=>?_⟩
       ·rw[bW] at hv
        split at hv
        ·exact hnone _ (mOg hv)
        ·exact q4 j v (by rw[hlen'] at hj; exact hj) hv
       ·rw[fU (by omega) hn1] at hq
        rw[bW,hnl] at hv
        have hjl:j < s2→q * s2+j < (q+1) * s2:=fun h=>by rw[Nat.add_mul]; omega
        split at hq
        ·rename_i hlt
         have hj:=(gEs.1 hc').1;rw[p3 q r hq] at hj;have h1:=cM (sz:=s2) hlt;rw[if_neg (by omega)] at hv;exact q5 q r j c v hq hc' hv
        ·rename_i hge
         split at hq
         ·rename_i hlt
          have hj:=(gEs.1 hc').1;rw[hrl2 _ r hq] at hj
          obtain⟨p,rfl⟩:∃ p,q=st+p:=⟨q - st,by omega⟩
          have h1:=cM (sz:=s2) (show p < n by omega);have h2:(st+p) * s2=st * s2+p * s2:=Nat.add_mul _ _ _;rw[if_pos (by omega)] at hv;rw[show(st+p) * s2+j - st * s2=p * s2+j by omega] at hv;rw[show st+p - st=p by omega] at hq;exact hnrep p r j c v (by rw[List.getElem?_take_of_lt (by omega)]; exact hq) hc' hv
         ·rename_i hge2
          have h2:(st+n) * s2≤q * s2:=Nat.mul_le_mul_right _ (by omega);rw[if_neg (by omega)] at hv;exact q5 q r j c v hq hc' hv
    ·cases hs
   ·cases hs
  ·cases hs
 ·cases hs
theorem jL (z:Array Value) (n j:Nat) (h:j < n * z.size):(Builtin.zeroCells z n)[j]?=some z[j % z.size]!:=by
 unfold Builtin.zeroCells;simp[h]
theorem uQ (t u ty e:TypeId) (k k':IntKind) (inf:TypeInfo) (zv:Value) (ht:P.underlying t=some (.slice e)) (hu:P.underlying u=some (.int k)) (hi:P.info? e=some inf) (hz:inf.zero=some zv) (hs:0 < inf.size)
  (n:Nat) (hn:0 < n) (h63:(n:Int)≤9223372036854775807) (hb:(n:Int) * inf.bytes≤281474976710656) (hfit:Builtin.nextslicecap n 0 * inf.bytes≤281474976710656):
  (Builtin.append_ #[t,u] ty #[.slice none 0 0,.int k' (n:Int)]).run P w =
   .ok (.slice (some ⟨w.heap.size,0,none⟩) n (grownCap w n 0 e))
    (w.drew.alloc (.cells (Builtin.zeroCells zv.cells n++Builtin.zeroCells zv.cells (grownCap w n 0 e - n)) e)):=by
 have hw:IntKind.i64.wrap (n:Int)=n:=by rw[IntKind.wrap_i64]; omega
 have h0:¬ ((n:Int) < 0):=by omega
 have hb':¬ (281474976710656 < (n:Int) * inf.bytes):=by omega
 have hn':¬ n=0:=by omega
 have hs':¬ inf.size=0:=by omega
 have h63':¬ (9223372036854775807 < (n:Int)):=by omega
 have h48':¬ (281474976710656 < Builtin.nextslicecap n 0 * inf.bytes):=by omega
 simp[Builtin.append_,run_underlying ht,run_underlying hu,sizeOf,typeInfo,zeroValue,hi,hz,asInt,asIntOf,hw,h0,hb',hn',h63',h48',Question.forced,newRow,grownCap,Builtin.firstCells];intro h;exact absurd h (Nat.mul_ne_zero hn' hs')
theorem ML (hF:aU N M J fr tmps) (hH:aN M J H w.heap) (hM:a8 M w.heap) (hn:hok H g i) (hJ:J g i=none) {t u e:TypeId} {k:IntKind} {inf:TypeInfo} {z:List (Nat×Value)} {s x:Operand} {args:Array Operand} {ts:Array TypeId}
  (ha:args.toList=[s,x]) (hts:ts.toList=[t,u]) (ht:P.underlying t=some (.slice e)) (hu:P.underlying u=some (.int k)) (hi:P.info? e=some inf) (hz:zOf P e=some z) (hsz:0 < inf.size) (h:o.op=.call ⟨.builtin .append,args,ts⟩)
  (hs:aD g i (.mop (.appN inf.bytes z) [s,x]) fr H=some (v,H')):bE P M J H w g i (execOp (Act.eval ⟨tmps,ds⟩) o) v H':=by
 have hx:=aH (ds:=ds) hF x;have hsv:=aH (ds:=ds) hF s
 have ha':args=#[s,x]:=by cases args; simp_all
 have ht':ts=#[t,u]:=by cases ts; simp_all
 subst ha'; subst ht';obtain⟨inf',zv,hi',hz0,hsize,hone,hun⟩:=gY hz;rw[hi] at hi'
 injection hi' with hi'
 subst hi';simp only[aD,avals,List.map_cons,List.map_nil,dG] at hs;split at hs
 ·rename_i n ea
  injection ea with es ea
  injection ea with ex _
  rw[es] at hsv;rw[ex] at hx;split at hs
  ·rename_i hb
   have hbound:(n+1) * (inf.bytes+1)≤70368744177664:=nlB hb;simp only[oIn,pIn] at hs;obtain⟨rfl,rfl⟩:=hs
   have hlen:(d5 z).length=inf.size:=by rw[fC,hun]; simp[hsize]
   rw[hlen];have hm1:(n+1) * (inf.bytes+1)=(n+1) * inf.bytes+(n+1):=Nat.mul_succ _ _
   have hcap0:Builtin.nextslicecap (n+1) 0=n+1:=by
    unfold Builtin.nextslicecap;rw[if_pos (by omega)]
   have hrun:=uQ (P:=P) (w:=w) t u o.type e k .i64 inf zv ht hu hi hz0 hsz (n+1) (by omega) (by omega) (by rw[← Int.natCast_mul]; omega) (by rw[hcap0]; omega)
   have hexec:(execOp (Act.eval ⟨tmps,ds⟩) o).run P w=.ok (.value (.slice (some ⟨w.heap.size,0,none⟩) (n+1) (grownCap w (n+1) 0 e))) (w.drew.alloc (.cells (Builtin.zeroCells zv.cells (n+1)++Builtin.zeroCells zv.cells (grownCap w (n+1) 0 e - (n+1))) e)):=by
    have hsuf:∀(xv:Value) r w1,Act.eval ⟨tmps,ds⟩ x=xv→(Builtin.append_ #[t,u] o.type #[.slice none 0 0,xv]).run P w=.ok r w1→(execOp (Act.eval ⟨tmps,ds⟩) o).run P w=.ok (.value r) w1:=by
     intro xv r w1 e1 hr;simp[execOp,h,resolve,invoke,builtin,e1,hsv.sc_inv,hr]
    exact hsuf _ _ _ hx.sc_inv hrun
   have hge:n+1≤grownCap w (n+1) 0 e:=grownCap_ge w _ _ _;generalize grownCap w (n+1) 0 e=cap' at hexec hge
   have hsz3:(Builtin.zeroCells zv.cells (n+1)++Builtin.zeroCells zv.cells (cap' - (n+1))).size=cap' * inf.size:=by
    rw[Array.size_append,size_zeroCells,size_zeroCells,hsize,← Nat.add_mul];congr 1;omega
   have hget:∀(j:Nat) y,j < (n+1) * inf.size→(Builtin.zeroCells zv.cells (n+1)++Builtin.zeroCells zv.cells (cap' - (n+1)))[j]?=some y→y=zv.cells[j % inf.size]!:=by
    intro j y hj hy;rw[Array.getElem?_append_left (by rw[size_zeroCells,hsize]; exact hj),jL _ _ _ (by rw[hsize]; exact hj),hsize] at hy
    injection hy with hy
    exact hy.symm
   refine⟨_,_,J.set g i ⟨some w.heap.size,inf.size,cap' * inf.size⟩,.inl hexec,?_,Inj.set_ext _ hJ M,fun k=>?_,fun a b hab=>by simp only[Inj.set,if_neg hab]⟩
   ·have:=Rep.hsl (M:=M) (J:=J.set g i ⟨some w.heap.size,inf.size,cap' * inf.size⟩) g i 0 (n+1) cap' w.heap.size _ (Inj.set_self _) rfl (by simp) hge
    rwa[Nat.zero_mul] at this
   ·have hmul:(n+1) * inf.size≤cap' * inf.size:=Nat.mul_le_mul_right _ hge
    refine aS.alloc k hH hM g i hn hJ (some (.cells (Builtin.zeroCells zv.cells (n+1)++Builtin.zeroCells zv.cells (cap' - (n+1))) e)) _ _ rfl ⟨rfl,fun q r hq=>?_,_,e,.of (eD _ _),hsz3,by rw[List.length_replicate]; exact hmul,fun j y hj hy=>?_,fun q r j c y hq hc hy=>?_⟩ rfl rfl rfl rfl
    ·rw[List.getElem?_replicate] at hq
     split at hq
     ·injection hq with hq; subst hq; exact hlen
     ·cases hq
    ·rw[List.length_replicate] at hj
     have hjm:j % inf.size < inf.size:=Nat.mod_lt _ hsz;rw[hget j y hj hy,getElem!_pos zv.cells (j % inf.size) (by omega)];exact hone _ (Array.getElem_mem _)
    ·rw[List.getElem?_replicate] at hq
     split at hq
     ·rename_i hqn
      injection hq with hq
      subst hq
      have hj:j < inf.size:=by rw[← hlen]; exact(gEs.1 hc).1
      have:=cM (sz:=inf.size) hqn;have hy':=hget _ y (by omega) hy;rw[show(q * inf.size+j) % inf.size=j by rw[Nat.mul_comm,Nat.mul_add_mod,Nat.mod_eq_of_lt hj],getElem!_pos zv.cells j (by omega)] at hy'
      have hy2:zv.cells[j]?=some y:=by rw[Array.getElem?_eq_getElem (by omega),hy']
      rw[j9 hun hc hy2];exact .sc _
     ·cases hq
  ·cases hs
 ·cases hs
theorem JO (hF:aU N M J fr tmps) (hH:aN M J H w.heap) (hM:a8 M w.heap) {t e:TypeId} {z:List (Nat×Value)} {d:Operand} {args:Array Operand} {ts:Array TypeId} {tr:List TypeId} (ha:args.toList=[d]) (hts:ts.toList=t::tr) (ht:P.underlying t=some (.slice e)) (hz:zOf P e=some z)
  (h:o.op=.call ⟨.builtin .clear,args,ts⟩) (hs:aD g i (.mop (.clear z) [d]) fr H=some (v,H')):bE P M J H w g i (execOp (Act.eval ⟨tmps,ds⟩) o) v H':=by
 have hd:=aH (ds:=ds) hF d
 have ha':args=#[d]:=by cases args; simp_all
 have ht':ts[0]?=some t:=by cases ts; simp_all
 subst ha';simp only[aD,avals,List.map_cons,List.map_nil,dG] at hs;split at hs
 ·rename_i g' i' st ea
  injection ea with ed _
  rw[ed] at hd;simp only[oIn,pIn] at hs;obtain⟨rfl,rfl⟩:=hs;generalize hcd:Act.eval ⟨tmps,ds⟩ d=dv at hd
  have fin:∀ a c,dv=.slice a 0 c→(execOp (Act.eval ⟨tmps,ds⟩) o).run P w=.ok (.value (.tuple #[])) w:=by
   intro a c e;subst e
   cases a<;>simp[execOp,h,resolve,invoke,builtin,hcd,Builtin.clear_,ht',run_underlying ht]
  cases hd with
  | hsl=>exact .quiet hH hM (fin _ _ rfl) (.tup _ _ rfl fun j c v a b=>by simp at a)
  | hslNil=>exact .quiet hH hM (fin _ _ rfl) (.tup _ _ rfl fun j c v a b=>by simp at a)
 ·rename_i g' i' st len ea
  injection ea with ed _
  rw[ed] at hd;split at hs
  ·rename_i s1 rows1 hg
   split at hs
   ·rename_i hb
    simp only[bAe] at hb;obtain⟨hb1,hb3⟩:=hb;have hb1:=nEb hb1;have hb3:=nlB hb3;simp only[oIn,pIn] at hs;obtain⟨rfl,rfl⟩:=hs;obtain⟨l',p1,p2,p3,p4⟩:=hH.cells hg;obtain⟨inf,zv,hi,hz0,hsize,hone,hun⟩:=gY hz;have hzl:(d5 z).length=s1:=hb1.symm
    have hzs:zv.cells.size=s1:=by rw[← hzl,fC,hun]; simp
    generalize hcd:Act.eval ⟨tmps,ds⟩ d=dv at hd
    cases hd with
    | hsl _ _ _ _ cap β l hJ hbk hc hlc=>
     rw[hJ] at p1
     injection p1 with p1
     subst p1;obtain⟨cs,e',⟨ff,q1,hff⟩,q2,q3,q4,q5⟩:=p4 β hbk;rw[p2] at hcd hc;generalize hn:len+1=n at *
     have hn1:n≤(List.replicate n (d5 z)).length:=by rw[List.length_replicate]; exact Nat.le_refl _
     have hmul:(st+n) * s1=st * s1+n * s1:=Nat.add_mul _ _ _;have hmul2:(st+n) * s1≤rows1.length * s1:=Nat.mul_le_mul_right _ (by omega)
     have hnl:(Builtin.zeroCells zv.cells n).toList.length=n * s1:=by rw[Array.length_toList,size_zeroCells,hzs]
     have hnone:∀ v∈(Builtin.zeroCells zv.cells n).toList,v.oneCell'=true:=fun v hv=>by
      obtain⟨j,hj,rfl⟩:=List.getElem_of_mem hv
      have hj':j < n * zv.cells.size:=by rw[hzs,← hnl]; exact hj
      have hzp:0 < zv.cells.size:=by
       cases hz2:zv.cells.size with
       | zero=>rw[hz2] at hj'; omega
       | succ k=>omega
      have h1:=jL zv.cells n j hj';rw[← Array.getElem?_toList,gEg hj] at h1
      injection h1 with h1
      have hjm:j % zv.cells.size < zv.cells.size:=Nat.mod_lt _ hzp;rw[h1,getElem!_pos zv.cells _ hjm];exact hone _ (Array.getElem_mem _)
     have hnrep:∀(p:Nat) (r:List AV) (j:Nat) (c:AV) (v:Value),(List.replicate n (d5 z))[p]?=some r→r[j]?=some c→(Builtin.zeroCells zv.cells n).toList[p * s1+j]?=some v→Rep M J c v:=by
      intro p r j c y hq hc' hy;rw[List.getElem?_replicate] at hq;split at hq
      ·rename_i hqn
       injection hq with hq
       subst hq
       have hj:j < s1:=by rw[← hzl]; exact(gEs.1 hc').1
       have:=cM (sz:=s1) hqn;rw[Array.getElem?_toList,jL _ _ _ (by rw[hzs]; omega),hzs] at hy
       injection hy with hy
       rw[show(p * s1+j) % s1=j by rw[Nat.mul_comm,Nat.mul_add_mod,Nat.mod_eq_of_lt hj],getElem!_pos zv.cells j (by omega)] at hy
       have hy2:zv.cells[j]?=some y:=by rw[Array.getElem?_eq_getElem (by omega),hy]
       rw[j9 hun hc' hy2];exact .sc _
      ·cases hq
     have hst:=eC P β (st * s1) e' (Builtin.zeroCells zv.cells n).toList w cs 0 q1 hff (by rw[hnl]; omega) hnone;rw[Nat.add_zero] at hst
     have hrun:(Builtin.clear_ ts o.type #[.slice (some ⟨β,st * s1,none⟩) n cap]).run P w=.ok (.tuple #[]) (iA w β (.cells (splice cs (st * s1) (Builtin.zeroCells zv.cells n).toList) e' ff)):=by
      subst hn;simp[Builtin.clear_,ht',run_underlying ht,zeroValue,typeInfo,hi,hz0,hst]
     have hexec:(execOp (Act.eval ⟨tmps,ds⟩) o).run P w=.ok (.value (.tuple #[])) (iA w β (.cells (splice cs (st * s1) (Builtin.zeroCells zv.cells n).toList) e' ff)):=by
      subst hn;simp[execOp,h,resolve,invoke,builtin,hcd,hrun]
     have hblt:=bX q1;refine⟨_,_,J,.inl hexec,.tup _ _ rfl fun j c v a b=>by simp at a,.refl _ _,fun k=>?_,fun _ _ _=>rfl⟩
     have hlen':(rows1.take st++((List.replicate n (d5 z)).take n++rows1.drop (st+n))).length=rows1.length:=by
      rw[lAp,lAp,List.length_take,List.length_take,List.length_drop,List.length_replicate]; omega
     refine aS.write k hH hM g' i' l β _ hg rfl hJ hbk (.cells (splice cs (st * s1) (Builtin.zeroCells zv.cells n).toList) e' ff) _ (fun _=>⟨p2,fun q r hq=>?_,?_⟩) rfl rfl rfl rfl
     ·rw[fU (by omega) hn1] at hq
      split at hq
      ·exact p3 q r hq
      ·split at hq
       ·rw[List.getElem?_replicate] at hq
        split at hq
        ·injection hq with hq; subst hq; exact hzl
        ·cases hq
       ·exact p3 q r hq
     ·rw[hbk]
      refine⟨_,e',⟨_,cS _ _ _ hblt,by simpa using hff⟩,by rw[← q2]; simp,by rw[hlen']; exact q3,fun j v hj hv=>?_,fun q r j c v hq hc' hv=>?_⟩
      ·rw[bW] at hv
       split at hv
       ·exact hnone _ (mOg hv)
       ·exact q4 j v (by rw[hlen'] at hj; exact hj) hv
      ·rw[fU (by omega) hn1] at hq
       rw[bW,hnl] at hv
       have hjl:j < s1→q * s1+j < (q+1) * s1:=fun h=>by rw[Nat.add_mul]; omega
       split at hq
       ·rename_i hlt
        have hj:=(gEs.1 hc').1;rw[p3 q r hq] at hj;have h1:=cM (sz:=s1) hlt;rw[if_neg (by omega)] at hv;exact q5 q r j c v hq hc' hv
       ·rename_i hge
        split at hq
        ·rename_i hlt
         have hrl:r.length=s1:=by
          rw[List.getElem?_replicate] at hq;split at hq
          ·injection hq with hq; subst hq; exact hzl
          ·cases hq
         have hj:=(gEs.1 hc').1;rw[hrl] at hj
         obtain⟨p,rfl⟩:∃ p,q=st+p:=⟨q - st,by omega⟩
         have h1:=cM (sz:=s1) (show p < n by omega);have h2:(st+p) * s1=st * s1+p * s1:=Nat.add_mul _ _ _;rw[if_pos (by omega)] at hv;rw[show(st+p) * s1+j - st * s1=p * s1+j by omega] at hv;rw[show st+p - st=p by omega] at hq;exact hnrep p r j c v hq hc' hv
        ·rename_i hge2
         have h2:(st+n) * s1≤q * s1:=Nat.mul_le_mul_right _ (by omega);rw[if_neg (by omega)] at hv;exact q5 q r j c v hq hc' hv
   ·cases hs
  ·cases hs
 ·cases hs
theorem FY (hF:aU N M J fr tmps) (hH:aN M J H w.heap) (hM:a8 M w.heap) {t e:TypeId} {n:Nat} {x y:Operand} {sz:Nat} (ht:P.underlying t=some (.array n e)) (hsz:bH P e=some sz)
  (h:o.op=.slice t x none (some y) none) (hs:aD g i (.mop (.sliceA n) [x,y]) fr H=some (v,H')):bE P M J H w g i (execOp (Act.eval ⟨tmps,ds⟩) o) v H':=by
 have hx:=aH (ds:=ds) hF x;have hy:=aH (ds:=ds) hF y;simp only[aD,avals,List.map_cons,List.map_nil,dG] at hs;split at hs
 ·rename_i g' i' row off kd q ea
  injection ea with ex ea
  injection ea with ey _
  rw[ex] at hx;rw[ey] at hy;have hyv:=hy.sc_inv;split at hs
  ·rename_i hb
   have hqn:=nlB hb;simp only[oIn,pIn] at hs;obtain⟨rfl,rfl⟩:=hs;generalize hcv:Act.eval ⟨tmps,ds⟩ x=cv at hx
   cases hx with
   | ptr _ _ _ _ β l hJ hbk=>
    have hrun:(execOp (Act.eval ⟨tmps,ds⟩) o).run P w=.ok (.value (.slice (some ⟨β,row * l.sz+off,none⟩) q n)) w:=by
     by_cases hn:n=0
     ·subst hn
      have:q=0:=by omega
      subst this;simp[execOp,h,Instr.sliceAt,run_underlying ht,hcv,Instr.sureAddr,run_sizeOf hsz,Instr.sliceBounds,Instr.sliceBound,hyv,asIntOf]
     ·simp[execOp,h,Instr.sliceAt,run_underlying ht,hcv,Instr.sureAddr,run_sizeOf hsz,Instr.sliceBounds,Instr.sliceBound,hyv,asIntOf,hqn,cC]
    exact .quiet hH hM hrun (.asl g' i' row off q n β l hJ hbk hqn)
  ·cases hs
 ·cases hs
theorem MQ {t e:TypeId} {n a b:Nat} (ht:P.underlying t=some (.array n e)) (hsz:bH P e=some 1) {xv:Value} {x:AV} (hx:Rep M J x xv) {lo hi:Option Value} (h1:(lo=none∧a=0)∨∃ k,lo=some (.int k a)) (h2:(hi=none∧b=n)∨∃ k,hi=some (.int k b))
  (hs:slA n H a b x=some (v,H')):∃ cv,(Instr.sliceAt t xv lo hi none).run P w=.ok cv w∧Rep M J v cv∧H'=H:=by
 have key:∀ β off,a < n→a≤b→b≤n→(Instr.sliceAt t (.pointer (some ⟨β,off,none⟩)) lo hi none).run P w=.ok (.slice (some ⟨β,off+a,none⟩) (b - a) (n - a)) w:=by
  intro β off q1 q2 q3
  rcases h1 with⟨rfl,rfl⟩ | ⟨k,rfl⟩
  ·rcases h2 with⟨rfl,rfl⟩ | ⟨k,rfl⟩
   ·simp[Instr.sliceAt,run_underlying ht,Instr.sureAddr,run_sizeOf hsz,Instr.sliceBounds,cC]
   ·simp[Instr.sliceAt,run_underlying ht,Instr.sureAddr,run_sizeOf hsz,Instr.sliceBounds,Instr.sliceBound,asIntOf,q3,cC]
  ·have hna:¬ n=a:=by omega
   rcases h2 with⟨rfl,rfl⟩ | ⟨k',rfl⟩
   ·simp[Instr.sliceAt,run_underlying ht,Instr.sureAddr,run_sizeOf hsz,Instr.sliceBounds,Instr.sliceBound,asIntOf,q2,hna,cC]
   ·simp[Instr.sliceAt,run_underlying ht,Instr.sureAddr,run_sizeOf hsz,Instr.sliceBounds,Instr.sliceBound,asIntOf,q2,q3,hna,cC]
 cases hx with
 | ptr g' i' row off β l hJ hbk=>
  simp only[slA] at hs;split at hs
  ·rename_i hb
   simp only[bAe] at hb;have q1:=nlB hb.1;have q2:=nlB hb.2.1;have q3:=nlB hb.2.2;simp only[oIn,pIn] at hs;obtain⟨rfl,rfl⟩:=hs;refine⟨_,key β _ q1 q2 q3,?_,rfl⟩;have:=Rep.asl (M:=M) (J:=J) g' i' row (off+a) (b - a) (n - a) β l hJ hbk (by omega);rw[← Nat.add_assoc] at this;exact this
  ·cases hs
 | cptr cells β off cs ty fr hMb hle hr=>
  simp only[slA] at hs;split at hs
  ·rename_i hb
   simp only[bAe] at hb;have q1:=nlB hb.1.1;have q2:=nlB hb.1.2.1;have q3:=nlB hb.1.2.2;have q4:=nlB hb.2.1;have q5:=hb.2.2;simp only[oIn,pIn] at hs;obtain⟨rfl,rfl⟩:=hs;refine⟨_,key β _ q1 q2 q3,?_,rfl⟩
   have hlen:(((cells.drop a).take (b - a)).map fun c=>[c]).length=b - a:=by simp; omega
   have hoff:off+cells.length≤cs.size:=by
    rcases hle with rfl | h
    ·simp at q4; omega
    ·exact h
   have hget:∀(q:Nat) (r:List AV),(((cells.drop a).take (b - a)).map fun c=>[c])[q]?=some r→∃ c,r=[c]∧cells[a+q]?=some c:=by
    intro q r hq;rw[List.getElem?_map,Option.map_eq_some_iff] at hq;obtain⟨c,hc,rfl⟩:=hq;rw[List.getElem?_take] at hc;split at hc
    ·rw[List.getElem?_drop] at hc; exact⟨c,rfl,hc⟩
    ·cases hc
   refine .list 1 _ β (off+a) (n - a) (b - a) cs ty fr ⟨hlen.symm,by omega⟩ hMb (fun q r hq=>by obtain⟨c,rfl,_⟩:=hget q r hq; rfl) (by rw[hlen]; omega) (fun j y hj hy=>?_) fun q r j c y hq hc hy=>?_
   ·rw[hlen] at hj
    have hj2:a+j < cells.length:=by omega
    have:=hr (a+j) cells[a+j] y (gEg hj2) (by rw[← hy]; congr 1; omega);exact this.cell1 (List.all_eq_true.1 q5 _ (gMe hj2))
   ·obtain⟨c',rfl,hc'⟩:=hget q r hq
    cases j with
    | zero=>
     simp at hc;subst hc;exact hr (a+q) c' y hc' (by rw[← hy]; congr 1; omega)
    | succ j=>simp at hc
  ·cases hs
 | _=>simp only[slA] at hs; cases hs
theorem GJ (hF:aU N M J fr tmps) (hH:aN M J H w.heap) (hM:a8 M w.heap) {t e:TypeId} {n:Nat} {x:Operand} {lo hi:Option Operand} (ht:P.underlying t=some (.array n e)) (hsz:bH P e=some 1)
  (h:o.op=.slice t x lo hi none) (hs:aD g i (.mop (.sliceP n lo.isSome hi.isSome) (x::(lo.toList++hi.toList))) fr H=some (v,H')):bE P M J H w g i (execOp (Act.eval ⟨tmps,ds⟩) o) v H':=by
 have hx:=aH (ds:=ds) hF x
 have fin:∀ {a b:Nat} {lv hv:Option Value},((lv=none∧a=0)∨∃ k,lv=some (.int k a))→((hv=none∧b=n)∨∃ k,hv=some (.int k b))→slA n H a b (ev fr x)=some (v,H')→lo.map (Act.eval ⟨tmps,ds⟩)=lv→hi.map (Act.eval ⟨tmps,ds⟩)=hv →
   bE P M J H w g i (execOp (Act.eval ⟨tmps,ds⟩) o) v H':=by
  intro a b lv hv h1 h2 hsl e1 e2;obtain⟨cv,hrun,hrep,rfl⟩:=MQ (w:=w) ht hsz hx h1 h2 hsl;refine .quiet hH hM (cv:=cv) ?_ hrep;simp only[execOp,h,e1,e2,Option.map_none,Sem.run_bind,hrun,Result.andThen_ok,Sem.run_pure]
 cases lo with
 | none=>
  cases hi with
  | none=>
   simp only[aD,avals,Option.isSome,Option.toList,List.append_nil,List.map_cons,List.map_nil,dG] at hs;exact fin (.inl ⟨rfl,rfl⟩) (.inl ⟨rfl,rfl⟩) hs rfl rfl
  | some y=>
   have hy:=aH (ds:=ds) hF y;simp only[aD,avals,Option.isSome,Option.toList,List.nil_append,List.map_cons,List.map_nil,dG] at hs;split at hs
   ·contradiction
   ·contradiction
   ·contradiction
   ·rename_i x' k b _ _ ea
    injection ea with ex ea
    injection ea with ey _
    rw[ey] at hy;have hyv:=hy.sc_inv;rw[← ex] at hs;exact fin (.inl ⟨rfl,rfl⟩) (.inr ⟨k,congrArg some hyv⟩) hs rfl rfl
   ·cases hs
 | some z=>
  have hz:=aH (ds:=ds) hF z
  cases hi with
  | none=>
   simp only[aD,avals,Option.isSome,Option.toList,List.append_nil,List.map_cons,List.map_nil,dG] at hs;split at hs
   ·contradiction
   ·rename_i x' k a _ _ ea
    injection ea with ex ea
    injection ea with ez _
    rw[ez] at hz;have hzv:=hz.sc_inv;rw[← ex] at hs;exact fin (.inr ⟨k,congrArg some hzv⟩) (.inl ⟨rfl,rfl⟩) hs rfl rfl
   ·contradiction
   ·contradiction
   ·cases hs
  | some y=>
   have hy:=aH (ds:=ds) hF y;simp only[aD,avals,Option.isSome,Option.toList,List.map_cons,List.map_nil,dG,List.cons_append,List.nil_append] at hs;split at hs
   ·contradiction
   ·contradiction
   ·rename_i x' k a k' b _ _ ea
    injection ea with ex ea
    injection ea with ez ea
    injection ea with ey _
    rw[ez] at hz;rw[ey] at hy;have hzv:=hz.sc_inv;have hyv:=hy.sc_inv;rw[← ex] at hs;exact fin (.inr ⟨k,congrArg some hzv⟩) (.inr ⟨k',congrArg some hyv⟩) hs rfl rfl
   ·contradiction
   ·cases hs
theorem IW (hF:aU N M J fr tmps) (hH:aN M J H w.heap) (hM:a8 M w.heap) {t:TypeId} {x:Operand} (ht:∃ d,P.underlying t=some d∧∀ l,d≠.interface l)
  (h:o.op=.makeInterface t x) (hs:aD g i (.mop (.iface t) [x]) fr H=some (v,H')):bE P M J H w g i (execOp (Act.eval ⟨tmps,ds⟩) o) v H':=by
 have hx:=aH (ds:=ds) hF x;simp only[aD,avals,List.map_cons,List.map_nil,dG,gT] at hs;simp only[oIn,pIn] at hs;obtain⟨rfl,rfl⟩:=hs;obtain⟨d,hu,hd⟩:=ht;refine .quiet hH hM (cv:=.iface t (Act.eval ⟨tmps,ds⟩ x)) ?_ (.ifc _ _ _ hx);simp only[execOp,h,Instr.makeInterface,Sem.run_bind,run_underlying hu,Result.andThen_ok]
 cases d<;>first | exact absurd rfl (hd _) | simp
theorem PH (hF:aU N M J fr tmps) (hH:aN M J H w.heap) (hM:a8 M w.heap) {t e:TypeId} {n:Nat} {x:Operand} (ht:P.underlying t=some (.array n e))
  (h:o.op=.sliceToArrayPointer t x) (hs:aD g i (.mop (.s2a n) [x]) fr H=some (v,H')):bE P M J H w g i (execOp (Act.eval ⟨tmps,ds⟩) o) v H':=by
 have hx:=aH (ds:=ds) hF x
 have key:∀ {a:Option Addr} {l c:Nat} {v:AV},Act.eval ⟨tmps,ds⟩ x=.slice a l c→n≤l→Rep M J v (.pointer a)→bE P M J H w g i (execOp (Act.eval ⟨tmps,ds⟩) o) v H:=by
  intro a l c v e1 e2 hr;refine .quiet hH hM (cv:=.pointer a) ?_ hr;simp[execOp,h,Instr.arrayAt,run_underlying ht,e1,Nat.not_lt.2 e2]
 simp only[aD,avals,List.map_cons,List.map_nil,dG] at hs;generalize hcv:Act.eval ⟨tmps,ds⟩ x=cv at hx;split at hs
 ·rename_i rows ea
  injection ea with ea _
  rw[ea] at hx;split at hs
  ·rename_i hb
   simp only[bAe] at hb;have hn:=nlB hb.1;have hn0:0 < n:=nlB hb.2;simp only[oIn,pIn] at hs;obtain⟨rfl,rfl⟩:=hs
   cases hx with
   | nilList=>simp at hn; omega
   | list s rows' β off cap m cs ty f hm hMb hrl hle hone hrep=>
    refine key hcv (by omega) ?_
    have h1:∀ r∈rows.take n,r.length=1:=fun r hr=>by
     obtain⟨q,hq⟩:=List.getElem?_of_mem (List.mem_of_mem_take hr);exact hrl q r hq
    obtain⟨f1,f2⟩:=lP _ h1
    refine .cptr _ β off cs ty f hMb (.inr ?_) fun j c y hc hy=>?_
    ·rw[f1,List.length_take]; omega
    ·have hc2:=f2 j c hc
     rw[List.getElem?_take] at hc2;split at hc2
     ·exact hrep j [c] 0 c y hc2 rfl (by rw[← hy]; congr 1; omega)
     ·cases hc2
  ·cases hs
 ·rename_i g' i' st len ea
  injection ea with ea _
  rw[ea] at hx;split at hs
  ·rename_i hb
   simp only[bAe] at hb;have hn:=nlB hb.1;have hn0:0 < n:=nlB hb.2;split at hs
   ·rename_i rows hg
    simp only[oIn,pIn] at hs;obtain⟨rfl,rfl⟩:=hs
    cases hx with
    | hslNil=>omega
    | hsl _ _ _ _ cap β l hJ hbk hc hlc=>
     refine key hcv hn ?_;exact .ptr g' i' st 0 β l hJ hbk
   ·cases hs
  ·cases hs
 ·rename_i g' i' row off len ea
  injection ea with ea _
  rw[ea] at hx;split at hs
  ·rename_i hb
   simp only[bAe] at hb;have hn:=nlB hb.1;simp only[oIn,pIn] at hs;obtain⟨rfl,rfl⟩:=hs
   cases hx with
   | asl _ _ _ _ _ cap β l hJ hbk hlc=>
    exact key hcv hn (.ptr g' i' row off β l hJ hbk)
  ·cases hs
 ·cases hs
theorem FQ (hF:aU N M J fr tmps) (hH:aN M J H w.heap) (hM:a8 M w.heap) {t kt e:TypeId} {d:Operand} {args:Array Operand} {ts:Array TypeId} {tr:List TypeId} (ha:args.toList=[d]) (hts:ts.toList=t::tr) (ht:P.underlying t=some (.map kt e))
  (h:o.op=.call ⟨.builtin .clear,args,ts⟩) (hs:aD g i (.mop .clearM [d]) fr H=some (v,H')):bE P M J H w g i (execOp (Act.eval ⟨tmps,ds⟩) o) v H':=by
 have hd:=aH (ds:=ds) hF d
 have ha':args=#[d]:=by cases args; simp_all
 have ht':ts[0]?=some t:=by cases ts; simp_all
 subst ha';simp only[aD,avals,List.map_cons,List.map_nil,dG] at hs;split at hs
 ·rename_i g' i' ea
  injection ea with ed _
  rw[ed] at hd;split at hs
  ·rename_i es hg
   simp only[oIn,pIn] at hs;obtain⟨rfl,rfl⟩:=hs;generalize hcd:Act.eval ⟨tmps,ds⟩ d=dv at hd
   cases hd with
   | mref _ _ β l hJ hbk=>
    obtain⟨l',p1,β',ces,clock,p2,p3,p4,p5,p6,p7⟩:=hH.blk g' i' _ hg rfl;rw[hJ] at p1
    injection p1 with p1
    subst p1;rw[hbk] at p2
    injection p2 with p2
    subst p2;have hblt:=bX p3
    have hexec:(execOp (Act.eval ⟨tmps,ds⟩) o).run P w=.ok (.value (.tuple #[])) { w with heap:=w.heap.setIfInBounds β (.map #[] clock) }:=by
     simp[execOp,h,resolve,invoke,builtin,hcd,Builtin.clear_,ht',run_underlying ht,MapKept.run_getObj_map p3,MapKept.run_setObj_map _ p3]
    refine⟨_,_,J,.inl hexec,.tup _ _ rfl fun j c v a b=>by simp at a,.refl _ _,fun k=>?_,fun _ _ _=>rfl⟩;exact aS.write k hH hM g' i' l β _ hg rfl hJ hbk (.map #[] clock) _ (fun _=>⟨β,#[],clock,hbk,by simp[hblt],rfl,fun j x y a=>by simp at a,fun j x y a=>by simp at a,MWF.empty⟩) rfl rfl rfl rfl
  ·cases hs
 ·cases hs
theorem AI (h:Array Obj) (o:Obj) (f:Obj→Obj):(h.push o).modify h.size f=h.push (f o):=by
 apply Array.ext_getElem?;intro i;rw[Array.getElem?_modify,Array.getElem?_push,Array.getElem?_push]
 by_cases hi:h.size=i
 ·subst hi; simp
 ·rw[if_neg hi]
  split
  ·rename_i h2; exact absurd h2.symm hi
  ·rfl
theorem LV (hF:aU N M J fr tmps) (hH:aN M J H w.heap) (hM:a8 M w.heap) (hn:hok H g i) (hJ:J g i=none) {s t e:TypeId} {x:Operand} (hs0:P.underlying s=some .string) (ht:P.underlying t=some (.slice e)) (he:P.underlying e=some (.int .u8))
  (h:o.op=.convert s t x) (hs:aD g i (.mop .strB [x]) fr H=some (v,H')):bE P M J H w g i (execOp (Act.eval ⟨tmps,ds⟩) o) v H':=by
 have hx:=aH (ds:=ds) hF x;simp only[aD,avals,List.map_cons,List.map_nil,dG] at hs;split at hs
 ·rename_i b ea
  injection ea with ea _
  rw[ea] at hx;have hxv:=hx.sc_inv;simp only[oIn,pIn] at hs;obtain⟨rfl,rfl⟩:=hs;have hge:b.size≤grownCap w b.size 0 e:=grownCap_ge w _ _ _;have hds:b.data.size=b.size:=rfl
  have hsz0:∀ cap',b.size≤cap'→((b.data.map fun(c:UInt8)=>Value.int .u8 c.toNat)++Array.replicate (cap' - b.size) (Value.int .u8 0)).size=cap':=fun cap' h=>by
   simp;omega
  have hsz1:=hsz0 _ hge
  have hexec:(execOp (Act.eval ⟨tmps,ds⟩) o).run P w=.ok (.value (.slice (some ⟨w.heap.size,0,none⟩) b.size (grownCap w b.size 0 e)))
    { w.drew with heap:=w.heap.push (.cells ((b.data.map fun(c:UInt8)=>Value.int .u8 c.toNat)++Array.replicate (grownCap w b.size 0 e - b.size) (Value.int .u8 0)) e (grownCap w b.size 0 e,grownCap w b.size 0 e+1)) }:=by
   have hshape:∀(w0:World) (cs:Array Value),({ w0 with heap:=w0.heap.push (.cells cs e) }:World).shape? w0.heap.size=some (e,cs.size):=fun w0 cs=>by simp[World.shape?]
   have hfreeze:∀(w0:World) (cs:Array Value) (n:Nat),World.freeze { w0 with heap:=w0.heap.push (.cells cs e) } ⟨w0.heap.size,n,none⟩ 1={ w0 with heap:=w0.heap.push (.cells cs e (n,n+1)) }:=fun w0 cs n=>by
    simp only[World.freeze,Nat.one_ne_zero,if_false,AI];rfl
   simp only[execOp,h,convert,Sem.run_bind,run_underlying hs0,run_underlying ht,run_underlying he,hxv,Result.andThen_ok,Conv.stringToBytes,choose,newRow,markStringish,freeze,shape,Sem.run,Question.forced,Bool.false_eq_true,if_false,Sem.run_pure]
   have hno:∀(w0:World) (o:Obj),(newObj o).run P w0=.ok w0.heap.size { w0 with heap:=w0.heap.push o }:=fun _ _=>rfl
   rw[show(Question.appendCap b.size 0 e).cut (w.tape w.drawn (Question.appendCap b.size 0 e))=grownCap w b.size 0 e from rfl];generalize grownCap w b.size 0 e=cap' at hsz1;simp only[hno,Result.andThen_ok];rw[hshape ⟨w.heap,w.tape,w.drawn+1,w.os,w.output⟩];simp only[Sem.run,hsz1];rw[hfreeze ⟨w.heap,w.tape,w.drawn+1,w.os,w.output⟩];rfl
  generalize grownCap w b.size 0 e=cap' at hexec hge hsz1
  have hrl:(b.data.toList.map fun(c:UInt8)=>[AV.sc (.int .u8 c.toNat)]).length=b.size:=by
   rw[List.length_map,Array.length_toList]; rfl
  refine⟨_,_,J.set g i ⟨some w.heap.size,1,cap'⟩,.inl hexec,?_,Inj.set_ext _ hJ M,fun k=>?_,fun a b hab=>by simp only[Inj.set,if_neg hab]⟩
  ·have:=Rep.hsl (M:=M) (J:=J.set g i ⟨some w.heap.size,1,cap'⟩) g i 0 b.size cap' w.heap.size _ (Inj.set_self _) rfl (by simp) hge
   rwa[Nat.zero_mul] at this
  ·have hget:∀(j:Nat) y,j < b.size→((b.data.map fun(c:UInt8)=>Value.int .u8 c.toNat)++Array.replicate (cap' - b.size) (Value.int .u8 0))[j]?=some y→∃ c:UInt8,b.data[j]?=some c∧y=.int .u8 c.toNat:=by
    intro j y hj hy;rw[Array.getElem?_append_left (by simpa using hj),Array.getElem?_map,Option.map_eq_some_iff] at hy;obtain⟨c,h1,h2⟩:=hy;exact⟨c,h1,h2.symm⟩
   refine aS.alloc k hH hM g i hn hJ (some (.cells ((b.data.map fun(c:UInt8)=>Value.int .u8 c.toNat)++Array.replicate (cap' - b.size) (Value.int .u8 0)) e (cap',cap'+1))) _ _ rfl ⟨rfl,fun q r hq=>?_,_,e,⟨_,eD _ _,.inr (Nat.le_of_eq hsz1)⟩,hsz1,by rw[hrl]; simpa using hge,fun j y hj hy=>?_,fun q r j c y hq hc hy=>?_⟩ rfl rfl rfl rfl
   ·rw[List.getElem?_map,Option.map_eq_some_iff] at hq
    obtain⟨c,_,rfl⟩:=hq;rfl
   ·obtain⟨c,_,rfl⟩:=hget j y (by rw[hrl] at hj; omega) hy
    rfl
   ·rw[List.getElem?_map,Option.map_eq_some_iff] at hq
    obtain⟨c0,h0,rfl⟩:=hq
    cases j with
    | zero=>
     simp at hc;subst hc
     have hq:q < b.size:=by
      have:=(gEs.1 h0).1;rw[Array.length_toList] at this;exact this
     obtain⟨c',h1,rfl⟩:=hget q y hq (by simpa using hy);rw[Array.getElem?_toList,h1] at h0
     injection h0 with h0
     subst h0;exact .sc _
    | succ j=>simp at hc
 ·cases hs
theorem xU {w:World} {β:Nat} {cs:Array Value} {e:TypeId} {f:Nat×Nat} (h:w.heap[β]?=some (.cells cs e f)) (n:Nat):
  w.freeze ⟨β,n,none⟩ 1=iA w β (.cells cs e (if f.1 == f.2 then(n,n+1) else(min f.1 n,max f.2 (n+1)))):=by
 have hlt:=bX h
 have hx:w.heap[β]=.cells cs e f:=by
  have:=h; rw[Array.getElem?_eq_getElem hlt] at this; injection this
 simp only[World.freeze,Nat.one_ne_zero,if_false,iA];congr 1;apply Array.ext_getElem?;intro i;rw[Array.getElem?_modify,Array.getElem?_setIfInBounds]
 by_cases hi:β=i
 ·subst hi
  simp only[if_true,hlt,Array.getElem?_eq_getElem,hx,Option.map_some]
 ·simp[hi]
theorem HV (hF:aU N M J fr tmps) (hH:aN M J H w.heap) (hM:a8 M w.heap) {s e0 e:TypeId} {x:Operand} (hs0:P.underlying s=some (.slice e0)) (he:P.underlying e0=some (.int .u8)) (_h0:e0=e)
  (h:o.op=.convert s s x) (hs:aD g i (.mop .markS [x]) fr H=some (v,H')):bE P M J H w g i (execOp (Act.eval ⟨tmps,ds⟩) o) v H':=by
 have hx:=aH (ds:=ds) hF x;simp only[aD,avals,List.map_cons,List.map_nil,dG] at hs;split at hs
 ·rename_i g' i' st len ea
  injection ea with ea _
  rw[ea] at hx;split at hs
  ·rename_i s1 rows hg
   simp only[oIn,pIn] at hs;obtain⟨rfl,rfl⟩:=hs;obtain⟨l',p1,p2,p3,p4⟩:=hH.cells hg;generalize hcv:Act.eval ⟨tmps,ds⟩ x=cv at hx
   cases hx with
   | hsl _ _ _ _ cap β l hJ hbk hc hlc=>
    rw[hJ] at p1
    injection p1 with p1
    subst p1;obtain⟨cs,ty,⟨ff,q1,hff⟩,q2,q3,q4,q5⟩:=p4 β hbk
    have hexec:(execOp (Act.eval ⟨tmps,ds⟩) o).run P w=.ok (.value (.slice (some ⟨β,st * l.sz,none⟩) (len+1) cap)) (iA w β (.cells cs ty (if ff.1 == ff.2 then(cs.size,cs.size+1) else(min ff.1 cs.size,max ff.2 (cs.size+1))))):=by
     have hsh:w.shape? β=some (ty,cs.size):=by simp[World.shape?,q1]
     simp only[execOp,h,convert,Sem.run_bind,run_underlying hs0,run_underlying he,hcv,Result.andThen_ok,markStringish,freeze,shape,Sem.run,hsh,Sem.run_pure,beq_self_eq_true];rw[xU q1]
    refine⟨_,_,J,.inl hexec,.hsl g' i' st (len+1) cap β l hJ hbk hc hlc,.refl _ _,fun k=>?_,fun _ _ _=>rfl⟩;refine aS.write k hH hM g' i' l β _ hg rfl hJ hbk (.cells cs ty _) _ (fun _=>⟨p2,p3,?_⟩) rfl rfl rfl rfl;rw[hbk];refine⟨cs,ty,⟨_,cS _ _ _ (bX q1),.inr ?_⟩,q2,q3,q4,q5⟩;split
    ·exact Nat.le_refl _
    ·rename_i hne
     rcases hff with rfl | hff
     ·simp at hne
     ·show cs.size≤min ff.1 cs.size
      omega
  ·cases hs
 ·cases hs
def nilL (P:Program):List Nat→List (Nat×List String)
 | []=>[]
 | t::r=>match P.info? t with
  | some i=>match i.methods.all (fun m=>m.path.isEmpty && match m.func with | some (_,true)=>true | _=>false) && !i.methods.isEmpty with
   | true=>(t,i.methods.toList.map (·.name))::nilL P r
   | false=>nilL P r
  | none=>nilL P r
def QP (P:Program):List (Nat×List String):=nilL P (List.range P.types.size)
theorem oO {t:Nat} {name:String} {v:Value} {w:World} (n:Nat):∀ {l:List Nat},LR t name (nilL P l)=true→(nilAhead (n+1) t v name).run P w=.ok (some false) w
 | [],h=>by cases h
 | u::l,h=>by
  unfold nilL at h;split at h
  ·rename_i i hi
   split at h
   ·rename_i hall
    unfold LR at h;split at h
    ·rename_i he
     have:=nEb he;subst this;simp only[bAe] at hall;have hall:=hall.1;rw[List.any_eq_true] at h;obtain⟨nm,hnm,he2⟩:=h;obtain⟨m0,hm0,rfl⟩:=List.mem_map.1 hnm
     have hti:∀ w:World,(typeInfo u).run P w=.ok i w:=fun w=>by simp[typeInfo,hi]
     cases hfind:i.methods.find? (·.name == name) with
     | none=>
      rw[Array.find?_eq_none] at hfind;exact absurd he2 (hfind m0 (by simpa using hm0))
     | some m=>
      have hm:m∈i.methods:=Array.mem_of_find?_eq_some hfind;have hq:=(Array.all_eq_true_iff_forall_mem.1 hall) m hm;simp only[bAe] at hq
      have hp:m.path.toList=[]:=by
       have:=hq.1;rw[Array.isEmpty_iff] at this;rw[this]
      have hfn:∃ f,m.func=some (f,true):=by
       have:=hq.2;split at this
       ·rename_i f hf; exact⟨f,hf⟩
       ·cases this
      obtain⟨f,hf⟩:=hfn;simp only[nilAhead,Sem.run_bind,hti,Result.andThen_ok,hfind,hp,followBlind,Sem.run_pure,hf]
    ·exact oO n h
   ·exact oO n h
  ·exact oO n h
theorem MK (hF:aU N M J fr tmps) (hH:aN M J H w.heap) (hM:a8 M w.heap) {x:Operand} (h:o.op=.nilCheck x) (hs:aD g i (.mop (.nilM (QP P)) [x]) fr H=some (v,H')):
  bE P M J H w g i (execOp (Act.eval ⟨tmps,ds⟩) o) v H':=by
 have hx:=aH (ds:=ds) hF x;simp only[aD,avals,List.map_cons,List.map_nil,dG] at hs;generalize hcv:Act.eval ⟨tmps,ds⟩ x=cv at hx;split at hs
 ·rename_i e
  injection e with e _
  rw[e] at hx;simp only[oIn,pIn] at hs;obtain⟨rfl,rfl⟩:=hs
  cases hx with
  | ptr _ _ _ _ β l hJ hb=>exact .quiet hH hM (by simp[execOp,h,hcv]) (.ptr _ _ _ _ β l hJ hb)
 ·rename_i e
  injection e with e _
  rw[e] at hx;simp only[oIn,pIn] at hs;obtain⟨rfl,rfl⟩:=hs
  cases hx with
  | cptr _ β off cs e f hMb hle hr=>exact .quiet hH hM (by simp[execOp,h,hcv]) (.cptr _ β off cs e f hMb hle hr)
 ·rename_i e
  injection e with e _
  rw[e] at hx;simp only[oIn,pIn] at hs;obtain⟨rfl,rfl⟩:=hs
  cases hx with
  | ifc _ _ v hv=>exact .quiet hH hM (by simp[execOp,h,hcv]) (.ifc _ _ v hv)
 ·rename_i name t a cs0 e
  injection e with e _
  rw[e] at hx;split at hs
  ·rename_i hb
   simp only[oIn,pIn] at hs;obtain⟨rfl,rfl⟩:=hs
   cases hx with
   | clo _ _ _ cfs ccs r1 r2 r3 r4=>
    have hs1:cfs.size=1:=by simpa using r1.symm
    obtain⟨x0,rfl⟩:∃ x0,cfs=#[x0]:=by
     match cfs,hs1 with
     | ⟨[x0]⟩,_=>exact⟨x0,rfl⟩
    have hx0:=r3 0 _ x0 rfl rfl
    cases hx0 with
    | ifc _ _ v0 hv=>
     refine .quiet hH hM (cv:=.func (.method name) #[.iface t v0] ccs) ?_ (.clo _ _ _ _ _ r1 r2 r3 r4)
     have hf:∃ n,P.types.size+Made.depth=n+1:=⟨P.types.size+99,rfl⟩
     obtain⟨n,hn⟩:=hf
     have hrun:=fun w=>oO (P:=P) (v:=v0) (w:=w) n hb
     simp only[execOp,h,hcv,List.getElem?_toArray,List.getElem?_cons_zero,Sem.run_bind,run_program,Result.andThen_ok,hn,hrun];rfl
  ·cases hs
 ·cases hs
def HQ (P:Program):Op→Option IOp
 | .range t x=>match P.underlying t with | some (.map _ _)=>some (.mop .range [x]) | _=>none
 | .next x false=>some (.mop .next [x])
 | .entry x=>some (.mop .entry [x])
 | .call ⟨.builtin .delete,args,ts⟩=>match args.toList,ts.toList with
  | [m,x],t::_=>match P.underlying t with
   | some (.map kt _)=>match P.underlying kt with
    | some (.int k)=>some (.mop (.del k) [m,x])
    | _=>none
   | _=>none
  | _,_=>none
 | .slice t x none (some (.const (.int .i64 0))) (some (.const (.int .i64 0)))=>match P.underlying t with
  | some (.slice e)=>(bH P e).map fun n=>.mop (.slice0 n) [x]
  | _=>none
 | .call ⟨.builtin .cap,args,ts⟩=>match args.toList,ts.toList with
  | [x],[t]=>match P.underlying t with
   | some (.slice _)=>some (.mop .cap [x])
   | _=>none
  | _,_=>none
 | .call ⟨.builtin .copy,args,ts⟩=>match args.toList,ts.toList with
  | [d,x],t::_=>match P.underlying t with
   | some (.slice e)=>(bH P e).map fun n=>.mop (.copy n) [d,x]
   | _=>none
  | _,_=>none
 | .call ⟨.builtin .append,args,ts⟩=>match args.toList,ts.toList with
  | [s,x],[t,u]=>match P.underlying t,P.underlying u with
   | some (.slice e),some (.int _)=>match P.info? e,zOf P e with
    | some i,some z=>match Nat.blt 0 i.size with
     | true=>some (.mop (.appN i.bytes z) [s,x])
     | false=>none
    | _,_=>none
   | _,_=>none
  | _,_=>none
 | .slice t x none (some y) none=>match P.underlying t with
  | some (.array n e)=>(bH P e).map fun _=>.mop (.sliceA n) [x,y]
  | _=>none
 | .call ⟨.builtin .clear,args,ts⟩=>match args.toList,ts.toList with
  | [d],t::_=>match P.underlying t with
   | some (.slice e)=>(zOf P e).map fun z=>.mop (.clear z) [d]
   | some (.map _ _)=>some (.mop .clearM [d])
   | _=>none
  | _,_=>none
 | .slice t x lo hi none=>match P.underlying t with
  | some (.array n e)=>match bH P e with
   | some 1=>some (.mop (.sliceP n lo.isSome hi.isSome) (x::(lo.toList++hi.toList)))
   | _=>none
  | _=>none
 | .panic _=>some (.mop .stop [])
 | .makeInterface t x=>match P.underlying t with
  | some (.interface _)=>some (.mop .stop [])
  | some _=>some (.mop (.iface t) [x])
  | none=>some (.mop .stop [])
 | .sliceToArrayPointer t x=>match P.underlying t with
  | some (.array n _)=>some (.mop (.s2a n) [x])
  | _=>none
 | .convert s t x=>match P.underlying s,P.underlying t with
  | some .string,some (.slice e)=>match P.underlying e with
   | some (.int .u8)=>some (.mop .strB [x])
   | _=>none
  | some (.slice e0),some (.slice e)=>match P.underlying e0,decide (s=t∧e0=e) with
   | some (.int .u8),true=>some (.mop .markS [x])
   | _,_=>none
  | _,_=>none
 | .nilCheck x=>some (.mop (.nilM (QP P)) [x])
 | .typeAssert _ _ _ _=>some (.mop .stop [])
 | _=>none
theorem B8 {io:IOp} (hc:HQ P o.op=some io) (hF:aU N M J fr tmps) (hH:aN M J H w.heap) (hM:a8 M w.heap) (hn:hok H g i) (hJ:J g i=none)
  (hs:aD g i io fr H=some (v,H')):bE P M J H w g i (execOp (Act.eval ⟨tmps,ds⟩) o) v H':=by
 unfold HQ at hc;split at hc
 ·rename_i t x h
  split at hc
  ·rename_i h1
   injection hc with hc; subst hc
   exact IE hF hH hM hn hJ h1 h hs
  ·cases hc
 ·rename_i x h
  injection hc with hc; subst hc
  exact L7 hF hH hM h hs
 ·rename_i x h
  injection hc with hc; subst hc
  exact JG hF hH hM h hs
 ·rename_i args ts h
  split at hc
  ·rename_i m x t tr ha ht
   split at hc
   ·rename_i h1
    split at hc
    ·rename_i h2
     injection hc with hc; subst hc
     exact QB hF hH hM ha ht h1 h2 h hs
    ·cases hc
   ·cases hc
  ·cases hc
 ·rename_i t x h
  split at hc
  ·rename_i h1
   simp only[Option.map_eq_some_iff] at hc;obtain⟨n,h2,rfl⟩:=hc;exact FG hF hH hM hn hJ h1 h2 h hs
  ·cases hc
 ·rename_i args ts h
  split at hc
  ·rename_i x t ha ht
   split at hc
   ·rename_i h1
    injection hc with hc; subst hc
    exact PN hF hH hM ha ht h1 h hs
   ·cases hc
  ·cases hc
 ·rename_i args ts h
  split at hc
  ·rename_i d x t tr ha ht
   split at hc
   ·rename_i h1
    simp only[Option.map_eq_some_iff] at hc;obtain⟨n,h2,rfl⟩:=hc;exact MF hF hH hM ha ht h1 h2 h hs
   ·cases hc
  ·cases hc
 ·rename_i args ts h
  split at hc
  ·rename_i s x t u ha ht
   split at hc
   ·rename_i e k h1 h2
    split at hc
    ·rename_i inf z h3 h4
     split at hc
     ·rename_i h5
      injection hc with hc; subst hc
      exact ML hF hH hM hn hJ ha ht h1 h2 h3 h4 (nlB h5) h hs
     ·cases hc
    ·cases hc
   ·cases hc
  ·cases hc
 ·rename_i t x y h
  split at hc
  ·rename_i n e h1
   rw[Option.map_eq_some_iff] at hc;obtain⟨k,h3,hc⟩:=hc;subst hc;exact FY hF hH hM h1 h3 h hs
  ·cases hc
 ·rename_i args ts h
  split at hc
  ·rename_i d t tr ha ht
   split at hc
   ·rename_i h1
    rw[Option.map_eq_some_iff] at hc;obtain⟨z,h2,rfl⟩:=hc;exact JO hF hH hM ha ht h1 h2 h hs
   ·rename_i h1
    injection hc with hc; subst hc
    exact FQ hF hH hM ha ht h1 h hs
   ·cases hc
  ·cases hc
 ·rename_i t x lo hi _ _ h
  split at hc
  ·rename_i n e h1
   split at hc
   ·rename_i h2
    injection hc with hc; subst hc
    exact GJ hF hH hM h1 h2 h hs
   ·cases hc
  ·cases hc
 ·injection hc with hc; subst hc; cases hs
 ·rename_i t x h
  split at hc
  ·injection hc with hc; subst hc; cases hs
  ·rename_i d hne h1
   injection hc with hc; subst hc
   exact IW hF hH hM ⟨_,h1,fun l hl=>hne l hl⟩ h hs
  ·injection hc with hc; subst hc; cases hs
 ·rename_i t x h
  split at hc
  ·rename_i n e h1
   injection hc with hc; subst hc
   exact PH hF hH hM h1 h hs
  ·cases hc
 ·rename_i s t x h
  split at hc
  ·rename_i e h1 h2
   split at hc
   ·rename_i h3
    injection hc with hc; subst hc
    exact LV hF hH hM hn hJ h1 h2 h3 h hs
   ·cases hc
  ·rename_i e0 e h1 h2
   split at hc
   ·rename_i h3 h4
    injection hc with hc; subst hc
    obtain⟨rfl,h5⟩:=of_decide_eq_true h4;exact HV hF hH hM h1 h3 h5 h hs
   ·cases hc
  ·cases hc
 ·rename_i x h
  injection hc with hc; subst hc
  exact MK hF hH hM h hs
 ·injection hc with hc; subst hc; cases hs
 ·cases hc
end
end Go.Av
