import Derived.Test.YtkjoolaahocgdaaGreatGAv10z
import Derived.Maps.RangeRun
namespace Go.Av
open Go.MapKept
section
variable {P:Program} {M:Mem} {J:Inj} {H:Heap} {w:World} {g i:Nat}
variable {N:Nat} {fr:Fr} {tmps:Array Value} {ds:List Deferred} {o:Oper} {v:AV} {H':Heap}
theorem IQ (hF:bM N M J fr tmps) (hH:bJ M J H w.heap) (hM:bT M w.heap) (hn:hok H g i) (hJ:J g i=none) {t kt e:TypeId} {x:Operand} (ht:P.underlying t=some (.map kt e))
  (h:o.op=.range t x) (hs:aH g i (.mop .range [x]) fr H=some (v,H')):cK P M J H w g i (execOp (Act.eval ⟨tmps,ds⟩) o) v H':=by
 have hx:=bA (ds:=ds) hF x
 simp only[aH,aX,List.map_cons,List.map_nil,gT] at hs
 generalize hcv:Act.eval ⟨tmps,ds⟩ x=cv at hx
 split at hs
 ·rename_i es ea
  injection ea with ea _
  rw[ea] at hx
  simp only[oIn,pIn] at hs
  obtain⟨rfl,rfl⟩:=hs
  cases hx with
  | tmap _ β clock ces hMb hw hl hk hr=>
   have hb:=hM _ _ hMb
   refine .new hH hM hn hJ (w':={ w with heap:=w.heap.push (.mapIter (some β) clock #[] clock) }) (.mapIter (some β) clock #[] clock) _ ⟨some w.heap.size,0,0⟩ rfl rfl rfl rfl (cv:=.pointer (some ⟨w.heap.size,0,none⟩)) ?_ rfl ?_ ?_
   ·simp[execOp,h,hcv,Instr.range,run_underlying ht,MapKept.run_getObj_map hb]
   ·have e1:(ces.toList.filter fun e=>!(#[]:Array Nat).contains e.born)=ces.toList:=List.filter_eq_self.2 fun x _=>by simp
    refine⟨w.heap.size,_,rfl,gI _ _,.inr ⟨β,clock,#[],ces,rfl,hMb,hw,by rw[e1]; simpa using hl,fun j x y a b=>?_,fun x hx=>by cases hx⟩⟩
    rw[e1] at b
    have b:ces[j]?=some y:=by simpa using b
    exact⟨hk j x y a b,hr j x y a b⟩
   ·have:=Rep.ptr (M:=M) (J:=J.set g i ⟨some w.heap.size,0,0⟩) g i 0 0 w.heap.size _ (Inj.set_self _) rfl
    rwa[Nat.zero_mul] at this
 ·rename_i ea
  injection ea with ea _
  rw[ea] at hx
  simp only[oIn,pIn] at hs
  obtain⟨rfl,rfl⟩:=hs
  cases hx
  refine .new hH hM hn hJ (w':={ w with heap:=w.heap.push (.mapIter none 0 #[] 0) }) (.mapIter none 0 #[] 0) _ ⟨some w.heap.size,0,0⟩ rfl rfl rfl rfl (cv:=.pointer (some ⟨w.heap.size,0,none⟩)) ?_ rfl ?_ ?_
  ·simp[execOp,h,hcv,Instr.range,run_underlying ht]
  ·exact⟨w.heap.size,_,rfl,gI _ _,.inl ⟨rfl,rfl,_,_,_,rfl⟩⟩
  ·have:=Rep.ptr (M:=M) (J:=J.set g i ⟨some w.heap.size,0,0⟩) g i 0 0 w.heap.size _ (Inj.set_self _) rfl
   rwa[Nat.zero_mul] at this
 ·cases hs
theorem bJ.its {H:Heap} {h:Array Obj} (hH:bJ M J H h) {g i:Nat} {cur:Option (Value×AV)} {es:List (Value×AV)} (hg:hget H g i=some (.it cur es)) {l:Loc} (hJ:J g i=some l) {β:Nat} (hb:l.blk=some β):
  ∃ o,h[β]?=some o∧pH M J o cur es:=by
 obtain⟨l',h1,β',o,h2,h3,h4⟩:=hH.blk g i _ hg rfl
 rw[hJ] at h1
 injection h1 with h1
 subst h1
 rw[hb] at h2
 injection h2 with h2
 subst h2
 exact⟨o,h3,h4⟩
theorem tH (ces:Array MapEntry) (seen:Array Nat):(leftOf ces seen).toList=ces.toList.filter fun e=>!seen.contains e.born:=by
 unfold leftOf
 rw[Array.toList_filter]
theorem E6 (hM:bT M w.heap) {β:Nat} {ob:Obj} (hb:w.heap[β]?=some ob) {cur:Option (Value×AV)} {es:List (Value×AV)} (hi:pH M J ob cur es) (ty:TypeId):
  (es=[]∧(Instr.next (.pointer (some ⟨β,0,none⟩)) false ty).run P w=.ok (.tuple #[.bool false]) w) ∨
  ∃(l1 l2:List (Value×AV)) (x:Value×AV) (e:MapEntry) (w1:World) (ob':Obj),es=l1++x::l2∧(w1=w∨w1=w.drew) ∧
   (Instr.next (.pointer (some ⟨β,0,none⟩)) false ty).run P w=.ok (.tuple #[.bool true,e.key,e.val]) (ChangeMaps.setBlock w1 β ob')∧x.1=e.key∧Rep M J x.2 e.val∧(∃ a b c d,ob'=.mapIter a b c d)∧pH M J ob' (some x) (l1++l2):=by
 rcases hi with⟨rfl,rfl,a,b,c,rfl⟩ | ⟨μ,since,seen,ces,rfl,h2,h3,h4,h5,_⟩
 ·left
  refine⟨rfl,?_⟩
  simp[Instr.next,getObj,Sem.run,hb]
 ·have hμ:=hM _ _ h2
  rcases run_next_at (P:=P) w ty β μ since since seen ces since hb hμ h3.lt (Nat.le_refl _) with⟨e0,hrun⟩ | ⟨e,he,w1,hw1,hrun⟩
  ·left
   refine⟨?_,hrun⟩
   have e1:(leftOf ces seen).toList.length=0:=by simpa using e0
   rw[tH] at e1
   rw[e1] at h4
   exact List.eq_nil_of_length_eq_zero h4
  ·right
   rw[tH] at he
   have hmem:=he
   rw[List.mem_filter] at hmem
   obtain⟨j,hj,hje⟩:=List.getElem_of_mem he
   have hj2:j < es.length:=by omega
   have hes:es=es.take j++es[j]::es.drop (j+1):=by
    rw[← List.drop_eq_getElem_cons hj2,List.take_append_drop]
   obtain⟨q1,q2⟩:=h5 j es[j] e (gEg hj2) (by rw[gEg hj,hje])
   refine⟨es.take j,es.drop (j+1),es[j],e,w1,_,hes,hw1,hrun,q1,q2,⟨_,_,_,_,rfl⟩,.inr ⟨μ,since,seen.push e.born,ces,rfl,h2,h3,?_⟩⟩
   -- what is left now
   have hleft:(ces.toList.filter fun x=>!(seen.push e.born).contains x.born)=(ces.toList.filter fun x=>!seen.contains x.born).take j++(ces.toList.filter fun x=>!seen.contains x.born).drop (j+1):=by
    have e1:(ces.toList.filter fun x=>!(seen.push e.born).contains x.born)=(ces.toList.filter fun x=>!seen.contains x.born).filter fun x=>decide (x.born≠e.born):=by
     rw[List.filter_filter]
     refine List.filter_congr fun x _=>?_
     rw[Array.contains_push]
     rw[Bool.eq_iff_iff]
     simp
     constructor
     ·rintro⟨a,b⟩; exact⟨b,a⟩
     ·rintro⟨a,b⟩; exact⟨b,a⟩
    have nd:(ces.toList.filter fun x=>!seen.contains x.born).Pairwise fun a b=>a.born≠b.born:=h3.nd.sublist List.filter_sublist
    rw[e1]
    generalize (ces.toList.filter fun x=>!seen.contains x.born)=L at hj hje nd ⊢
    have hL:L=L.take j++e::L.drop (j+1):=by
     rw[← hje,← List.drop_eq_getElem_cons hj,List.take_append_drop]
    generalize hA:L.take j=A at *
    generalize hB:L.drop (j+1)=B at *
    rw[hL] at nd ⊢
    obtain⟨_,n2,n3⟩:=List.pairwise_append.1 nd
    obtain⟨n4,_⟩:=List.pairwise_cons.1 n2
    have f1:A.filter (fun x=>decide (x.born≠e.born))=A:=List.filter_eq_self.2 fun x hx=>dTr (n3 x hx e (List.mem_cons_self ..))
    have f2:B.filter (fun x=>decide (x.born≠e.born))=B:=List.filter_eq_self.2 fun x hx=>dTr (fun h=>n4 x hx h.symm)
    rw[List.filter_append,List.filter_cons,if_neg (by simp),f1,f2]
   rw[hleft]
   refine⟨by rw[List.length_append,List.length_append,List.length_take,List.length_take,List.length_drop,List.length_drop,h4],fun q x y a b=>?_,fun x hx=>?_⟩
   ·have ht:(es.take j).length=j:=by rw[List.length_take]; omega
    have ht2:((ces.toList.filter fun x=>!seen.contains x.born).take j).length=j:=by rw[List.length_take]; omega
    rw[List.getElem?_append] at a b
    rw[ht] at a
    rw[ht2] at b
    split at a
    ·rename_i hq
     rw[if_pos hq] at b
     rw[List.getElem?_take_of_lt hq] at a b
     exact h5 q x y a b
    ·rename_i hq
     rw[if_neg hq] at b
     rw[List.getElem?_drop] at a b
     exact h5 _ x y a b
   ·injection hx with hx
    subst hx
    exact⟨e,hmem.1,by simp,q1,q2⟩
theorem MB (hF:bM N M J fr tmps) (hH:bJ M J H w.heap) (hM:bT M w.heap) {x:Operand} (h:o.op=.next x false) (hs:aH g i (.mop .next [x]) fr H=some (v,H')):cK P M J H w g i (execOp (Act.eval ⟨tmps,ds⟩) o) v H':=by
 have hx:=bA (ds:=ds) hF x
 simp only[aH,aX,List.map_cons,List.map_nil,gT] at hs
 generalize hcv:Act.eval ⟨tmps,ds⟩ x=cv at hx
 split at hs
 ·rename_i g' i' ea
  injection ea with ea _
  rw[ea] at hx
  split at hs
  ·rename_i cur hg
   simp only[oIn,pIn] at hs
   obtain⟨rfl,rfl⟩:=hs
   cases hx with
   | ptr _ _ _ _ β l hJ hb=>
    rw[Nat.zero_mul] at hcv
    obtain⟨ob,h1,h2⟩:=hH.its hg hJ hb
    rcases E6 (P:=P) hM h1 h2 o.type with⟨_,hrun⟩ | ⟨l1,l2,x,e,_,_,h3,_⟩
    ·refine .quiet hH hM (cv:=.tuple #[.bool false]) ?_ (.tup _ _ rfl fun j c v a b=>?_)
     ·simp[execOp,h,hcv,hrun]
     ·cases j with
      | zero=>simp at a b; subst a; subst b; exact .sc _
      | succ j=>simp at a
    ·cases l1<;>cases h3
  ·cases hs
 ·cases hs
theorem KG (hF:bM N M J fr tmps) (hH:bJ M J H w.heap) (hM:bT M w.heap) {x:Operand} (h:o.op=.entry x) (hs:aH g i (.mop .entry [x]) fr H=some (v,H')):cK P M J H w g i (execOp (Act.eval ⟨tmps,ds⟩) o) v H':=by
 have hx:=bA (ds:=ds) hF x
 simp only[aH,aX,List.map_cons,List.map_nil,gT] at hs
 generalize hcv:Act.eval ⟨tmps,ds⟩ x=cv at hx
 split at hs
 ·rename_i g' i' ea
  injection ea with ea _
  rw[ea] at hx
  split at hs
  ·rename_i y es hg
   simp only[oIn,pIn] at hs
   obtain⟨rfl,rfl⟩:=hs
   cases hx with
   | ptr _ _ _ _ β l hJ hb=>
    rw[Nat.zero_mul] at hcv
    obtain⟨ob,h1,h2⟩:=hH.its hg hJ hb
    rcases h2 with⟨_,h2,_⟩ | ⟨μ,since,seen,ces,rfl,h2,h3,_,_,h6⟩
    ·cases h2
    ·obtain⟨e,a1,a2,a3,a4⟩:=h6 y rfl
     have hf:ces.find? (·.born == e.born)=some e:=by rw[← Array.find?_toList]; exact find_born e ces.toList (List.pairwise_map.2 h3.nd) a1
     have hrun:(Instr.entry (.pointer (some ⟨β,0,none⟩))).run P w=.ok (.tuple #[e.key,e.val]) w:=by
      simp only[Instr.entry,getObj,Sem.run_bind,Sem.run,h1,hM _ _ h2,Result.andThen,a2,bne_self_eq_false,Bool.false_eq_true,if_false,hf]
      rfl
     refine .quiet hH hM (cv:=.tuple #[e.key,e.val]) ?_ (.tup _ _ rfl fun j c v a b=>?_)
     ·simp[execOp,h,hcv,hrun]
     ·cases j with
      | zero=>simp at a b; subst a; subst b; rw[a3]; exact .sc _
      | succ j=>cases j with
       | zero=>simp at a b; subst a; subst b; exact a4
       | succ j=>simp at a
  ·cases hs
 ·cases hs
theorem wF (k k0:IntKind) (n:Int):∀(es:List (Value×AV)) (cl:List MapEntry) (res:Option AV) (q:Nat),es.length=cl.length→(∀(j:Nat) x y,es[j]?=some x→cl[j]?=some y→x.1=y.key) →
  d5 k n es=some res →
  (Instr.findNow (.int k0) (.int k n) cl q=some none∧nD n es=es) ∨
  ∃ j v,j < cl.length∧Instr.findNow (.int k0) (.int k n) cl q=some (some (q+j,v))∧nD n es=es.eraseIdx j
 | [],cl,res,q,hl,_,h=>by
  cases cl with
  | nil=>exact .inl ⟨rfl,rfl⟩
  | cons _ _=>simp at hl
 | (key,x)::es,cl,res,q,hl,hk,h=>by
  cases cl with
  | nil=>simp at hl
  | cons c cl=>
   have hkey:key=c.key:=hk 0 _ _ rfl rfl
   cases key with
   | int k' m=>
    simp only[d5] at h
    split at h
    ·rename_i e1
     have e1:k=k':=of_decide_eq_true e1
     subst e1
     split at h
     ·rename_i e2
      have e2:n=m:=of_decide_eq_true e2
      subst e2
      exact .inr ⟨0,c.val,by simp,by simp[Instr.findNow,← hkey,Instr.sameNow],by simp[nD]⟩
     ·rename_i e2
      have e2:¬ n=m:=of_decide_eq_false e2
      have hs:Instr.sameNow (.int k0) (.int k n) c.key=some false:=by
       rw[← hkey]
       simp[Instr.sameNow,e2]
      rcases wF k k0 n es cl res (q+1) (by simpa using hl) (fun j x y a b=>hk (j+1) x y a b) h with⟨h1,h2⟩ | ⟨j,v,h1,h2,h3⟩
      ·exact .inl ⟨by simp[Instr.findNow,hs,h1],by simp[nD,e2,h2]⟩
      ·exact .inr ⟨j+1,v,by simpa using h1,by simp[Instr.findNow,hs,h2]; omega,by simp[nD,e2,h3]⟩
    ·cases h
   | _=>simp[d5] at h
theorem MWF.sub {ces ces':Array MapEntry} {c:Nat} (h:MWF ces c) (e:ces'.toList.Sublist ces.toList):MWF ces' c:=⟨fun x hx=>h.lt x (e.subset hx),h.nd.sublist e⟩
theorem NV (hF:bM N M J fr tmps) (hH:bJ M J H w.heap) (hM:bT M w.heap) {t kt e:TypeId} {k:IntKind} {m ix:Operand} {args:Array Operand} {ts:Array TypeId} {tr:List TypeId} (ha:args.toList=[m,ix]) (hts:ts.toList=t::tr) (ht:P.underlying t=some (.map kt e)) (hkt:P.underlying kt=some (.int k))
  (h:o.op=.call ⟨.builtin .delete,args,ts⟩) (hs:aH g i (.mop (.del k) [m,ix]) fr H=some (v,H')):cK P M J H w g i (execOp (Act.eval ⟨tmps,ds⟩) o) v H':=by
 have hm:=bA (ds:=ds) hF m
 have hix:=bA (ds:=ds) hF ix
 have ha':args=#[m,ix]:=by cases args; simp_all
 have ht':ts[0]?=some t:=by cases ts; simp_all
 subst ha'
 simp only[aH,aX,List.map_cons,List.map_nil,gT] at hs
 split at hs
 ·rename_i g' i' k' n ea
  injection ea with em ea
  injection ea with ei _
  rw[ei] at hix
  rw[em] at hm
  have hixv:=hix.sc_inv
  split at hs
  ·rename_i hk
   have hk:k=k':=of_decide_eq_true hk
   subst hk
   have hkey:IsKey (.int k) (.int k n):=rfl
   generalize hcv:Act.eval ⟨tmps,ds⟩ m=cv at hm
   split at hs
   ·rename_i es hg
    split at hs
    ·rename_i res hmf
     simp only[oIn,pIn] at hs
     obtain⟨rfl,rfl⟩:=hs
     obtain⟨l',β,ces,clock,p1,p2,p3,p4,p5,p6,p7⟩:=hH.maps hg
     cases hm with
     | mref _ _ β' l hJ hb=>
      rw[hJ] at p1
      injection p1 with p1
      subst p1
      rw[hb] at p2
      injection p2 with p2
      subst p2
      have hck:∀ b,(Instr.checkKey b 10000 kt (.int k n)).run P w=.ok () w:=fun b=>run_checkKey hkt hkey b 9999
      have hblt:=d7 p3
      have fin:∀(es':List (Value×AV)) (ces':Array MapEntry),(execOp (Act.eval ⟨tmps,ds⟩) o).run P w=.ok (.value (.tuple #[])) { w with heap:=w.heap.setIfInBounds β' (.map ces' clock) } →
        es'.length=ces'.size→(∀(j:Nat) x y,es'[j]?=some x→ces'[j]?=some y→x.1=y.key)→(∀(j:Nat) x y,es'[j]?=some x→ces'[j]?=some y→Rep M J x.2 y.val)→MWF ces' clock →
        cK P M J H w g i (execOp (Act.eval ⟨tmps,ds⟩) o) (.tup []) (bH H g' i' (.map es')):=by
       intro es' ces' hrun q1 q2 q3 q4
       refine⟨_,_,J,.inl hrun,.tup _ _ rfl fun j c v a b=>by simp at a,.refl _ _,fun k=>?_,fun _ _ _=>rfl⟩
       exact bL.write k hH hM g' i' l β' _ hg rfl hJ hb (.map ces' clock) _ (fun _=>⟨β',ces',clock,hb,by simp[hblt],q1,q2,q3,q4⟩) rfl rfl rfl rfl
      have hexec:∀ r,(Builtin.delete_ ts o.type #[.map (some β'),.int k n]).run P w=.ok (.tuple #[]) r→(execOp (Act.eval ⟨tmps,ds⟩) o).run P w=.ok (.value (.tuple #[])) r:=by
       intro r hr
       simp[execOp,h,resolve,invoke,builtin,hcv,hixv,hr]
      rcases wF k k n es ces.toList res 0 (by simpa using p4) (fun j x y a b=>p5 j x y a (by simpa using b)) hmf with⟨e1,e2⟩ | ⟨j,u,e0,e1,e2⟩
      ·rw[e2]
       have hfk:=run_findKey (P:=P) (w:=w) hkt e1
       refine fin es ces (hexec _ ?_) p4 p5 p6 p7
       simp only[Builtin.delete_,ht',List.getElem?_toArray,List.getElem?_cons_zero,List.getElem?_cons_succ,Sem.run_bind,run_underlying ht,Result.andThen_ok,MapKept.run_getObj_map p3,hck,hfk,MapKept.run_setObj_map _ p3,Sem.run_pure]
      ·rw[e2]
       rw[Nat.zero_add] at e1
       have hfk:=run_findKey (P:=P) (w:=w) hkt e1
       have hsz:j < ces.size:=by simpa using e0
       have hel:∀ q:Nat,(ces.eraseIdxIfInBounds j)[q]?=(ces.toList.eraseIdx j)[q]?:=fun q=>by
        rw[← Array.getElem?_toList]
        congr 1
        rw[Array.eraseIdxIfInBounds_eq,dif_pos hsz]
        simp
       have hel2:(ces.eraseIdxIfInBounds j).toList=ces.toList.eraseIdx j:=by
        rw[Array.eraseIdxIfInBounds_eq,dif_pos hsz]
        simp
       have hget:∀(q:Nat) (x:Value×AV) (y:MapEntry),(es.eraseIdx j)[q]?=some x→(ces.eraseIdxIfInBounds j)[q]?=some y→∃ q':Nat,es[q']?=some x∧ces[q']?=some y:=by
        intro q x y a b
        rw[hel] at b
        rw[List.getElem?_eraseIdx] at a b
        split at a
        ·rename_i hq
         rw[if_pos hq] at b
         exact⟨q,a,by simpa using b⟩
        ·rename_i hq
         rw[if_neg hq] at b
         exact⟨q+1,a,by simpa using b⟩
       refine fin _ (ces.eraseIdxIfInBounds j) (hexec _ ?_) ?_ (fun q x y a b=>?_) (fun q x y a b=>?_) (p7.sub (by rw[hel2]; exact List.eraseIdx_sublist _ _))
       ·simp only[Builtin.delete_,ht',List.getElem?_toArray,List.getElem?_cons_zero,List.getElem?_cons_succ,Sem.run_bind,run_underlying ht,Result.andThen_ok,MapKept.run_getObj_map p3,hck,hfk,MapKept.run_setObj_map _ p3,Sem.run_pure]
       ·rw[← Array.length_toList,hel2,List.length_eraseIdx,List.length_eraseIdx,if_pos (by omega),if_pos e0,p4,Array.length_toList]
       ·obtain⟨q',a',b'⟩:=hget q x y a b
        exact p5 q' x y a' b'
       ·obtain⟨q',a',b'⟩:=hget q x y a b
        exact p6 q' x y a' b'
    ·cases hs
   ·cases hs
  ·cases hs
 ·cases hs
theorem GS (hF:bM N M J fr tmps) (hH:bJ M J H w.heap) (hM:bT M w.heap) (hn:hok H g i) (hJ:J g i=none) {t e:TypeId} {x:Operand} {sz:Nat} (ht:P.underlying t=some (.slice e)) (hsz:fZ P e=some sz)
  (h:o.op=.slice t x none (some (.const (.int .i64 0))) (some (.const (.int .i64 0)))) (hs:aH g i (.mop (.slice0 sz) [x]) fr H=some (v,H')):cK P M J H w g i (execOp (Act.eval ⟨tmps,ds⟩) o) v H':=by
 have hx:=bA (ds:=ds) hF x
 have key:∀(a:Option Addr) (d cap:Nat),Act.eval ⟨tmps,ds⟩ x=.slice a d cap→cK P M J H w g i (execOp (Act.eval ⟨tmps,ds⟩) o) (.hsl g i 0 0) (bH H g i (.cells sz [])):=by
  intro a d cap hcv
  have hc:Act.eval ⟨tmps,ds⟩ (.const (.int .i64 0))=.int .i64 0:=rfl
  have hrun:(execOp (Act.eval ⟨tmps,ds⟩) o).run P w=.ok (.value (.slice a 0 0)) w:=by
   simp[execOp,h,Instr.sliceAt,Instr.slice,run_underlying ht,hcv,run_sizeOf hsz,Instr.sliceBounds,Instr.sliceBound,hc,asIntOf]
  refine⟨_,w,J.set g i ⟨none,sz,0⟩,.inl hrun,.hslNil g i _ _ (Inj.set_self _) rfl,Inj.set_ext _ hJ M,fun k=>?_,fun a b hab=>by simp only[Inj.set,if_neg hab]⟩
  exact bL.alloc k hH hM g i hn hJ none _ _ rfl ⟨rfl,fun q r hq=>by simp at hq,rfl⟩ rfl rfl rfl rfl
 simp only[aH,aX,List.map_cons,List.map_nil,gT] at hs
 split at hs
 ·rename_i a b ea
  injection ea with ea _
  rw[ea] at hx
  simp only[oIn,pIn] at hs
  obtain⟨rfl,rfl⟩:=hs
  generalize hcv:Act.eval ⟨tmps,ds⟩ x=cv at hx
  cases hx with
  | nilList=>exact key _ _ _ hcv
  | list=>exact key _ _ _ hcv
 ·rename_i a b c d ea
  injection ea with ea _
  rw[ea] at hx
  simp only[oIn,pIn] at hs
  obtain⟨rfl,rfl⟩:=hs
  generalize hcv:Act.eval ⟨tmps,ds⟩ x=cv at hx
  cases hx with
  | hsl=>exact key _ _ _ hcv
  | hslNil=>exact key _ _ _ hcv
 ·rename_i ea
  injection ea with ea _
  rw[ea] at hx
  simp only[oIn,pIn] at hs
  obtain⟨rfl,rfl⟩:=hs
  exact key _ _ _ hx.sc_inv
 ·cases hs
theorem N2 (hF:bM N M J fr tmps) (hH:bJ M J H w.heap) (hM:bT M w.heap) {t e:TypeId} {x:Operand} {args:Array Operand} {ts:Array TypeId} (ha:args.toList=[x]) (hts:ts.toList=[t]) (ht:P.underlying t=some (.slice e))
  (h:o.op=.call ⟨.builtin .cap,args,ts⟩) (hs:aH g i (.mop .cap [x]) fr H=some (v,H')):cK P M J H w g i (execOp (Act.eval ⟨tmps,ds⟩) o) v H':=by
 have hx:=bA (ds:=ds) hF x
 have ha':args=#[x]:=by cases args; simp_all
 have ht':ts[0]?=some t:=by cases ts; simp_all
 subst ha'
 simp only[aH,aX,List.map_cons,List.map_nil,gT] at hs
 split at hs
 ·rename_i ea
  injection ea with ea _
  rw[ea] at hx
  simp only[oIn,pIn] at hs
  obtain⟨rfl,rfl⟩:=hs
  have hcv:=hx.sc_inv
  exact .quiet hH hM (cv:=.int .i64 (0:Nat)) (by simp[execOp,h,resolve,invoke,builtin,Builtin.cap_,hcv,ht',run_underlying ht,goInt]) (.sc _)
 ·cases hs
theorem EG {a:AV} {x:Value} (hr:Rep M J a x) {s0 sz:Nat} {rows:List (List AV)} (h:f4 s0 H a=some (sz,rows)) {n:Nat} (hn:n≤rows.length):
  ∃ a' x',Rep M J a' x'∧f4 s0 H a'=some (sz,rows.take n)∧∀ k,Builtin.firstCells sz k x'=Builtin.firstCells sz k x:=by
 unfold f4 at h
 split at h
 ·injection h with h
  injection h with h1 h2
  subst h1; subst h2
  refine⟨_,x,hr,?_,fun _=>rfl⟩
  simp[f4]
 ·cases hr with
  | nilList s a cap=>
   simp only[fU,oIn,pIn] at h
   obtain⟨rfl,rfl⟩:=h
   exact⟨.list s [],_,.nilList s a cap,by simp[f4,fU],fun _=>rfl⟩
  | list s rows' β off cap m cs e f hm hMb hrl hle hone hrep=>
   simp only[fU,oIn,pIn] at h
   obtain⟨rfl,rfl⟩:=h
   have hg:∀(q:Nat) (r:List AV),(rows'.take n)[q]?=some r→rows'[q]?=some r:=fun q r hq=>by
    rw[List.getElem?_take] at hq
    split at hq
    ·exact hq
    ·cases hq
   have hlen:(rows'.take n).length=n:=by rw[List.length_take]; omega
   have hmul:n * s≤rows'.length * s:=Nat.mul_le_mul_right _ hn
   refine⟨.list s (rows'.take n),.slice (some ⟨β,off,none⟩) n cap,.list s _ β off cap n cs e f ⟨hlen.symm,by omega⟩ hMb (fun q r hq=>hrl q r (hg q r hq)) (by rw[hlen]; omega) (fun j v hj=>hone j v (by rw[hlen] at hj; omega)) (fun q r j c v hq=>hrep q r j c v (hg q r hq)),by simp[f4,fU],fun _=>rfl⟩
  | hsl g' i' st len cap β l hJ hb hc hlc=>
   simp only[fU] at h
   split at h
   ·rename_i s rows0 hg
    split at h
    ·rename_i hb2
     simp only[oIn,pIn] at h
     obtain⟨rfl,rfl⟩:=h
     have hle:=nlB hb2
     have hnl:n≤len:=by rw[List.length_take] at hn; omega
     refine⟨.hsl g' i' st n,_,.hsl g' i' st n cap β l hJ hb hc (by omega),?_,fun _=>rfl⟩
     have e1:Nat.ble (st+n) rows0.length=true:=Nat.ble_eq_true_of_le (by omega)
     simp only[f4,fU,hg,e1]
     rw[List.take_take,Nat.min_eq_left hnl]
    ·cases h
   ·cases h
  | hslNil g' i' a0 l hJ hb=>
   simp only[fU] at h
   split at h
   ·rename_i s rows0 hg
    split at h
    ·rename_i hb2
     simp only[oIn,pIn] at h
     obtain⟨rfl,rfl⟩:=h
     refine⟨.hsl g' i' 0 0,_,.hslNil g' i' a0 l hJ hb,?_,fun _=>rfl⟩
     simp only[f4,fU,hg,hb2]
     simp
    ·cases h
   ·cases h
  | _=>cases h
theorem GV {b:Option Addr} {m c:Nat} (w:World):(Builtin.lenOf (.slice b m c)).run P w=.ok m w:=by simp[Builtin.lenOf]
theorem KY (hF:bM N M J fr tmps) (hH:bJ M J H w.heap) (hM:bT M w.heap) {t e:TypeId} {sz:Nat} {d x:Operand} {args:Array Operand} {ts:Array TypeId} {tr:List TypeId} (ha:args.toList=[d,x]) (hts:ts.toList=t::tr) (ht:P.underlying t=some (.slice e)) (hsz:fZ P e=some sz)
  (h:o.op=.call ⟨.builtin .copy,args,ts⟩) (hs:aH g i (.mop (.copy sz) [d,x]) fr H=some (v,H')):cK P M J H w g i (execOp (Act.eval ⟨tmps,ds⟩) o) v H':=by
 have hx:=bA (ds:=ds) hF x
 have hd:=bA (ds:=ds) hF d
 have ha':args=#[d,x]:=by cases args; simp_all
 have ht':ts[0]?=some t:=by cases ts; simp_all
 subst ha'
 simp only[aH,aX,List.map_cons,List.map_nil,gT] at hs
 split at hs
 ·rename_i g' i' st len s ea
  injection ea with ed ea
  injection ea with ex _
  subst ex
  rw[ed] at hd
  split at hs
  ·rename_i s2 rows2 hr
   split at hs
   ·rename_i s1 rows1 hg
    split at hs
    ·rename_i hb
     simp only[Bool.and_eq_true] at hb
     obtain⟨⟨hb1,hb2⟩,hb3⟩:=hb
     have hb1:=Nat.eq_of_beq_eq_true hb1
     have hb2:=Nat.eq_of_beq_eq_true hb2
     have hb3:=nlB hb3
     subst hb1; subst hb2
     simp only[oIn,pIn] at hs
     obtain⟨rfl,rfl⟩:=hs
     obtain⟨l',p1,p2,p3,p4⟩:=hH.cells hg
     generalize hcd:Act.eval ⟨tmps,ds⟩ d=dv at hd
     generalize hcx:Act.eval ⟨tmps,ds⟩ x=xv at hx
     cases hd with
     | hsl _ _ _ _ cap β l hJ hbk hc hlc=>
      rw[hJ] at p1
      injection p1 with p1
      subst p1
      obtain⟨cs,e',q1,q2,q3,q4,q5⟩:=p4 β hbk
      rw[p2] at hcd hc
      have hn1:min rows2.length (len+1)≤rows2.length:=Nat.min_le_left _ _
      have hn2:min rows2.length (len+1)≤len+1:=Nat.min_le_right _ _
      obtain⟨b0,m0,c0,hxv,hm0,hrl2,_⟩:=jN (P:=P) hH hM hx hr
      subst hm0
      obtain⟨a',x',r1,r2,r3⟩:=EG hx hr hn1
      obtain⟨b,m,c,hx'v,hm,hrl,news,hnl,hnone,hnrep,hnrun⟩:=jN (P:=P) hH hM r1 r2
      rw[r3] at hnrun
      subst hxv
      have hml:m=min rows2.length (len+1):=by rw[hm,List.length_take]; omega
      subst hml
      generalize hnn:min rows2.length (len+1)=n at *
      have hmul:(st+n) * s2=st * s2+n * s2:=Nat.add_mul _ _ _
      have hmul2:(st+n) * s2≤rows1.length * s2:=Nat.mul_le_mul_right _ (by omega)
      have hst:=fM P β (st * s2) e' news w cs 0 q1 (by rw[hnl]; omega) hnone
      rw[Nat.add_zero] at hst
      have hrun:(Builtin.copy_ ts o.type #[.slice (some ⟨β,st * s2,none⟩) len.succ cap,.slice b0 rows2.length c0]).run P w=.ok (.int .i64 (n:Nat)) (lL w β (.cells (splice cs (st * s2) news) e' (0,0))):=by
       have:=hnrun w rfl
       have hmin:Nat.min rows2.length len.succ=n:=hnn
       simp[Builtin.copy_,ht',run_underlying ht,run_sizeOf hsz,GV,hmin,this,hst,goInt]
      have hexec:(execOp (Act.eval ⟨tmps,ds⟩) o).run P w=.ok (.value (.int .i64 (n:Nat))) (lL w β (.cells (splice cs (st * s2) news) e' (0,0))):=by
       simp[execOp,h,resolve,invoke,builtin,hcd,hcx,hrun]
      have hblt:=d7 q1
      refine⟨_,_,J,.inl hexec,.sc _,.refl _ _,fun k=>?_,fun _ _ _=>rfl⟩
      have hlen':(rows1.take st++(rows2.take n++rows1.drop (st+n))).length=rows1.length:=by
       rw[List.length_append,List.length_append,List.length_take,List.length_take,List.length_drop]; omega
      refine bL.write k hH hM g' i' l β _ hg rfl hJ hbk (.cells (splice cs (st * s2) news) e' (0,0)) _ (fun _=>⟨p2,fun q r hq=>?_,?_⟩) rfl rfl rfl rfl
      ·rw[hZ (by omega) hn1] at hq
       split at hq
       ·exact p3 q r hq
       ·split at hq
        ·exact hrl2 _ r hq
        ·exact p3 q r hq
      ·rw[hbk]
       refine⟨_,e',eO _ _ _ hblt,by rw[← q2]; simp,by rw[hlen']; exact q3,fun j v hj hv=>?_,fun q r j c v hq hc' hv=>?_⟩
       ·rw[dE] at hv
        split at hv
        ·exact hnone _ (List.mem_of_getElem? hv)
        ·exact q4 j v (by rw[hlen'] at hj; exact hj) hv
       ·rw[hZ (by omega) hn1] at hq
        rw[dE,hnl] at hv
        have hjl:j < s2→q * s2+j < (q+1) * s2:=fun h=>by rw[Nat.add_mul]; omega
        split at hq
        ·rename_i hlt
         have hj:=(gEs.1 hc').1
         rw[p3 q r hq] at hj
         have h1:=dS (sz:=s2) hlt
         rw[if_neg (by omega)] at hv
         exact q5 q r j c v hq hc' hv
        ·rename_i hge
         split at hq
         ·rename_i hlt
          have hj:=(gEs.1 hc').1
          rw[hrl2 _ r hq] at hj
          obtain⟨p,rfl⟩:∃ p,q=st+p:=⟨q - st,by omega⟩
          have h1:=dS (sz:=s2) (show p < n by omega)
          have h2:(st+p) * s2=st * s2+p * s2:=Nat.add_mul _ _ _
          rw[if_pos (by omega)] at hv
          rw[show(st+p) * s2+j - st * s2=p * s2+j by omega] at hv
          rw[show st+p - st=p by omega] at hq
          exact hnrep p r j c v (by rw[List.getElem?_take_of_lt (by omega)]; exact hq) hc' hv
         ·rename_i hge2
          have h2:(st+n) * s2≤q * s2:=Nat.mul_le_mul_right _ (by omega)
          rw[if_neg (by omega)] at hv
          exact q5 q r j c v hq hc' hv
    ·cases hs
   ·cases hs
  ·cases hs
 ·cases hs
theorem lN (z:Array Value) (n j:Nat) (h:j < n * z.size):(Builtin.zeroCells z n)[j]?=some z[j % z.size]!:=by
 unfold Builtin.zeroCells
 simp[h]
theorem xC (t u ty e:TypeId) (k k':IntKind) (inf:TypeInfo) (zv:Value) (ht:P.underlying t=some (.slice e)) (hu:P.underlying u=some (.int k)) (hi:P.info? e=some inf) (hz:inf.zero=some zv) (hs:0 < inf.size)
  (n:Nat) (hn:0 < n) (h63:(n:Int)≤9223372036854775807) (hb:(n:Int) * inf.bytes≤281474976710656) (hfit:Builtin.nextslicecap n 0 * inf.bytes≤281474976710656):
  (Builtin.append_ #[t,u] ty #[.slice none 0 0,.int k' (n:Int)]).run P w =
   .ok (.slice (some ⟨w.heap.size,0,none⟩) n (grownCap w n 0 e))
    (w.drew.alloc (.cells (Builtin.zeroCells zv.cells n++Builtin.zeroCells zv.cells (grownCap w n 0 e - n)) e)):=by
 have hw:IntKind.i64.wrap (n:Int)=n:=by rw[IntKind.wrap_i64]; omega
 have h0:¬ ((n:Int) < 0):=by omega
 have hb':¬ (281474976710656 < (n:Int) * inf.bytes):=by omega
 have hn':¬ n=0:=by omega
 have hs':¬ inf.size=0:=by omega
 have h63':¬ (9223372036854775807 < (n:Int)):=by omega
 have h48':¬ (281474976710656 < Builtin.nextslicecap n 0 * inf.bytes):=by omega
 simp[Builtin.append_,run_underlying ht,run_underlying hu,sizeOf,typeInfo,zeroValue,hi,hz,asInt,asIntOf,hw,h0,hb',hn',h63',h48',Question.forced,newRow,grownCap,Builtin.firstCells]
 intro h
 exact absurd h (Nat.mul_ne_zero hn' hs')
theorem MS (hF:bM N M J fr tmps) (hH:bJ M J H w.heap) (hM:bT M w.heap) (hn:hok H g i) (hJ:J g i=none) {t u e:TypeId} {k:IntKind} {inf:TypeInfo} {z:List (Nat×Value)} {s x:Operand} {args:Array Operand} {ts:Array TypeId}
  (ha:args.toList=[s,x]) (hts:ts.toList=[t,u]) (ht:P.underlying t=some (.slice e)) (hu:P.underlying u=some (.int k)) (hi:P.info? e=some inf) (hz:zOf P e=some z) (hsz:0 < inf.size) (h:o.op=.call ⟨.builtin .append,args,ts⟩)
  (hs:aH g i (.mop (.appN inf.bytes z) [s,x]) fr H=some (v,H')):cK P M J H w g i (execOp (Act.eval ⟨tmps,ds⟩) o) v H':=by
 have hx:=bA (ds:=ds) hF x
 have hsv:=bA (ds:=ds) hF s
 have ha':args=#[s,x]:=by cases args; simp_all
 have ht':ts=#[t,u]:=by cases ts; simp_all
 subst ha'; subst ht'
 obtain⟨inf',zv,hi',hz0,hsize,hone,hun⟩:=jM hz
 rw[hi] at hi'
 injection hi' with hi'
 subst hi'
 simp only[aH,aX,List.map_cons,List.map_nil,gT] at hs
 split at hs
 ·rename_i n ea
  injection ea with es ea
  injection ea with ex _
  rw[es] at hsv
  rw[ex] at hx
  split at hs
  ·rename_i hb
   have hbound:(n+1) * (inf.bytes+1)≤70368744177664:=nlB hb
   simp only[oIn,pIn] at hs
   obtain⟨rfl,rfl⟩:=hs
   have hlen:(fF z).length=inf.size:=by rw[gK,hun]; simp[hsize]
   rw[hlen]
   have hm1:(n+1) * (inf.bytes+1)=(n+1) * inf.bytes+(n+1):=Nat.mul_succ _ _
   have hcap0:Builtin.nextslicecap (n+1) 0=n+1:=by
    unfold Builtin.nextslicecap
    rw[if_pos (by omega)]
   have hrun:=xC (P:=P) (w:=w) t u o.type e k .i64 inf zv ht hu hi hz0 hsz (n+1) (by omega) (by omega) (by rw[← Int.natCast_mul]; omega) (by rw[hcap0]; omega)
   have hexec:(execOp (Act.eval ⟨tmps,ds⟩) o).run P w=.ok (.value (.slice (some ⟨w.heap.size,0,none⟩) (n+1) (grownCap w (n+1) 0 e))) (w.drew.alloc (.cells (Builtin.zeroCells zv.cells (n+1)++Builtin.zeroCells zv.cells (grownCap w (n+1) 0 e - (n+1))) e)):=by
    have hsuf:∀(xv:Value) r w1,Act.eval ⟨tmps,ds⟩ x=xv→(Builtin.append_ #[t,u] o.type #[.slice none 0 0,xv]).run P w=.ok r w1→(execOp (Act.eval ⟨tmps,ds⟩) o).run P w=.ok (.value r) w1:=by
     intro xv r w1 e1 hr
     simp[execOp,h,resolve,invoke,builtin,e1,hsv.sc_inv,hr]
    exact hsuf _ _ _ hx.sc_inv hrun
   have hge:n+1≤grownCap w (n+1) 0 e:=grownCap_ge w _ _ _
   generalize grownCap w (n+1) 0 e=cap' at hexec hge
   have hsz3:(Builtin.zeroCells zv.cells (n+1)++Builtin.zeroCells zv.cells (cap' - (n+1))).size=cap' * inf.size:=by
    rw[Array.size_append,size_zeroCells,size_zeroCells,hsize,← Nat.add_mul]
    congr 1
    omega
   have hget:∀(j:Nat) y,j < (n+1) * inf.size→(Builtin.zeroCells zv.cells (n+1)++Builtin.zeroCells zv.cells (cap' - (n+1)))[j]?=some y→y=zv.cells[j % inf.size]!:=by
    intro j y hj hy
    rw[Array.getElem?_append_left (by rw[size_zeroCells,hsize]; exact hj),lN _ _ _ (by rw[hsize]; exact hj),hsize] at hy
    injection hy with hy
    exact hy.symm
   refine⟨_,_,J.set g i ⟨some w.heap.size,inf.size,cap' * inf.size⟩,.inl hexec,?_,Inj.set_ext _ hJ M,fun k=>?_,fun a b hab=>by simp only[Inj.set,if_neg hab]⟩
   ·have:=Rep.hsl (M:=M) (J:=J.set g i ⟨some w.heap.size,inf.size,cap' * inf.size⟩) g i 0 (n+1) cap' w.heap.size _ (Inj.set_self _) rfl (by simp) hge
    rwa[Nat.zero_mul] at this
   ·have hmul:(n+1) * inf.size≤cap' * inf.size:=Nat.mul_le_mul_right _ hge
    refine bL.alloc k hH hM g i hn hJ (some (.cells (Builtin.zeroCells zv.cells (n+1)++Builtin.zeroCells zv.cells (cap' - (n+1))) e)) _ _ rfl ⟨rfl,fun q r hq=>?_,_,e,gI _ _,hsz3,by rw[List.length_replicate]; exact hmul,fun j y hj hy=>?_,fun q r j c y hq hc hy=>?_⟩ rfl rfl rfl rfl
    ·rw[List.getElem?_replicate] at hq
     split at hq
     ·injection hq with hq; subst hq; exact hlen
     ·cases hq
    ·rw[List.length_replicate] at hj
     have hjm:j % inf.size < inf.size:=Nat.mod_lt _ hsz
     rw[hget j y hj hy,getElem!_pos zv.cells (j % inf.size) (by omega)]
     exact hone _ (Array.getElem_mem _)
    ·rw[List.getElem?_replicate] at hq
     split at hq
     ·rename_i hqn
      injection hq with hq
      subst hq
      have hj:j < inf.size:=by rw[← hlen]; exact(gEs.1 hc).1
      have:=dS (sz:=inf.size) hqn
      have hy':=hget _ y (by omega) hy
      rw[show(q * inf.size+j) % inf.size=j by rw[Nat.mul_comm,Nat.mul_add_mod,Nat.mod_eq_of_lt hj],getElem!_pos zv.cells j (by omega)] at hy'
      have hy2:zv.cells[j]?=some y:=by rw[Array.getElem?_eq_getElem (by omega),hy']
      rw[mB hun hc hy2]
      exact .sc _
     ·cases hq
  ·cases hs
 ·cases hs
theorem J8 (hF:bM N M J fr tmps) (hH:bJ M J H w.heap) (hM:bT M w.heap) {t e:TypeId} {z:List (Nat×Value)} {d:Operand} {args:Array Operand} {ts:Array TypeId} {tr:List TypeId} (ha:args.toList=[d]) (hts:ts.toList=t::tr) (ht:P.underlying t=some (.slice e)) (hz:zOf P e=some z)
  (h:o.op=.call ⟨.builtin .clear,args,ts⟩) (hs:aH g i (.mop (.clear z) [d]) fr H=some (v,H')):cK P M J H w g i (execOp (Act.eval ⟨tmps,ds⟩) o) v H':=by
 have hd:=bA (ds:=ds) hF d
 have ha':args=#[d]:=by cases args; simp_all
 have ht':ts[0]?=some t:=by cases ts; simp_all
 subst ha'
 simp only[aH,aX,List.map_cons,List.map_nil,gT] at hs
 split at hs
 ·rename_i g' i' st ea
  injection ea with ed _
  rw[ed] at hd
  simp only[oIn,pIn] at hs
  obtain⟨rfl,rfl⟩:=hs
  generalize hcd:Act.eval ⟨tmps,ds⟩ d=dv at hd
  have fin:∀ a c,dv=.slice a 0 c→(execOp (Act.eval ⟨tmps,ds⟩) o).run P w=.ok (.value (.tuple #[])) w:=by
   intro a c e
   subst e
   cases a<;>simp[execOp,h,resolve,invoke,builtin,hcd,Builtin.clear_,ht',run_underlying ht]
  cases hd with
  | hsl=>exact .quiet hH hM (fin _ _ rfl) (.tup _ _ rfl fun j c v a b=>by simp at a)
  | hslNil=>exact .quiet hH hM (fin _ _ rfl) (.tup _ _ rfl fun j c v a b=>by simp at a)
 ·rename_i g' i' st len ea
  injection ea with ed _
  rw[ed] at hd
  split at hs
  ·rename_i s1 rows1 hg
   split at hs
   ·rename_i hb
    simp only[Bool.and_eq_true] at hb
    obtain⟨hb1,hb3⟩:=hb
    have hb1:=Nat.eq_of_beq_eq_true hb1
    have hb3:=nlB hb3
    simp only[oIn,pIn] at hs
    obtain⟨rfl,rfl⟩:=hs
    obtain⟨l',p1,p2,p3,p4⟩:=hH.cells hg
    obtain⟨inf,zv,hi,hz0,hsize,hone,hun⟩:=jM hz
    have hzl:(fF z).length=s1:=hb1.symm
    have hzs:zv.cells.size=s1:=by rw[← hzl,gK,hun]; simp
    generalize hcd:Act.eval ⟨tmps,ds⟩ d=dv at hd
    cases hd with
    | hsl _ _ _ _ cap β l hJ hbk hc hlc=>
     rw[hJ] at p1
     injection p1 with p1
     subst p1
     obtain⟨cs,e',q1,q2,q3,q4,q5⟩:=p4 β hbk
     rw[p2] at hcd hc
     generalize hn:len+1=n at *
     have hn1:n≤(List.replicate n (fF z)).length:=by rw[List.length_replicate]; exact Nat.le_refl _
     have hmul:(st+n) * s1=st * s1+n * s1:=Nat.add_mul _ _ _
     have hmul2:(st+n) * s1≤rows1.length * s1:=Nat.mul_le_mul_right _ (by omega)
     have hnl:(Builtin.zeroCells zv.cells n).toList.length=n * s1:=by rw[Array.length_toList,size_zeroCells,hzs]
     have hnone:∀ v∈(Builtin.zeroCells zv.cells n).toList,v.oneCell'=true:=fun v hv=>by
      obtain⟨j,hj,rfl⟩:=List.getElem_of_mem hv
      have hj':j < n * zv.cells.size:=by rw[hzs,← hnl]; exact hj
      have hzp:0 < zv.cells.size:=by
       cases hz2:zv.cells.size with
       | zero=>rw[hz2] at hj'; omega
       | succ k=>omega
      have h1:=lN zv.cells n j hj'
      rw[← Array.getElem?_toList,gEg hj] at h1
      injection h1 with h1
      have hjm:j % zv.cells.size < zv.cells.size:=Nat.mod_lt _ hzp
      rw[h1,getElem!_pos zv.cells _ hjm]
      exact hone _ (Array.getElem_mem _)
     have hnrep:∀(p:Nat) (r:List AV) (j:Nat) (c:AV) (v:Value),(List.replicate n (fF z))[p]?=some r→r[j]?=some c→(Builtin.zeroCells zv.cells n).toList[p * s1+j]?=some v→Rep M J c v:=by
      intro p r j c y hq hc' hy
      rw[List.getElem?_replicate] at hq
      split at hq
      ·rename_i hqn
       injection hq with hq
       subst hq
       have hj:j < s1:=by rw[← hzl]; exact(gEs.1 hc').1
       have:=dS (sz:=s1) hqn
       rw[Array.getElem?_toList,lN _ _ _ (by rw[hzs]; omega),hzs] at hy
       injection hy with hy
       rw[show(p * s1+j) % s1=j by rw[Nat.mul_comm,Nat.mul_add_mod,Nat.mod_eq_of_lt hj],getElem!_pos zv.cells j (by omega)] at hy
       have hy2:zv.cells[j]?=some y:=by rw[Array.getElem?_eq_getElem (by omega),hy]
       rw[mB hun hc' hy2]
       exact .sc _
      ·cases hq
     have hst:=fM P β (st * s1) e' (Builtin.zeroCells zv.cells n).toList w cs 0 q1 (by rw[hnl]; omega) hnone
     rw[Nat.add_zero] at hst
     have hrun:(Builtin.clear_ ts o.type #[.slice (some ⟨β,st * s1,none⟩) n cap]).run P w=.ok (.tuple #[]) (lL w β (.cells (splice cs (st * s1) (Builtin.zeroCells zv.cells n).toList) e' (0,0))):=by
      subst hn
      simp[Builtin.clear_,ht',run_underlying ht,zeroValue,typeInfo,hi,hz0,hst]
     have hexec:(execOp (Act.eval ⟨tmps,ds⟩) o).run P w=.ok (.value (.tuple #[])) (lL w β (.cells (splice cs (st * s1) (Builtin.zeroCells zv.cells n).toList) e' (0,0))):=by
      subst hn
      simp[execOp,h,resolve,invoke,builtin,hcd,hrun]
     have hblt:=d7 q1
     refine⟨_,_,J,.inl hexec,.tup _ _ rfl fun j c v a b=>by simp at a,.refl _ _,fun k=>?_,fun _ _ _=>rfl⟩
     have hlen':(rows1.take st++((List.replicate n (fF z)).take n++rows1.drop (st+n))).length=rows1.length:=by
      rw[List.length_append,List.length_append,List.length_take,List.length_take,List.length_drop,List.length_replicate]; omega
     refine bL.write k hH hM g' i' l β _ hg rfl hJ hbk (.cells (splice cs (st * s1) (Builtin.zeroCells zv.cells n).toList) e' (0,0)) _ (fun _=>⟨p2,fun q r hq=>?_,?_⟩) rfl rfl rfl rfl
     ·rw[hZ (by omega) hn1] at hq
      split at hq
      ·exact p3 q r hq
      ·split at hq
       ·rw[List.getElem?_replicate] at hq
        split at hq
        ·injection hq with hq; subst hq; exact hzl
        ·cases hq
       ·exact p3 q r hq
     ·rw[hbk]
      refine⟨_,e',eO _ _ _ hblt,by rw[← q2]; simp,by rw[hlen']; exact q3,fun j v hj hv=>?_,fun q r j c v hq hc' hv=>?_⟩
      ·rw[dE] at hv
       split at hv
       ·exact hnone _ (List.mem_of_getElem? hv)
       ·exact q4 j v (by rw[hlen'] at hj; exact hj) hv
      ·rw[hZ (by omega) hn1] at hq
       rw[dE,hnl] at hv
       have hjl:j < s1→q * s1+j < (q+1) * s1:=fun h=>by rw[Nat.add_mul]; omega
       split at hq
       ·rename_i hlt
        have hj:=(gEs.1 hc').1
        rw[p3 q r hq] at hj
        have h1:=dS (sz:=s1) hlt
        rw[if_neg (by omega)] at hv
        exact q5 q r j c v hq hc' hv
       ·rename_i hge
        split at hq
        ·rename_i hlt
         have hrl:r.length=s1:=by
          rw[List.getElem?_replicate] at hq
          split at hq
          ·injection hq with hq; subst hq; exact hzl
          ·cases hq
         have hj:=(gEs.1 hc').1
         rw[hrl] at hj
         obtain⟨p,rfl⟩:∃ p,q=st+p:=⟨q - st,by omega⟩
         have h1:=dS (sz:=s1) (show p < n by omega)
         have h2:(st+p) * s1=st * s1+p * s1:=Nat.add_mul _ _ _
         rw[if_pos (by omega)] at hv
         rw[show(st+p) * s1+j - st * s1=p * s1+j by omega] at hv
         rw[show st+p - st=p by omega] at hq
         exact hnrep p r j c v hq hc' hv
        ·rename_i hge2
         have h2:(st+n) * s1≤q * s1:=Nat.mul_le_mul_right _ (by omega)
         rw[if_neg (by omega)] at hv
         exact q5 q r j c v hq hc' hv
   ·cases hs
  ·cases hs
 ·cases hs
theorem GL (hF:bM N M J fr tmps) (hH:bJ M J H w.heap) (hM:bT M w.heap) {t e:TypeId} {n:Nat} {x y:Operand} {sz:Nat} (ht:P.underlying t=some (.array n e)) (hsz:fZ P e=some sz)
  (h:o.op=.slice t x none (some y) none) (hs:aH g i (.mop (.sliceA n) [x,y]) fr H=some (v,H')):cK P M J H w g i (execOp (Act.eval ⟨tmps,ds⟩) o) v H':=by
 have hx:=bA (ds:=ds) hF x
 have hy:=bA (ds:=ds) hF y
 simp only[aH,aX,List.map_cons,List.map_nil,gT] at hs
 split at hs
 ·rename_i g' i' off kd q ea
  injection ea with ex ea
  injection ea with ey _
  rw[ex] at hx
  rw[ey] at hy
  have hyv:=hy.sc_inv
  split at hs
  ·rename_i hb
   have hqn:=nlB hb
   simp only[oIn,pIn] at hs
   obtain⟨rfl,rfl⟩:=hs
   generalize hcv:Act.eval ⟨tmps,ds⟩ x=cv at hx
   cases hx with
   | ptr _ _ _ _ β l hJ hbk=>
    have hrun:(execOp (Act.eval ⟨tmps,ds⟩) o).run P w=.ok (.value (.slice (some ⟨β,off,none⟩) q n)) w:=by
     by_cases hn:n=0
     ·subst hn
      have:q=0:=by omega
      subst this
      simp[execOp,h,Instr.sliceAt,run_underlying ht,hcv,Instr.sureAddr,run_sizeOf hsz,Instr.sliceBounds,Instr.sliceBound,hyv,asIntOf]
     ·simp[execOp,h,Instr.sliceAt,run_underlying ht,hcv,Instr.sureAddr,run_sizeOf hsz,Instr.sliceBounds,Instr.sliceBound,hyv,asIntOf,hqn,eG]
    exact .quiet hH hM hrun (.asl g' i' off q n β l hJ hbk hqn)
  ·cases hs
 ·cases hs
def JD (P:Program):Op→Option IOp
 | .range t x=>match P.underlying t with | some (.map _ _)=>some (.mop .range [x]) | _=>none
 | .next x false=>some (.mop .next [x])
 | .entry x=>some (.mop .entry [x])
 | .call ⟨.builtin .delete,args,ts⟩=>match args.toList,ts.toList with
  | [m,x],t::_=>match P.underlying t with
   | some (.map kt _)=>match P.underlying kt with
    | some (.int k)=>some (.mop (.del k) [m,x])
    | _=>none
   | _=>none
  | _,_=>none
 | .slice t x none (some (.const (.int .i64 0))) (some (.const (.int .i64 0)))=>match P.underlying t with
  | some (.slice e)=>(fZ P e).map fun n=>.mop (.slice0 n) [x]
  | _=>none
 | .call ⟨.builtin .cap,args,ts⟩=>match args.toList,ts.toList with
  | [x],[t]=>match P.underlying t with
   | some (.slice _)=>some (.mop .cap [x])
   | _=>none
  | _,_=>none
 | .call ⟨.builtin .copy,args,ts⟩=>match args.toList,ts.toList with
  | [d,x],t::_=>match P.underlying t with
   | some (.slice e)=>(fZ P e).map fun n=>.mop (.copy n) [d,x]
   | _=>none
  | _,_=>none
 | .call ⟨.builtin .append,args,ts⟩=>match args.toList,ts.toList with
  | [s,x],[t,u]=>match P.underlying t,P.underlying u with
   | some (.slice e),some (.int _)=>match P.info? e,zOf P e with
    | some i,some z=>match Nat.blt 0 i.size with
     | true=>some (.mop (.appN i.bytes z) [s,x])
     | false=>none
    | _,_=>none
   | _,_=>none
  | _,_=>none
 | .slice t x none (some y) none=>match P.underlying t with
  | some (.array n e)=>(fZ P e).map fun _=>.mop (.sliceA n) [x,y]
  | _=>none
 | .call ⟨.builtin .clear,args,ts⟩=>match args.toList,ts.toList with
  | [d],t::_=>match P.underlying t with
   | some (.slice e)=>(zOf P e).map fun z=>.mop (.clear z) [d]
   | _=>none
  | _,_=>none
 | .panic _=>some (.mop .stop [])
 | .makeInterface _ _=>some (.mop .stop [])
 | .typeAssert _ _ _ _=>some (.mop .stop [])
 | _=>none
theorem EE {io:IOp} (hc:JD P o.op=some io) (hF:bM N M J fr tmps) (hH:bJ M J H w.heap) (hM:bT M w.heap) (hn:hok H g i) (hJ:J g i=none)
  (hs:aH g i io fr H=some (v,H')):cK P M J H w g i (execOp (Act.eval ⟨tmps,ds⟩) o) v H':=by
 unfold JD at hc
 split at hc
 ·rename_i t x h
  split at hc
  ·rename_i h1
   injection hc with hc; subst hc
   exact IQ hF hH hM hn hJ h1 h hs
  ·cases hc
 ·rename_i x h
  injection hc with hc; subst hc
  exact MB hF hH hM h hs
 ·rename_i x h
  injection hc with hc; subst hc
  exact KG hF hH hM h hs
 ·rename_i args ts h
  split at hc
  ·rename_i m x t tr ha ht
   split at hc
   ·rename_i h1
    split at hc
    ·rename_i h2
     injection hc with hc; subst hc
     exact NV hF hH hM ha ht h1 h2 h hs
    ·cases hc
   ·cases hc
  ·cases hc
 ·rename_i t x h
  split at hc
  ·rename_i h1
   simp only[Option.map_eq_some_iff] at hc
   obtain⟨n,h2,rfl⟩:=hc
   exact GS hF hH hM hn hJ h1 h2 h hs
  ·cases hc
 ·rename_i args ts h
  split at hc
  ·rename_i x t ha ht
   split at hc
   ·rename_i h1
    injection hc with hc; subst hc
    exact N2 hF hH hM ha ht h1 h hs
   ·cases hc
  ·cases hc
 ·rename_i args ts h
  split at hc
  ·rename_i d x t tr ha ht
   split at hc
   ·rename_i h1
    simp only[Option.map_eq_some_iff] at hc
    obtain⟨n,h2,rfl⟩:=hc
    exact KY hF hH hM ha ht h1 h2 h hs
   ·cases hc
  ·cases hc
 ·rename_i args ts h
  split at hc
  ·rename_i s x t u ha ht
   split at hc
   ·rename_i e k h1 h2
    split at hc
    ·rename_i inf z h3 h4
     split at hc
     ·rename_i h5
      injection hc with hc; subst hc
      exact MS hF hH hM hn hJ ha ht h1 h2 h3 h4 (nlB h5) h hs
     ·cases hc
    ·cases hc
   ·cases hc
  ·cases hc
 ·rename_i t x y h
  split at hc
  ·rename_i n e h1
   rw[Option.map_eq_some_iff] at hc
   obtain⟨k,h3,hc⟩:=hc
   subst hc
   exact GL hF hH hM h1 h3 h hs
  ·cases hc
 ·rename_i args ts h
  split at hc
  ·rename_i d t tr ha ht
   split at hc
   ·rename_i h1
    rw[Option.map_eq_some_iff] at hc
    obtain⟨z,h2,rfl⟩:=hc
    exact J8 hF hH hM ha ht h1 h2 h hs
   ·cases hc
  ·cases hc
 ·injection hc with hc; subst hc; cases hs
 ·injection hc with hc; subst hc; cases hs
 ·injection hc with hc; subst hc; cases hs
 ·cases hc
end
end Go.Av
namespace Go.Av
open Go.MapKept
section
variable {P:Program} {M:Mem} {J:Inj} {H:Heap} {w:World} {g i:Nat}
variable {N:Nat} {fr:Fr} {tmps:Array Value} {ds:List Deferred} {o:Oper} {v:AV} {H':Heap}
theorem JJ (hF:bM N M J fr tmps) (sz:Nat):∀(parts:List (Nat×Operand)) (xs ys:List AV) (cs:Array Value),
  lay xs (parts.map fun p=>(p.1 * sz,sz,ev fr p.2))=some ys→m7 M J xs cs →
  ∃ cs',Instr.fill (fun i=>some (i * sz,sz)) cs (parts.map fun p=>(p.1,Act.eval ⟨tmps,ds⟩ p.2))=some cs'∧m7 M J ys cs':=by
 intro parts
 induction parts with
 | nil=>
  intro xs ys cs hl hr
  simp[lay] at hl
  subst hl
  exact⟨cs,rfl,hr⟩
 | cons p parts ih=>
  obtain⟨k,x⟩:=p
  intro xs ys cs hl hr
  simp only[List.map_cons,lay] at hl
  split at hl
  ·rename_i c hc
   split at hl
   ·rename_i hb
    simp only[Bool.and_eq_true] at hb
    have hcn:c.length=sz:=Nat.eq_of_beq_eq_true hb.1
    have hle:k * sz+sz≤xs.length:=nlB hb.2
    obtain⟨h1,h2⟩:=(bA (ds:=ds) hF x).cs hc
    obtain⟨cs',h3,h4⟩:=ih _ ys (splice cs (k * sz) (Act.eval ⟨tmps,ds⟩ x).cells.toList) hl (hr.splice (by simpa using h1) (fun j c v a b=>h2 j c v a (by simpa using b)) (k * sz))
    refine⟨cs',?_,h4⟩
    have hr1:=hr.1
    simp only[List.map_cons,Instr.fill]
    rw[if_neg (by
     simp only[Bool.or_eq_true,decide_eq_true_eq,not_or]
     omega)]
    rw[lF]
    exact h3
   ·cases hl
  ·cases hl
theorem A6 (hF:bM N M J fr tmps) (hH:bJ M J H w.heap) (hM:bT M w.heap) {t e:TypeId} {n sz:Nat} {z:List (Nat×Value)} {parts:Array (Nat×Operand)}
  (ht:P.underlying t=some (.array n e)) (hz:zOf P t=some z) (hsz:fZ P e=some sz) (h:o.op=.build t parts)
  (hs:aH g i (.build z (parts.toList.map fun p=>(p.1 * sz,sz,p.2))) fr H=some (v,H')):cK P M J H w g i (execOp (Act.eval ⟨tmps,ds⟩) o) v H':=by
 obtain⟨inf,zv,hi,hz0,hsize,hone,hun⟩:=jM hz
 simp only[aH,List.map_map] at hs
 split at hs
 ·rename_i ys hl
  simp only[oIn,pIn] at hs
  obtain⟨rfl,rfl⟩:=hs
  have hz1:m7 M J (fF z) zv.cells:=⟨by rw[gK,hun]; simp,fun j c v hc hv=>by rw[mB hun hc hv]; exact .sc v⟩
  obtain⟨cs',h1,h2⟩:=JJ (ds:=ds) hF sz parts.toList _ ys zv.cells hl hz1
  refine .quiet hH hM (cv:=.agg cs') ?_ (.agg _ _ h2.1 h2.2)
  have hfill:Instr.fill (fun i=>some (i * sz,sz)) zv.cells (parts.map fun p=>(p.1,Act.eval ⟨tmps,ds⟩ p.2)).toList=some cs':=by
   rw[Array.toList_map]; exact h1
  simp only[execOp,h,Instr.build,Sem.run_bind,fA hi hz0,Result.andThen_ok,run_underlying ht,run_sizeOf hsz,hfill,Sem.run_pure]
 ·cases hs
def J7 (P:Program):Op→Option IOp
 | .binOp .eql t x y _=>match P.underlying t with
  | some (.struct _)=>match j5 P t,P.eqGuardType P.depth t with | some ks,false=>some (.xop (.eqAgg false ks) [x,y]) | _,_=>none
  | some (.array _ e)=>match P.underlying e with
   | some .bool=>none
   | _=>match j5 P t,P.eqGuardType P.depth t with | some ks,false=>some (.xop (.eqAgg false ks) [x,y]) | _,_=>none
  | some (.func _ _ _)=>match y with | .const .nilFunc=>some (.xop (.eqFn false) [x]) | _=>none
  | _=>none
 | .binOp .neq t x y _=>match P.underlying t with
  | some (.struct _)=>match j5 P t,P.eqGuardType P.depth t with | some ks,false=>some (.xop (.eqAgg true ks) [x,y]) | _,_=>none
  | some (.array _ e)=>match P.underlying e with
   | some .bool=>none
   | _=>match j5 P t,P.eqGuardType P.depth t with | some ks,false=>some (.xop (.eqAgg true ks) [x,y]) | _,_=>none
  | some (.func _ _ _)=>match y with | .const .nilFunc=>some (.xop (.eqFn true) [x]) | _=>none
  | _=>none
 | .convert src dst x=>match P.underlying src,P.underlying dst with
  | some (.slice e),some .string=>match P.underlying e with | some (.int .u8)=>some (.xop .bstr [x]) | _=>none
  | some (.int _),some (.float k)=>some (.xop (.i2f k) [x])
  | _,_=>none
 | .index t x i=>match P.underlying t with | some .string=>some (.xop .idxStr [x,i]) | _=>none
 | .lookup t x ix ok=>match P.underlying t with
  | some (.map kt e)=>match j5 P kt,GX P e with | some ks,some z=>some (.xop (.lookF ks z ok) [x,ix]) | _,_=>none
  | _=>none
 | .mapUpdate t m i x=>match P.underlying t with | some (.map kt _)=>(j5 P kt).map fun ks=>.insF ks m i x | _=>none
 | .insert t m i x=>match P.underlying t with | some (.map kt _)=>(j5 P kt).map fun ks=>.insF ks m i x | _=>none
 | .build t parts=>match P.underlying t with
  | some (.array _ e)=>match zOf P t,fZ P e with | some z,some sz=>some (.build z (parts.toList.map fun p=>(p.1 * sz,sz,p.2))) | _,_=>none
  | _=>none
 | .call ⟨.builtin .len,args,ts⟩=>match args.toList,ts.toList with
  | [x],[t]=>match P.underlying t with | some .string=>some (.xop .lenStr [x]) | _=>none
  | _,_=>none
 | .call ⟨.value (.func f),args,_⟩=>(OA P f).map fun e=>.xop e args.toList
 | _=>none
theorem DQ {io:IOp} (hc:J7 P o.op=some io) (hF:bM N M J fr tmps) (hH:bJ M J H w.heap) (hM:bT M w.heap)
  (hs:aH g i io fr H=some (v,H')):cK P M J H w g i (execOp (Act.eval ⟨tmps,ds⟩) o) v H':=by
 unfold J7 at hc
 split at hc
 ·rename_i t x y u h
  split at hc
  ·split at hc
   ·rename_i ks h1 h2
    injection hc with hc; subst hc
    exact qL hF hH hM (neg:=false) h1 h2 h hs
   ·cases hc
  ·split at hc
   ·cases hc
   ·split at hc
    ·rename_i ks h1 h2
     injection hc with hc; subst hc
     exact qL hF hH hM (neg:=false) h1 h2 h hs
    ·cases hc
  ·rename_i h1
   split at hc
   ·injection hc with hc; subst hc
    exact FB hF hH hM (neg:=false) h1 h hs
   ·cases hc
  ·cases hc
 ·rename_i t x y u h
  split at hc
  ·split at hc
   ·rename_i ks h1 h2
    injection hc with hc; subst hc
    exact qL hF hH hM (neg:=true) h1 h2 h hs
   ·cases hc
  ·split at hc
   ·cases hc
   ·split at hc
    ·rename_i ks h1 h2
     injection hc with hc; subst hc
     exact qL hF hH hM (neg:=true) h1 h2 h hs
    ·cases hc
  ·rename_i h1
   split at hc
   ·injection hc with hc; subst hc
    exact FB hF hH hM (neg:=true) h1 h hs
   ·cases hc
  ·cases hc
 ·rename_i src dst x h
  split at hc
  ·rename_i e h1 h2
   split at hc
   ·rename_i h3
    injection hc with hc; subst hc
    exact MR hF hH hM h1 h2 h3 h hs
   ·cases hc
  ·rename_i k0 k h1 h2
   injection hc with hc; subst hc
   exact NK hF hH hM h1 h2 h hs
  ·cases hc
 ·rename_i t x ix h
  split at hc
  ·rename_i h1
   injection hc with hc; subst hc
   exact HG hF hH hM h1 h hs
  ·cases hc
 ·rename_i t x ix ok h
  split at hc
  ·rename_i kt e h1
   split at hc
   ·rename_i ks z h2 h3
    injection hc with hc; subst hc
    exact IG hF hH hM h1 h2 h3 h hs
   ·cases hc
  ·cases hc
 ·rename_i t m ix x h
  split at hc
  ·rename_i kt e h1
   simp only[Option.map_eq_some_iff] at hc
   obtain⟨ks,h2,rfl⟩:=hc
   exact E1 hF hH hM h1 h2 (.inl h) hs
  ·cases hc
 ·rename_i t m ix x h
  split at hc
  ·rename_i kt e h1
   simp only[Option.map_eq_some_iff] at hc
   obtain⟨ks,h2,rfl⟩:=hc
   exact E1 hF hH hM h1 h2 (.inr h) hs
  ·cases hc
 ·rename_i t parts h
  split at hc
  ·rename_i n e h1
   split at hc
   ·rename_i z sz h2 h3
    injection hc with hc; subst hc
    exact A6 hF hH hM h1 h2 h3 h hs
   ·cases hc
  ·cases hc
 ·rename_i args ts h
  split at hc
  ·rename_i x t ha ht
   split at hc
   ·rename_i h1
    injection hc with hc; subst hc
    exact H6 hF hH hM ha ht h1 h hs
   ·cases hc
  ·cases hc
 ·rename_i f args ts h
  simp only[Option.map_eq_some_iff] at hc
  obtain⟨e,h1,rfl⟩:=hc
  exact N1 hF hH hM h1 h hs
 ·cases hc
end
end Go.Av
namespace Go.Av
section
variable {P:Program} {M:Mem} {J:Inj} {H:Heap} {w:World} {g i:Nat}
variable {N:Nat} {fr:Fr} {tmps:Array Value} {ds:List Deferred} {o:Oper} {v:AV} {H':Heap}
theorem H9 {io:IOp} (hc:cop P o.op=some io) (hF:bM N M J fr tmps) (hH:bJ M J H w.heap) (hM:bT M w.heap) (hn:hok H g i) (hJ:J g i=none)
  (hs:aH g i io fr H=some (v,H')):cK P M J H w g i (execOp (Act.eval ⟨tmps,ds⟩) o) v H':=by
 cases h:o.op with
 | move x=>rw[h] at hc; injection hc with hc; subst hc; exact FM hF hH hM (.inl h) hs
 | assign x=>rw[h] at hc; injection hc with hc; subst hc; exact FM hF hH hM (.inr h) hs
 | pick c a b=>rw[h] at hc; injection hc with hc; subst hc; exact MI hF hH hM h hs
 | alloc t=>
  rw[h] at hc
  simp only[cop,Option.map_eq_some_iff] at hc
  obtain⟨z,hz,rfl⟩:=hc
  exact IA hH hM hn hJ hz h hs
 | box t x=>rw[h] at hc; injection hc with hc; subst hc; exact OH hF hH hM hn hJ h hs
 | build t parts=>
  rw[h] at hc
  simp only[cop] at hc
  split at hc
  ·rename_i fs z h1 h2
   split at hc
   ·rename_i hall
    simp only[Option.map_eq_some_iff] at hc
    obtain⟨lp,hlp,rfl⟩:=hc
    exact I4 hF hH hM h1 h2 hall hlp h hs
   ·cases hc
  ·cases hc
 | buildSlice t n parts=>
  rw[h] at hc
  simp only[cop] at hc
  split at hc
  ·rename_i e h1
   split at hc
   ·rename_i sz z h2 h3
    split at hc
    ·rename_i hb
     simp only[Bool.and_eq_true] at hb
     injection hc with hc
     subst hc
     exact xE hF hH hM hn hJ h1 h2 h3 (nlB hb.1) (nlB hb.2) h hs
    ·cases hc
   ·cases hc
  ·cases hc
 | load t a=>
  rw[h] at hc
  simp only[cop,Option.map_eq_some_iff] at hc
  obtain⟨⟨sz,agg⟩,hv,rfl⟩:=hc
  exact L0 hF hH hM hv h hs
 | store t a x=>
  rw[h] at hc
  simp only[cop,Option.map_eq_some_iff] at hc
  obtain⟨n,hv,rfl⟩:=hc
  exact I0 hF hH hM hv h hs
 | nilCheck x=>rw[h] at hc; injection hc with hc; subst hc; exact BZ hF hH hM h hs
 | binOp op t x y u=>
  rw[h] at hc
  simp only[cop] at hc
  split at hc
  ·rename_i h1
   injection hc with hc
   subst hc
   exact xS hF hH hM (neg:=false) h1 h hs
  ·rename_i h1
   injection hc with hc
   subst hc
   exact xS hF hH hM (neg:=true) h1 h hs
  ·rename_i e h1
   split at hc
   ·injection hc with hc
    subst hc
    exact AE hF hH hM (neg:=false) h1 h hs
   ·cases hc
  ·rename_i e h1
   split at hc
   ·injection hc with hc
    subst hc
    exact AE hF hH hM (neg:=true) h1 h hs
   ·cases hc
  ·rename_i k e h1
   split at hc
   ·injection hc with hc
    subst hc
    exact xJ hF hH hM (neg:=false) h1 h hs
   ·cases hc
  ·rename_i k e h1
   split at hc
   ·injection hc with hc
    subst hc
    exact xJ hF hH hM (neg:=true) h1 h hs
   ·cases hc
  ·rename_i e h1
   split at hc
   ·injection hc with hc
    subst hc
    exact xH hF hH hM (neg:=false) h1 h hs
   ·cases hc
  ·rename_i e h1
   split at hc
   ·injection hc with hc
    subst hc
    exact xH hF hH hM (neg:=true) h1 h hs
   ·cases hc
  ·rename_i n e h1
   split at hc
   ·rename_i h2 h3 h4
    injection hc with hc
    subst hc
    exact CL hF hH hM (neg:=false) h1 h2 h3 h4 h hs
   ·cases hc
  ·rename_i n e h1
   split at hc
   ·rename_i h2 h3 h4
    injection hc with hc
    subst hc
    exact CL hF hH hM (neg:=true) h1 h2 h3 h4 h hs
   ·cases hc
  ·injection hc with hc
   subst hc
   exact N5 hF hH hM h hs
 | unOp op t x=>rw[h] at hc; injection hc with hc; subst hc; exact ok_un hF hH hM h hs
 | convert src dst x=>
  rw[h] at hc
  simp only[cop] at hc
  split at hc
  ·rename_i h1 h2
   injection hc with hc
   subst hc
   exact LG hF hH hM h1 h2 h hs
  ·cases hc
 | makeFunc fn a b=>rw[h] at hc; injection hc with hc; subst hc; exact AW hF hH hM h hs
 | makeMap t r=>
  rw[h] at hc
  cases r with
  | some r=>cases hc
  | none=>injection hc with hc; subst hc; exact EI hH hM hn hJ h hs
 | makeSlice t l c=>
  rw[h] at hc
  simp only[cop] at hc
  split at hc
  ·rename_i e h1
   split at hc
   ·rename_i inf z h2 h3
    split at hc
    ·rename_i a b
     split at hc
     ·rename_i hb
      simp only[Bool.and_eq_true] at hb
      have hab:a=b:=Nat.eq_of_beq_eq_true hb.1
      subst hab
      injection hc with hc
      subst hc
      exact qO hF hH hM hn hJ h1 h2 h3 (nlB hb.2) h hs
     ·cases hc
    ·rename_i a b
     split at hc
     ·rename_i hb
      simp only[Bool.and_eq_true] at hb
      have hab:a=b:=of_decide_eq_true hb.1
      subst hab
      injection hc with hc
      subst hc
      exact qO hF hH hM hn hJ h1 h2 h3 (nlB hb.2) h hs
     ·cases hc
    ·cases hc
   ·cases hc
  ·cases hc
 | slice t x lo hi mx=>
  rw[h] at hc
  simp only[cop] at hc
  split at hc
  ·rename_i e h1
   simp only[Option.map_eq_some_iff] at hc
   obtain⟨n,hv,rfl⟩:=hc
   exact JP hF hH hM h1 hv h hs
  ·cases hc
 | fieldAddr t x f=>
  rw[h] at hc
  simp only[cop] at hc
  split at hc
  ·rename_i fs h1
   split at hc
   ·rename_i fd h2
    split at hc
    ·rename_i n h3
     injection hc with hc
     subst hc
     exact yV hF hH hM h1 h2 h3 h hs
    ·cases hc
   ·cases hc
  ·cases hc
 | field t x f=>
  rw[h] at hc
  simp only[cop] at hc
  split at hc
  ·rename_i fs h1
   split at hc
   ·rename_i fd h2
    simp only[Option.map_eq_some_iff] at hc
    obtain⟨⟨sz,agg⟩,hv,rfl⟩:=hc
    exact KK hF hH hM h1 h2 hv h hs
   ·cases hc
  ·cases hc
 | indexAddr t x ix=>
  rw[h] at hc
  simp only[cop] at hc
  split at hc
  ·rename_i e h1
   simp only[Option.map_eq_some_iff] at hc
   obtain⟨n,hv,rfl⟩:=hc
   exact I2 hF hH hM h1 hv h hs
  ·rename_i n e h1
   simp only[Option.map_eq_some_iff] at hc
   obtain⟨sz,hv,rfl⟩:=hc
   exact GO hF hH hM h1 hv h hs
  ·cases hc
 | index t x ix=>
  rw[h] at hc
  simp only[cop] at hc
  split at hc
  ·rename_i n e h1
   simp only[Option.map_eq_some_iff] at hc
   obtain⟨⟨sz,agg⟩,hv,rfl⟩:=hc
   exact GD hF hH hM h1 hv h hs
  ·cases hc
 | lookup t x ix ok=>
  rw[h] at hc
  simp only[cop] at hc
  split at hc
  ·rename_i kt e h1
   split at hc
   ·rename_i k z h2 h3
    injection hc with hc
    subst hc
    exact HR hF hH hM h1 h2 h3 h hs
   ·cases hc
  ·cases hc
 | mapUpdate t m ix x=>
  rw[h] at hc
  simp only[cop] at hc
  split at hc
  ·rename_i kt e h1
   split at hc
   ·rename_i k h2
    injection hc with hc
    subst hc
    exact rG hF hH hM h1 h2 h hs
   ·cases hc
  ·cases hc
 | insert t m ix x=>
  rw[h] at hc
  simp only[cop] at hc
  split at hc
  ·rename_i kt e h1
   split at hc
   ·rename_i k h2
    injection hc with hc
    subst hc
    exact GP hF hH hM h1 h2 h hs
   ·cases hc
  ·cases hc
 | extract x ix=>rw[h] at hc; injection hc with hc; subst hc; exact DT hF hH hM h hs
 | call c=>
  rw[h] at hc
  obtain⟨callee,args,ts⟩:=c
  cases callee with
  | builtin b=>
   cases b<;>try (cases hc; done)
   case len=>
    simp only[cop] at hc
    split at hc
    ·rename_i x t ha ht
     split at hc
     ·rename_i e h1
      injection hc with hc
      subst hc
      exact NS hF hH hM ha ht h1 h hs
     ·rename_i k e h1
      injection hc with hc
      subst hc
      exact LJ hF hH hM ha ht h1 h hs
     ·cases hc
    ·cases hc
   case append=>
    simp only[cop] at hc
    split at hc
    ·rename_i s x t u ha ht
     split at hc
     ·rename_i e h1
      split at hc
      ·rename_i inf z h2 h3
       split at hc
       ·rename_i hb
        simp only[Bool.and_eq_true] at hb
        have htu:t=u:=of_decide_eq_true hb.1
        subst htu
        injection hc with hc
        subst hc
        exact GB hF hH hM hn hJ ha ht h1 h2 h3 (nlB hb.2) h hs
       ·cases hc
      ·cases hc
     ·cases hc
    ·cases hc
   case max=>injection hc with hc; subst hc; exact OD hF hH hM h hs
   case min=>injection hc with hc; subst hc; exact NP hF hH hM h hs
  | value f=>cases hc
  | invoke r n=>cases hc
 | _=>rw[h] at hc; cases hc
end
inductive IAct where
 | op (o:IOp)
 | call (f:FuncId) (args:List Operand)
 | callV (f:Operand) (args:List Operand)
structure IOper where
 dst:Option Nat
 guard:Option (Nat×Bool)
 act:IAct
def BP (P:Program):Op→Option IAct
 | .call ⟨.value (.func f),args,_⟩=>some (.call f args.toList)
 | .call ⟨.value (.tmp t),args,_⟩=>some (.callV (.tmp t) args.toList)
 | op=>(cop P op).map .op
def xF (P:Program) (op:Op):Option IAct:=
 match JD P op with
 | some io=>some (.op io)
 | none=>match J7 P op with
  | some io=>some (.op io)
  | none=>BP P op
theorem yI {P:Program} {op:Op} {f:FuncId} {args:List Operand} (h:xF P op=some (.call f args)):∃ args' ts,op=.call ⟨.value (.func f),args',ts⟩∧args=args'.toList:=by
 unfold xF at h
 split at h
 ·cases h
 split at h
 ·cases h
 ·unfold BP at h
  split at h
  ·simp only[oIn,IAct.call.injEq] at h
   obtain⟨rfl,rfl⟩:=h
   exact⟨_,_,rfl,rfl⟩
  ·cases h
  ·simp only[Option.map_eq_some_iff] at h
   obtain⟨a,_,ha⟩:=h
   cases ha
theorem pP {P:Program} {op:Op} {x:Operand} {args:List Operand} (h:xF P op=some (.callV x args)):∃ t args' ts,op=.call ⟨.value (.tmp t),args',ts⟩∧x=.tmp t∧args=args'.toList:=by
 unfold xF at h
 split at h
 ·cases h
 split at h
 ·cases h
 ·unfold BP at h
  split at h
  ·cases h
  ·simp only[oIn,IAct.callV.injEq] at h
   obtain⟨rfl,rfl⟩:=h
   exact⟨_,_,_,rfl,rfl,rfl⟩
  ·simp only[Option.map_eq_some_iff] at h
   obtain⟨a,_,ha⟩:=h
   cases ha
theorem yL {P:Program} {M:Mem} {J:Inj} {H:Heap} {w:World} {g i N:Nat} {fr:Fr} {tmps:Array Value} {ds:List Deferred} {o:Oper} {v:AV} {H':Heap} {io:IOp} (hc:xF P o.op=some (.op io)) (hF:bM N M J fr tmps) (hH:bJ M J H w.heap) (hM:bT M w.heap) (hn:hok H g i) (hJ:J g i=none)
  (hs:aH g i io fr H=some (v,H')):cK P M J H w g i (execOp (Act.eval ⟨tmps,ds⟩) o) v H':=by
 unfold xF at hc
 split at hc
 ·rename_i io' hx
  simp only[oIn,IAct.op.injEq] at hc
  subst hc
  exact EE hx hF hH hM hn hJ hs
 split at hc
 ·rename_i io' hx
  simp only[oIn,IAct.op.injEq] at hc
  subst hc
  exact DQ hx hF hH hM hs
 ·have hcop:cop P o.op=some io:=by
   unfold BP at hc
   split at hc
   ·cases hc
   ·cases hc
   ·simp only[Option.map_eq_some_iff,IAct.op.injEq] at hc
    obtain⟨a,ha,rfl⟩:=hc
    exact ha
  exact H9 hcop hF hH hM hn hJ hs
def IX (N:Nat):Option Nat→Option (Option Nat)
 | none=>some none
 | some d=>match Nat.blt d N with
  | true=>some (some d)
  | false=>none
def yR (ops:Array Oper):Option (Nat×Bool)→Option (Option (Nat×Bool))
 | none=>some none
 | some (j,b)=>match ops[j]? with
  | some o=>match o.dst with
   | some t=>some (some (t,b))
   | none=>none
  | none=>none
def oD (P:Program) (N:Nat) (ops:Array Oper) (o:Oper):Option IOper:=
 match IX N o.dst,yR ops o.guard,xF P o.op with
 | some d,some gd,some a=>some ⟨d,gd,a⟩
 | _,_,_=>none
def gok (fr:Fr):Option (Nat×Bool)→Option Bool
 | none=>some true
 | some (t,b)=>match fr.get t with
  | .sc (.bool c)=>match b with
   | true=>some c
   | false=>some (!c)
  | .sc (.tuple _)=>some false
  | _=>none
theorem fX {N M J} {fr:Fr} {tmps:Array Value} (hF:bM N M J fr tmps) {ops:Array Oper} {o:Oper} {gd:Option (Nat×Bool)} (hg:yR ops o.guard=some gd) {r:Bool} (h:gok fr gd=some r):
  Region.wanted o (yielded ops tmps)=r:=by
 unfold yR at hg
 split at hg
 ·rename_i e
  injection hg with hg
  subst hg
  simp only[gok,oIn] at h
  subst h
  simp[Region.wanted,e]
 ·rename_i j b e
  split at hg
  ·rename_i oj hoj
   split at hg
   ·rename_i t ht
    injection hg with hg
    subst hg
    have hrep:=hF.2 t
    simp only[gok] at h
    have hy:∀ cv,tmps.getD t Go.undef=cv→yielded ops tmps j=match cv with | .bool b=>some b | _=>none:=by
     intro cv hcv
     unfold yielded
     rw[hoj]
     simp only[Option.bind_some,ht]
     by_cases hlt:t < tmps.size
     ·simp only[Array.getD,hlt,dif_pos] at hcv
      rw[Array.getElem?_eq_getElem hlt]
      simp only[Array.getInternal_eq_getElem] at hcv
      rw[hcv]
      cases cv<;>rfl
     ·simp only[Array.getD,hlt,dif_neg,not_false_eq_true] at hcv
      rw[Array.getElem?_eq_none (Nat.le_of_not_lt hlt)]
      subst hcv
      rfl
    simp only[Region.wanted,e]
    split at h
    ·rename_i c ec
     rw[ec] at hrep
     rw[hy _ hrep.sc_inv]
     cases b<;>cases c<;>simp_all
    ·rename_i q ec
     rw[ec] at hrep
     rw[hy _ hrep.sc_inv]
     simp_all
    ·cases h
   ·cases hg
  ·cases hg
end Go.Av
