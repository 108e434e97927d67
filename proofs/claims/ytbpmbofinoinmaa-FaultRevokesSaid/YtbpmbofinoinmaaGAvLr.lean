import Derived.Test.YtbpmbofinoinmaaGAvR
import Derived.Test.YtbpmbofinoinmaaGAvK2
namespace Go.Av
structure LOK (P : Program) (N : Nat) (L : LC) (ps : List Nat) (asg body : ICode) : Prop where
 en : L.n = N
 eps : L.ps.toList = ps
 lt : List.all ps (Nat.blt · N) = true
 easg : ccode P N L.asg = some asg
 ebody : ccode P N L.body = some body
def putL (fr : Fr) (l : List (Nat × AV)) : Fr := l.foldl (fun fr p => p :: fr) fr
def roundQ (g i : Nat) (L : LC) (R : Bool → Heap → Prop) (e : Exit) (_ : Fr) (H2 : Heap) : Prop :=
 ∃ c2, hget H2 g i = some (.lp L c2 .busy none) ∧
  match e with
  | .normal => R true (hset H2 g i (.lp L c2 .ready none))
  | .ret => R false (hset H2 g i (.lp L c2 .done (some .ret)))
  | .exit id => R false (hset H2 g i (.lp L c2 .done (some (.exit id))))
  | _ => False
def YieldOK (P : Program) (g i : Nat) (args : List AV) (H : Heap) (R : Bool → Heap → Prop) : Prop :=
 ∃ L caps N ps asg body, LOK P N L ps asg body ∧ hget H g i = some (.lp L caps .ready none) ∧ args.length = ps.length ∧
  AWP P N H.length asg (fun e fr1 H1 => e = .normal ∧ ∃ c1, hget H1 g i = some (.lp L c1 .ready none) ∧ AWP P N H.length body (roundQ g i L R) fr1 (hset H1 g i (.lp L c1 .busy none))) (putL caps (ps.zip args)) H
theorem YieldOK.mono {P : Program} {g i : Nat} {args : List AV} {H : Heap} {R R' : Bool → Heap → Prop} (h : YieldOK P g i args H R) (hr : ∀ b H', R b H' → R' b H') : YieldOK P g i args H R' := by
 obtain ⟨L, caps, N, ps, asg, body, h1, h2, h3, h4⟩ := h
 refine ⟨L, caps, N, ps, asg, body, h1, h2, h3, h4.mono fun e fr1 H1 ⟨he, c1, h5, h6⟩ => ⟨he, c1, h5, h6.mono fun e2 fr2 H2 ⟨c2, h7, h8⟩ => ⟨c2, h7, ?_⟩⟩⟩
 cases e2 <;> first | exact hr _ _ h8 | exact h8
section
variable {P : Program} {N k : Nat} {fr : Fr} {H : Heap} {Q : Exit → Fr → Heap → Prop}
theorem HRep.lp {M J} {h : Array Obj} (hH : HRep M J H h) {g i : Nat} {L : LC} {caps : Fr} {st : LoopState} {pe : Option Code} (hg : hget H g i = some (.lp L caps st pe)) {l : Loc} (hJ : J g i = some l) {β : Nat} (hb : l.blk = some β) :
  ∃ r, h[β]? = some (.loop r) ∧ r.fn = L.fn ∧ r.params = L.ps ∧ r.assign = L.asg ∧ r.body = L.body ∧ r.state = st ∧ r.pending = pe ∧ FRep L.n M J caps r.tmps := by
 obtain ⟨l', h1, β', r, h2, h3, h4⟩ := hH.blk g i _ hg rfl
 rw [hJ] at h1
 injection h1 with h1
 subst h1
 rw [hb] at h2
 injection h2 with h2
 subst h2
 exact ⟨r, h3, h4⟩
theorem Step.loop {M J} {w : World} (k : Nat) (hH : HRep M J H w.heap) (hM : MRep M w.heap) {g i : Nat} {L : LC} {caps : Fr} {st : LoopState} {pe : Option Code} (hg : hget H g i = some (.lp L caps st pe)) {l : Loc} (hJ : J g i = some l) {β : Nat} (hb : l.blk = some β)
  {r : Loop} (hr : w.heap[β]? = some (.loop r)) (st' : LoopState) (pe' : Option Code) (x : Blk) (hx : x = .dead ∨ x = .lp L caps st' pe') :
  Step k M J H w M J (hset H g i x) (w.putObj β (.loop { r with state := st', pending := pe' })) := by
 obtain ⟨r', h1, h2, h3, h4, h5, h6, h7, h8⟩ := hH.lp hg hJ hb
 rw [hr] at h1
 injection h1 with h1
 injection h1 with h1
 subst h1
 refine Step.write k hH hM g i l β _ hg rfl hJ hb _ x (fun hl => ?_) rfl rfl rfl rfl (.inr fun r0 h0 => ?_)
 ·rcases hx with rfl | rfl
  ·cases hl
  ·exact ⟨β, _, hb, World.putObj_heap_same (lt_of_heap' hr), h2, h3, h4, h5, rfl, rfl, h8⟩
 ·rw [hr] at h0
  injection h0 with h0
  injection h0 with h0
  subst h0
  exact ⟨_, rfl, rfl⟩
theorem FRep.putOne {M J tmps} (hF : FRep N M J fr tmps) {d : Nat} (hd : d < N) {v : AV} {cv : Value} (hv : Rep M J v cv) : FRep N M J ((d, v) :: fr) (tmps.setIfInBounds d cv) := by
 refine ⟨by simp [hF.1], fun t => ?_⟩
 show Rep M J (match Nat.beq d t with | true => v | false => Fr.get fr t) _
 rw [Array.getD_eq_getD_getElem?, Array.getElem?_setIfInBounds]
 split
 ·rename_i e
  have : d = t := Nat.eq_of_beq_eq_true e
  subst this
  rw [if_pos rfl, if_pos (by rw [hF.1]; exact hd)]
  exact hv
 ·rename_i e
  have hne : d ≠ t := fun h => by subst h; simp at e
  rw [if_neg hne, ← Array.getD_eq_getD_getElem?]
  exact hF.2 t
theorem FRep.putL {M J} : ∀ (ps : List Nat) (as : List AV) (cas : List Value) {fr : Fr} {tmps : Array Value}, FRep N M J fr tmps → ps.all (Nat.blt · N) = true → as.length = cas.length →
  (∀ (j : Nat) c v, as[j]? = some c → cas[j]? = some v → Rep M J c v) → FRep N M J (putL fr (ps.zip as)) ((ps.zip cas).foldl (fun tmps (t, a) => tmps.setIfInBounds t a) tmps)
 | [], _, _, _, _, hF, _, _, _ => hF
 | _ :: _, [], [], _, _, hF, _, _, _ => hF
 | _ :: _, [], _ :: _, _, _, _, _, hl, _ => by simp at hl
 | _ :: _, _ :: _, [], _, _, _, _, hl, _ => by simp at hl
 | p :: ps, a :: as, v :: cas, fr, tmps, hF, hp, hl, hr => by
  simp only [List.all_cons, Bool.and_eq_true] at hp
  exact FRep.putL ps as cas (hF.putOne (Nat.le_of_ble_eq_true hp.1) (hr 0 a v rfl rfl)) hp.2 (by simpa using hl) fun j c v a b => hr (j + 1) c v (by simpa using a) (by simpa using b)
theorem enter_loop (P : Program) {x : Cx} {M J} {tmps : Array Value} {w : World} (hx : x.ok M J H w) (hF : FRep N M J fr tmps) (hH : HRep M J H w.heap) (hM : MRep M w.heap) (fn : FuncId) (ps : Array Tmp) (asg body : Code) :
  ∃ β Ds w1 l J1, (Instr.enterLoop fn tmps ps asg body x.ro).run P w = .ok (β, Ds.map mark) w1 ∧ l.blk = some β ∧ J1 H.length 0 = some l ∧
   Step k M J H w M J1 (hset H H.length 0 (.lp ⟨fn, N, ps, asg, body⟩ fr .ready none)) w1 ∧ Cx.ok ⟨x.ro, x.b, Ds ++ x.Ds⟩ M J1 (hset H H.length 0 (.lp ⟨fn, N, ps, asg, body⟩ fr .ready none)) w1 ∧
   Ext M J M J1 := by
 have hfree : J H.length 0 = none := hH.fresh
 have hlay : ∀ (w0 : World) (D : Nat), HRep M J H w0.heap → MRep M w0.heap →
   Step k M J H w0 M (J.set H.length 0 ⟨some w0.heap.size, 0, 0⟩) (hset H H.length 0 (.lp ⟨fn, N, ps, asg, body⟩ fr .ready none)) (w0.alloc (.loop { state := .ready, pending := none, fn, tmps, params := ps, assign := asg, body, defers := D })) := by
  intro w0 D hH0 hM0
  refine Step.alloc k hH0 hM0 H.length 0 (.inr ⟨rfl, rfl⟩) hfree (some _) _ ⟨some w0.heap.size, 0, 0⟩ rfl ?_ rfl rfl rfl rfl
  exact ⟨w0.heap.size, _, rfl, World.alloc_heap_new _ _, rfl, rfl, rfl, rfl, rfl, rfl, hF⟩
 have hext : ∀ l, Ext M J M (J.set H.length 0 l) := fun l => Inj.set_ext l hfree M
 have hself : ∀ l, (J.set H.length 0 l) H.length 0 = some l := fun l => by simp [Inj.set]
 cases hro : x.ro with
 | none =>
  have s0 : Step k M J H w M J H (w.alloc (.deferred (some []))) := by
   refine PureRun.step k hH (fun _ _ h => h) (fun β o h => ?_) rfl rfl rfl ?_ (fun β o h => ?_) (fun _ _ h => .inl h)
   ·have := hM β o h
    show (w.heap.push _)[β]? = _
    rw [Array.getElem?_push, if_neg (by have := lt_of_heap' this; omega)]
    exact this
   ·rw [World.size_alloc]; omega
   ·show (w.heap.push _)[β]? = _
    rw [Array.getElem?_push, if_neg (by have := lt_of_heap' h; omega)]
    exact h
  have s1 := hlay _ w.heap.size s0.hrep s0.mrep
  have hD : Cx.ok ⟨none, x.b, [w.heap.size] ++ x.Ds⟩ M J H (w.alloc (.deferred (some []))) := by
   have h0 := hx.step s0
   refine ⟨fun l hl => (by cases hl), h0.base, ?_, fun D hD => ?_⟩
   ·refine List.nodup_cons.2 ⟨fun hm => ?_, hx.nd⟩
    have := lt_of_heap' (hx.dfr _ hm).2.1
    omega
   ·rcases List.mem_cons.1 hD with rfl | hD
    ·refine ⟨hx.base, World.alloc_heap_new _ _, hM.lt (Nat.le_refl _), fun g i l a b c => ?_⟩
     have := (hH.dom g i l b).2 _ c
     omega
    ·exact h0.dfr D hD
  refine ⟨_, [w.heap.size], _, _, _, run_enterLoop_outer fn tmps ps asg body, ?_, hself _, s0.trans s1, hD.step s1, hext _⟩
  rw [World.size_alloc]
 | some l0 =>
  obtain ⟨r0, hr0⟩ := hx.rnd l0 hro
  have s1 := hlay w r0.defers hH hM
  refine ⟨_, [], _, _, _, ?_, rfl, hself _, s1, ?_, hext _⟩
  ·unfold Instr.enterLoop
   simp only [Sem.run_bind, run_getLoop hr0, Result.andThen_ok, Sem.run_pure, run_newObj_alloc]
   rfl
  ·have := hx.step s1
   rw [← hro]
   exact this
theorem AWP.rangeF {f : Operand} {ps : List Nat} {asg body : ICode} {g : FuncId} {fs cs : List AV} (hf : ev fr f = .clo (.func g) fs cs) (hk : k ≤ H.length) (hps : ps.all (Nat.blt · N) = true)
  (h : ∀ L : LC, LOK P N L ps asg body → CallOK P g (fs ++ [.yld H.length 0] ++ cs) (hset H H.length 0 (.lp L fr .ready none)) fun _ H' =>
   ∃ caps st pe, hget H' H.length 0 = some (.lp L caps st pe) ∧ st ≠ .busy ∧
    match pe with
    | none => Q .normal fr (hset H' H.length 0 .dead)
    | some .ret => Q .ret fr (hset H' H.length 0 .dead)
    | some (.exit id) => Q (.exit id) fr (hset H' H.length 0 .dead)
    | _ => False) : AWP P N k (.rangeF f ps asg body) Q fr H := by
 intro c0 hc x M J tmps w hx hF hH hM
 cases c0 with
 | rangeFunc f' ps' a0 b0 =>
  simp only [ccode] at hc
  split at hc
  ·rename_i a1 b1 ha hb
   injection hc with hc
   injection hc with hc1 hc2 hc3 hc4
   subst hc1; subst hc2; subst hc3; subst hc4
   refine wpIn_rangeFunc fun fn _ => ?_
   obtain ⟨β, Ds, w1, l, J1, e1, e2, e3, s1, x1, hext⟩ := enter_loop (k := H.length) P hx hF hH hM fn ps' a0 b0
   have hfv := ev_rep (ds := x.ds) hF f'
   rw [hf] at hfv
   generalize hfe : Act.eval ⟨tmps, x.ds⟩ f' = fv at hfv
   cases hfv with
   | clo _ _ _ cfs ccs r1 r2 r3 r4 =>
    obtain ⟨hcall, hok⟩ := h ⟨fn, N, ps', a0, b0⟩ ⟨rfl, rfl, hps, ha, hb⟩
    have hlen : H.length < (hset H H.length 0 (.lp ⟨fn, N, ps', a0, b0⟩ fr .ready none)).length := by
     have := get_hset H H.length 0 (.lp ⟨fn, N, ps', a0, b0⟩ fr .ready none) H.length 0 (.inr ⟨rfl, rfl⟩)
     rw [if_pos ⟨rfl, rfl⟩] at this
     exact hget_lt (by rw [this]; rfl)
    generalize hset H H.length 0 (.lp ⟨fn, N, ps', a0, b0⟩ fr .ready none) = H1 at hlen s1 x1 hok
    have hC := hok M J1 w1 (cfs ++ #[.func (.yield β) #[] #[]] ++ ccs) (by simp; omega)
    refine ⟨β, Ds.map mark, w1, { target := .fn (.func g) ccs, args := cfs ++ #[.func (.yield β) #[] #[]] }, w1, g, cfs ++ #[.func (.yield β) #[] #[]] ++ ccs, w1, e1, ?_, fun _ _ => trivial, ?_, fun hd => by simp [FW, Fence.wide] at hd, ?_⟩
    ·simp only [resolve, hfe, Deferred.ofValue, Sem.run_pure]
     simp [Act.eval]
    ·simp only [invoke]
     exact run_callFunc hcall _ _
    ·have hC := hC (fun j c v hc' hv' => ?_) s1.hrep s1.mrep
     ·refine callsIn_fw.2 (hC.mono ?_)
      rintro e w3 ⟨v, M3, J3, res, H3, rfl, s3, _, caps, st, pe, hg, hst, hQ⟩
      have hJ3 : J3 H.length 0 = some l := s3.j _ _ _ hlen e3
      obtain ⟨r, q1, q2, q3, q4, q5, q6, q7, q8⟩ := s3.hrep.lp hg hJ3 e2
      have sl := Step.loop H.length s3.hrep s3.mrep hg hJ3 e2 q1 .exhausted r.pending .dead (.inl rfl)
      have hE : Ext M J M3 J3 := ⟨fun β o ho => s3.m β o (s1.m β o ho), fun g i l' hJ => s3.j g i l' (by
       exact Nat.lt_trans (hget_lt (hH.dom g i l' hJ).1) hlen) (hext.j g i l' hJ)⟩
      have st1 : Step k M J H w M3 J3 (hset H3 H.length 0 .dead) (w3.putObj β (.loop { r with state := .exhausted, pending := r.pending })) :=
       ((s1.mono hk).trans (s3.mono (by omega))).trans (sl.mono hk)
      have hx3 := (x1.step s3).step sl
      refine ⟨r.pending, _, run_endLoop q1 (by rw [q6]; exact hst), ?_⟩
      have hF3 := hF.ext hE
      rw [q7]
      rw [q7] at hx3 st1
      cases pe with
      | none => exact ⟨M3, J3, fr, _, Ds ++ x.Ds, st1, hF3, by simp [Cx.ds], hx3, hQ⟩
      | some c =>
       cases c with
       | ret => exact wpIn_ret ⟨M3, J3, fr, _, Ds ++ x.Ds, st1, hF3, by simp [Cx.ds], hx3, hQ⟩
       | exit id => exact wpIn_exit ⟨M3, J3, fr, _, Ds ++ x.Ds, st1, hF3, by simp [Cx.ds], hx3, hQ⟩
       | _ => exact hQ.elim
     ·rw [List.getElem?_append] at hc'
      rw [Array.getElem?_append] at hv'
      simp only [List.length_append, Array.size_append, List.length_cons, List.length_nil, List.size_toArray] at hc' hv'
      rw [r1] at hc'
      split at hc'
      ·rename_i hj
       rw [if_pos hj] at hv'
       rw [List.getElem?_append] at hc'
       rw [Array.getElem?_append] at hv'
       rw [r1] at hc'
       split at hc'
       ·rename_i hj2
        rw [if_pos hj2] at hv'
        exact (r3 j c v hc' hv').ext hext
       ·rename_i hj2
        rw [if_neg hj2] at hv'
        have : j - cfs.size = 0 := by omega
        rw [this] at hc' hv'
        simp at hc' hv'
        subst hc'; subst hv'
        exact .yld _ _ β l e3 e2
      ·rename_i hj
       rw [if_neg hj] at hv'
       exact (r4 _ c v hc' hv').ext hext
  ·cases hc
 | region id ops draw => simp only [ccode] at hc; split at hc <;> (try cases hc); split at hc <;> cases hc
 | _ => simp only [ccode] at hc; (try split at hc) <;> (try cases hc) <;> (try simp at hc)
theorem Matches.split {ops : Array Oper} : ∀ {l : List Nat} {xs : List IOper} {y : IOper} {ys : List IOper}, Matches P N ops l (xs ++ y :: ys) →
  ∃ l1 i l2, l = l1 ++ i :: l2 ∧ Matches P N ops l1 xs ∧ (∃ o, ops[i]? = some o ∧ coper P N ops o = some y) ∧ Matches P N ops l2 ys
 | [], [], _, _, h => h.elim
 | [], _ :: _, _, _, h => h.elim
 | i :: l, [], y, ys, ⟨h1, h2⟩ => ⟨[], i, l, rfl, trivial, h1, h2⟩
 | i :: l, x :: xs, y, ys, ⟨h1, h2⟩ => by
  obtain ⟨l1, j, l2, rfl, h3, h4, h5⟩ := Matches.split h2
  exact ⟨i :: l1, j, l2, rfl, ⟨h1, h3⟩, h4, h5⟩
theorem run_yield' {P : Program} {w : World} {l : Nat} {r : Loop} {args : Array Value} (h : w.heap[l]? = some (.loop r)) (hs : args.size = r.params.size) :
  (Instr.yield l args).run P w = .ok (.round l r.fn ((r.params.toList.zip args.toList).foldl (fun tmps (t, a) => tmps.setIfInBounds t a) r.tmps) r.assign r.body) w := by
 rw [run_yield h hs, ← Array.foldl_toList, Array.toList_zip]
theorem YieldOK.round {g i : Nat} {args : List AV} {R : Bool → Heap → Prop} (h : YieldOK P g i args H R) {M J} {w : World} (hH : HRep M J H w.heap) (hM : MRep M w.heap) {l : Loc} {β : Nat} (hJ : J g i = some l) (hb : l.blk = some β)
  {cargs : Array Value} (hlen : args.length = cargs.size) (hargs : ∀ (j : Nat) c v, args[j]? = some c → cargs[j]? = some v → Rep M J c v) {ro : Option Nat} :
  ∃ f tmps asg body, (Instr.yield β cargs).run P w = .ok (.round β f tmps asg body) w ∧
   RoundIn (FW ro) 0 P β f tmps asg body w fun e w' => ∃ b M' J' H', e = .returned (.bool b) ∧ Step H.length M J H w M' J' H' w' ∧ R b H' := by
 obtain ⟨L, caps, N, ps, asg, body, hL, hg, hal, hw⟩ := h
 obtain ⟨r, q1, q2, q3, q4, q5, q6, q7, q8⟩ := hH.lp hg hJ hb
 have hsz : cargs.size = r.params.size := by rw [q3, ← hlen, hal, ← hL.eps, Array.length_toList]
 refine ⟨_, _, _, _, run_yield' q1 hsz, ?_⟩
 refine roundIn_of_wpIn trivial ?_
 have hgl : g < H.length := hget_lt (by rw [hg]; rfl)
 have hF0 : FRep N M J (putL caps (ps.zip args)) ((r.params.toList.zip cargs.toList).foldl (fun tmps (t, a) => tmps.setIfInBounds t a) r.tmps) := by
  rw [q3, hL.eps]
  rw [hL.en] at q8
  exact FRep.putL ps args cargs.toList q8 hL.lt (by simpa using hlen) fun j c v a b => hargs j c v a (by simpa using b)
 refine wpIn_mono (hw r.assign (by rw [q4]; exact hL.easg) ⟨some β, w.heap.size, []⟩ M J _ w ⟨fun l' hl' => by cases hl'; exact ⟨r, q1⟩, Nat.le_refl _, .nil, fun D hD => by simp at hD⟩ hF0 hH hM) fun e a1 w1 hp => ?_
 obtain ⟨M1, J1, fr1, H1, Ds1, s1, f1, d1, x1, rfl, c1, hg1, hbody⟩ := hp
 have hJ1 := s1.j g i l hgl hJ
 obtain ⟨r1, p1, p2, p3, p4, p5, p6, p7, p8⟩ := s1.hrep.lp hg1 hJ1 hb
 have sl := Step.loop (caps := c1) H.length s1.hrep s1.mrep hg1 hJ1 hb p1 .busy none (.lp L c1 .busy none) (.inr rfl)
 have hbr : (Instr.beginRound β).run P w1 = .ok () (w1.putObj β (.loop { r1 with state := .busy, pending := none })) := by
  have := run_beginRound (P := P) p1 p6
  rw [this]
  congr
 obtain ⟨t1, dd⟩ := a1
 cases d1
 refine ⟨_, hbr, ?_⟩
 refine wpIn_mono (hbody r.body (by rw [q5]; exact hL.ebody) ⟨some β, w.heap.size, Ds1⟩ M1 J1 t1 _ (x1.step sl) f1 sl.hrep sl.mrep) fun e a2 w2 hp => ?_
 obtain ⟨M2, J2, fr2, H2, Ds2, s2, f2, d2, x2, c2, hg2, hR⟩ := hp
 have hJ2 := s2.j g i l hgl hJ1
 obtain ⟨r2, u1, u2, u3, u4, u5, u6, u7, u8⟩ := s2.hrep.lp hg2 hJ2 hb
 have s12 := (s1.trans sl).trans s2
 cases e with
 | normal =>
  have se := Step.loop (caps := c2) H.length s2.hrep s2.mrep hg2 hJ2 hb u1 .ready none (.lp L c2 .ready none) (.inr rfl)
  exact ⟨_, _, run_endRound none u1, true, M2, J2, _, rfl, s12.trans se, hR⟩
 | ret =>
  have se := Step.loop (caps := c2) H.length s2.hrep s2.mrep hg2 hJ2 hb u1 .done (some .ret) (.lp L c2 .done (some .ret)) (.inr rfl)
  exact ⟨_, _, run_endRound (some .ret) u1, false, M2, J2, _, rfl, s12.trans se, hR⟩
 | exit id =>
  have se := Step.loop (caps := c2) H.length s2.hrep s2.mrep hg2 hJ2 hb u1 .done (some (.exit id)) (.lp L c2 .done (some (.exit id))) (.inr rfl)
  exact ⟨_, _, run_endRound (some (.exit id)) u1, false, M2, J2, _, rfl, s12.trans se, hR⟩
 | _ => exact hR.elim
theorem AWP.fin {c : ICode} (h : AWP P N k c (fun e fr H => ∃ fr' H', Sub k N fr H fr' H' ∧ Q e fr' H') fr H) : AWP P N k c Q fr H := by
 intro c0 hc x M J tmps w hx hF hH hM
 refine wpIn_mono (h c0 hc x M J tmps w hx hF hH hM) fun e a1 w1 hp => ?_
 obtain ⟨M2, J2, fr2, H2, Ds, r1, r2, r3, r0, fr3, H3, hs, hq⟩ := hp
 obtain ⟨M3, J3, s3, f3⟩ := hs M2 J2 a1.tmps w1 r2 r1.hrep r1.mrep
 exact ⟨M3, J3, fr3, H3, Ds, r1.trans s3, f3, r3, Cx.ok.step r0 s3, hq⟩
end
end Go.Av
namespace Go.Av
theorem dstep_idxArr1 {g i : Nat} {fr : Fr} {H : Heap} {n : Nat} {x ix : Operand} {k : IntKind} {q g' i' row : Nat} (hx : ev fr x = .ptr g' i' row 0) (hi : ev fr ix = .sc (.int k (q : Int))) (hq : q < n) :
  dstep g i (.idxArr n 1 x ix) fr H = some (.ptr g' i' row q, H) := by
 rw [dstep_idxArr hx hi rfl hq, Nat.zero_add, Nat.mul_one]
def ws (n : Nat) (f : Nat → Nat) : List AV := (List.range n).map fun i => .sc (.int .u64 (f i : Int))
theorem pure_ws (n : Nat) (f : Nat → Nat) : ∀ c ∈ ws n f, Pure c := fun c h => by
 obtain ⟨i, _, rfl⟩ := List.mem_map.1 h
 exact .sc _
instance (n : Nat) (f : Nat → Nat) : PR (ws n f) := ⟨pure_ws n f⟩
section
variable {P : Program} {N k : Nat} {xs : List IOper} {fr : Fr} {H : Heap} {K : Fr → Heap → Prop} {d : Nat} {gd : Option (Nat × Bool)}
theorem wr11 {n : Nat} {x ix : Operand} {kd : IntKind} {q g' i' row : Nat} (h : Reg P N k xs ((d, .ptr g' i' row q) :: fr) H K) (hg : gok fr gd = some true := by rfl) (hx : ev fr x = .ptr g' i' row 0 := by rfl)
  (hi : ev fr ix = .sc (.int kd (q : Int)) := by rfl) (hq : q < n := by first | assumption | omega) : Reg P N k (⟨some d, gd, .op (.idxArr n 1 x ix)⟩ :: xs) fr H K := .o hg (dstep_idxArr1 hx hi hq) h
variable {base j : Nat} {acc : List RRec} {KD : List RRec → Fr → Heap → Prop}
theorem wd11 {n : Nat} {x ix : Operand} {kd : IntKind} {q g' i' row : Nat} (h : DK P base (j + 1) xs ((d, .ptr g' i' row q) :: fr) H (⟨⟨some d, gd, .op (.idxArr n 1 x ix)⟩, (base, j), .ptr g' i' row q, drd fr (.idxArr n 1 x ix), dwr base j fr (.idxArr n 1 x ix)⟩ :: acc) KD)
  (hg : gok fr gd = some true := by rfl) (hx : ev fr x = .ptr g' i' row 0 := by rfl)
  (hi : ev fr ix = .sc (.int kd (q : Int)) := by rfl) (hq : q < n := by first | assumption | omega) : DK P base j (⟨some d, gd, .op (.idxArr n 1 x ix)⟩ :: xs) fr H acc KD := .o hg (dstep_idxArr1 hx hi hq) h
theorem dstep_ldA {g i : Nat} {fr : Fr} {H : Heap} {sz : Nat} {a : Operand} {g' i' row s : Nat} {rows : List (List AV)} {r : List AV} (ha : ev fr a = .ptr g' i' row 0) (hh : hget H g' i' = some (.cells s rows)) (hr : rows[row]? = some r) (hl : r.length = sz) :
  dstep g i (.load sz true a) fr H = some (.agg r, H) := by
 subst hl
 simp only [dstep, ha, hh, hr, List.drop_zero, ldAV, Nat.ble_eq_true_of_le (Nat.le_refl _), List.take_length]
theorem dstep_stA {g i : Nat} {fr : Fr} {H : Heap} {sz : Nat} {a x : Operand} {g' i' row s : Nat} {rows : List (List AV)} {r cs : List AV} (ha : ev fr a = .ptr g' i' row 0) (hx : ev fr x = .agg cs) (hh : hget H g' i' = some (.cells s rows)) (hr : rows[row]? = some r)
  (hl : r.length = sz) (hc : cs.length = sz) (h1 : cs.all AV.cell1 = true) : dstep g i (.store sz a x) fr H = some (.undef, hset H g' i' (.cells s (rows.set row cs))) := by
 subst hl
 have e1 : Nat.beq cs.length r.length = true := by rw [hc]; simp
 have e2 : Nat.ble (0 + r.length) r.length = true := Nat.ble_eq_true_of_le (by omega)
 simp only [dstep, ha, hx, AV.cs, hh, hr, e1, e2, h1, Bool.and_self, lsplice_all _ _ hc]
theorem wr13 {sz : Nat} {a : Operand} {g' i' row s : Nat} {rows : List (List AV)} {r : List AV} (h : Reg P N k xs ((d, .agg r) :: fr) H K) (hg : gok fr gd = some true := by rfl) (ha : ev fr a = .ptr g' i' row 0 := by rfl)
  (hh : hget H g' i' = some (.cells s rows) := by rfl) (hr : rows[row]? = some r := by first | rfl | assumption) (hl : r.length = sz := by first | assumption | exact ws_len _ _ | rfl) : Reg P N k (⟨some d, gd, .op (.load sz true a)⟩ :: xs) fr H K := .o hg (dstep_ldA ha hh hr hl) h
theorem wr14 {sz : Nat} {a x : Operand} {g' i' row s : Nat} {rows : List (List AV)} {r cs : List AV} (h : Reg P N k xs fr (hset H g' i' (.cells s (rows.set row cs))) K) (hg : gok fr gd = some true := by rfl) (ha : ev fr a = .ptr g' i' row 0 := by rfl) (hx : ev fr x = .agg cs := by rfl)
  (hh : hget H g' i' = some (.cells s rows) := by rfl) (hr : rows[row]? = some r := by first | rfl | assumption) (hl : r.length = sz := by first | assumption | exact ws_len _ _ | rfl) (hc : cs.length = sz := by first | assumption | exact ws_len _ _ | rfl)
  (h1 : cs.all AV.cell1 = true := by first | assumption | exact ws_cell1 _ _ | rfl) : Reg P N k (⟨none, gd, .op (.store sz a x)⟩ :: xs) fr H K := .on hg (dstep_stA ha hx hh hr hl hc h1) h
theorem wd13 {sz : Nat} {a : Operand} {g' i' row s : Nat} {rows : List (List AV)} {r : List AV} (h : DK P base (j + 1) xs ((d, .agg r) :: fr) H (⟨⟨some d, gd, .op (.load sz true a)⟩, (base, j), .agg r, drd fr (.load sz true a), dwr base j fr (.load sz true a)⟩ :: acc) KD) (hg : gok fr gd = some true := by rfl)
  (ha : ev fr a = .ptr g' i' row 0 := by rfl) (hh : hget H g' i' = some (.cells s rows) := by rfl) (hr : rows[row]? = some r := by first | rfl | assumption) (hl : r.length = sz := by first | assumption | exact ws_len _ _ | rfl) :
  DK P base j (⟨some d, gd, .op (.load sz true a)⟩ :: xs) fr H acc KD := .o hg (dstep_ldA ha hh hr hl) h
end
end Go.Av
namespace Go.Av
theorem natlit (n : Nat) : (OfNat.ofNat n : Int) = ((OfNat.ofNat n : Nat) : Int) := rfl
structure NBin (op : BinOp) (k k' : IntKind) (a b : Nat) (v : Value) : Prop where
 out : ∀ t, Sem.pure? (binOp op t (.int k (a : Int)) (.int k' (b : Int))) = some v
theorem wrap64 {n : Nat} (h : n ≤ 9223372036854775807) : IntKind.i64.wrap (n : Int) = (n : Int) := wrap_small (by omega) (by omega)
theorem wrapU (n : Nat) : IntKind.u64.wrap (n : Int) = ((n % 18446744073709551616 : Nat) : Int) := by
 have hb : IntKind.u64.bits = 64 := rfl
 have hs : IntKind.u64.signed = false := rfl
 simp only [IntKind.wrap, hb, hs]
 simp
theorem wrapU_lt {n : Nat} (h : n < 18446744073709551616) : IntKind.u64.wrap (n : Int) = (n : Int) := by rw [wrapU, Nat.mod_eq_of_lt h]
theorem wrapB (n : Nat) : IntKind.u8.wrap (n : Int) = ((n % 256 : Nat) : Int) := by
 have hb : IntKind.u8.bits = 8 := rfl
 have hs : IntKind.u8.signed = false := rfl
 simp only [IntKind.wrap, hb, hs]
 simp
theorem nb_add {a b : Nat} (h : a + b ≤ 9223372036854775807) : NBin .add .i64 .i64 a b (.int .i64 ((a + b : Nat) : Int)) := .mk fun t => by
 show some (Value.int .i64 (IntKind.i64.wrap ((a : Int) + (b : Int)))) = _
 rw [show (a : Int) + (b : Int) = ((a + b : Nat) : Int) by omega, wrap64 h]
theorem nb_sub {a b : Nat} (h : b ≤ a) (h2 : a ≤ 9223372036854775807) : NBin .sub .i64 .i64 a b (.int .i64 ((a - b : Nat) : Int)) := .mk fun t => by
 show some (Value.int .i64 (IntKind.i64.wrap ((a : Int) - (b : Int)))) = _
 rw [show (a : Int) - (b : Int) = ((a - b : Nat) : Int) by omega, wrap64 (by omega)]
theorem nb_mul {a b : Nat} (h : a * b ≤ 9223372036854775807) : NBin .mul .i64 .i64 a b (.int .i64 ((a * b : Nat) : Int)) := .mk fun t => by
 show some (Value.int .i64 (IntKind.i64.wrap ((a : Int) * (b : Int)))) = _
 rw [show (a : Int) * (b : Int) = ((a * b : Nat) : Int) by rw [Int.natCast_mul], wrap64 h]
theorem nb_quo {a b : Nat} (h : 0 < b) (h2 : a ≤ 9223372036854775807) : NBin .quo .i64 .i64 a b (.int .i64 ((a / b : Nat) : Int)) := .mk fun t => by
 show Sem.pure? (Op.intDiv .quo .i64 (a : Int) (b : Int)) = _
 unfold Op.intDiv
 rw [if_neg (by omega)]
 show some (Value.int .i64 (IntKind.i64.wrap ((a : Int).tdiv (b : Int)))) = _
 rw [show (a : Int).tdiv (b : Int) = ((a / b : Nat) : Int) from rfl, wrap64 (Nat.le_trans (Nat.div_le_self _ _) h2)]
theorem nb_uquo {a b : Nat} (h : 0 < b) (h2 : a < 18446744073709551616) : NBin .quo .u64 .u64 a b (.int .u64 ((a / b : Nat) : Int)) := .mk fun t => by
 show Sem.pure? (Op.intDiv .quo .u64 (a : Int) (b : Int)) = _
 unfold Op.intDiv
 rw [if_neg (by omega)]
 show some (Value.int .u64 (IntKind.u64.wrap ((a : Int).tdiv (b : Int)))) = _
 rw [show (a : Int).tdiv (b : Int) = ((a / b : Nat) : Int) from rfl, wrapU_lt (Nat.lt_of_le_of_lt (Nat.div_le_self _ _) h2)]
theorem nb_rem {k : IntKind} {a b : Nat} (h : 0 < b) : NBin .rem k k a b (.int k ((a % b : Nat) : Int)) := .mk fun t => by
 have e : binOp .rem t (.int k (a : Int)) (.int k (b : Int)) = Op.intDiv .rem k (a : Int) (b : Int) := by
  show (if k ≠ k then _ else _) = _
  rw [if_neg (by simp)]
 rw [e]
 unfold Op.intDiv
 rw [if_neg (by omega)]
 rfl
theorem nb_uadd {a b : Nat} : NBin .add .u64 .u64 a b (.int .u64 (((a + b) % 18446744073709551616 : Nat) : Int)) := .mk fun t => by
 show some (Value.int .u64 (IntKind.u64.wrap ((a : Int) + (b : Int)))) = _
 rw [show (a : Int) + (b : Int) = ((a + b : Nat) : Int) by omega, wrapU]
theorem nb_uadd' {a b : Nat} (h : a + b < 18446744073709551616) : NBin .add .u64 .u64 a b (.int .u64 ((a + b : Nat) : Int)) := .mk fun t => by
 rw [nb_uadd.out t, Nat.mod_eq_of_lt h]
theorem nb_usub {a b : Nat} (h : b ≤ a) (h2 : a < 18446744073709551616) : NBin .sub .u64 .u64 a b (.int .u64 ((a - b : Nat) : Int)) := .mk fun t => by
 show some (Value.int .u64 (IntKind.u64.wrap ((a : Int) - (b : Int)))) = _
 rw [show (a : Int) - (b : Int) = ((a - b : Nat) : Int) by omega, wrapU_lt (by omega)]
theorem nb_umul {a b : Nat} : NBin .mul .u64 .u64 a b (.int .u64 (((a * b) % 18446744073709551616 : Nat) : Int)) := .mk fun t => by
 show some (Value.int .u64 (IntKind.u64.wrap ((a : Int) * (b : Int)))) = _
 rw [show (a : Int) * (b : Int) = ((a * b : Nat) : Int) by rw [Int.natCast_mul], wrapU]
theorem nb_umul' {a b : Nat} (h : a * b < 18446744073709551616) : NBin .mul .u64 .u64 a b (.int .u64 ((a * b : Nat) : Int)) := .mk fun t => by
 rw [nb_umul.out t, Nat.mod_eq_of_lt h]
theorem ofInt_nat {n : Nat} (h : n < 18446744073709551616) : (BitVec.ofInt 64 (n : Int)).toNat = n := by
 rw [BitVec.toNat_ofInt]
 omega
theorem nb_uand {a b : Nat} (ha : a < 18446744073709551616) (hb : b < 18446744073709551616) : NBin .and .u64 .u64 a b (.int .u64 ((a &&& b : Nat) : Int)) := .mk fun t => by
 show some (Value.int .u64 (IntKind.u64.wrap ((BitVec.ofInt 64 (a : Int) &&& BitVec.ofInt 64 (b : Int)).toNat : Int))) = _
 rw [BitVec.toNat_and, ofInt_nat ha, ofInt_nat hb, wrapU_lt (Nat.lt_of_le_of_lt Nat.and_le_left ha)]
theorem nb_uor {a b : Nat} (ha : a < 18446744073709551616) (hb : b < 18446744073709551616) : NBin .or .u64 .u64 a b (.int .u64 ((a ||| b : Nat) : Int)) := .mk fun t => by
 show some (Value.int .u64 (IntKind.u64.wrap ((BitVec.ofInt 64 (a : Int) ||| BitVec.ofInt 64 (b : Int)).toNat : Int))) = _
 rw [BitVec.toNat_or, ofInt_nat ha, ofInt_nat hb, wrapU_lt (Nat.or_lt_two_pow (n := 64) ha hb)]
theorem nb_uxor {a b : Nat} (ha : a < 18446744073709551616) (hb : b < 18446744073709551616) : NBin .xor .u64 .u64 a b (.int .u64 ((a ^^^ b : Nat) : Int)) := .mk fun t => by
 show some (Value.int .u64 (IntKind.u64.wrap ((BitVec.ofInt 64 (a : Int) ^^^ BitVec.ofInt 64 (b : Int)).toNat : Int))) = _
 rw [BitVec.toNat_xor, ofInt_nat ha, ofInt_nat hb, wrapU_lt (Nat.xor_lt_two_pow (n := 64) ha hb)]
theorem nb_uandn {a b : Nat} (ha : a < 18446744073709551616) (hb : b < 18446744073709551616) : NBin .andNot .u64 .u64 a b (.int .u64 ((a &&& (18446744073709551615 - b) : Nat) : Int)) := .mk fun t => by
 show some (Value.int .u64 (IntKind.u64.wrap ((BitVec.ofInt 64 (a : Int) &&& ~~~ BitVec.ofInt 64 (b : Int)).toNat : Int))) = _
 rw [BitVec.toNat_and, BitVec.toNat_not, ofInt_nat ha, ofInt_nat hb, wrapU_lt (Nat.lt_of_le_of_lt Nat.and_le_left ha)]
theorem nb_ushr {k' : IntKind} {a b : Nat} (ha : a < 18446744073709551616) : NBin .shr .u64 k' a b (.int .u64 ((a / 2 ^ b : Nat) : Int)) := .mk fun t => by
 show Sem.pure? (Op.shift .shr .u64 (a : Int) k' (b : Int)) = _
 unfold Op.shift
 rw [if_neg (by omega)]
 show some (Value.int .u64 ((a : Int).fdiv (2 ^ min ((b : Int).toNat) 64))) = _
 rw [Int.toNat_natCast, show (2 : Int) ^ min b 64 = ((2 ^ min b 64 : Nat) : Int) by rw [Int.natCast_pow]; rfl, Int.fdiv_eq_ediv_of_nonneg _ (Int.natCast_nonneg _), ← Int.natCast_ediv]
 congr 3
 rcases Nat.le_total b 64 with h | h
 ·rw [Nat.min_eq_left h]
 ·rw [Nat.min_eq_right h, Nat.div_eq_of_lt ha, Nat.div_eq_of_lt]
  exact Nat.lt_of_lt_of_le ha (Nat.pow_le_pow_right (n := 2) (by decide) h)
theorem nb_ishr {a b : Nat} (ha : a ≤ 9223372036854775807) : NBin .shr .i64 .i64 a b (.int .i64 ((a / 2 ^ b : Nat) : Int)) := .mk fun t => by
 show Sem.pure? (Op.shift .shr .i64 (a : Int) .i64 (b : Int)) = _
 unfold Op.shift
 rw [if_neg (by omega)]
 show some (Value.int .i64 ((a : Int).fdiv (2 ^ min ((b : Int).toNat) 64))) = _
 rw [Int.toNat_natCast, show (2 : Int) ^ min b 64 = ((2 ^ min b 64 : Nat) : Int) by rw [Int.natCast_pow]; rfl, Int.fdiv_eq_ediv_of_nonneg _ (Int.natCast_nonneg _), ← Int.natCast_ediv]
 congr 3
 rcases Nat.le_total b 64 with h | h
 ·rw [Nat.min_eq_left h]
 ·rw [Nat.min_eq_right h, Nat.div_eq_of_lt (by omega), Nat.div_eq_of_lt]
  exact Nat.lt_of_lt_of_le (show a < 2 ^ 64 by omega) (Nat.pow_le_pow_right (n := 2) (by decide) h)
theorem nb_cmp {op : BinOp} {k : IntKind} {a b : Nat} {c : Bool} (ho : op ≠ .shl ∧ op ≠ .shr ∧ op ≠ .add ∧ op ≠ .sub ∧ op ≠ .mul ∧ op ≠ .quo ∧ op ≠ .rem ∧ op ≠ .and ∧ op ≠ .or ∧ op ≠ .xor ∧ op ≠ .andNot)
  (h : Sem.pure? (Op.intCmp op (a : Int) (b : Int)) = some (.bool c)) : NBin op k k a b (.bool c) := .mk fun t => by
 rw [← h]
 cases op <;> first | (exfalso; simp at ho; done) | (show Sem.pure? (if k ≠ k then _ else _) = _; rw [if_neg (by simp)])
theorem nb_lss {k : IntKind} {a b : Nat} : NBin .lss k k a b (.bool (decide (a < b))) := nb_cmp (by simp) (by simp [Op.intCmp, Sem.pure?, pure])
theorem nb_gtr {k : IntKind} {a b : Nat} : NBin .gtr k k a b (.bool (decide (b < a))) := nb_cmp (by simp) (by simp [Op.intCmp, Sem.pure?, pure])
theorem nb_geq {k : IntKind} {a b : Nat} : NBin .geq k k a b (.bool (decide (b ≤ a))) := nb_cmp (by simp) (by simp [Op.intCmp, Sem.pure?, pure])
theorem int_beq (a b : Nat) : ((a : Int) == (b : Int)) = decide (a = b) := by rw [Bool.eq_iff_iff]; simp; omega
theorem nb_eql {k : IntKind} {a b : Nat} : NBin .eql k k a b (.bool (decide (a = b))) := nb_cmp (by simp) (by show some (Value.bool ((a : Int) == (b : Int))) = _; rw [int_beq])
theorem nb_neq {k : IntKind} {a b : Nat} : NBin .neq k k a b (.bool (!decide (a = b))) := nb_cmp (by simp) (by show some (Value.bool (!((a : Int) == (b : Int)))) = _; rw [int_beq])
theorem dstep_nb {g i : Nat} {fr : Fr} {H : Heap} {op : BinOp} {t : TypeId} {x y : Operand} {kd kd' : IntKind} {a b : Nat} {v : Value} (hx : ev fr x = .sc (.int kd (a : Int))) (hy : ev fr y = .sc (.int kd' (b : Int))) (hv : NBin op kd kd' a b v) :
  dstep g i (.bin op t x y) fr H = some (.sc v, H) := by
 simp only [dstep, hx, hy]
 have e : (do eqGuard op t x y (.int kd (a : Int)) (.int kd' (b : Int)); binOp op t (.int kd (a : Int)) (.int kd' (b : Int)) : Sem Value) = binOp op t (.int kd (a : Int)) (.int kd' (b : Int)) := by cases op <;> rfl
 rw [e, hv.out t]
structure NConv (k : IntKind) (a : Nat) (b : Nat) : Prop where
 out : k.wrap (a : Int) = (b : Int)
theorem nc_i64 {a : Nat} (h : a ≤ 9223372036854775807) : NConv .i64 a a := .mk (wrap64 h)
theorem nc_u64' {a : Nat} (h : a < 18446744073709551616) : NConv .u64 a a := .mk (wrapU_lt h)
theorem nc_u8' {a : Nat} (h : a < 256) : NConv .u8 a a := .mk (by rw [wrapB, Nat.mod_eq_of_lt h])
theorem dstep_nc {g i : Nat} {fr : Fr} {H : Heap} {k k' : IntKind} {x : Operand} {a b : Nat} (hx : ev fr x = .sc (.int k' (a : Int))) (hv : NConv k a b) : dstep g i (.conv k x) fr H = some (.sc (.int k (b : Int)), H) := by
 simp only [dstep, hx]
 rw [hv.out]
section
variable {P : Program} {N k : Nat} {xs : List IOper} {fr : Fr} {H : Heap} {K : Fr → Heap → Prop} {d : Nat} {gd : Option (Nat × Bool)}
theorem wv1 {op : BinOp} {t : TypeId} {x y : Operand} {kd kd' : IntKind} {a b : Nat} {v : Value} (h : Reg P N k xs ((d, .sc v) :: fr) H K) (hg : gok fr gd = some true := by rfl) {na nb : Int} (hx : ev fr x = .sc (.int kd na) := by rfl)
  (hy : ev fr y = .sc (.int kd' nb) := by rfl) (ha : na = (a : Int) := by first | with_reducible rfl | exact natlit _) (hb : nb = (b : Int) := by first | with_reducible rfl | exact natlit _)
  (hv : NBin op kd kd' a b v := by first | exact nb_lss | exact nb_eql | exact nb_neq | exact nb_geq | exact nb_gtr | exact nb_leq | (refine nb_add ?_ <;> first | with_reducible assumption | omega) | (refine nb_sub ?_ ?_ <;> first | with_reducible assumption | omega) | (refine nb_mul ?_ <;> first | with_reducible assumption | omega) | (refine nb_quo ?_ ?_ <;> first | with_reducible assumption | omega) | (refine nb_uquo ?_ ?_ <;> first | with_reducible assumption | omega) | (refine nb_rem ?_ <;> first | with_reducible assumption | omega) | (refine nb_uadd' ?_ <;> first | with_reducible assumption | omega) | exact nb_uadd | (refine nb_usub ?_ ?_ <;> first | with_reducible assumption | omega) | (refine nb_umul' ?_ <;> first | with_reducible assumption | omega) | exact nb_umul | (refine nb_uand ?_ ?_ <;> first | with_reducible assumption | omega) | (refine nb_uor ?_ ?_ <;> first | with_reducible assumption | omega) | (refine nb_uxor ?_ ?_ <;> first | with_reducible assumption | omega) | (refine nb_uandn ?_ ?_ <;> first | with_reducible assumption | omega) | exact nb_ushl | (refine nb_ushr ?_ <;> first | with_reducible assumption | omega) | (refine nb_ishr ?_ <;> first | with_reducible assumption | omega)) : Reg P N k (⟨some d, gd, .op (.bin op t x y)⟩ :: xs) fr H K := .o hg (dstep_nb (by rw [hx, ha]) (by rw [hy, hb]) hv) h
theorem wv2 {c : IntKind} {x : Operand} {kd : IntKind} {a b : Nat} (h : Reg P N k xs ((d, .sc (.int c (b : Int))) :: fr) H K) (hg : gok fr gd = some true := by rfl) {na : Int} (hx : ev fr x = .sc (.int kd na) := by rfl) (ha : na = (a : Int) := by first | with_reducible rfl | exact natlit _)
  (hv : NConv c a b := by first | (refine nc_i64 ?_ <;> first | with_reducible assumption | omega) | (refine nc_u64' ?_ <;> first | with_reducible assumption | omega) | exact nc_u64 | (refine nc_u8' ?_ <;> first | with_reducible assumption | omega) | exact nc_u8) : Reg P N k (⟨some d, gd, .op (.conv c x)⟩ :: xs) fr H K := .o hg (dstep_nc (by rw [hx, ha]) hv) h
theorem wv9 {f : FuncId} {args : List Operand} {v : AV} (h : Reg P N k xs ((d, v) :: fr) H K) (hk : k ≤ H.length := by first | exact Nat.zero_le _ | exact Nat.le_of_ble_eq_true rfl) (hg : gok fr gd = some true := by rfl) (hp : PureRun P f (avals fr args) v := by assumption) :
  Reg P N k (⟨some d, gd, .call f args⟩ :: xs) fr H K := .p hk hg hp h
theorem wv10 {f : Operand} {g : FuncId} {fs cs : List AV} {args : List Operand} {v : AV} (h : Reg P N k xs ((d, v) :: fr) H K) (hk : k ≤ H.length := by first | exact Nat.zero_le _ | exact Nat.le_of_ble_eq_true rfl) (hg : gok fr gd = some true := by rfl) (hf : ev fr f = .clo (.func g) fs cs := by rfl)
  (hp : PureRun P g (fs ++ avals fr args ++ cs) v := by assumption) : Reg P N k (⟨some d, gd, .callV f args⟩ :: xs) fr H K := .callV hk hg rfl hf (.ofPure hp H h)
variable {base j : Nat} {acc : List RRec} {KD : List RRec → Fr → Heap → Prop}
theorem wv3 {op : BinOp} {t : TypeId} {x y : Operand} {kd kd' : IntKind} {a b : Nat} {v : Value}
  (h : DK P base (j + 1) xs ((d, .sc v) :: fr) H (⟨⟨some d, gd, .op (.bin op t x y)⟩, (base, j), .sc v, drd fr (.bin op t x y), dwr base j fr (.bin op t x y)⟩ :: acc) KD) (hg : gok fr gd = some true := by rfl) {na nb : Int} (hx : ev fr x = .sc (.int kd na) := by rfl)
  (hy : ev fr y = .sc (.int kd' nb) := by rfl) (ha : na = (a : Int) := by first | with_reducible rfl | exact natlit _) (hb : nb = (b : Int) := by first | with_reducible rfl | exact natlit _)
  (hv : NBin op kd kd' a b v := by first | exact nb_lss | exact nb_eql | exact nb_neq | exact nb_geq | exact nb_gtr | exact nb_leq | (refine nb_add ?_ <;> first | with_reducible assumption | omega) | (refine nb_sub ?_ ?_ <;> first | with_reducible assumption | omega) | (refine nb_mul ?_ <;> first | with_reducible assumption | omega) | (refine nb_quo ?_ ?_ <;> first | with_reducible assumption | omega) | (refine nb_uquo ?_ ?_ <;> first | with_reducible assumption | omega) | (refine nb_rem ?_ <;> first | with_reducible assumption | omega) | (refine nb_uadd' ?_ <;> first | with_reducible assumption | omega) | exact nb_uadd | (refine nb_usub ?_ ?_ <;> first | with_reducible assumption | omega) | (refine nb_umul' ?_ <;> first | with_reducible assumption | omega) | exact nb_umul | (refine nb_uand ?_ ?_ <;> first | with_reducible assumption | omega) | (refine nb_uor ?_ ?_ <;> first | with_reducible assumption | omega) | (refine nb_uxor ?_ ?_ <;> first | with_reducible assumption | omega) | (refine nb_uandn ?_ ?_ <;> first | with_reducible assumption | omega) | exact nb_ushl | (refine nb_ushr ?_ <;> first | with_reducible assumption | omega) | (refine nb_ishr ?_ <;> first | with_reducible assumption | omega)) : DK P base j (⟨some d, gd, .op (.bin op t x y)⟩ :: xs) fr H acc KD := .o hg (dstep_nb (by rw [hx, ha]) (by rw [hy, hb]) hv) h
theorem wv4 {c : IntKind} {x : Operand} {kd : IntKind} {a b : Nat} (h : DK P base (j + 1) xs ((d, .sc (.int c (b : Int))) :: fr) H (⟨⟨some d, gd, .op (.conv c x)⟩, (base, j), .sc (.int c (b : Int)), drd fr (.conv c x), dwr base j fr (.conv c x)⟩ :: acc) KD) (hg : gok fr gd = some true := by rfl)
  {na : Int} (hx : ev fr x = .sc (.int kd na) := by rfl) (ha : na = (a : Int) := by first | with_reducible rfl | exact natlit _)
  (hv : NConv c a b := by first | (refine nc_i64 ?_ <;> first | with_reducible assumption | omega) | (refine nc_u64' ?_ <;> first | with_reducible assumption | omega) | exact nc_u64 | (refine nc_u8' ?_ <;> first | with_reducible assumption | omega) | exact nc_u8) : DK P base j (⟨some d, gd, .op (.conv c x)⟩ :: xs) fr H acc KD := .o hg (dstep_nc (by rw [hx, ha]) hv) h
end
theorem AWP.condD {P : Program} {N k : Nat} {fr : Fr} {H : Heap} {Q : Exit → Fr → Heap → Prop} {c : Operand} {x y : ICode} {p : Prop} [Decidable p] (hb : ev fr c = .sc (.bool (decide p))) (h1 : p → AWP P N k x Q fr H) (h2 : ¬ p → AWP P N k y Q fr H) :
  AWP P N k (.cond c x y) Q fr H := AWP.cond hb (fun h => h1 (of_decide_eq_true h)) (fun h => h2 (of_decide_eq_false h))
theorem endH {k : Nat} {rs : List IRes} {fr : Fr} {H : Heap} {e : Exit} {R : AV → Heap → Prop} {res res' : AV} {H2 : Heap} (ids : List (List (Nat × Nat))) (he : e = .normal ∨ e = .ret) (hres : resOf fr H rs = some res) (hR : R res' H2)
  (h5 : To (ToT (H ++ gh []) H.length (notIn ids)) (rho ids) res res') (h4 : famsTo (ToB (ToT (H ++ gh []) H.length (notIn ids)) (rho ids)) (H ++ gh []) ids H2) (h1 : lowOK 0 k ids = true) (h2 : lens k ids (H ++ gh []) = true) (h3 : ndup ids.flatten = true) :
  (e = .normal ∨ e = .ret) ∧ ∃ res res' H2, resOf fr H rs = some res ∧ SubV k H res H2 res' ∧ R res' H2 := ⟨he, res, res', H2, hres, SubV.to [] ids h5 h4 h1 h2 h3, hR⟩
def segBa (af : List (List Nat)) (s b : Nat) (rb : RRec) : Nat → List RRec → Bool
 | _, [] => true
 | a, ra :: l => (Nat.ble b a || (befB af af.length (s + a) (s + b) || indep ra rb)) && segBa af s b rb (a + 1) l
def segBb (af : List (List Nat)) (s : Nat) (R : List RRec) : Nat → List RRec → Bool
 | _, [] => true
 | b, rb :: l => segBa af s b rb 0 R && segBb af s R (b + 1) l
theorem segBa_spec {af s b rb} : ∀ {l : List RRec} {a0 : Nat}, segBa af s b rb a0 l = true → ∀ (j : Nat) ra, l[j]? = some ra → a0 + j < b → befB af af.length (s + (a0 + j)) (s + b) = true ∨ indep ra rb = true
 | [], _, _, j, _, h, _ => by simp at h
 | r :: l, a0, h, j, ra, hj, hb => by
  simp only [segBa, Bool.and_eq_true, Bool.or_eq_true] at h
  cases j with
  | zero =>
   simp only [List.getElem?_cons_zero, Option.some.injEq] at hj
   subst hj
   rcases h.1 with h1 | h1
   ·have := Nat.le_of_ble_eq_true h1; omega
   ·exact h1
  | succ j =>
   have := segBa_spec h.2 j ra (by simpa using hj) (by omega)
   rw [show a0 + (j + 1) = a0 + 1 + j by omega]
   exact this
theorem segBb_spec {af s R} : ∀ {l : List RRec} {b0 : Nat}, segBb af s R b0 l = true → ∀ (j : Nat) rb, l[j]? = some rb → segBa af s (b0 + j) rb 0 R = true
 | [], _, _, j, _, h => by simp at h
 | r :: l, b0, h, j, rb, hj => by
  simp only [segBb, Bool.and_eq_true] at h
  cases j with
  | zero =>
   simp only [List.getElem?_cons_zero, Option.some.injEq] at hj
   subst hj
   exact h.1
  | succ j =>
   have := segBb_spec h.2 j rb (by simpa using hj)
   rw [show b0 + (j + 1) = b0 + 1 + j by omega]
   exact this
theorem SegOK.of {af s R} (h : segBb af s R 0 R = true) : SegOK af s R := fun a b ra rb hab ha hb => by
 have := segBb_spec h b rb hb
 rw [Nat.zero_add] at this
 have := segBa_spec this a ra ha (by omega)
 rwa [Nat.zero_add] at this
theorem PureRun.args {P : Program} {f : FuncId} {args args' : List AV} {v : AV} (h : PureRun P f args' v) (hl : args.length = args'.length) (hle : ∀ (j : Nat) a b, args[j]? = some a → args'[j]? = some b → Le a b) : PureRun P f args v := by
 refine ⟨h.1, fun M J w cargs h1 h2 h3 => h.2 M J w cargs (by omega) (fun j c v hc hv => ?_) h3⟩
 have hj := (List.getElem?_eq_some_iff.1 hc).1
 have e : args[j]? = some args[j] := List.getElem?_eq_getElem (by omega)
 exact hle j _ c e hc M J v (h2 j _ v e hv)
theorem Le.func (f : FuncId) : Le (.sc (.func (.func f) #[] #[])) (.clo (.func f) [] []) := fun M J v h => by
 cases h
 exact .clo _ _ _ _ _ rfl rfl (fun j c v h _ => by simp at h) (fun j c v h _ => by simp at h)
end Go.Av
namespace Go.Av
def beh (n a b : Nat) : Option (Nat × Nat) := match Nat.blt a n with
 | true => none
 | false => some (a - n, b)
theorem beh_lt {n a b : Nat} (h : a < n) : beh n a b = none := by
 have e : Nat.blt a n = true := by simpa [Nat.blt_eq] using h
 simp only [beh, e]
theorem beh_ge {n a b : Nat} (h : n ≤ a) : beh n a b = some (a - n, b) := by
 have e : Nat.blt a n = false := by
  apply Bool.eq_false_iff.2
  intro q
  have : a < n := by simpa [Nat.blt_eq] using q
  omega
 simp only [beh, e]
theorem hget_app_lt {H X : Heap} {a b : Nat} (h : a < H.length) : hget (H ++ X) a b = hget H a b := by
 unfold hget
 rw [List.getElem?_append_left h]
theorem hget_app_ge {H X : Heap} {a b : Nat} (h : H.length ≤ a) : hget (H ++ X) a b = hget X (a - H.length) b := by
 unfold hget
 rw [List.getElem?_append_right h]
theorem CallOK.frame {P : Program} {f : FuncId} {args : List AV} {R R' : AV → Heap → Prop} (h : CallOK P f args [] R) (ha : ∀ a ∈ args, Pure a) (H : Heap)
  (hR : ∀ res H0, R res H0 → ∃ res' H0', Ren (beh H.length) res res' ∧ (∀ g i x', hget H0' g i = some x' → x'.live = true → ∃ x, hget H0 g i = some x ∧ RenB (beh H.length) x x') ∧ (∀ g i, (hget H0 g i).isSome → (hget H0' g i).isSome) ∧ R' res' (H ++ H0')) : CallOK P f args H R' := by
 refine ⟨h.1, fun M J w cargs hl hr hH hM => ?_⟩
 have hH0 : HRep M (fun _ _ => none) [] w.heap :=
  ⟨fun g i x hx => (by simp [hget] at hx), fun g i g' i' l l' β _ _ hJ => (by cases hJ), fun g i l β _ hJ => (by cases hJ), fun g i l hJ => (by cases hJ)⟩
 refine (h.2 M (fun _ _ => none) w cargs hl (fun j c x hc hx => (hr j c x hc hx).anyJ (ha c (List.mem_of_getElem? hc)) _) hH0 hM).mono ?_
 rintro e w' ⟨cv, M', J', res, H0, rfl, hs, hrep, hr0⟩
 obtain ⟨res', H0', r1, r2, r3, r4⟩ := hR res H0 hr0
 have hno : ∀ g i, ¬ liveAt [] g i := by
  rintro g i ⟨x, hx, _⟩
  simp [hget] at hx
 have hsame : ∀ (β : Nat) o, w.heap[β]? = some o → w'.heap[β]? = some o := fun β o ho => hs.frame β o ho fun g i l hl _ => absurd hl (hno g i)
 let J2 : Inj := fun a b => if a < H.length then J a b else J' (a - H.length) b
 have hJlt : ∀ g i l, J g i = some l → g < H.length := fun g i l hJ => hget_lt ((hH.dom g i l hJ).1)
 have x1 : Ext M J M' J2 := ⟨hs.m, fun g i l hJ => by
  show (if g < H.length then J g i else J' (g - H.length) i) = some l
  rw [if_pos (hJlt g i l hJ)]; exact hJ⟩
 have x2 : Ext M' (J'.via (beh H.length)) M' J2 := ⟨fun _ _ h => h, fun a b l hJ => by
  show (if a < H.length then J a b else J' (a - H.length) b) = some l
  by_cases hlt : a < H.length
  ·unfold Inj.via at hJ
   rw [beh_lt hlt] at hJ
   cases hJ
  ·rw [if_neg hlt]
   unfold Inj.via at hJ
   rw [beh_ge (by omega)] at hJ
   exact hJ⟩
 have hl1 : ∀ a b, a < H.length → liveAt (H ++ H0') a b → liveAt H a b := by
  rintro a b hlt ⟨x, hx, hxl⟩
  rw [hget_app_lt hlt] at hx
  exact ⟨x, hx, hxl⟩
 have hl2 : ∀ a b, H.length ≤ a → liveAt (H ++ H0') a b → liveAt H0 (a - H.length) b := by
  rintro a b hge ⟨x, hx, hxl⟩
  rw [hget_app_ge hge] at hx
  obtain ⟨y, hy, hb⟩ := r2 _ _ x hx hxl
  exact ⟨y, hy, hb.live hxl⟩
 have j1 : ∀ {a b : Nat} {l : Loc}, a < H.length → J2 a b = some l → J a b = some l := fun {a b l} hlt hJ => by
  have : (if a < H.length then J a b else J' (a - H.length) b) = some l := hJ
  rwa [if_pos hlt] at this
 have j2 : ∀ {a b : Nat} {l : Loc}, H.length ≤ a → J2 a b = some l → J' (a - H.length) b = some l := fun {a b l} hge hJ => by
  have : (if a < H.length then J a b else J' (a - H.length) b) = some l := hJ
  rwa [if_neg (by omega)] at this
 have hnew : ∀ g i l β, liveAt H0 g i → J' g i = some l → l.blk = some β → w.heap.size ≤ β := fun g i l β a b c => by
  rcases hs.live g i l β a b c with ⟨g0, i0, l0, q, _⟩ | q
  ·exact absurd q (hno g0 i0)
  ·exact q
 have hfresh : ∀ β o, M' β = some o → M β = some o ∨ w.heap.size ≤ β := fun β o ho => by
  rcases hs.fresh β o ho with q | q | ⟨g, i, l, q, _⟩
  ·exact .inl q
  ·exact .inr q
  ·exact absurd q (hno g i)
 refine ⟨cv, M', J2, res', H ++ H0', rfl, ⟨hs.m, fun g i l hg hJ => x1.j g i l hJ, ⟨?_, ?_, ?_, ?_⟩, hs.mrep, hs.os, hs.tape, hs.output, hs.size, fun β o ho _ => hsame β o ho, ?_, ?_, hs.bk⟩, (hrep.ren r1).ext x2, r4⟩
 ·intro a b x hx hxl
  by_cases hlt : a < H.length
  ·rw [hget_app_lt hlt] at hx
   obtain ⟨l, p, q⟩ := hH.blk a b x hx hxl
   refine ⟨l, x1.j a b l p, q.ext x1 fun β hβ => ?_⟩
   have hb := (hH.dom a b l p).2 β hβ
   rw [Array.getElem?_eq_getElem hb]
   exact hsame β _ (Array.getElem?_eq_getElem hb)
  ·rw [hget_app_ge (by omega)] at hx
   obtain ⟨y, hy, hb⟩ := r2 _ _ x hx hxl
   obtain ⟨l, p, q⟩ := hs.hrep.blk _ _ y hy (hb.live hxl)
   refine ⟨l, x2.j a b l ?_, (q.ren hb).ext x2 fun β _ => rfl⟩
   unfold Inj.via
   rw [beh_ge (by omega)]
   exact p
 ·intro a b a' b' l l' β la lb ja jb ba bb
  by_cases h1 : a < H.length
  ·by_cases h2 : a' < H.length
   ·exact hH.inj a b a' b' l l' β (hl1 a b h1 la) (hl1 a' b' h2 lb) (j1 h1 ja) (j1 h2 jb) ba bb
   ·have q1 := (hH.dom a b l (j1 h1 ja)).2 β ba
    have q2 := hnew _ _ l' β (hl2 a' b' (by omega) lb) (j2 (by omega) jb) bb
    omega
  ·by_cases h2 : a' < H.length
   ·have q1 := (hH.dom a' b' l' (j1 h2 jb)).2 β bb
    have q2 := hnew _ _ l β (hl2 a b (by omega) la) (j2 (by omega) ja) ba
    omega
   ·have := hs.hrep.inj _ _ _ _ l l' β (hl2 a b (by omega) la) (hl2 a' b' (by omega) lb) (j2 (by omega) ja) (j2 (by omega) jb) ba bb
    exact ⟨by omega, this.2⟩
 ·intro a b l β la ja ba
  by_cases h1 : a < H.length
  ·cases e : M' β with
   | none => rfl
   | some o =>
    rcases hfresh β o e with q | q
    ·rw [hH.out a b l β (hl1 a b h1 la) (j1 h1 ja) ba] at q; cases q
    ·have := (hH.dom a b l (j1 h1 ja)).2 β ba; omega
  ·exact hs.hrep.out _ _ l β (hl2 a b (by omega) la) (j2 (by omega) ja) ba
 ·intro a b l ja
  by_cases h1 : a < H.length
  ·have := hH.dom a b l (j1 h1 ja)
   exact ⟨by rw [hget_app_lt h1]; exact this.1, fun β hβ => Nat.lt_of_lt_of_le (this.2 β hβ) hs.size⟩
  ·have := hs.hrep.dom _ _ l (j2 (by omega) ja)
   exact ⟨by rw [hget_app_ge (by omega)]; exact r3 _ _ this.1, this.2⟩
 ·intro β o ho
  rcases hfresh β o ho with q | q
  ·exact .inl q
  ·exact .inr (.inl q)
 ·intro a b l β la ja ba
  by_cases h1 : a < H.length
  ·exact .inl ⟨a, b, l, hl1 a b h1 la, j1 h1 ja, ba⟩
  ·exact .inr (hnew _ _ l β (hl2 a b (by omega) la) (j2 (by omega) ja) ba)
end Go.Av
namespace Go.Av
theorem quiet_gi {g i g' i' : Nat} {fr : Fr} {o : IOp} {H H' : Heap} {v : AV} (hd : dwr g i fr o = []) (h : dstep g i o fr H = some (v, H')) : H' = H ∧ dstep g' i' o fr H = some (v, H) := by
 have fin : ∀ {x : Option (AV × Heap)}, dstep g i o fr H = x → dstep g' i' o fr H = x → H' = H → H' = H ∧ dstep g' i' o fr H = some (v, H) := fun {x} h1 h2 h3 => ⟨h3, by rw [h2, ← h1, h, h3]⟩
 cases o with
 | alloc | box | buildSlice | makeMap | makeSlice | append => simp [dwr] at hd
 | store sz a x =>
  simp only [dwr] at hd
  simp only [dstep] at h
  split at h
  ·rename_i e
   rw [e] at hd
   simp [refs] at hd
  ·cases h
 | mapUpdate k m ix x =>
  simp only [dwr] at hd
  simp only [dstep] at h
  split at h
  ·rename_i e _
   rw [e] at hd
   simp [refs] at hd
  ·cases h
 | mop e xs =>
  simp only [dwr] at hd
  simp only [dstep] at h
  have hm : ∀ r, mstep g i H e (avals fr xs) = some r → mstep g' i' H e (avals fr xs) = some r ∧ r.2 = H := by
   intro r hr
   generalize avals fr xs = as at *
   unfold mstep at hr ⊢
   cases e with
   | range => simp [mwr] at hd
   | slice0 => simp [mwr] at hd
   | next =>
    refine ⟨hr, ?_⟩
    simp only at hr
    (repeat' split at hr) <;> (try (cases hr; done)) <;> (injection hr with hr; rw [← hr])
   | entry =>
    refine ⟨hr, ?_⟩
    simp only at hr
    (repeat' split at hr) <;> (try (cases hr; done)) <;> (injection hr with hr; rw [← hr])
   | cap =>
    refine ⟨hr, ?_⟩
    simp only at hr
    (repeat' split at hr) <;> (try (cases hr; done)) <;> (injection hr with hr; rw [← hr])
   | stop => cases hr
   | appN => simp [mwr] at hd
   | del k =>
    simp only at hr
    split at hr
    ·simp [mwr, refs] at hd
    ·cases hr
   | copy sz =>
    simp only at hr
    split at hr
    ·simp [mwr, refs] at hd
    ·cases hr
  obtain ⟨h1, h2⟩ := hm _ h
  simp only at h2
  subst h2
  exact ⟨rfl, by simp only [dstep]; exact h1⟩
 | insF ks m ix x =>
  simp only [dwr] at hd
  simp only [dstep] at h
  split at h
  ·rename_i e _
   rw [e] at hd
   simp [refs] at hd
  ·cases h
 | lookup z k x ix ok =>
  refine fin rfl rfl ?_
  simp only [dstep] at h
  split at h
  ·split at h
   ·generalize mlook H _ _ _ = r at h
    cases r with
    | none => cases h
    | some r => cases r <;> cases ok <;> simp only [lres, Option.some.injEq, Prod.mk.injEq] at h <;> exact h.2.symm
   ·cases h
  ·cases h
 | move x => exact fin rfl rfl (by simp only [dstep, fz_eq, Option.some.injEq, Prod.mk.injEq] at h; exact h.2.symm)
 | makeFunc fn a b => exact fin rfl rfl (by simp only [dstep, fzl_eq, Option.some.injEq, Prod.mk.injEq] at h; exact h.2.symm)
 | _ =>
  refine fin rfl rfl ?_
  simp only [dstep] at h
  try simp only [fz_eq] at h
  (repeat' split at h) <;> (try (cases h; done)) <;> (simp only [Option.some.injEq, Prod.mk.injEq] at h; exact h.2.symm)
def Keeps : List (Nat × Nat) → Heap → Heap → Prop
 | [], _, _ => True
 | q :: r, H, H' => hget H' q.1 q.2 = hget H q.1 q.2 ∧ Keeps r H H'
theorem Keeps.mem {H H' : Heap} : ∀ {pr : List (Nat × Nat)}, Keeps pr H H' → ∀ q ∈ pr, hget H' q.1 q.2 = hget H q.1 q.2
 | _ :: _, h, q, hq => by
  rcases List.mem_cons.1 hq with rfl | hq
  ·exact h.1
  ·exact h.2.mem q hq
theorem Keeps.refl (H : Heap) : ∀ pr : List (Nat × Nat), Keeps pr H H
 | [] => trivial
 | _ :: r => ⟨rfl, Keeps.refl H r⟩
inductive RT (P : Program) (k : Nat) : List (IOper × List (Nat × Nat)) → Fr → Heap → (Fr → Heap → Prop) → Prop
 | nil {fr : Fr} {H : Heap} {K : Fr → Heap → Prop} (h : K fr H) : RT P k [] fr H K
 | op {x : IOper} {pr : List (Nat × Nat)} {xs : List (IOper × List (Nat × Nat))} {fr : Fr} {H : Heap} {K : Fr → Heap → Prop} {o : IOp} {v : AV} {H' : Heap} (hg : gok fr x.guard = some true) (hx : x.act = .op o) (hs : dstep H.length 0 o fr H = some (v, H'))
   (hp : Keeps pr H H') (h : RT P k xs (fr.put x.dst v) H' K) : RT P k ((x, pr) :: xs) fr H K
 | skip {x : IOper} {pr : List (Nat × Nat)} {xs : List (IOper × List (Nat × Nat))} {fr : Fr} {H : Heap} {K : Fr → Heap → Prop} (hg : gok fr x.guard = some false) (h : RT P k xs (fr.put x.dst (.sc Go.undef)) H K) : RT P k ((x, pr) :: xs) fr H K
 | call {x : IOper} {pr : List (Nat × Nat)} {xs : List (IOper × List (Nat × Nat))} {fr : Fr} {H : Heap} {K : Fr → Heap → Prop} {f : FuncId} {args : List Operand} {R : AV → Heap → Prop} (hk : k ≤ H.length) (hg : gok fr x.guard = some true) (hx : x.act = .call f args)
   (hc : CallOK P f (avals fr args) H R) (hp : ∀ res H', R res H' → Keeps pr H H') (h : ∀ res H', R res H' → RT P k xs (fr.put x.dst res) H' K) : RT P k ((x, pr) :: xs) fr H K
 | callV {x : IOper} {pr : List (Nat × Nat)} {xs : List (IOper × List (Nat × Nat))} {fr : Fr} {H : Heap} {K : Fr → Heap → Prop} {f : Operand} {g : FuncId} {fs cs : List AV} {args : List Operand} {R : AV → Heap → Prop} (hk : k ≤ H.length) (hg : gok fr x.guard = some true)
   (hx : x.act = .callV f args) (hf : ev fr f = .clo (.func g) fs cs) (hc : CallOK P g (fs ++ avals fr args ++ cs) H R) (hp : ∀ res H', R res H' → Keeps pr H H') (h : ∀ res H', R res H' → RT P k xs (fr.put x.dst res) H' K) : RT P k ((x, pr) :: xs) fr H K
section
variable {P : Program} {N k : Nat} {xs : List (IOper × List (Nat × Nat))} {fr : Fr} {H : Heap} {K : Fr → Heap → Prop}
theorem RT.mono {K' : Fr → Heap → Prop} (h : RT P k xs fr H K) (hk : ∀ fr H, K fr H → K' fr H) : RT P k xs fr H K' := by
 induction h with
 | nil h => exact .nil (hk _ _ h)
 | op hg hx hs hp _ ih => exact .op hg hx hs hp (ih hk)
 | skip hg _ ih => exact .skip hg (ih hk)
 | call hk' hg hx hc hp _ ih => exact .call hk' hg hx hc hp fun res H' hr => ih res H' hr hk
 | callV hk' hg hx hf hc hp _ ih => exact .callV hk' hg hx hf hc hp fun res H' hr => ih res H' hr hk
theorem RT.cons {x : IOper} {pr : List (Nat × Nat)} (h : RT P k [(x, pr)] fr H fun fr' H' => RT P k xs fr' H' K) : RT P k ((x, pr) :: xs) fr H K := by
 have inv : ∀ {fr : Fr} {H : Heap}, RT P k [] fr H (fun fr' H' => RT P k xs fr' H' K) → RT P k xs fr H K := fun h => by
  cases h with
  | nil h => exact h
 cases h with
 | op hg hx hs hp h => exact .op hg hx hs hp (inv h)
 | skip hg h => exact .skip hg (inv h)
 | call hk' hg hx hc hp h => exact .call hk' hg hx hc hp fun res H' hr => inv (h res H' hr)
 | callV hk' hg hx hf hc hp h => exact .callV hk' hg hx hf hc hp fun res H' hr => inv (h res H' hr)
def Kc (K : Fr → Heap → Prop) (fr : Fr) (H : Heap) : Prop := ∃ fr0 : Fr, (∀ t, fr0.get t = fr.get t) ∧ K fr0 H
theorem Kc.of {K : Fr → Heap → Prop} {fr : Fr} {H : Heap} (h : K fr H) : Kc K fr H := ⟨fr, fun _ => rfl, h⟩
theorem Kc.kc {K : Fr → Heap → Prop} {fr : Fr} {H : Heap} (h : Kc (Kc K) fr H) : Kc K fr H := by
 obtain ⟨a, h1, b, h2, h3⟩ := h
 exact ⟨b, fun t => (h2 t).trans (h1 t), h3⟩
theorem put_same {fr fr2 : Fr} (h : ∀ t, fr.get t = fr2.get t) (d : Option Nat) (v : AV) : ∀ t, (fr.put d v).get t = (fr2.put d v).get t := fun t => by rw [put_get, put_get, h]
theorem RT.feq (h : RT P k xs fr H K) : ∀ {fr2 : Fr}, (∀ t, fr.get t = fr2.get t) → RT P k xs fr2 H (Kc K) := by
 induction h with
 | nil h => exact fun he => .nil ⟨_, he, h⟩
 | @op x pr xs fr H K o v H' hg hx hs hp _ ih =>
  intro fr2 he
  obtain ⟨ha, hgk⟩ := act_tmps (x := x) (fr := fr) (fr2 := fr2) fun t _ => (he t).symm
  refine .op (o := o) (by rw [hgk, hg]) hx ?_ hp (ih (put_same he _ _))
  rw [dstep_frame fun y hy => ha y (by rw [hx]; exact hy)]
  exact hs
 | @skip x pr xs fr H K hg _ ih =>
  intro fr2 he
  obtain ⟨ha, hgk⟩ := act_tmps (x := x) (fr := fr) (fr2 := fr2) fun t _ => (he t).symm
  exact .skip (by rw [hgk, hg]) (ih (put_same he _ _))
 | @call x pr xs fr H K f args R hk hg hx hc hp _ ih =>
  intro fr2 he
  obtain ⟨ha, hgk⟩ := act_tmps (x := x) (fr := fr) (fr2 := fr2) fun t _ => (he t).symm
  have hav : avals fr2 args = avals fr args := List.map_congr_left fun y hy => ha y (by rw [hx]; exact hy)
  exact .call (f := f) (args := args) hk (by rw [hgk, hg]) hx (by rw [hav]; exact hc) hp fun res H' hr => ih res H' hr (put_same he _ _)
 | @callV x pr xs fr H K f g fs cs args R hk hg hx hf hc hp _ ih =>
  intro fr2 he
  obtain ⟨ha, hgk⟩ := act_tmps (x := x) (fr := fr) (fr2 := fr2) fun t _ => (he t).symm
  have hav : avals fr2 args = avals fr args := List.map_congr_left fun y hy => ha y (by rw [hx]; exact List.mem_cons_of_mem _ hy)
  exact .callV (f := f) (args := args) hk (by rw [hgk, hg]) hx (by rw [ha f (by rw [hx]; exact List.mem_cons_self ..)]; exact hf) (by rw [hav]; exact hc) hp fun res H' hr => ih res H' hr (put_same he _ _)
def quietO : IOp → Bool
 | .alloc _ => false
 | .box _ => false
 | .buildSlice _ _ _ _ => false
 | .makeMap => false
 | .makeSlice _ _ _ _ => false
 | .store _ _ _ => false
 | .mapUpdate _ _ _ _ => false
 | .insF _ _ _ _ => false
 | .append _ _ _ _ => false
 | .mop _ _ => false
 | _ => true
theorem quietO_wr {o : IOp} (h : quietO o = true) (g i : Nat) (fr : Fr) : dwr g i fr o = [] := by cases o <;> first | rfl | cases h
def apartI (x y : IOper) : Bool := dstOut x.dst y.tmps && (dstOut y.dst x.tmps && dstDiff x.dst y.dst)
theorem dstOut_get {d : Option Nat} {l : List Nat} (h : dstOut d l = true) (fr : Fr) (v : AV) : ∀ t ∈ l, (fr.put d v).get t = fr.get t := fun t ht => by
 rw [put_get]
 cases d with
 | none => simp
 | some d =>
  have := List.all_eq_true.1 h t ht
  rw [if_neg]
  intro e
  injection e with e
  subst e
  simp at this
theorem drd_same {o : IOp} {fr fr2 : Fr} (ho : ∀ x ∈ o.opds, ev fr2 x = ev fr x) : drd fr2 o = drd fr o := by
 cases o with
 | xop e xs => simp only [drd, show avals fr2 xs = avals fr xs from List.map_congr_left ho]
 | mop e xs => simp only [drd, show avals fr2 xs = avals fr xs from List.map_congr_left ho]
 | _ => simp only [drd] <;> simp only [IOp.opds, List.mem_cons, List.not_mem_nil, or_false, forall_eq_or_imp, forall_eq] at ho <;> simp [ho]
def Took (x : IOper) (fr : Fr) (H : Heap) (v : AV) (B : List (Nat × Nat)) : Prop :=
 (gok fr x.guard = some true ∧ ∃ o, x.act = .op o ∧ quietO o = true ∧ dstep H.length 0 o fr H = some (v, H) ∧ ∀ q ∈ drd fr o, q ∈ B) ∨ (gok fr x.guard = some false ∧ v = .sc Go.undef)
theorem Took.at {x : IOper} {fr fr2 : Fr} {H H2 : Heap} {v : AV} {B : List (Nat × Nat)} (h : Took x fr H v B) (hf : ∀ t ∈ x.tmps, fr2.get t = fr.get t) (hB : ∀ q ∈ B, hget H2 q.1 q.2 = hget H q.1 q.2) : Took x fr2 H2 v B := by
 obtain ⟨ha, hgk⟩ := act_tmps (x := x) (fr := fr) (fr2 := fr2) hf
 rcases h with ⟨h1, o, h2, h3, h4, h5⟩ | ⟨h1, h2⟩
 ·have ho : ∀ y ∈ o.opds, ev fr2 y = ev fr y := fun y hy => ha y (by rw [h2]; exact hy)
  refine .inl ⟨by rw [hgk, h1], o, h2, h3, ?_, by rw [drd_same ho]; exact h5⟩
  have hw := quietO_wr h3
  obtain ⟨H2', q1, _⟩ := dstep_heap (H2 := H2) h4 (fun hm => by rw [hw] at hm; cases hm) (fun hm => by rw [hw] at hm; cases hm) fun p hp => hB p (h5 p hp)
  rw [dstep_frame ho]
  have := (quiet_gi (g' := H2.length) (i' := 0) (hw _ _ _) q1).2
  exact this
 ·exact .inr ⟨by rw [hgk, h1], h2⟩
theorem Took.rt {x : IOper} {px : List (Nat × Nat)} {v : AV} {B : List (Nat × Nat)} (h : Took x fr H v B) (hr : RT P k xs (fr.put x.dst v) H K) : RT P k ((x, px) :: xs) fr H K := by
 rcases h with ⟨h1, o, h2, h3, h4, h5⟩ | ⟨h1, rfl⟩
 ·exact .op h1 h2 h4 (Keeps.refl _ _) hr
 ·exact .skip h1 hr
theorem put_comm' {fr : Fr} {d e : Option Nat} (h : dstDiff d e = true) (v u : AV) : ∀ t, ((fr.put d v).put e u).get t = ((fr.put e u).put d v).get t := fun t => by
 rw [put_get, put_get, put_get, put_get]
 by_cases h1 : e = some t <;> by_cases h2 : d = some t
 ·subst h1; subst h2; simp [dstDiff] at h
 ·rw [if_pos h1, if_neg h2, if_pos h1]
 ·rw [if_neg h1, if_pos h2, if_pos h2]
 ·rw [if_neg h1, if_neg h2, if_neg h2, if_neg h1]
theorem RT.insert {x : IOper} {px B : List (Nat × Nat)} {v : AV} {l2 : List (IOper × List (Nat × Nat))} : ∀ (l1 : List (IOper × List (Nat × Nat))) {fr : Fr} {H : Heap} {K : Fr → Heap → Prop}, RT P k (l1 ++ l2) (fr.put x.dst v) H K → Took x fr H v B →
  (∀ a ∈ l1, apartI x a.1 = true ∧ ∀ q ∈ B, q ∈ a.2) → RT P k (l1 ++ (x, px) :: l2) fr H (Kc K)
 | [], fr, H, K, h, ht, _ => ht.rt (h.mono fun _ _ => Kc.of)
 | (y, py) :: l1, fr, H, K, h, ht, hl => by
  obtain ⟨hap, hB⟩ := hl _ (List.mem_cons_self ..)
  simp only [apartI, Bool.and_eq_true] at hap
  obtain ⟨e1, e2, e3⟩ := hap
  have hl' := fun a ha => hl a (List.mem_cons_of_mem _ ha)
  obtain ⟨ha, hgk⟩ := act_tmps (x := y) (fr := fr) (fr2 := fr.put x.dst v) (dstOut_get e1 fr v)
  have next : ∀ (u : AV) (H' : Heap), Keeps py H H' → RT P k (l1 ++ l2) ((fr.put x.dst v).put y.dst u) H' K → RT P k (l1 ++ (x, px) :: l2) (fr.put y.dst u) H' (Kc K) := fun u H' hp h => by
   have h1 := h.feq (put_comm' e3 v u)
   have h2 := RT.insert (px := px) (B := B) l1 h1 (ht.at (dstOut_get e2 fr u) fun q hq => hp.mem q (hB q hq)) hl'
   exact h2.mono fun _ _ => Kc.kc
  cases h with
  | op hg hx hs hp h =>
   refine .op (by rw [← hgk, hg]) hx ?_ hp (next _ _ hp h)
   rw [← dstep_frame fun y hy => ha y (by rw [hx]; exact hy)]
   exact hs
  | skip hg h => exact .skip (by rw [← hgk, hg]) (next _ _ (Keeps.refl _ _) h)
  | @call _ _ _ _ _ _ f args R hk hg hx hc hp h =>
   have hav : avals (fr.put x.dst v) args = avals fr args := List.map_congr_left fun y hy => ha y (by rw [hx]; exact hy)
   exact .call hk (by rw [← hgk, hg]) hx (by rw [← hav]; exact hc) hp fun res H' hr => next _ _ (hp res H' hr) (h res H' hr)
  | @callV _ _ _ _ _ _ f g fs cs args R hk hg hx hf hc hp h =>
   have hav : avals (fr.put x.dst v) args = avals fr args := List.map_congr_left fun y hy => ha y (by rw [hx]; exact List.mem_cons_of_mem _ hy)
   exact .callV hk (by rw [← hgk, hg]) hx (by rw [← ha f (by rw [hx]; exact List.mem_cons_self ..)]; exact hf) (by rw [← hav]; exact hc) hp fun res H' hr => next _ _ (hp res H' hr) (h res H' hr)
end
def cmask (acc : List Nat) : List Nat → Nat
 | [] => 0
 | k :: l => (2 ^ k ||| acc.getD k 0) ||| cmask acc l
def cgo : List Nat → List (List Nat) → List Nat
 | acc, [] => acc
 | acc, l :: r => cgo (acc ++ [cmask acc l]) r
def clo (af : List (List Nat)) : List Nat := cgo [] af
def bef (cl : List Nat) (i j : Nat) : Bool := (cl.getD j 0).testBit i
def protOf (cl : List Nat) : List (Nat × List (Nat × Nat)) → Nat → List (Nat × Nat)
 | [], _ => []
 | (i, B) :: p, j => match bef cl i j with
  | true => protOf cl p j
  | false => B ++ protOf cl p j
def rdX (fr : Fr) (x : IOper) : List (Nat × Nat) :=
 match x.act with
 | .op o => drd fr o
 | _ => []
inductive Fewer : List (IOper × List (Nat × Nat)) → List (IOper × List (Nat × Nat)) → Prop
 | nil : Fewer [] []
 | cons {a b : IOper × List (Nat × Nat)} {l m : List (IOper × List (Nat × Nat))} (h : a.1 = b.1 ∧ ∀ q ∈ a.2, q ∈ b.2) (h' : Fewer l m) : Fewer (a :: l) (b :: m)
def addP (i : Nat) : List (Nat × Nat) → List (Nat × List (Nat × Nat)) → List (Nat × List (Nat × Nat))
 | [], pend => pend
 | q :: B, pend => (i, q :: B) :: pend
def LP (P : Program) (k : Nat) (cl : List Nat) (zs : List IOper) : List (Bool × Nat) → List (Nat × List (Nat × Nat)) → Fr → Heap → (Fr → Heap → Prop) → Prop
 | [], _, fr, H, K => K fr H
 | (true, i) :: pl, pend, fr, H, K => ∃ x B, zs[i]? = some x ∧ (∀ q ∈ rdX fr x, q ∈ B) ∧ RT P k [(x, [])] fr H fun fr' H' => LP P k cl zs pl (addP i B pend) fr' H' K
 | (false, i) :: pl, pend, fr, H, K => ∃ x, zs[i]? = some x ∧ RT P k [(x, protOf cl pend i)] fr H fun fr' H' => LP P k cl zs pl pend fr' H' K
end Go.Av
namespace Go.Av
section
variable {P : Program} {k : Nat} {xs : List (IOper × List (Nat × Nat))} {pr : List (Nat × Nat)} {fr : Fr} {H : Heap} {K : Fr → Heap → Prop} {d : Nat} {gd : Option (Nat × Bool)}
theorem RT.o {o : IOp} {v : AV} {H' : Heap} (hg : gok fr gd = some true) (hs : dstep H.length 0 o fr H = some (v, H')) (hp : Keeps pr H H') (h : RT P k xs ((d, v) :: fr) H' K) : RT P k ((⟨some d, gd, .op o⟩, pr) :: xs) fr H K := .op (x := ⟨some d, gd, .op o⟩) hg rfl hs hp h
theorem RT.on {o : IOp} {v : AV} {H' : Heap} (hg : gok fr gd = some true) (hs : dstep H.length 0 o fr H = some (v, H')) (hp : Keeps pr H H') (h : RT P k xs fr H' K) : RT P k ((⟨none, gd, .op o⟩, pr) :: xs) fr H K := .op (x := ⟨none, gd, .op o⟩) hg rfl hs hp h
theorem RT.s {a : IAct} (hg : gok fr gd = some false) (h : RT P k xs ((d, .sc Go.undef) :: fr) H K) : RT P k ((⟨some d, gd, a⟩, pr) :: xs) fr H K := .skip (x := ⟨some d, gd, a⟩) hg h
theorem RT.p {f : FuncId} {args : List Operand} {v : AV} (hk : k ≤ H.length) (hg : gok fr gd = some true) (hp : PureRun P f (avals fr args) v) (h : RT P k xs ((d, v) :: fr) H K) : RT P k ((⟨some d, gd, .call f args⟩, pr) :: xs) fr H K :=
 .call (x := ⟨some d, gd, .call f args⟩) (R := fun res H' => res = v ∧ H' = H) hk hg rfl (CallOK.ofPure hp H ⟨rfl, rfl⟩) (fun _ _ h => by rw [h.2]; exact Keeps.refl _ _) fun _ _ hr => by rw [hr.1, hr.2]; exact h
theorem RT.cc {f : FuncId} {args : List Operand} {R : AV → Heap → Prop} (hk : k ≤ H.length) (hg : gok fr gd = some true) (hc : CallOK P f (avals fr args) H R) (h : ∀ res H', R res H' → Keeps pr H H' ∧ RT P k xs ((d, res) :: fr) H' K) : RT P k ((⟨some d, gd, .call f args⟩, pr) :: xs) fr H K :=
 .call (x := ⟨some d, gd, .call f args⟩) hk hg rfl hc (fun res H' hr => (h res H' hr).1) fun res H' hr => (h res H' hr).2
theorem RT.cv {f : Operand} {g : FuncId} {fs cs : List AV} {args : List Operand} {R : AV → Heap → Prop} (hk : k ≤ H.length) (hg : gok fr gd = some true) (hf : ev fr f = .clo (.func g) fs cs) (hc : CallOK P g (fs ++ avals fr args ++ cs) H R)
  (h : ∀ res H', R res H' → Keeps pr H H' ∧ RT P k xs ((d, res) :: fr) H' K) : RT P k ((⟨some d, gd, .callV f args⟩, pr) :: xs) fr H K :=
 .callV (x := ⟨some d, gd, .callV f args⟩) hk hg rfl hf hc (fun res H' hr => (h res H' hr).1) fun res H' hr => (h res H' hr).2
theorem LP.z {cl : List Nat} {zs : List IOper} {pend : List (Nat × List (Nat × Nat))} (h : K fr H) : LP P k cl zs [] pend fr H K := h
theorem LP.t0 {cl : List Nat} {zs : List IOper} {pl : List (Bool × Nat)} {i : Nat} {x : IOper} {pend : List (Nat × List (Nat × Nat))} (h : RT P k [(x, [])] fr H fun fr' H' => LP P k cl zs pl pend fr' H' K) (hx : zs[i]? = some x := by rfl) (hB : rdX fr x = [] := by rfl) : LP P k cl zs ((true, i) :: pl) pend fr H K :=
 ⟨x, [], hx, fun q hq => by rw [hB] at hq; exact hq, h⟩
theorem LP.t1 {cl : List Nat} {zs : List IOper} {pl : List (Bool × Nat)} {i g b : Nat} {x : IOper} {pend : List (Nat × List (Nat × Nat))} (h : RT P k [(x, [])] fr H fun fr' H' => LP P k cl zs pl ((i, [(g, b)]) :: pend) fr' H' K) (hx : zs[i]? = some x := by rfl) (hB : rdX fr x = [(g, b)] := by rfl) : LP P k cl zs ((true, i) :: pl) pend fr H K :=
 ⟨x, [(g, b)], hx, fun q hq => by rw [hB] at hq; exact hq, h⟩
theorem LP.t2 {cl : List Nat} {zs : List IOper} {pl : List (Bool × Nat)} {i g b g' b' : Nat} {x : IOper} {pend : List (Nat × List (Nat × Nat))} (h : RT P k [(x, [])] fr H fun fr' H' => LP P k cl zs pl ((i, [(g, b), (g', b')]) :: pend) fr' H' K) (hx : zs[i]? = some x := by rfl) (hB : rdX fr x = [(g, b), (g', b')] := by rfl) : LP P k cl zs ((true, i) :: pl) pend fr H K :=
 ⟨x, [(g, b), (g', b')], hx, fun q hq => by rw [hB] at hq; exact hq, h⟩
theorem LP.c {cl : List Nat} {zs : List IOper} {pl : List (Bool × Nat)} {i : Nat} {x : IOper} {pend : List (Nat × List (Nat × Nat))} (h : RT P k [(x, protOf cl pend i)] fr H fun fr' H' => LP P k cl zs pl pend fr' H' K) (hx : zs[i]? = some x := by rfl) : LP P k cl zs ((false, i) :: pl) pend fr H K := ⟨x, hx, h⟩
end
end Go.Av
