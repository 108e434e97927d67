import Derived.Test.YtbpmbofinoinmaaAv11
namespace Go.Av

/-- What a piece of code leaves behind: a step of memory, a frame, and what was to be shown. -/
def Post (k N : Nat) (M : Mem) (J : Inj) (H : Heap) (w : World) (K : Fr → Heap → Prop) (a' : Act) (w' : World) : Prop :=
  ∃ M' J' fr' H', Step k M J H w M' J' H' w' ∧ FRep N M' J' fr' a'.tmps ∧ a'.defers = [] ∧ K fr' H'

def Callable (P : Program) (f : FuncId) : Prop := ∃ fn, P.funcs[f]? = some fn ∧ (fn.name == "runtime.NumGoroutine") = false ∧ fn.body.isSome = true

/-- A call of f, with these arguments, in this heap, returns, and R holds of its result and of the heap behind it. -/
def CallOK (P : Program) (f : FuncId) (args : List AV) (H : Heap) (R : AV → Heap → Prop) : Prop :=
  Callable P f ∧ ∀ M J w (cargs : Array Value), args.length = cargs.size → (∀ (j : Nat) c v, args[j]? = some c → cargs[j]? = some v → Rep M J c v) → HRep M J H w.heap → MRep M w.heap →
    Calls P f cargs w fun e w' => ∃ v M' J' res H', e = .returned v ∧ Step H.length M J H w M' J' H' w' ∧ Rep M' J' res v ∧ R res H'

theorem CallOK.mono {P f args H R R'} (h : CallOK P f args H R) (hr : ∀ res H', R res H' → R' res H') : CallOK P f args H R' :=
  ⟨h.1, fun M J w cargs a b c d => (h.2 M J w cargs a b c d).mono fun _ _ ⟨v, M', J', res, H', h1, h2, h3, h4⟩ => ⟨v, M', J', res, H', h1, h2, h3, hr _ _ h4⟩⟩

def Matches (P : Program) (N : Nat) (ops : Array Oper) : List Nat → List IOper → Prop
  | [], [] => True
  | i :: l, x :: xs => (∃ o, ops[i]? = some o ∧ coper P N ops o = some x) ∧ Matches P N ops l xs
  | _, _ => False

/-- A region's operations, one behind the other. -/
def Reg (P : Program) (N k : Nat) (xs : List IOper) (fr : Fr) (H : Heap) (K : Fr → Heap → Prop) : Prop :=
  ∀ ops l, Matches P N ops l xs → ∀ M J tmps w, FRep N M J fr tmps → HRep M J H w.heap → MRep M w.heap →
    ∀ Q, (∀ a' w', Post k N M J H w K a' w' → Q Exit.normal a' w') → wpOps P ops Q l ⟨tmps, []⟩ w

section
variable {P : Program} {N k : Nat} {xs : List IOper} {x : IOper} {fr : Fr} {H : Heap} {K : Fr → Heap → Prop}

theorem Reg.nil (h : K fr H) : Reg P N k [] fr H K := by
  intro ops l hm M J tmps w hF hH hM Q hQ
  cases l with
  | nil => exact hQ _ _ ⟨M, J, fr, H, .refl k hH hM, hF, rfl, h⟩
  | cons i l => exact hm.elim

theorem coper_some {ops : Array Oper} {o : Oper} (h : coper P N ops o = some x) : cdst N o.dst = some x.dst ∧ cguard ops o.guard = some x.guard ∧ cact P o.op = some x.act := by
  unfold coper at h
  split at h
  · rename_i d gd a h1 h2 h3
    injection h with h
    subst h
    exact ⟨h1, h2, h3⟩
  · cases h

theorem FRep.put {M J tmps} (hF : FRep N M J fr tmps) {d d' : Option Nat} (hd : cdst N d = some d') {v : AV} {cv : Value} (hv : Rep M J v cv) : FRep N M J (fr.put d' v) (Act.put ⟨tmps, []⟩ d cv).tmps := by
  cases d with
  | none =>
    injection hd with hd
    subst hd
    exact hF
  | some d =>
    simp only [cdst] at hd
    split at hd
    · rename_i hb
      injection hd with hd
      subst hd
      have hlt : d < N := Nat.le_of_ble_eq_true hb
      refine ⟨by simp [Act.put, hF.1], fun t => ?_⟩
      show Rep M J (match Nat.beq d t with | true => v | false => Fr.get fr t) _
      split
      · rename_i e
        have : d = t := Nat.eq_of_beq_eq_true e
        subst this
        show Rep M J v ((tmps.setIfInBounds d cv).getD d Go.undef)
        rw [Array.getD_eq_getD_getElem?, Array.getElem?_setIfInBounds, if_pos rfl, if_pos (by rw [hF.1]; exact hlt)]
        exact hv
      · rename_i e
        have hne : d ≠ t := fun h => by subst h; simp at e
        have := hF.2 t
        show Rep M J (Fr.get fr t) ((tmps.setIfInBounds d cv).getD t Go.undef)
        rw [Array.getD_eq_getD_getElem?, Array.getElem?_setIfInBounds, if_neg hne, ← Array.getD_eq_getD_getElem?]
        exact this
    · cases hd

theorem put_defers (tmps : Array Value) (d : Option Nat) (cv : Value) : (Act.put ⟨tmps, []⟩ d cv) = ⟨(Act.put ⟨tmps, []⟩ d cv).tmps, []⟩ := by cases d <;> rfl

theorem HRep.fresh {M J} {h : Array Obj} (hH : HRep M J H h) : J H.length 0 = none := by
  cases e : J H.length 0 with
  | none => rfl
  | some l =>
    have := (hH.dom _ _ l e).1
    simp [hget] at this

theorem FRep.ext {M J M' J' tmps} (hx : Ext M J M' J') (hF : FRep N M J fr tmps) : FRep N M' J' fr tmps := ⟨hF.1, fun t => (hF.2 t).ext hx⟩

theorem Reg.op {o : IOp} {v : AV} {H' : Heap} (hg : gok fr x.guard = some true) (hx : x.act = .op o) (hs : dstep H.length 0 o fr H = some (v, H')) (h : Reg P N k xs (fr.put x.dst v) H' K) : Reg P N k (x :: xs) fr H K := by
  intro ops l hm M J tmps w hF hH hM Q hQ
  cases l with
  | nil => exact hm.elim
  | cons i l =>
    obtain ⟨⟨o0, ho, hc⟩, hm'⟩ := hm
    obtain ⟨c1, c2, c3⟩ := coper_some hc
    have hw := gok_sound hF c2 hg
    have hcop : cop P o0.op = some o := by
      rw [hx] at c3
      unfold cact at c3
      split at c3
      · cases c3
      · cases c3
      · simp only [Option.map_eq_some_iff, IAct.op.injEq] at c3
        obtain ⟨a, ha, rfl⟩ := c3
        exact ha
    obtain ⟨cv, w', J', hrun, hrep, hext, hstep, _⟩ := cop_sound (ds := []) hcop hF hH hM (.inr ⟨rfl, rfl⟩) hH.fresh hs
    simp only [wpOps, ho, hw, if_true]
    left
    have hnext : wpOps P ops Q l (Act.put ⟨tmps, []⟩ o0.dst cv) w' := by
      rw [put_defers]
      refine h ops l hm' M J' _ w' ((hF.ext hext).put c1 hrep) (hstep k).hrep (hstep k).mrep Q fun a' w'' hp => hQ a' w'' ?_
      obtain ⟨M2, J2, fr2, H2, q1, q2, q3, q4⟩ := hp
      exact ⟨M2, J2, fr2, H2, (hstep k).trans q1, q2, q3, q4⟩
    rcases hrun with hrun | ⟨hrun, rfl⟩
    · simp only [Oper.wp, hrun, Oper.upon]
      exact hnext
    · simp only [Oper.wp, hrun, Oper.upon]
      exact hnext

/-- The same, as a walk uses it. -/
theorem Reg.o {d : Nat} {gd : Option (Nat × Bool)} {o : IOp} {v : AV} {H' : Heap} (hg : gok fr gd = some true) (hs : dstep H.length 0 o fr H = some (v, H')) (h : Reg P N k xs ((d, v) :: fr) H' K) : Reg P N k (⟨some d, gd, .op o⟩ :: xs) fr H K :=
  Reg.op (x := ⟨some d, gd, .op o⟩) hg rfl hs h
theorem Reg.on {gd : Option (Nat × Bool)} {o : IOp} {v : AV} {H' : Heap} (hg : gok fr gd = some true) (hs : dstep H.length 0 o fr H = some (v, H')) (h : Reg P N k xs fr H' K) : Reg P N k (⟨none, gd, .op o⟩ :: xs) fr H K :=
  Reg.op (x := ⟨none, gd, .op o⟩) hg rfl hs h

theorem Reg.skip (hg : gok fr x.guard = some false) (h : Reg P N k xs (fr.put x.dst (.sc Go.undef)) H K) : Reg P N k (x :: xs) fr H K := by
  intro ops l hm M J tmps w hF hH hM Q hQ
  cases l with
  | nil => exact hm.elim
  | cons i l =>
    obtain ⟨⟨o0, ho, hc⟩, hm'⟩ := hm
    obtain ⟨c1, c2, c3⟩ := coper_some hc
    have hw := gok_sound hF c2 hg
    simp only [wpOps, ho, hw, Bool.false_eq_true, if_false]
    rw [put_defers]
    exact h ops l hm' M J _ w (hF.put c1 (.sc _)) hH hM Q hQ

theorem Reg.s {d : Nat} {gd : Option (Nat × Bool)} {a : IAct} (hg : gok fr gd = some false) (h : Reg P N k xs ((d, .sc Go.undef) :: fr) H K) : Reg P N k (⟨some d, gd, a⟩ :: xs) fr H K :=
  Reg.skip (x := ⟨some d, gd, a⟩) hg h
theorem Reg.sn {gd : Option (Nat × Bool)} {a : IAct} (hg : gok fr gd = some false) (h : Reg P N k xs fr H K) : Reg P N k (⟨none, gd, a⟩ :: xs) fr H K :=
  Reg.skip (x := ⟨none, gd, a⟩) hg h

theorem run_callFunc {f : FuncId} (hf : Callable P f) (args : Array Value) (w : World) : (callFunc f args).run P w = .ok (.enter f args) w := by
  obtain ⟨fn, h1, h2, h3⟩ := hf
  have h4 : fn.body.isNone = false := by cases e : fn.body <;> simp_all
  simp only [callFunc, Sem.run_bind, run_program, Result.andThen_ok, h1, h2, h4, Bool.false_eq_true, if_false, Sem.run_pure]

/-- Behind a call: the walk goes on. -/
theorem call_next {f : FuncId} {cargs : Array Value} {args : List AV} {ops : Array Oper} {l : List Nat} {M J tmps} {w : World} {o0 : Oper} (hF : FRep N M J fr tmps) (hH : HRep M J H w.heap) (hM : MRep M w.heap)
    (hk : k ≤ H.length) (c1 : cdst N o0.dst = some x.dst) (hlen : args.length = cargs.size) (hargs : ∀ (j : Nat) c v, args[j]? = some c → cargs[j]? = some v → Rep M J c v)
    (h : CallOK P f args H fun res H' => Reg P N k xs (fr.put x.dst res) H' K) (hm' : Matches P N ops l xs) {Q : Exit → Act → World → Prop} (hQ : ∀ a' w', Post k N M J H w K a' w' → Q Exit.normal a' w')
    (hrun : (execOp (Act.eval ⟨tmps, []⟩) o0).run P w = .ok (.enter f cargs) w) : o0.wp P ⟨tmps, []⟩ w (wpOps P ops Q l) Q := by
  simp only [Oper.wp, hrun, Oper.upon]
  refine (h.2 M J w cargs hlen hargs hH hM).mono ?_
  rintro e w' ⟨v, M', J', res, H', rfl, hst, hrep, hreg⟩
  simp only
  have hext : Ext M J M' J' := ⟨hst.m, fun g i l hJ => hst.j g i l (by
    have := (hH.dom g i l hJ).1
    unfold hget at this
    split at this
    · rename_i f hf; exact (List.getElem?_eq_some_iff.1 hf).1
    · cases this) hJ⟩
  rw [put_defers]
  refine hreg ops l hm' M' J' _ w' ((hF.ext hext).put c1 hrep) hst.hrep hst.mrep Q fun a' w'' hp => hQ a' w'' ?_
  obtain ⟨M2, J2, fr2, H2, q1, q2, q3, q4⟩ := hp
  exact ⟨M2, J2, fr2, H2, (hst.mono hk).trans q1, q2, q3, q4⟩

theorem Reg.call {f : FuncId} {args : List Operand} (hk : k ≤ H.length) (hg : gok fr x.guard = some true) (hx : x.act = .call f args) (h : CallOK P f (avals fr args) H fun res H' => Reg P N k xs (fr.put x.dst res) H' K) :
    Reg P N k (x :: xs) fr H K := by
  intro ops l hm M J tmps w hF hH hM Q hQ
  cases l with
  | nil => exact hm.elim
  | cons i l =>
    obtain ⟨⟨o0, ho, hc⟩, hm'⟩ := hm
    obtain ⟨c1, c2, c3⟩ := coper_some hc
    have hw := gok_sound hF c2 hg
    simp only [wpOps, ho, hw, if_true]
    left
    rw [hx] at c3
    unfold cact at c3
    split at c3
    · rename_i f' args' ts hop
      simp only [Option.some.injEq, IAct.call.injEq] at c3
      obtain ⟨rfl, rfl⟩ := c3
      obtain ⟨h1, h2⟩ := avals_rep (ds := []) hF args'.toList _ rfl args' rfl
      refine call_next hF hH hM hk c1 h1 h2 h hm' hQ ?_
      have he : Act.eval ⟨tmps, []⟩ (.func f') = .func (.func f') #[] #[] := rfl
      simp only [execOp, hop, resolve, he, Deferred.ofValue, Sem.run_bind, Sem.run_pure, Result.andThen_ok, invoke]
      rw [show #[] ++ args'.map (Act.eval ⟨tmps, []⟩) ++ #[] = args'.map (Act.eval ⟨tmps, []⟩) by simp]
      exact run_callFunc h.1 _ _
    · cases c3
    · simp only [Option.map_eq_some_iff] at c3
      obtain ⟨a, _, ha⟩ := c3
      cases ha

theorem Reg.c {d : Nat} {gd : Option (Nat × Bool)} {f : FuncId} {args : List Operand} (hk : k ≤ H.length) (hg : gok fr gd = some true) (h : CallOK P f (avals fr args) H fun res H' => Reg P N k xs ((d, res) :: fr) H' K) :
    Reg P N k (⟨some d, gd, .call f args⟩ :: xs) fr H K := Reg.call (x := ⟨some d, gd, .call f args⟩) hk hg rfl h

theorem Reg.callV {f : Operand} {g : FuncId} {fs cs : List AV} {args : List Operand} (hk : k ≤ H.length) (hg : gok fr x.guard = some true) (hx : x.act = .callV f args) (hf : ev fr f = .clo (.func g) fs cs)
    (h : CallOK P g (fs ++ avals fr args ++ cs) H fun res H' => Reg P N k xs (fr.put x.dst res) H' K) : Reg P N k (x :: xs) fr H K := by
  intro ops l hm M J tmps w hF hH hM Q hQ
  cases l with
  | nil => exact hm.elim
  | cons i l =>
    obtain ⟨⟨o0, ho, hc⟩, hm'⟩ := hm
    obtain ⟨c1, c2, c3⟩ := coper_some hc
    have hw := gok_sound hF c2 hg
    simp only [wpOps, ho, hw, if_true]
    left
    rw [hx] at c3
    unfold cact at c3
    split at c3
    · cases c3
    · rename_i t args' ts hop
      simp only [Option.some.injEq, IAct.callV.injEq] at c3
      obtain ⟨rfl, rfl⟩ := c3
      obtain ⟨h1, h2⟩ := avals_rep (ds := []) hF args'.toList _ rfl args' rfl
      have hfv := ev_rep (ds := []) hF (.tmp t)
      rw [hf] at hfv
      generalize hfe : Act.eval ⟨tmps, []⟩ (.tmp t) = fv at hfv
      cases hfv with
      | clo _ _ _ cfs ccs r1 r2 r3 r4 =>
        refine call_next (cargs := cfs ++ args'.map (Act.eval ⟨tmps, []⟩) ++ ccs) hF hH hM hk c1 (by simp only [List.length_append, Array.size_append]; omega) (fun j c v hc' hv' => ?_) h hm' hQ ?_
        · rw [List.getElem?_append] at hc'
          rw [Array.getElem?_append] at hv'
          simp only [List.length_append, Array.size_append] at hc' hv'
          rw [h1, r1] at hc'
          split at hc'
          · rename_i hj
            rw [if_pos hj] at hv'
            rw [List.getElem?_append] at hc'
            rw [Array.getElem?_append] at hv'
            rw [r1] at hc'
            split at hc'
            · rename_i hj2
              rw [if_pos hj2] at hv'
              exact r3 j c v hc' hv'
            · rename_i hj2
              rw [if_neg hj2] at hv'
              exact h2 _ c v hc' hv'
          · rename_i hj
            rw [if_neg hj] at hv'
            exact r4 _ c v hc' hv'
        · simp only [execOp, hop, resolve, hfe, Deferred.ofValue, Sem.run_bind, Sem.run_pure, Result.andThen_ok, invoke]
          exact run_callFunc h.1 _ _
    · simp only [Option.map_eq_some_iff] at c3
      obtain ⟨a, _, ha⟩ := c3
      cases ha

/-- Another way to tell the same state. -/
def Sub (k N : Nat) (fr : Fr) (H : Heap) (fr' : Fr) (H' : Heap) : Prop :=
  ∀ M J tmps (w : World), FRep N M J fr tmps → HRep M J H w.heap → MRep M w.heap → ∃ M' J', Step k M J H w M' J' H' w ∧ FRep N M' J' fr' tmps

theorem Sub.refl (k N : Nat) (fr : Fr) (H : Heap) : Sub k N fr H fr H := fun _ _ _ _ hF hH hM => ⟨_, _, .refl k hH hM, hF⟩
theorem Sub.trans {k N : Nat} {fr fr' fr'' : Fr} {H H' H'' : Heap} (a : Sub k N fr H fr' H') (b : Sub k N fr' H' fr'' H'') : Sub k N fr H fr'' H'' := by
  intro M J tmps w hF hH hM
  obtain ⟨M1, J1, s1, f1⟩ := a M J tmps w hF hH hM
  obtain ⟨M2, J2, s2, f2⟩ := b M1 J1 tmps w f1 s1.hrep s1.mrep
  exact ⟨M2, J2, s1.trans s2, f2⟩

theorem Reg.sub {fr' : Fr} {H' : Heap} (hs : Sub k N fr H fr' H') (h : Reg P N k xs fr' H' K) : Reg P N k xs fr H K := by
  intro ops l hm M J tmps w hF hH hM Q hQ
  obtain ⟨M1, J1, s1, f1⟩ := hs M J tmps w hF hH hM
  refine h ops l hm M1 J1 tmps w f1 s1.hrep s1.mrep Q fun a' w' hp => hQ a' w' ?_
  obtain ⟨M2, J2, fr2, H2, q1, q2, q3, q4⟩ := hp
  exact ⟨M2, J2, fr2, H2, s1.trans q1, q2, q3, q4⟩

theorem Reg.mono {K' : Fr → Heap → Prop} (h : Reg P N k xs fr H K) (hk : ∀ fr H, K fr H → K' fr H) : Reg P N k xs fr H K' := by
  intro ops l hm M J tmps w hF hH hM Q hQ
  exact h ops l hm M J tmps w hF hH hM Q fun a' w' ⟨M2, J2, fr2, H2, q1, q2, q3, q4⟩ => hQ a' w' ⟨M2, J2, fr2, H2, q1, q2, q3, hk _ _ q4⟩

/-- Slots forgotten, or told otherwise. -/
theorem Sub.le {fr' : Fr} (h : ∀ x ∈ fr', Le (fr.get x.1) x.2) : Sub k N fr H fr' H := by
  intro M J tmps w hF hH hM
  refine ⟨M, J, .refl k hH hM, hF.1, fun t => ?_⟩
  have key : Le (fr.get t) (Fr.get fr' t) := by
    clear hF
    induction fr' with
    | nil => exact .undef _
    | cons p fr' ih =>
      obtain ⟨d, v⟩ := p
      show Le (fr.get t) (match Nat.beq d t with | true => v | false => Fr.get fr' t)
      split
      · rename_i e
        have : d = t := Nat.eq_of_beq_eq_true e
        subst this
        exact h (d, v) (List.mem_cons_self ..)
      · exact ih fun x hx => h x (List.mem_cons_of_mem _ hx)
  exact key M J _ (hF.2 t)

/-- A new numbering of the blocks; those that have no new number are forgotten. -/
theorem Sub.ren {fr' : Fr} {H' : Heap} (ρ : Nat → Nat → Option (Nat × Nat)) (hn : Numb ρ k H H') (h : ∀ x ∈ fr', Ren ρ (fr.get x.1) x.2) : Sub k N fr H fr' H' := by
  intro M J tmps w hF hH hM
  exact ⟨M, J.via ρ, (Step.refl k hH hM).ren hn, hF.ren h⟩

end
end Go.Av
