import Derived.Test.YtbpmbofinoinmaaAv16
namespace Go.Av

/-- An order in which the operations that are left may run. -/
inductive Sched : List (Nat × RRec) → List Nat → Prop
  | nil : Sched [] []
  | cons (A : List (Nat × RRec)) (i : Nat) (r : RRec) (B : List (Nat × RRec)) (l : List Nat) (h : ∀ a ∈ A, indep a.2 r = true) (hs : Sched (A ++ B) l) : Sched (A ++ (i, r) :: B) (i :: l)

theorem HRep.eqv {M J H H'} {h : Array Obj} (hH : HRep M J H h) (he : ∀ a b, hget H a b = hget H' a b) : HRep M J H' h :=
  ⟨fun g i x hx => hH.blk g i x (by rw [he]; exact hx), fun g i g' i' l l' β ⟨x, hx, hl⟩ ⟨y, hy, hl'⟩ => hH.inj g i g' i' l l' β ⟨x, by rw [he]; exact hx, hl⟩ ⟨y, by rw [he]; exact hy, hl'⟩,
    fun g i l β ⟨x, hx, hl⟩ => hH.out g i l β ⟨x, by rw [he]; exact hx, hl⟩, fun g i l hJ => by rw [← he]; exact hH.dom g i l hJ⟩

theorem Step.eqv {k M J H w M' J' H' H'' w'} (h : Step k M J H w M' J' H' w') (he : ∀ a b, hget H' a b = hget H'' a b) : Step k M J H w M' J' H'' w' :=
  { h with hrep := h.hrep.eqv he, live := fun g i l β ⟨x, hx, hl⟩ => h.live g i l β ⟨x, by rw [he]; exact hx, hl⟩ }

theorem run_sched {P : Program} {N k : Nat} {ops : Array Oper} {t : S} {rem : List (Nat × RRec)} {l : List Nat} (hsch : Sched rem l) :
    (∀ p ∈ rem, ∃ o, ops[p.1]? = some o ∧ coper P N ops o = some p.2.x) → (rem.map (·.2.id)).Nodup → ∀ (s : S) M J tmps w, FRep N M J s.1 tmps → HRep M J s.2 w.heap → MRep M w.heap → Run P (rem.map (·.2)) s t →
      (∀ p ∈ rem, (hget s.2 p.2.id.1 p.2.id.2).isSome ∧ J p.2.id.1 p.2.id.2 = none) →
      ∀ Q, (∀ a' w', Post k N M J s.2 w (fun fr H => fr = t.1 ∧ H = t.2) a' w' → Q Exit.normal a' w') → wpOps P ops Q l ⟨tmps, []⟩ w := by
  induction hsch with
  | nil =>
    intro _ _ s M J tmps w hF hH hM hrun _ Q hQ
    refine hQ _ _ ⟨M, J, t.1, t.2, (Step.refl k hH hM).eqv hrun.2, ⟨hF.1, fun u => ?_⟩, rfl, rfl, rfl⟩
    rw [← hrun.1]
    exact hF.2 u
  | cons A i r B l hi hs ih =>
    intro hops hnd s M J tmps w hF hH hM hrun hids Q hQ
    have hmem : (i, r) ∈ A ++ (i, r) :: B := List.mem_append_right _ (List.mem_cons_self ..)
    have hsub : ∀ p ∈ A ++ B, p ∈ A ++ (i, r) :: B := fun p hp => (List.mem_append.1 hp).elim (fun h => List.mem_append_left _ h) fun h => List.mem_append_right _ (List.mem_cons_of_mem _ h)
    obtain ⟨o0, ho, hc⟩ := hops _ hmem
    obtain ⟨c1, c2, c3⟩ := coper_some hc
    simp only [List.map_append, List.map_cons] at hrun
    have hhave : Have (A.map (·.2) ++ r :: B.map (·.2)) s.2 := by
      intro q hq _
      have : ∃ p ∈ A ++ (i, r) :: B, p.2 = q := by
        rcases List.mem_append.1 hq with h | h
        · obtain ⟨p, hp, rfl⟩ := List.mem_map.1 h
          exact ⟨p, List.mem_append_left _ hp, rfl⟩
        · cases h with
          | head => exact ⟨(i, r), hmem, rfl⟩
          | tail _ h =>
            obtain ⟨p, hp, rfl⟩ := List.mem_map.1 h
            exact ⟨p, List.mem_append_right _ (List.mem_cons_of_mem _ hp), rfl⟩
      obtain ⟨p, hp, rfl⟩ := this
      exact (hids p hp).1
    obtain ⟨s1, hstep, hrest⟩ := Run.bubble hrun (fun a ha => by
      obtain ⟨p, hp, rfl⟩ := List.mem_map.1 ha
      exact hi p hp) hhave
    have hid := hids _ hmem
    have hne : ∀ p ∈ A ++ B, p.2.id ≠ r.id := by
      intro p hp e
      simp only [List.map_append, List.map_cons] at hnd
      rw [List.nodup_append] at hnd
      rcases List.mem_append.1 hp with h | h
      · exact hnd.2.2 p.2.id (List.mem_map.2 ⟨p, h, rfl⟩) r.id (List.mem_cons_self ..) e
      · have := (List.nodup_cons.1 hnd.2.1).1
        exact this (List.mem_map.2 ⟨p, h, e⟩)
    have hnd' : ((A ++ B).map (·.2.id)).Nodup := by
      simp only [List.map_append, List.map_cons] at hnd ⊢
      rw [List.nodup_append] at hnd ⊢
      exact ⟨hnd.1, (List.nodup_cons.1 hnd.2.1).2, fun a ha b hb => hnd.2.2 a ha b (List.mem_cons_of_mem _ hb)⟩
    have hkeep : ∀ p ∈ A ++ B, (hget s1.2 p.2.id.1 p.2.id.2).isSome := by
      intro p hp
      obtain ⟨_, _, _, _, _, a4, a5⟩ := hstep.ext (s2 := s) (fun _ _ => rfl) (fun _ _ => rfl) (fun _ => ⟨hid.1, hid.1⟩)
      by_cases hw : (p.2.id.1, p.2.id.2) ∈ r.wr
      · exact a5 _ _ hw
      · rw [a4 _ _ hw]
        exact (hids p (hsub p hp)).1
    have hrest' : Run P ((A ++ B).map (·.2)) s1 t := by rw [List.map_append]; exact hrest
    have go : ∀ (M' : Mem) (J' : Inj) (tmps' : Array Value) (w' : World), Step k M J s.2 w M' J' s1.2 w' → FRep N M' J' s1.1 tmps' → (∀ g i, ¬ (g = r.id.1 ∧ i = r.id.2) → J' g i = J g i) → wpOps P ops Q l ⟨tmps', []⟩ w' := by
      intro M' J' tmps' w' hst hF' hJ'
      refine ih (fun p hp => hops p (hsub p hp)) hnd' s1 M' J' tmps' w' hF' hst.hrep hst.mrep hrest' (fun p hp => ⟨hkeep p hp, ?_⟩) Q fun a' w'' hp => hQ a' w'' ?_
      · rw [hJ' _ _ fun ⟨e1, e2⟩ => hne p hp (Prod.ext e1 e2)]
        exact (hids p (hsub p hp)).2
      · obtain ⟨M2, J2, fr2, H2, q1, q2, q3, q4⟩ := hp
        exact ⟨M2, J2, fr2, H2, hst.trans q1, q2, q3, q4⟩
    obtain ⟨hf, hcase⟩ := hstep
    rcases hcase with ⟨h1, o, h2, h3, h4, h5⟩ | ⟨h1, h2, h3, h4, f, args, h5, h6⟩ | ⟨h1, h2, h3, h4, h5⟩
    · have hw := gok_sound hF c2 h1
      have hcop : cop P o0.op = some o := by
        rw [h2] at c3
        unfold cact at c3
        split at c3
        · cases c3
        · cases c3
        · simp only [Option.map_eq_some_iff, IAct.op.injEq] at c3
          obtain ⟨a, ha, rfl⟩ := c3
          exact ha
      obtain ⟨cv, w', J', hrun', hrep, hext, hst, hJ'⟩ := cop_sound (ds := []) hcop hF hH hM (.inl hid.1) hid.2 h3
      simp only [wpOps, ho, hw, if_true]
      left
      have hnext : wpOps P ops Q l (Act.put ⟨tmps, []⟩ o0.dst cv) w' := by
        rw [put_defers]
        refine go M J' _ w' (hst k) ?_ hJ'
        rw [hf]
        exact (hF.ext hext).put c1 hrep
      rcases hrun' with hrun' | ⟨hrun', rfl⟩
      · simp only [Oper.wp, hrun', Oper.upon]; exact hnext
      · simp only [Oper.wp, hrun', Oper.upon]; exact hnext
    · have hw := gok_sound hF c2 h1
      simp only [wpOps, ho, hw, if_true]
      left
      rw [h5] at c3
      unfold cact at c3
      split at c3
      · rename_i f' args' ts hop
        simp only [Option.some.injEq, IAct.call.injEq] at c3
        obtain ⟨rfl, rfl⟩ := c3
        obtain ⟨e1, e2⟩ := avals_rep (ds := []) hF args'.toList _ rfl args' rfl
        have hexec : (execOp (Act.eval ⟨tmps, []⟩) o0).run P w = .ok (.enter f' (args'.map (Act.eval ⟨tmps, []⟩))) w := by
          have he : Act.eval ⟨tmps, []⟩ (.func f') = .func (.func f') #[] #[] := rfl
          simp only [execOp, hop, resolve, he, Deferred.ofValue, Sem.run_bind, Sem.run_pure, Result.andThen_ok, invoke]
          rw [show #[] ++ args'.map (Act.eval ⟨tmps, []⟩) ++ #[] = args'.map (Act.eval ⟨tmps, []⟩) by simp]
          exact run_callFunc h6.1 _ _
        simp only [Oper.wp, hexec, Oper.upon]
        refine (h6.2 M J w _ e1 e2 hM).mono ?_
        rintro e w' ⟨cv, M', rfl, p1, p2, p3, p4, p5, p6, p7, p8, p9⟩
        simp only
        rw [put_defers]
        refine go M' J _ w' ((PureRun.step k hH p1 p2 p3 p4 p5 p6 p7 p8).eqv fun a b => (h4 a b).symm) ?_ fun _ _ _ => rfl
        rw [hf]
        exact (hF.ext ⟨p1, fun _ _ _ h => h⟩).put c1 (p9 J)
      · cases c3
      · simp only [Option.map_eq_some_iff] at c3
        obtain ⟨a, _, ha⟩ := c3
        cases ha
    · have hw := gok_sound hF c2 h1
      simp only [wpOps, ho, hw, Bool.false_eq_true, if_false]
      rw [put_defers]
      refine go M J _ w ((Step.refl k hH hM).eqv fun a b => (h5 a b).symm) ?_ fun _ _ _ => rfl
      rw [hf, h4]
      exact hF.put c1 (.sc _)

/-! The orders that the model draws. -/

/-- a stands before b, through edges that bind. -/
inductive Bef (af : Nat → List Nat) : Nat → Nat → Prop
  | base {a b : Nat} (h : a ∈ af b) : Bef af a b
  | step {a m b : Nat} (h : m ∈ af b) (h' : Bef af a m) : Bef af a b

theorem Bef.closed {af : Nat → List Nat} {D : Nat → Prop} (hD : ∀ j, D j → ∀ k ∈ af j, D k) {a b : Nat} (h : Bef af a b) (hb : ∀ k ∈ af b, D k) : D a := by
  induction h with
  | base h => exact hb _ h
  | step h _ ih => exact ih (hD _ (hb _ h))

def afterOf (ops : Array Oper) (j : Nat) : List Nat := match ops[j]? with | some o => cafter o | none => []

/-- An order of the numbers that are left: what I does not let pass stands behind. -/
inductive SchedI (I : Nat → Nat → Prop) : List Nat → List Nat → Prop
  | nil : SchedI I [] []
  | cons (A : List Nat) (i : Nat) (B : List Nat) (l : List Nat) (h : ∀ a ∈ A, I a i) (hs : SchedI I (A ++ B) l) : SchedI I (A ++ i :: B) (i :: l)

theorem SchedI.to {I : Nat → Nat → Prop} {R : Nat → RRec} (hI : ∀ a b, I a b → indep (R a) (R b) = true) {rem l : List Nat} (h : SchedI I rem l) : Sched (rem.map fun j => (j, R j)) l := by
  induction h with
  | nil => exact .nil
  | cons A i B l h _ ih =>
    simp only [List.map_append, List.map_cons] at ih ⊢
    refine .cons _ _ _ _ _ (fun a ha => ?_) ih
    obtain ⟨a', ha', rfl⟩ := List.mem_map.1 ha
    exact hI _ _ (h a' ha')

theorem SchedI.nil_inv {I : Nat → Nat → Prop} {rem l : List Nat} (h : SchedI I rem l) (e : rem = []) : l = [] := by
  cases h with
  | nil => rfl
  | cons => simp at e

/-- What nothing passes stands last. -/
theorem SchedI.last {I : Nat → Nat → Prop} {n : Nat} (hn : ∀ a, ¬ I a n) {all l : List Nat} (h : SchedI I all l) : ∀ rem : List Nat, n ∉ rem → all = rem ++ [n] → ∃ l', l = l' ++ [n] ∧ SchedI I rem l' := by
  induction h with
  | nil => intro rem _ e; simp at e
  | cons A i B l h hs ih =>
    intro rem hnr e
    rcases List.eq_nil_or_concat B with rfl | ⟨B', b, rfl⟩
    · have h1 : A = rem ∧ i = n := by
        have := List.append_inj' e rfl
        exact ⟨this.1, by simpa using this.2⟩
      obtain ⟨rfl, rfl⟩ := h1
      cases A with
      | nil =>
        have := hs.nil_inv rfl
        subst this
        exact ⟨[], rfl, .nil⟩
      | cons a A => exact absurd (h a (List.mem_cons_self ..)) (hn a)
    · have h1 : A ++ i :: B' = rem ∧ b = n := by
        rw [show A ++ i :: (B'.concat b) = (A ++ i :: B') ++ [b] by simp] at e
        have := List.append_inj' e rfl
        exact ⟨this.1, by simpa using this.2⟩
      obtain ⟨rfl, rfl⟩ := h1
      obtain ⟨l', h2, h3⟩ := ih (A ++ B') (by simp at hnr ⊢; exact ⟨hnr.1, hnr.2.2⟩) (by simp)
      exact ⟨i :: l', by rw [h2]; rfl, .cons _ _ _ _ h h3⟩

theorem linearise_schedI (ops : Array Oper) (I : Nat → Nat → Prop) (hlt : ∀ j, ∀ k ∈ afterOf ops j, k < j) (hind : ∀ a b, a < b → b < ops.size → Bef (afterOf ops) a b ∨ I a b) (t : Nat) :
    SchedI I (List.range ops.size) (Region.linearise .any ops t) := by
  have key : ∀ (fuel t : Nat) (listed : Array Bool) (acc : List Nat), listed.size = ops.size → (∀ j, listed.getD j false = true → ∀ k ∈ afterOf ops j, listed.getD k false = true) →
      ((List.range ops.size).filter fun j => !listed.getD j true).length ≤ fuel →
      ∃ l, Region.linearise.go .any ops fuel t listed acc = acc.reverse ++ l ∧ SchedI I ((List.range ops.size).filter fun j => !listed.getD j true) l := by
    intro fuel
    induction fuel with
    | zero =>
      intro t listed acc _ _ hf
      have : ((List.range ops.size).filter fun j => !listed.getD j true) = [] := List.eq_nil_of_length_eq_zero (by omega)
      rw [this]
      exact ⟨[], by simp [Region.linearise.go], .nil⟩
    | succ fuel ih =>
      intro t listed acc hsz hcl hf
      unfold Region.linearise.go
      simp only
      generalize hrs : ((List.range ops.size).filter fun i => !listed.getD i true && ((ops[i]?).map (fun o => o.after.all fun e => !Region.binds .any e || listed.getD e.on false)).getD false) = rs
      have hrdy : ∀ i, i ∈ rs ↔ i < ops.size ∧ listed.getD i true = false ∧ ∀ k ∈ afterOf ops i, listed.getD k false = true := by
        intro i
        rw [← hrs, List.mem_filter, List.mem_range]
        constructor
        · rintro ⟨h1, h2⟩
          simp only [Bool.and_eq_true, Bool.not_eq_true'] at h2
          refine ⟨h1, h2.1, fun k hk => ?_⟩
          have ho : ops[i]? = some ops[i] := Array.getElem?_eq_getElem h1
          have h3 := h2.2
          rw [ho] at h3
          simp only [Option.map_some, Option.getD_some, Array.all_eq_true] at h3
          simp only [afterOf, ho, cafter, List.mem_map, List.mem_filter] at hk
          obtain ⟨e, ⟨he, hbind⟩, rfl⟩ := hk
          obtain ⟨q, hq, rfl⟩ := List.mem_iff_getElem.1 he
          simp at hq
          have := h3 q hq
          simp only [Array.getElem_toList] at hbind ⊢
          rw [hbind] at this
          simpa using this
        · rintro ⟨h1, h2, h3⟩
          refine ⟨h1, ?_⟩
          have ho : ops[i]? = some ops[i] := Array.getElem?_eq_getElem h1
          simp only [h2, Bool.not_false, Bool.true_and, ho, Option.map_some, Option.getD_some, Array.all_eq_true]
          intro q hq
          cases hb : Region.binds .any ops[i].after[q] with
          | false => simp
          | true =>
            simp only [Bool.not_true, Bool.false_or]
            refine h3 _ ?_
            simp only [afterOf, ho, cafter, List.mem_map, List.mem_filter]
            exact ⟨ops[i].after[q], ⟨by simp, hb⟩, rfl⟩
      have hgetD : ∀ j, j < ops.size → listed.getD j true = listed.getD j false := by
        intro j hj
        have : j < listed.size := by omega
        simp [Array.getD, this]
      by_cases hemp : ((List.range ops.size).filter fun j => !listed.getD j true) = []
      · have : rs = [] := by
          cases hr : rs with
          | nil => rfl
          | cons i r =>
            have hi := (hrdy i).1 (by rw [hr]; exact List.mem_cons_self ..)
            have : i ∈ ((List.range ops.size).filter fun j => !listed.getD j true) := List.mem_filter.2 ⟨List.mem_range.2 hi.1, by simp [hi.2.1]⟩
            rw [hemp] at this
            cases this
        rw [this, hemp]
        exact ⟨[], by simp, .nil⟩
      · -- the first that is not listed is ready
        have hne : rs ≠ [] := by
          intro hnil
          have hall : ∀ j, j < ops.size → listed.getD j false = true := by
            intro j
            induction j using Nat.strongRecOn with
            | _ j ihj =>
              intro hj
              cases hl : listed.getD j false with
              | true => rfl
              | false =>
                have : j ∈ rs := (hrdy j).2 ⟨hj, by rw [hgetD j hj]; exact hl, fun k hk => ihj k (hlt j k hk) (by have := hlt j k hk; omega)⟩
                rw [hnil] at this
                cases this
          apply hemp
          rw [List.filter_eq_nil_iff]
          intro j hj
          have hj := List.mem_range.1 hj
          simp [hgetD j hj, hall j hj]
        have hpos : 0 < rs.length := List.length_pos_iff.2 hne
        have hmod : t % rs.length < rs.length := Nat.mod_lt _ hpos
        rw [List.getElem?_eq_getElem hmod]
        generalize hi : rs[t % rs.length] = i
        have himem : i ∈ rs := hi ▸ List.getElem_mem hmod
        obtain ⟨r1, r2, r3⟩ := (hrdy i).1 himem
        have hifil : i ∈ ((List.range ops.size).filter fun j => !listed.getD j true) := List.mem_filter.2 ⟨List.mem_range.2 r1, by simp [r2]⟩
        obtain ⟨A, B, hAB⟩ := List.append_of_mem hifil
        have hpw : List.Pairwise (· < ·) ((List.range ops.size).filter fun j => !listed.getD j true) := List.Pairwise.filter _ List.pairwise_lt_range
        rw [hAB] at hpw
        have hA : ∀ a ∈ A, a < i := fun a ha => (List.pairwise_append.1 hpw).2.2 a ha i (List.mem_cons_self ..)
        have hB : ∀ b ∈ B, i < b := fun b hb => (List.pairwise_cons.1 (List.pairwise_append.1 hpw).2.1).1 b hb
        have hget' : ∀ j, (listed.setIfInBounds i true).getD j true = (listed.getD j true || decide (j = i)) := by
          intro j
          rw [Array.getD_eq_getD_getElem?, Array.getElem?_setIfInBounds, Array.getD_eq_getD_getElem?]
          by_cases e : i = j
          · subst e
            rw [if_pos rfl, if_pos (by omega)]
            simp
          · rw [if_neg e]
            have : decide (j = i) = false := by simp; exact fun h => e h.symm
            rw [this, Bool.or_false]
        have hget'' : ∀ j, (listed.setIfInBounds i true).getD j false = true ↔ (listed.getD j false = true ∨ j = i) := by
          intro j
          rw [Array.getD_eq_getD_getElem?, Array.getElem?_setIfInBounds, Array.getD_eq_getD_getElem?]
          by_cases e : i = j
          · subst e
            rw [if_pos rfl, if_pos (by omega)]
            simp
          · rw [if_neg e]
            constructor
            · exact fun h => .inl h
            · rintro (h | h)
              · exact h
              · exact absurd h.symm e
        have hfil' : ((List.range ops.size).filter fun j => !(listed.setIfInBounds i true).getD j true) = A ++ B := by
          have h1 : ((List.range ops.size).filter fun j => !(listed.setIfInBounds i true).getD j true) = ((List.range ops.size).filter fun j => !listed.getD j true).filter fun j => !decide (j = i) := by
            rw [List.filter_filter]
            congr 1
            funext j
            rw [hget']
            cases listed.getD j true <;> cases decide (j = i) <;> rfl
          rw [h1, hAB, List.filter_append, List.filter_cons]
          have h2 : A.filter (fun j => !decide (j = i)) = A := List.filter_eq_self.2 fun a ha => by have := hA a ha; simp; omega
          have h3 : B.filter (fun j => !decide (j = i)) = B := List.filter_eq_self.2 fun b hb => by have := hB b hb; simp; omega
          rw [h2, h3]
          simp
        obtain ⟨l, hl1, hl2⟩ := ih (t / rs.length) (listed.setIfInBounds i true) (i :: acc) (by simp [hsz]) (by
          intro j hj k hk
          rw [hget''] at hj ⊢
          left
          rcases hj with hj | rfl
          · exact hcl j hj k hk
          · exact r3 k hk) (by
          rw [hfil']
          rw [hAB] at hf
          simp at hf ⊢
          omega)
        refine ⟨i :: l, by
          show Region.linearise.go .any ops fuel (t / rs.length) (listed.setIfInBounds i true) (i :: acc) = _
          rw [hl1]; simp, ?_⟩
        rw [hfil'] at hl2
        rw [hAB]
        refine .cons _ _ _ _ (fun a' ha' => ?_) hl2
        rcases hind a' i (hA a' ha') r1 with hb | hb
        · exfalso
          have hlist := hb.closed (D := fun j => listed.getD j false = true) hcl r3
          have hun : a' ∈ ((List.range ops.size).filter fun j => !listed.getD j true) := by rw [hAB]; exact List.mem_append_left _ ha'
          have := (List.mem_filter.1 hun)
          rw [hgetD a' (List.mem_range.1 this.1), hlist] at this
          simp at this
        · exact hb
  obtain ⟨l, h1, h2⟩ := key ops.size t (Array.replicate ops.size false) [] (by simp) (by
    intro j hj
    rw [Array.getD_eq_getD_getElem?, Array.getElem?_replicate] at hj
    split at hj <;> simp at hj) (Nat.le_trans (List.length_filter_le _ _) (by simp))
  have hnil : ((List.range ops.size).filter fun j => !(Array.replicate ops.size false).getD j true) = List.range ops.size := by
    rw [List.filter_eq_self]
    intro j hj
    have hj := List.mem_range.1 hj
    simp [Array.getD, hj]
  rw [hnil] at h2
  unfold Region.linearise
  rw [h1]
  simpa using h2

theorem linearise_sched (ops : Array Oper) (R : Nat → RRec) (hlt : ∀ j, ∀ k ∈ afterOf ops j, k < j) (hind : ∀ a b, a < b → b < ops.size → Bef (afterOf ops) a b ∨ indep (R a) (R b) = true) (t : Nat) :
    Sched ((List.range ops.size).map fun j => (j, R j)) (Region.linearise .any ops t) :=
  (linearise_schedI ops (fun a b => indep (R a) (R b) = true) hlt hind t).to fun _ _ h => h

end Go.Av
