import Derived.Test.YtbpmbofinoinmaaAv25
namespace Go.Av

/-! A region whose order is open, with one operation in it that all others stand before or behind. -/

theorem Bef.trans {af : Nat → List Nat} {a b c : Nat} (h1 : Bef af a b) (h2 : Bef af b c) : Bef af a c := by
  induction h2 with
  | base h => exact .step h h1
  | step h _ ih => exact .step h ih

/-- What everything stands before or behind parts a schedule. -/
theorem SchedI.mid {I : Nat → Nat → Prop} {n : Nat} {B : List Nat} {all l : List Nat} (h : SchedI I all l) : ∀ A : List Nat, all = A ++ n :: B → (∀ a ∈ A, ¬ I a n) → (∀ a ∈ A, ∀ b ∈ B, ¬ I a b) → (∀ b ∈ B, ¬ I n b) →
    ∃ l1 l2, l = l1 ++ n :: l2 ∧ SchedI I A l1 ∧ SchedI I B l2 := by
  induction h with
  | nil => intro A e; simp at e
  | cons A0 i B0 l h hs ih =>
    intro A e h1 h2 h3
    rcases List.append_eq_append_iff.1 e with ⟨A2, e1, e2⟩ | ⟨A2, e1, e2⟩
    · cases A2 with
      | nil =>
        simp only [List.append_nil] at e1
        subst e1
        simp only [List.nil_append, List.cons.injEq] at e2
        obtain ⟨rfl, rfl⟩ := e2
        cases A with
        | nil => exact ⟨[], l, rfl, .nil, hs⟩
        | cons a A => exact absurd (h a (List.mem_cons_self ..)) (h1 a (List.mem_cons_self ..))
      | cons x A2 =>
        simp only [List.cons_append, List.cons.injEq] at e2
        obtain ⟨rfl, rfl⟩ := e2
        subst e1
        obtain ⟨l1, l2, q1, q2, q3⟩ := ih (A0 ++ A2) (by simp) (fun a ha => h1 a ((List.mem_append.1 ha).elim (fun h => List.mem_append_left _ h) fun h => List.mem_append_right _ (List.mem_cons_of_mem _ h)))
          (fun a ha => h2 a ((List.mem_append.1 ha).elim (fun h => List.mem_append_left _ h) fun h => List.mem_append_right _ (List.mem_cons_of_mem _ h))) h3
        exact ⟨i :: l1, l2, by rw [q1]; rfl, .cons _ _ _ _ h q2, q3⟩
    · cases A2 with
      | nil =>
        simp only [List.append_nil] at e1
        subst e1
        simp only [List.nil_append, List.cons.injEq] at e2
        obtain ⟨rfl, rfl⟩ := e2
        cases A0 with
        | nil => exact ⟨[], l, rfl, .nil, hs⟩
        | cons a A0 => exact absurd (h a (List.mem_cons_self ..)) (h1 a (List.mem_cons_self ..))
      | cons x A2 =>
        simp only [List.cons_append, List.cons.injEq] at e2
        obtain ⟨rfl, rfl⟩ := e2
        subst e1
        exact absurd (h n (List.mem_append_right _ (List.mem_cons_self ..))) (h3 i (List.mem_append_right _ (List.mem_cons_self ..)))

theorem SchedI.weaken {I I' : Nat → Nat → Prop} {all l : List Nat} (h : SchedI I all l) : (∀ a b, a ∈ all → b ∈ all → I a b → I' a b) → SchedI I' all l := by
  induction h with
  | nil => exact fun _ => .nil
  | cons A i B l h hs ih =>
    intro hw
    refine .cons A i B l (fun a ha => hw a i (List.mem_append_left _ ha) (List.mem_append_right _ (List.mem_cons_self ..)) (h a ha)) (ih fun a b ha hb hi => hw a b ?_ ?_ hi)
    · exact (List.mem_append.1 ha).elim (fun h => List.mem_append_left _ h) fun h => List.mem_append_right _ (List.mem_cons_of_mem _ h)
    · exact (List.mem_append.1 hb).elim (fun h => List.mem_append_left _ h) fun h => List.mem_append_right _ (List.mem_cons_of_mem _ h)

theorem HRep.dead {M J} {H : Heap} {h : Array Obj} {n : Nat} (hH : HRep M J H h) : HRep M J (H ++ [List.replicate n .dead]) h ∧ (∀ g i, liveAt (H ++ [List.replicate n Blk.dead]) g i → liveAt H g i) ∧ ∀ j, J H.length j = none := by
  have hdead : ∀ g i x, hget (H ++ [List.replicate n Blk.dead]) g i = some x → x.live = true → hget H g i = some x := by
    intro g i x hx hl
    rw [hget_append] at hx
    split at hx
    · rw [List.getElem?_replicate] at hx
      split at hx
      · injection hx with hx; subst hx; cases hl
      · cases hx
    · exact hx
  refine ⟨⟨fun g i x hx hl => hH.blk g i x (hdead g i x hx hl) hl, fun g i g' i' l l' β ⟨x, hx, hl⟩ ⟨y, hy, hl'⟩ => hH.inj g i g' i' l l' β ⟨x, hdead _ _ _ hx hl, hl⟩ ⟨y, hdead _ _ _ hy hl', hl'⟩,
    fun g i l β ⟨x, hx, hl⟩ => hH.out g i l β ⟨x, hdead _ _ _ hx hl, hl⟩, fun g i l hJ => ?_⟩, fun g i ⟨x, hx, hl⟩ => ⟨x, hdead g i x hx hl, hl⟩, fun j => ?_⟩
  · have := hH.dom g i l hJ
    refine ⟨?_, this.2⟩
    rw [hget_append]
    split
    · rename_i e
      subst e
      have h2 := this.1
      simp [hget] at h2
    · exact this.1
  · cases e : J H.length j with
    | none => rfl
    | some l =>
      have := (hH.dom _ _ l e).1
      simp [hget] at this

/-- A stretch of a region's operations in whatever order. -/
theorem run_seg {P : Program} {N k : Nat} {ops : Array Oper} {s : Nat} {xs : List IOper} {fr : Fr} {H : Heap} {R : List RRec} {fr' : Fr} {H' : Heap} (hx : ∀ (j : Nat) x, xs[j]? = some x → ∃ o, ops[s + j]? = some o ∧ coper P N ops o = some x)
    (hrun : DRun P H.length 0 xs fr (H ++ [List.replicate xs.length .dead]) R fr' H') {I : Nat → Nat → Prop} (hI : ∀ a b, I a b → ∃ ra rb, R[a - s]? = some ra ∧ R[b - s]? = some rb ∧ indep ra rb = true)
    {l : List Nat} (hs : SchedI I (List.range' s xs.length) l) {M J tmps} {w : World} (hF : FRep N M J fr tmps) (hH : HRep M J H w.heap) (hM : MRep M w.heap)
    (Q : Exit → Act → World → Prop) (hQ : ∀ a' w', Post k N M J H w (fun fr H => fr = fr' ∧ H = H') a' w' → Q Exit.normal a' w') : wpOps P ops Q l ⟨tmps, []⟩ w := by
  obtain ⟨hrx, hrid⟩ := hrun.recs
  have hRlen : R.length = xs.length := by rw [← hrx]; simp
  let R' : Nat → RRec := fun j => R.getD (j - s) ⟨⟨none, none, .call 0 []⟩, (0, 0), .undef, [], []⟩
  have hR' : ∀ j, j < xs.length → R[j]? = some (R' (s + j)) := by
    intro j hj
    have : j < R.length := by omega
    simp [R', List.getD, this]
  have hs' := hs.to (R := R') fun a b hab => by
    obtain ⟨ra, rb, h1, h2, h3⟩ := hI a b hab
    simp only [R', List.getD, h1, h2, Option.getD_some]
    exact h3
  have hrem : ((List.range' s xs.length).map fun j => (j, R' j)).map (·.2) = R := by
    apply List.ext_getElem?
    intro j
    rw [List.map_map, List.getElem?_map]
    by_cases hj : j < xs.length
    · rw [hR' j hj, List.getElem?_range' hj]
      simp
    · have h1 : (List.range' s xs.length)[j]? = none := List.getElem?_eq_none (by rw [List.length_range']; omega)
      have h2 : R[j]? = none := List.getElem?_eq_none (by omega)
      rw [h1, h2]
      rfl
  obtain ⟨hH0, hlive, hJ0⟩ := hH.dead (n := xs.length)
  have hmem : ∀ p ∈ (List.range' s xs.length).map (fun j => (j, R' j)), ∃ j, j < xs.length ∧ p = (s + j, R' (s + j)) := by
    intro p hp
    obtain ⟨j, hj, rfl⟩ := List.mem_map.1 hp
    have := List.mem_range'_1.1 hj
    exact ⟨j - s, by omega, by rw [show s + (j - s) = j by omega]⟩
  have hids : ∀ j, j < xs.length → (R' (s + j)).id = (H.length, j) := fun j hj => by rw [hrid j _ (hR' j hj), Nat.zero_add]
  refine run_sched (k := k) (N := N) (t := (fr', H')) hs' (fun p hp => ?_) ?_ (fr, H ++ [List.replicate xs.length .dead]) M J tmps w hF hH0 hM (by rw [hrem]; exact hrun.run) (fun p hp => ?_) Q fun a' w' hp => hQ a' w' ?_
  · obtain ⟨j, hj, rfl⟩ := hmem p hp
    have h3 : xs[j]? = some (R' (s + j)).x := by rw [← hrx, List.getElem?_map, hR' j hj]; rfl
    exact hx j _ h3
  · rw [List.map_map]
    have he : (List.range' s xs.length).map ((fun x : Nat × RRec => x.2.id) ∘ fun j => (j, R' j)) = (List.range' s xs.length).map fun j => (H.length, j - s) :=
      List.map_congr_left fun j hj => by
        have := List.mem_range'_1.1 hj
        show (R' j).id = _
        rw [show j = s + (j - s) by omega, hids _ (by omega)]
        simp
    rw [he]
    exact List.Pairwise.map _ (R := fun a b => s ≤ a ∧ a < b) (fun a b hab e => by injection e with e1 e2; omega) (List.Pairwise.imp_of_mem (fun {a b} ha _ hab => ⟨(List.mem_range'_1.1 ha).1, hab⟩) List.pairwise_lt_range')
  · obtain ⟨j, hj, rfl⟩ := hmem p hp
    rw [hids j hj]
    refine ⟨?_, hJ0 j⟩
    rw [hget_append, if_pos rfl, List.getElem?_replicate, if_pos hj]
    rfl
  · obtain ⟨M2, J2, fr2, H2, q1, q2, q3, q4⟩ := hp
    exact ⟨M2, J2, fr2, H2, ⟨q1.m, q1.j, q1.hrep, q1.mrep, q1.os, q1.tape, q1.output, q1.size, fun β o ho hn => q1.frame β o ho fun g i l hl hJ => hn g i l (hlive g i hl) hJ,
      fun β o ho => or2 (q1.fresh β o ho) (fun h => h) fun h => or2 h (fun h => h) fun ⟨g, i, l, a, b, c⟩ => ⟨g, i, l, hlive g i a, b, c⟩,
      fun g i l β a b c => or2 (q1.live g i l β a b c) (fun ⟨g0, i0, l0, a, b, c⟩ => ⟨g0, i0, l0, hlive g0 i0 a, b, c⟩) fun h => h⟩, q2, q3, q4⟩

/-- The pairs of a stretch: an edge, or no clash. -/
def SegOK (af : List (List Nat)) (s : Nat) (R : List RRec) : Prop :=
  ∀ a b ra rb, a < b → R[a]? = some ra → R[b]? = some rb → befB af af.length (s + a) (s + b) = true ∨ indep ra rb = true

theorem AWP.drawMid {P : Program} {N k : Nat} {fr : Fr} {H : Heap} {Q : Exit → Fr → Heap → Prop} {zs xs ys : List IOper} {y : IOper} {af : List (List Nat)} {R1 : List RRec} {fr1 : Fr} {H1 : Heap} (hz : zs = xs ++ y :: ys) (hp : P.follows .mixedOrders = true)
    (hlow : lowB 0 af = true) (h1 : ∀ j, j < xs.length → befB af af.length j xs.length = true) (h2 : ∀ j, j < ys.length → befB af af.length xs.length (xs.length + 1 + j) = true)
    (hrun : DRun P H.length 0 xs fr (H ++ [List.replicate xs.length .dead]) R1 fr1 H1) (hc1 : SegOK af 0 R1)
    (h : Reg P N k [y] fr1 H1 fun fr2 H2 => ∃ R2 fr3 H3, DRun P H2.length 0 ys fr2 (H2 ++ [List.replicate ys.length .dead]) R2 fr3 H3 ∧ SegOK af (xs.length + 1) R2 ∧ Q .normal fr3 H3) : AWP P N k (.draw zs af) Q fr H := by
  intro c0 hc M J tmps w hF hH hM
  cases c0 with
  | region id ops draw =>
    simp only [ccode] at hc
    split at hc
    · rename_i us hus
      cases draw with
      | false => cases hc
      | true =>
        injection hc with hc
        injection hc with hc1' hc2'
        subst hc1'; subst hc2'
        refine wp_region_draw fun t => ?_
        rw [hp]
        have hsch : Region.schedule true ops t = Region.linearise .any ops t := by simp [Region.schedule]
        rw [hsch]
        obtain ⟨hlen, hgx⟩ := copers_len _ _ hus
        have hsz : ops.size = xs.length + (ys.length + 1) := by
          have e1 : us.length = ops.size := by rw [hlen]; simp
          rw [← e1, hz]
          simp
        have haf : ∀ j l, (ops.toList.map cafter)[j]? = some l → afterOf ops j = l := by
          intro j l hj
          rw [List.getElem?_map, Array.getElem?_toList] at hj
          unfold afterOf
          cases ho : ops[j]? with
          | none => rw [ho] at hj; cases hj
          | some o => rw [ho] at hj; simpa using hj
        have hafl : (ops.toList.map cafter).length = ops.size := by simp
        have hops : ∀ (j : Nat) x, us[j]? = some x → ∃ o, ops[j]? = some o ∧ coper P N ops o = some x := by
          intro j x hj
          have hlt := (List.getElem?_eq_some_iff.1 hj).1
          have ho : ops[j]? = some ops[j] := Array.getElem?_eq_getElem (by rw [hlen] at hlt; simpa using hlt)
          obtain ⟨x', e1, e2⟩ := hgx j ops[j] (by rw [Array.getElem?_toList]; exact ho)
          rw [hj] at e1
          injection e1 with e1
          subst e1
          exact ⟨_, ho, e2⟩
        let I : Nat → Nat → Prop := fun a b => (b < xs.length ∧ a < b ∧ ∃ ra rb, R1[a]? = some ra ∧ R1[b]? = some rb ∧ indep ra rb = true) ∨ (xs.length < a ∧ a < b ∧ b < ops.size ∧ ¬ Bef (afterOf ops) a b)
        have hs := linearise_schedI ops I (fun j kk hk => by
          have hl : (ops.toList.map cafter)[j]? = some (afterOf ops j) := by
            rw [List.getElem?_map, Array.getElem?_toList]
            unfold afterOf at hk ⊢
            cases ho : ops[j]? with
            | none => rw [ho] at hk; cases hk
            | some o => rfl
          have := lowB_sound _ 0 hlow j _ hl kk hk
          omega) (fun a b hab hb => by
          obtain ⟨hrx1, _⟩ := hrun.recs
          have hRlen1 : R1.length = xs.length := by rw [← hrx1]; simp
          rcases Nat.lt_trichotomy b xs.length with hbx | hbx | hbx
          · have ea : R1[a]? = some (R1[a]'(by omega)) := List.getElem?_eq_getElem (by omega)
            have eb : R1[b]? = some (R1[b]'(by omega)) := List.getElem?_eq_getElem (by omega)
            rcases hc1 a b _ _ hab ea eb with h3 | h3
            · rw [Nat.zero_add, Nat.zero_add] at h3
              exact .inl (befB_sound haf _ _ _ h3)
            · exact .inr (.inl ⟨hbx, hab, _, _, ea, eb, h3⟩)
          · subst hbx
            exact .inl (befB_sound haf _ _ _ (h1 a hab))
          · have hnb : Bef (afterOf ops) xs.length b := by
              have := h2 (b - (xs.length + 1)) (by omega)
              rw [show xs.length + 1 + (b - (xs.length + 1)) = b by omega] at this
              exact befB_sound haf _ _ _ this
            rcases Nat.lt_trichotomy a xs.length with hax | hax | hax
            · exact .inl ((befB_sound haf _ _ _ (h1 a hax)).trans hnb)
            · subst hax
              exact .inl hnb
            · by_cases hB : Bef (afterOf ops) a b
              · exact .inl hB
              · exact .inr (.inr ⟨hax, hab, hb, hB⟩)) t
        have hsplit : List.range ops.size = List.range' 0 xs.length ++ xs.length :: List.range' (xs.length + 1) ys.length := by
          rw [List.range_eq_range', hsz, ← List.range'_append_1, Nat.zero_add, List.range'_succ]
        obtain ⟨l1, l2, e1, e2, e3⟩ := hs.mid (List.range' 0 xs.length) hsplit
          (fun a ha hi => by
            have := List.mem_range'_1.1 ha
            rcases hi with hi | hi
            · exact absurd hi.1 (Nat.lt_irrefl _)
            · omega)
          (fun a ha b hb hi => by
            have := List.mem_range'_1.1 ha
            have := List.mem_range'_1.1 hb
            rcases hi with hi | hi
            · omega
            · omega)
          (fun b hb hi => by
            have := List.mem_range'_1.1 hb
            rcases hi with hi | hi
            · omega
            · exact absurd hi.1 (Nat.lt_irrefl _))
        rw [e1]
        refine wpOps_append l1 _ _ ?_
        have hget1 : ∀ (j : Nat) x, xs[j]? = some x → ∃ o, ops[0 + j]? = some o ∧ coper P N ops o = some x := by
          intro j x hj
          rw [Nat.zero_add]
          refine hops j x ?_
          rw [hz, List.getElem?_append_left (List.getElem?_eq_some_iff.1 hj).1]
          exact hj
        have e2' : SchedI (fun a b => ∃ ra rb, R1[a - 0]? = some ra ∧ R1[b - 0]? = some rb ∧ indep ra rb = true) (List.range' 0 xs.length) l1 := by
          refine e2.weaken fun a b ha hb hi => ?_
          have h3 := List.mem_range'_1.1 ha
          rcases hi with hi | hi
          · exact hi.2.2
          · omega
        refine run_seg (k := k) (w := { w with drawn := w.drawn + 1 }) hget1 hrun (fun a b h => h) e2' hF hH hM _ fun a' w' hpost => ⟨rfl, ?_⟩
        obtain ⟨M2, J2, fr2, H2, q1, q2, q3, rfl, rfl⟩ := hpost
        obtain ⟨t2, d2⟩ := a'
        cases q3
        have hy : us[xs.length]? = some y := by rw [hz, List.getElem?_append_right (Nat.le_refl _), Nat.sub_self]; rfl
        obtain ⟨oy, ho, hcy⟩ := hops _ _ hy
        have hreg := h ops [xs.length] ⟨⟨oy, ho, hcy⟩, trivial⟩ M2 J2 t2 w' q2 q1.hrep q1.mrep (fun e a w3 => e = .normal ∧ wpOps P ops (fun e a' w' => Post k N M J H w (Q e) a' w') l2 a w3) fun a3 w3 hp3 => ⟨rfl, ?_⟩
        · exact wpOps_append [xs.length] _ _ hreg
        obtain ⟨M3, J3, fr3, H3, r1, r2, r3, R2, fr4, H4, hrun2, hc2, hQ⟩ := hp3
        obtain ⟨t3, d3⟩ := a3
        cases r3
        obtain ⟨hrx2, _⟩ := hrun2.recs
        have hRlen2 : R2.length = ys.length := by rw [← hrx2]; simp
        have hget2 : ∀ (j : Nat) x, ys[j]? = some x → ∃ o, ops[xs.length + 1 + j]? = some o ∧ coper P N ops o = some x := by
          intro j x hj
          refine hops _ x ?_
          rw [hz, List.getElem?_append_right (by omega), show xs.length + 1 + j - xs.length = j + 1 by omega]
          exact hj
        have e3' : SchedI (fun a b => ∃ ra rb, R2[a - (xs.length + 1)]? = some ra ∧ R2[b - (xs.length + 1)]? = some rb ∧ indep ra rb = true) (List.range' (xs.length + 1) ys.length) l2 := by
          refine e3.weaken fun a b ha hb hi => ?_
          have h3 := List.mem_range'_1.1 ha
          have h4 := List.mem_range'_1.1 hb
          rcases hi with hi | hi
          · omega
          · have ea : R2[a - (xs.length + 1)]? = some (R2[a - (xs.length + 1)]'(by omega)) := List.getElem?_eq_getElem (by omega)
            have eb : R2[b - (xs.length + 1)]? = some (R2[b - (xs.length + 1)]'(by omega)) := List.getElem?_eq_getElem (by omega)
            rcases hc2 (a - (xs.length + 1)) (b - (xs.length + 1)) _ _ (by omega) ea eb with h5 | h5
            · rw [show xs.length + 1 + (a - (xs.length + 1)) = a by omega, show xs.length + 1 + (b - (xs.length + 1)) = b by omega] at h5
              exact absurd (befB_sound haf _ _ _ h5) hi.2.2.2
            · exact ⟨_, _, ea, eb, h5⟩
        refine run_seg (k := k) hget2 hrun2 (fun a b h => h) e3' r2 r1.hrep r1.mrep _ fun a' w4 hpost => ?_
        obtain ⟨M5, J5, fr5, H5, s1, s2, s3, rfl, rfl⟩ := hpost
        have q := (q1.trans r1).trans s1
        exact ⟨M5, J5, _, _, ⟨q.m, q.j, q.hrep, q.mrep, q.os, q.tape, q.output, q.size, q.frame, q.fresh, q.live⟩, s2, s3, hQ⟩
    · cases hc
  | _ => simp only [ccode] at hc; (try split at hc) <;> (try cases hc) <;> (try simp at hc)

end Go.Av
