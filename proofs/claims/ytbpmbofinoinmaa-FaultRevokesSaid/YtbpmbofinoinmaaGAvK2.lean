import Derived.Test.YtbpmbofinoinmaaGAvK
namespace Go.Av
theorem Bef.trans {af : Nat → List Nat} {a b c : Nat} (h1 : Bef af a b) (h2 : Bef af b c) : Bef af a c := by
 induction h2 with
 | base h => exact .step h h1
 | step h _ ih => exact .step h ih
theorem SchedI.mid {I : Nat → Nat → Prop} {n : Nat} {B : List Nat} {all l : List Nat} (h : SchedI I all l) : ∀ A : List Nat, all = A ++ n :: B → (∀ a ∈ A, ¬ I a n) → (∀ a ∈ A, ∀ b ∈ B, ¬ I a b) → (∀ b ∈ B, ¬ I n b) →
  ∃ l1 l2, l = l1 ++ n :: l2 ∧ SchedI I A l1 ∧ SchedI I B l2 := by
 induction h with
 | nil => intro A e; simp at e
 | cons A0 i B0 l h hs ih =>
  intro A e h1 h2 h3
  rcases List.append_eq_append_iff.1 e with ⟨A2, e1, e2⟩ | ⟨A2, e1, e2⟩
  ·cases A2 with
   | nil =>
    simp only [List.append_nil] at e1
    subst e1
    simp only [List.nil_append, List.cons.injEq] at e2
    obtain ⟨rfl, rfl⟩ := e2
    cases A with
    | nil => exact ⟨[], l, rfl, .nil, hs⟩
    | cons a A => exact absurd (h a (List.mem_cons_self ..)) (h1 a (List.mem_cons_self ..))
   | cons x A2 =>
    simp only [List.cons_append, List.cons.injEq] at e2
    obtain ⟨rfl, rfl⟩ := e2
    subst e1
    obtain ⟨l1, l2, q1, q2, q3⟩ := ih (A0 ++ A2) (by simp) (fun a ha => h1 a ((List.mem_append.1 ha).elim (fun h => List.mem_append_left _ h) fun h => List.mem_append_right _ (List.mem_cons_of_mem _ h)))
     (fun a ha => h2 a ((List.mem_append.1 ha).elim (fun h => List.mem_append_left _ h) fun h => List.mem_append_right _ (List.mem_cons_of_mem _ h))) h3
    exact ⟨i :: l1, l2, by rw [q1]; rfl, .cons _ _ _ _ h q2, q3⟩
  ·cases A2 with
   | nil =>
    simp only [List.append_nil] at e1
    subst e1
    simp only [List.nil_append, List.cons.injEq] at e2
    obtain ⟨rfl, rfl⟩ := e2
    cases A0 with
    | nil => exact ⟨[], l, rfl, .nil, hs⟩
    | cons a A0 => exact absurd (h a (List.mem_cons_self ..)) (h1 a (List.mem_cons_self ..))
   | cons x A2 =>
    simp only [List.cons_append, List.cons.injEq] at e2
    obtain ⟨rfl, rfl⟩ := e2
    subst e1
    exact absurd (h n (List.mem_append_right _ (List.mem_cons_self ..))) (h3 i (List.mem_append_right _ (List.mem_cons_self ..)))
theorem SchedI.weaken {I I' : Nat → Nat → Prop} {all l : List Nat} (h : SchedI I all l) : (∀ a b, a ∈ all → b ∈ all → I a b → I' a b) → SchedI I' all l := by
 induction h with
 | nil => exact fun _ => .nil
 | cons A i B l h hs ih =>
  intro hw
  refine .cons A i B l (fun a ha => hw a i (List.mem_append_left _ ha) (List.mem_append_right _ (List.mem_cons_self ..)) (h a ha)) (ih fun a b ha hb hi => hw a b ?_ ?_ hi)
  ·exact (List.mem_append.1 ha).elim (fun h => List.mem_append_left _ h) fun h => List.mem_append_right _ (List.mem_cons_of_mem _ h)
  ·exact (List.mem_append.1 hb).elim (fun h => List.mem_append_left _ h) fun h => List.mem_append_right _ (List.mem_cons_of_mem _ h)
theorem HRep.dead {M J} {H : Heap} {h : Array Obj} {n : Nat} (hH : HRep M J H h) : HRep M J (H ++ [List.replicate n .dead]) h ∧ (∀ g i, liveAt (H ++ [List.replicate n Blk.dead]) g i → liveAt H g i) ∧ ∀ j, J H.length j = none := by
 have hdead : ∀ g i x, hget (H ++ [List.replicate n Blk.dead]) g i = some x → x.live = true → hget H g i = some x := by
  intro g i x hx hl
  rw [hget_append] at hx
  split at hx
  ·rw [List.getElem?_replicate] at hx
   split at hx
   ·injection hx with hx; subst hx; cases hl
   ·cases hx
  ·exact hx
 refine ⟨⟨fun g i x hx hl => hH.blk g i x (hdead g i x hx hl) hl, fun g i g' i' l l' β ⟨x, hx, hl⟩ ⟨y, hy, hl'⟩ => hH.inj g i g' i' l l' β ⟨x, hdead _ _ _ hx hl, hl⟩ ⟨y, hdead _ _ _ hy hl', hl'⟩,
  fun g i l β ⟨x, hx, hl⟩ => hH.out g i l β ⟨x, hdead _ _ _ hx hl, hl⟩, fun g i l hJ => ?_⟩, fun g i ⟨x, hx, hl⟩ => ⟨x, hdead g i x hx hl, hl⟩, fun j => ?_⟩
 ·have := hH.dom g i l hJ
  refine ⟨?_, this.2⟩
  rw [hget_append]
  split
  ·rename_i e
   subst e
   have h2 := this.1
   simp [hget] at h2
  ·exact this.1
 ·cases e : J H.length j with
  | none => rfl
  | some l =>
   have := (hH.dom _ _ l e).1
   simp [hget] at this
theorem run_seg {P : Program} {N k : Nat} {ops : Array Oper} {s : Nat} {xs : List IOper} {fr : Fr} {H : Heap} {R : List RRec} {fr' : Fr} {H' : Heap} (hx : ∀ (j : Nat) x, xs[j]? = some x → ∃ o, ops[s + j]? = some o ∧ coper P N ops o = some x)
  (hrun : DRun P H.length 0 xs fr (H ++ [List.replicate xs.length .dead]) R fr' H') {I : Nat → Nat → Prop} (hI : ∀ a b, I a b → ∃ ra rb, R[a - s]? = some ra ∧ R[b - s]? = some rb ∧ indep ra rb = true)
  {l : List Nat} (hs : SchedI I (List.range' s xs.length) l) {M J tmps} {w : World} (hF : FRep N M J fr tmps) (hH : HRep M J H w.heap) (hM : MRep M w.heap)
  (Q : Exit → Act → World → Prop) (hQ : ∀ a' w', Post k N M J H w (fun fr H => fr = fr' ∧ H = H') a' w' → Q Exit.normal a' w') : wpOps P ops Q l ⟨tmps, []⟩ w := by
 obtain ⟨hrx, hrid⟩ := hrun.recs
 have hRlen : R.length = xs.length := by rw [← hrx]; simp
 let R' : Nat → RRec := fun j => R.getD (j - s) ⟨⟨none, none, .call 0 []⟩, (0, 0), .undef, [], []⟩
 have hR' : ∀ j, j < xs.length → R[j]? = some (R' (s + j)) := by
  intro j hj
  have : j < R.length := by omega
  simp [R', List.getD, this]
 have hs' := hs.to (R := R') fun a b hab => by
  obtain ⟨ra, rb, h1, h2, h3⟩ := hI a b hab
  simp only [R', List.getD, h1, h2, Option.getD_some]
  exact h3
 have hrem : ((List.range' s xs.length).map fun j => (j, R' j)).map (·.2) = R := by
  apply List.ext_getElem?
  intro j
  rw [List.map_map, List.getElem?_map]
  by_cases hj : j < xs.length
  ·rw [hR' j hj, List.getElem?_range' hj]
   simp
  ·have h1 : (List.range' s xs.length)[j]? = none := List.getElem?_eq_none (by rw [List.length_range']; omega)
   have h2 : R[j]? = none := List.getElem?_eq_none (by omega)
   rw [h1, h2]
   rfl
 obtain ⟨hH0, hlive, hJ0⟩ := hH.dead (n := xs.length)
 have hmem : ∀ p ∈ (List.range' s xs.length).map (fun j => (j, R' j)), ∃ j, j < xs.length ∧ p = (s + j, R' (s + j)) := by
  intro p hp
  obtain ⟨j, hj, rfl⟩ := List.mem_map.1 hp
  have := List.mem_range'_1.1 hj
  exact ⟨j - s, by omega, by rw [show s + (j - s) = j by omega]⟩
 have hids : ∀ j, j < xs.length → (R' (s + j)).id = (H.length, j) := fun j hj => by rw [hrid j _ (hR' j hj), Nat.zero_add]
 refine run_sched (k := k) (N := N) (t := (fr', H')) hs' (fun p hp => ?_) ?_ (fr, H ++ [List.replicate xs.length .dead]) M J tmps w hF hH0 hM (by rw [hrem]; exact hrun.run) (fun p hp => ?_) Q fun a' w' hp => hQ a' w' ?_
 ·obtain ⟨j, hj, rfl⟩ := hmem p hp
  have h3 : xs[j]? = some (R' (s + j)).x := by rw [← hrx, List.getElem?_map, hR' j hj]; rfl
  exact hx j _ h3
 ·rw [List.map_map]
  have he : (List.range' s xs.length).map ((fun x : Nat × RRec => x.2.id) ∘ fun j => (j, R' j)) = (List.range' s xs.length).map fun j => (H.length, j - s) :=
   List.map_congr_left fun j hj => by
    have := List.mem_range'_1.1 hj
    show (R' j).id = _
    rw [show j = s + (j - s) by omega, hids _ (by omega)]
    simp
  rw [he]
  exact List.Pairwise.map _ (R := fun a b => s ≤ a ∧ a < b) (fun a b hab e => by injection e with e1 e2; omega) (List.Pairwise.imp_of_mem (fun {a b} ha _ hab => ⟨(List.mem_range'_1.1 ha).1, hab⟩) List.pairwise_lt_range')
 ·obtain ⟨j, hj, rfl⟩ := hmem p hp
  rw [hids j hj]
  refine ⟨?_, hJ0 j⟩
  rw [hget_append, if_pos rfl, List.getElem?_replicate, if_pos hj]
  rfl
 ·obtain ⟨M2, J2, fr2, H2, q1, q2, q3, q4⟩ := hp
  exact ⟨M2, J2, fr2, H2, ⟨q1.m, q1.j, q1.hrep, q1.mrep, q1.os, q1.tape, q1.output, q1.size, fun β o ho hn => q1.frame β o ho fun g i l hl hJ => hn g i l (hlive g i hl) hJ,
   fun β o ho => or2 (q1.fresh β o ho) (fun h => h) fun h => or2 h (fun h => h) fun ⟨g, i, l, a, b, c⟩ => ⟨g, i, l, hlive g i a, b, c⟩,
   fun g i l β a b c => or2 (q1.live g i l β a b c) (fun ⟨g0, i0, l0, a, b, c⟩ => ⟨g0, i0, l0, hlive g0 i0 a, b, c⟩) fun h => h, q1.bk⟩, q2, q3, q4⟩
def SegOK (af : List (List Nat)) (s : Nat) (R : List RRec) : Prop :=
 ∀ a b ra rb, a < b → R[a]? = some ra → R[b]? = some rb → befB af af.length (s + a) (s + b) = true ∨ indep ra rb = true
theorem AWP.drawMid {P : Program} {N k : Nat} {fr : Fr} {H : Heap} {Q : Exit → Fr → Heap → Prop} {zs xs ys : List IOper} {y : IOper} {af : List (List Nat)} {R1 : List RRec} {fr1 : Fr} {H1 : Heap} (hz : zs = xs ++ y :: ys) (hp : P.follows .mixedOrders = true)
  (hlow : lowB 0 af = true) (h1 : ∀ j, j < xs.length → befB af af.length j xs.length = true) (h2 : ∀ j, j < ys.length → befB af af.length xs.length (xs.length + 1 + j) = true)
  (hrun : DRun P H.length 0 xs fr (H ++ [List.replicate xs.length .dead]) R1 fr1 H1) (hc1 : SegOK af 0 R1)
  (h : Reg P N k [y] fr1 H1 fun fr2 H2 => ∃ R2 fr3 H3, DRun P H2.length 0 ys fr2 (H2 ++ [List.replicate ys.length .dead]) R2 fr3 H3 ∧ SegOK af (xs.length + 1) R2 ∧ Q .normal fr3 H3) : AWP P N k (.draw zs af) Q fr H := by
 intro c0 hc cx M J tmps w hcx hF hH hM
 cases c0 with
 | region id ops draw =>
  simp only [ccode] at hc
  split at hc
  ·rename_i us hus
   cases draw with
   | false => cases hc
   | true =>
    injection hc with hc
    injection hc with hc1' hc2'
    subst hc1'; subst hc2'
    refine wpIn_region_draw fun t => lift_post hcx ?_
    rw [hp]
    have hsch : Region.schedule true ops t = Region.linearise .any ops t := by simp [Region.schedule]
    rw [hsch]
    obtain ⟨hlen, hgx⟩ := copers_len _ _ hus
    have hsz : ops.size = xs.length + (ys.length + 1) := by
     have e1 : us.length = ops.size := by rw [hlen]; simp
     rw [← e1, hz]
     simp
    have haf : ∀ j l, (ops.toList.map cafter)[j]? = some l → afterOf ops j = l := by
     intro j l hj
     rw [List.getElem?_map, Array.getElem?_toList] at hj
     unfold afterOf
     cases ho : ops[j]? with
     | none => rw [ho] at hj; cases hj
     | some o => rw [ho] at hj; simpa using hj
    have hafl : (ops.toList.map cafter).length = ops.size := by simp
    have hops : ∀ (j : Nat) x, us[j]? = some x → ∃ o, ops[j]? = some o ∧ coper P N ops o = some x := by
     intro j x hj
     have hlt := (List.getElem?_eq_some_iff.1 hj).1
     have ho : ops[j]? = some ops[j] := Array.getElem?_eq_getElem (by rw [hlen] at hlt; simpa using hlt)
     obtain ⟨x', e1, e2⟩ := hgx j ops[j] (by rw [Array.getElem?_toList]; exact ho)
     rw [hj] at e1
     injection e1 with e1
     subst e1
     exact ⟨_, ho, e2⟩
    let I : Nat → Nat → Prop := fun a b => (b < xs.length ∧ a < b ∧ ∃ ra rb, R1[a]? = some ra ∧ R1[b]? = some rb ∧ indep ra rb = true) ∨ (xs.length < a ∧ a < b ∧ b < ops.size ∧ ¬ Bef (afterOf ops) a b)
    have hs := linearise_schedI ops I (fun j kk hk => by
     have hl : (ops.toList.map cafter)[j]? = some (afterOf ops j) := by
      rw [List.getElem?_map, Array.getElem?_toList]
      unfold afterOf at hk ⊢
      cases ho : ops[j]? with
      | none => rw [ho] at hk; cases hk
      | some o => rfl
     have := lowB_sound _ 0 hlow j _ hl kk hk
     omega) (fun a b hab hb => by
     obtain ⟨hrx1, _⟩ := hrun.recs
     have hRlen1 : R1.length = xs.length := by rw [← hrx1]; simp
     rcases Nat.lt_trichotomy b xs.length with hbx | hbx | hbx
     ·have ea : R1[a]? = some (R1[a]'(by omega)) := List.getElem?_eq_getElem (by omega)
      have eb : R1[b]? = some (R1[b]'(by omega)) := List.getElem?_eq_getElem (by omega)
      rcases hc1 a b _ _ hab ea eb with h3 | h3
      ·rw [Nat.zero_add, Nat.zero_add] at h3
       exact .inl (befB_sound haf _ _ _ h3)
      ·exact .inr (.inl ⟨hbx, hab, _, _, ea, eb, h3⟩)
     ·subst hbx
      exact .inl (befB_sound haf _ _ _ (h1 a hab))
     ·have hnb : Bef (afterOf ops) xs.length b := by
       have := h2 (b - (xs.length + 1)) (by omega)
       rw [show xs.length + 1 + (b - (xs.length + 1)) = b by omega] at this
       exact befB_sound haf _ _ _ this
      rcases Nat.lt_trichotomy a xs.length with hax | hax | hax
      ·exact .inl ((befB_sound haf _ _ _ (h1 a hax)).trans hnb)
      ·subst hax
       exact .inl hnb
      ·by_cases hB : Bef (afterOf ops) a b
       ·exact .inl hB
       ·exact .inr (.inr ⟨hax, hab, hb, hB⟩)) t
    have hsplit : List.range ops.size = List.range' 0 xs.length ++ xs.length :: List.range' (xs.length + 1) ys.length := by
     rw [List.range_eq_range', hsz, ← List.range'_append_1, Nat.zero_add, List.range'_succ]
    obtain ⟨l1, l2, e1, e2, e3⟩ := hs.mid (List.range' 0 xs.length) hsplit
     (fun a ha hi => by
      have := List.mem_range'_1.1 ha
      rcases hi with hi | hi
      ·exact absurd hi.1 (Nat.lt_irrefl _)
      ·omega)
     (fun a ha b hb hi => by
      have := List.mem_range'_1.1 ha
      have := List.mem_range'_1.1 hb
      rcases hi with hi | hi
      ·omega
      ·omega)
     (fun b hb hi => by
      have := List.mem_range'_1.1 hb
      rcases hi with hi | hi
      ·omega
      ·exact absurd hi.1 (Nat.lt_irrefl _))
    rw [e1]
    refine wpOps_append l1 _ _ ?_
    have hget1 : ∀ (j : Nat) x, xs[j]? = some x → ∃ o, ops[0 + j]? = some o ∧ coper P N ops o = some x := by
     intro j x hj
     rw [Nat.zero_add]
     refine hops j x ?_
     rw [hz, List.getElem?_append_left (List.getElem?_eq_some_iff.1 hj).1]
     exact hj
    have e2' : SchedI (fun a b => ∃ ra rb, R1[a - 0]? = some ra ∧ R1[b - 0]? = some rb ∧ indep ra rb = true) (List.range' 0 xs.length) l1 := by
     refine e2.weaken fun a b ha hb hi => ?_
     have h3 := List.mem_range'_1.1 ha
     rcases hi with hi | hi
     ·exact hi.2.2
     ·omega
    refine run_seg (k := k) (w := { w with drawn := w.drawn + 1 }) hget1 hrun (fun a b h => h) e2' hF hH hM _ fun a' w' hpost => ⟨rfl, ?_⟩
    obtain ⟨M2, J2, fr2, H2, q1, q2, q3, rfl, rfl⟩ := hpost
    obtain ⟨t2, d2⟩ := a'
    cases q3
    have hy : us[xs.length]? = some y := by rw [hz, List.getElem?_append_right (Nat.le_refl _), Nat.sub_self]; rfl
    obtain ⟨oy, ho, hcy⟩ := hops _ _ hy
    have hreg := h ops [xs.length] ⟨⟨oy, ho, hcy⟩, trivial⟩ M2 J2 t2 w' q2 q1.hrep q1.mrep (fun e a w3 => e = .normal ∧ wpOps P ops (fun e a' w' => e = .normal ∧ Post k N M J H w (Q .normal) a' w') l2 a w3) fun a3 w3 hp3 => ⟨rfl, ?_⟩
    ·exact wpOps_append [xs.length] _ _ hreg
    obtain ⟨M3, J3, fr3, H3, r1, r2, r3, R2, fr4, H4, hrun2, hc2, hQ⟩ := hp3
    obtain ⟨t3, d3⟩ := a3
    cases r3
    obtain ⟨hrx2, _⟩ := hrun2.recs
    have hRlen2 : R2.length = ys.length := by rw [← hrx2]; simp
    have hget2 : ∀ (j : Nat) x, ys[j]? = some x → ∃ o, ops[xs.length + 1 + j]? = some o ∧ coper P N ops o = some x := by
     intro j x hj
     refine hops _ x ?_
     rw [hz, List.getElem?_append_right (by omega), show xs.length + 1 + j - xs.length = j + 1 by omega]
     exact hj
    have e3' : SchedI (fun a b => ∃ ra rb, R2[a - (xs.length + 1)]? = some ra ∧ R2[b - (xs.length + 1)]? = some rb ∧ indep ra rb = true) (List.range' (xs.length + 1) ys.length) l2 := by
     refine e3.weaken fun a b ha hb hi => ?_
     have h3 := List.mem_range'_1.1 ha
     have h4 := List.mem_range'_1.1 hb
     rcases hi with hi | hi
     ·omega
     ·have ea : R2[a - (xs.length + 1)]? = some (R2[a - (xs.length + 1)]'(by omega)) := List.getElem?_eq_getElem (by omega)
      have eb : R2[b - (xs.length + 1)]? = some (R2[b - (xs.length + 1)]'(by omega)) := List.getElem?_eq_getElem (by omega)
      rcases hc2 (a - (xs.length + 1)) (b - (xs.length + 1)) _ _ (by omega) ea eb with h5 | h5
      ·rw [show xs.length + 1 + (a - (xs.length + 1)) = a by omega, show xs.length + 1 + (b - (xs.length + 1)) = b by omega] at h5
       exact absurd (befB_sound haf _ _ _ h5) hi.2.2.2
      ·exact ⟨_, _, ea, eb, h5⟩
    refine run_seg (k := k) hget2 hrun2 (fun a b h => h) e3' r2 r1.hrep r1.mrep _ fun a' w4 hpost => ?_
    obtain ⟨M5, J5, fr5, H5, s1, s2, s3, rfl, rfl⟩ := hpost
    have q := (q1.trans r1).trans s1
    exact ⟨rfl, M5, J5, _, _, ⟨q.m, q.j, q.hrep, q.mrep, q.os, q.tape, q.output, q.size, q.frame, q.fresh, q.live, q.bk⟩, s2, s3, hQ⟩
  ·cases hc
 | _ => simp only [ccode] at hc; (try split at hc) <;> (try cases hc) <;> (try simp at hc)
end Go.Av
namespace Go.Av
noncomputable def FT.getK (T : FT) : Nat → AV :=
 FT.rec (motive := fun _ => Nat → AV) (fun _ => .undef)
  (fun v _ _ gl gr n => Nat.rec (motive := fun _ => AV) v (fun m _ => Bool.rec (motive := fun _ => AV) (gr (Nat.div m 2)) (gl (Nat.div m 2)) (Nat.beq (Nat.mod m 2) 0)) n) T
theorem FT.getK_eq (T : FT) : ∀ n, T.getK n = T.get n := by
 induction T with
 | leaf => intro n; cases n <;> rfl
 | node v l r ihl ihr =>
  intro n
  cases n with
  | zero => rfl
  | succ m =>
   show Bool.rec (motive := fun _ => AV) (r.getK (Nat.div m 2)) (l.getK (Nat.div m 2)) (Nat.beq (Nat.mod m 2) 0) = match Nat.beq (Nat.mod m 2) 0 with | true => l.get (Nat.div m 2) | false => r.get (Nat.div m 2)
   cases Nat.beq (Nat.mod m 2) 0 with
   | true => exact ihl _
   | false => exact ihr _
def FT.lO (v : AV) (r : FT) : Option FT → Option FT
 | some l => some (.node v l r)
 | none => none
def FT.rO (v : AV) (l : FT) : Option FT → Option FT
 | some r => some (.node v l r)
 | none => none
noncomputable def FT.putK (T : FT) : Nat → AV → Option FT :=
 FT.rec (motive := fun _ => Nat → AV → Option FT) (fun _ _ => none)
  (fun v l r pl pr n x => Nat.rec (motive := fun _ => Option FT) (some (.node x l r)) (fun m _ => Bool.rec (motive := fun _ => Option FT) (FT.rO v l (pr (Nat.div m 2) x)) (FT.lO v r (pl (Nat.div m 2) x)) (Nat.beq (Nat.mod m 2) 0)) n) T
theorem FT.putK_eq (T : FT) : ∀ n x, T.putK n x = T.put n x := by
 induction T with
 | leaf => intro n x; rfl
 | node v l r ihl ihr =>
  intro n x
  cases n with
  | zero => rfl
  | succ m =>
   show Bool.rec (motive := fun _ => Option FT) (FT.rO v l (r.putK (Nat.div m 2) x)) (FT.lO v r (l.putK (Nat.div m 2) x)) (Nat.beq (Nat.mod m 2) 0) = _
   simp only [FT.put]
   cases Nat.beq (Nat.mod m 2) 0 with
   | true =>
    show FT.lO v r (l.putK (Nat.div m 2) x) = _
    rw [ihl]
    simp only
    cases l.put (Nat.div m 2) x <;> rfl
   | false =>
    show FT.rO v l (r.putK (Nat.div m 2) x) = _
    rw [ihr]
    simp only
    cases r.put (Nat.div m 2) x <;> rfl
noncomputable def FT.evK (T : FT) (x : Operand) : AV :=
 match x with
 | .tmp t => T.getK t
 | .const v => .sc v
 | .global g => .sc (.pointer (some ⟨g, 0, none⟩))
 | .func f => .sc (.func (.func f) #[] #[])
theorem AgT.evK {fr : Fr} {T : FT} (h : AgT fr T) : Av.ev fr = T.evK := by
 funext x
 cases x with
 | tmp t => exact (h t).trans (T.getK_eq t).symm
 | _ => rfl
noncomputable def mapK (T : FT) (l : List Operand) : List AV := List.rec (motive := fun _ => List AV) [] (fun x _ ih => T.evK x :: ih) l
theorem AgT.mapK {fr : Fr} {T : FT} (h : AgT fr T) (l : List Operand) : Av.avals fr l = Av.mapK T l := by
 unfold Av.avals
 induction l with
 | nil => rfl
 | cons x l ih =>
  show Av.ev fr x :: List.map (Av.ev fr) l = T.evK x :: Av.mapK T l
  rw [ih, h.evK]
def wrOp : IOp → Bool
 | .alloc _ => true
 | .box _ => true
 | .buildSlice _ _ _ _ => true
 | .makeMap => true
 | .makeSlice _ _ _ _ => true
 | .store _ _ _ => true
 | .mapUpdate _ _ _ _ => true
 | .insF _ _ _ _ => true
 | .append _ _ _ _ => true
 | .mop _ _ => true
 | _ => false
def wrAct : IAct → Bool
 | .op o => wrOp o
 | _ => false
theorem wrOp_dwr {o : IOp} (h : wrOp o = false) (e : Operand → AV) (g i : Nat) : dwrE e g i o = [] := by
 cases o <;> first | rfl | cases h
def statI (a b : IOper) : Bool := dstOut a.dst b.tmps && (dstOut b.dst a.tmps && dstDiff a.dst b.dst)
def pairsB (af : List (List Nat)) (n s b : Nat) (y : IOper) : Nat → List IOper → Option (List (Nat × Nat))
 | _, [] => some []
 | a, x :: l => match pairsB af n s b y (a + 1) l with
  | some ps => match Nat.ble b a || befB af n (s + a) (s + b) with
   | true => some ps
   | false => match statI x y with
    | true => match wrAct x.act || wrAct y.act with
     | true => some ((a, b) :: ps)
     | false => some ps
    | false => none
  | none => none
def pairsAll (af : List (List Nat)) (n s : Nat) (xs : List IOper) : Nat → List IOper → Option (List (Nat × Nat))
 | _, [] => some []
 | b, y :: l => match pairsB af n s b y 0 xs, pairsAll af n s xs (b + 1) l with
  | some ps, some qs => some (ps ++ qs)
  | _, _ => none
def dynP (af : List (List Nat)) (s : Nat) (xs : List IOper) : Option (List (Nat × Nat)) := pairsAll af af.length s xs 0 xs
noncomputable def apart (ra rb : RRec) : Bool := disj ra.wr (rb.rd ++ rb.wr) && disj rb.wr ra.rd
noncomputable def pairOK (R : List RRec) (p : Nat × Nat) : Bool :=
 match lgetK R p.1 with
 | some ra => match lgetK R p.2 with
  | some rb => apart ra rb
  | none => false
 | none => false
noncomputable def allK (f : Nat × Nat → Bool) (l : List (Nat × Nat)) : Bool := List.rec (motive := fun _ => Bool) true (fun p _ ih => Bool.rec (motive := fun _ => Bool) false ih (f p)) l
theorem allK_eq (f : Nat × Nat → Bool) (l : List (Nat × Nat)) (h : allK f l = true) : ∀ p ∈ l, f p = true := by
 induction l with
 | nil => intro p hp; cases hp
 | cons q l ih =>
  replace h : Bool.rec (motive := fun _ => Bool) false (allK f l) (f q) = true := h
  cases e : f q with
  | false => rw [e] at h; cases h
  | true =>
   rw [e] at h
   intro p hp
   cases hp with
   | head => exact e
   | tail _ hp => exact ih h p hp
noncomputable def chkO (R : List RRec) : Option (List (Nat × Nat)) → Bool
 | some ps => allK (pairOK R) ps
 | none => false
noncomputable def chkK (af : List (List Nat)) (s : Nat) (xs : List IOper) (R : List RRec) : Bool := chkO R (dynP af s xs)
theorem pairsB_spec {af : List (List Nat)} {n s b : Nat} {y : IOper} : ∀ (l : List IOper) (a0 : Nat) ps, pairsB af n s b y a0 l = some ps → ∀ (j : Nat) x, l[j]? = some x →
  b ≤ a0 + j ∨ befB af n (s + (a0 + j)) (s + b) = true ∨ (statI x y = true ∧ ((wrAct x.act || wrAct y.act) = false ∨ (a0 + j, b) ∈ ps))
 | [], _, ps, _, j, x, hx => by simp at hx
 | z :: l, a0, ps, h, j, x, hx => by
  simp only [pairsB] at h
  split at h
  ·rename_i qs hq
   have ih := pairsB_spec l (a0 + 1) qs hq
   have hsub : ∀ p ∈ qs, p ∈ ps := by
    split at h
    ·injection h with h; subst h; exact fun p hp => hp
    ·split at h
     ·split at h
      ·injection h with h; subst h; exact fun p hp => List.mem_cons_of_mem _ hp
      ·injection h with h; subst h; exact fun p hp => hp
     ·cases h
   cases j with
   | zero =>
    simp at hx
    subst hx
    rw [Nat.add_zero]
    split at h
    ·rename_i e
     simp only [Bool.or_eq_true] at e
     rcases e with e | e
     ·exact .inl (Nat.le_of_ble_eq_true e)
     ·exact .inr (.inl e)
    ·split at h
     ·rename_i e
      refine .inr (.inr ⟨e, ?_⟩)
      split at h
      ·injection h with h; subst h; exact .inr (List.mem_cons_self ..)
      ·rename_i e2; exact .inl e2
     ·cases h
   | succ j =>
    have := ih j x (by simpa using hx)
    rw [show a0 + 1 + j = a0 + (j + 1) by omega] at this
    rcases this with h1 | h1 | ⟨h1, h2 | h2⟩
    ·exact .inl h1
    ·exact .inr (.inl h1)
    ·exact .inr (.inr ⟨h1, .inl h2⟩)
    ·exact .inr (.inr ⟨h1, .inr (hsub _ h2)⟩)
  ·cases h
theorem pairsAll_spec {af : List (List Nat)} {n s : Nat} {xs : List IOper} : ∀ (l : List IOper) (b0 : Nat) ps, pairsAll af n s xs b0 l = some ps → ∀ (j : Nat) y, l[j]? = some y →
  ∃ qs, pairsB af n s (b0 + j) y 0 xs = some qs ∧ ∀ p ∈ qs, p ∈ ps
 | [], _, ps, _, j, x, hx => by simp at hx
 | z :: l, b0, ps, h, j, y, hy => by
  simp only [pairsAll] at h
  split at h
  ·rename_i p1 p2 h1 h2
   injection h with h
   subst h
   cases j with
   | zero =>
    simp at hy
    subst hy
    exact ⟨p1, h1, fun p hp => List.mem_append_left _ hp⟩
   | succ j =>
    obtain ⟨qs, h3, h4⟩ := pairsAll_spec l (b0 + 1) p2 h2 j y (by simpa using hy)
    rw [show b0 + 1 + j = b0 + (j + 1) by omega] at h3
    exact ⟨qs, h3, fun p hp => List.mem_append_right _ (h4 p hp)⟩
  ·cases h
theorem chkB_of {af : List (List Nat)} {R : List RRec} {b : Nat} {rb : RRec} : ∀ (l : List RRec) (a0 : Nat), (∀ (j : Nat) ra, l[j]? = some ra → b ≤ a0 + j ∨ befB af af.length (a0 + j) b = true ∨ indep ra rb = true) → chkB af R b rb a0 l = true
 | [], _, _ => rfl
 | r :: l, a0, h => by
  simp only [chkB, Bool.and_eq_true, Bool.or_eq_true]
  refine ⟨?_, chkB_of l (a0 + 1) fun j ra hj => ?_⟩
  ·rcases h 0 r rfl with h1 | h1 | h1
   ·exact .inl (by simpa using h1)
   ·exact .inr (.inl h1)
   ·exact .inr (.inr h1)
  ·have := h (j + 1) ra (by simpa using hj)
   rwa [show a0 + (j + 1) = a0 + 1 + j by omega] at this
theorem chkAll_of {af : List (List Nat)} {R : List RRec} : ∀ (l : List RRec) (b0 : Nat), (∀ (j : Nat) rb, l[j]? = some rb → chkB af R (b0 + j) rb 0 R = true) → chkAll af R b0 l = true
 | [], _, _ => rfl
 | r :: l, b0, h => by
  simp only [chkAll, Bool.and_eq_true]
  refine ⟨h 0 r rfl, chkAll_of l (b0 + 1) fun j rb hj => ?_⟩
  have := h (j + 1) rb (by simpa using hj)
  rwa [show b0 + (j + 1) = b0 + 1 + j by omega] at this
theorem chkK_sound {af : List (List Nat)} {s : Nat} {xs : List IOper} {R : List RRec} (h : chkK af s xs R = true) (hx : R.map (·.x) = xs) (hw : ∀ r ∈ R, wrAct r.x.act = false → r.wr = []) : SegOK af s R := by
 unfold chkK chkO at h
 split at h
 ·rename_i ps hps
  intro a b ra rb hab ha hb
  have hyb : xs[b]? = some rb.x := by rw [← hx, List.getElem?_map, hb]; rfl
  have hya : xs[a]? = some ra.x := by rw [← hx, List.getElem?_map, ha]; rfl
  obtain ⟨qs, h1, h2⟩ := pairsAll_spec xs 0 ps hps b _ hyb
  rw [Nat.zero_add] at h1
  have h3 := pairsB_spec xs 0 qs h1 a _ hya
  rw [Nat.zero_add] at h3
  rcases h3 with h3 | h3 | ⟨h3, h4⟩
  ·omega
  ·exact .inl h3
  ·refine .inr ?_
   simp only [statI, Bool.and_eq_true] at h3
   have hd : disj ra.wr (rb.rd ++ rb.wr) = true ∧ disj rb.wr ra.rd = true := by
    rcases h4 with h4 | h4
    ·simp only [Bool.or_eq_false_iff] at h4
     rw [hw ra (List.mem_of_getElem? ha) h4.1, hw rb (List.mem_of_getElem? hb) h4.2]
     exact ⟨rfl, rfl⟩
    ·have := allK_eq _ _ h _ (h2 _ h4)
     unfold pairOK at this
     simp only [lgetK_eq, ha, hb, apart, Bool.and_eq_true] at this
     exact this
   simp only [indep, h3.1, h3.2.1, h3.2.2, hd.1, hd.2, Bool.and_self, Bool.true_or]
 ·cases h
theorem SegOK.all {af : List (List Nat)} {R : List RRec} (h : SegOK af 0 R) : chkAll af R 0 R = true := by
 refine chkAll_of R 0 fun b rb hb => ?_
 rw [Nat.zero_add]
 refine chkB_of R 0 fun a ra ha => ?_
 rw [Nat.zero_add]
 rcases Nat.lt_or_ge a b with hab | hab
 ·have := h a b ra rb hab ha hb
  rw [Nat.zero_add, Nat.zero_add] at this
  exact .inr this
 ·exact .inl hab
def isCall : IAct → Bool
 | .op _ => false
 | _ => true
def splitCall : List IOper → Option (List IOper × IOper × List IOper)
 | [] => none
 | x :: l => match isCall x.act with
  | true => some ([], x, l)
  | false => match splitCall l with
   | some (a, y, b) => some (x :: a, y, b)
   | none => none
theorem splitCall_eq : ∀ {zs xs ys : List IOper} {y : IOper}, splitCall zs = some (xs, y, ys) → zs = xs ++ y :: ys
 | [], _, _, _, h => by cases h
 | x :: l, xs, ys, y, h => by
  simp only [splitCall] at h
  split at h
  ·injection h with h
   injection h with h1 h2
   injection h2 with h2 h3
   subst h1; subst h2; subst h3
   rfl
  ·split at h
   ·rename_i a y' b e
    injection h with h
    injection h with h1 h2
    injection h2 with h2 h3
    subst h1; subst h2; subst h3
    rw [splitCall_eq e]
    rfl
   ·cases h
def midS (af : List (List Nat)) (q n : Nat) : Bool := lowB 0 af && ((List.range q).all (fun j => befB af af.length j q) && (List.range n).all fun j => befB af af.length q (q + 1 + j))
noncomputable def putThen (d : Option Nat) (v : AV) (T : FT) (H : Heap) (ih : FT → Heap → RR) : RR :=
 match d with
 | none => ih T H
 | some d => match T.putK d v with
  | some T' => ih T' H
  | none => .stuck
noncomputable def opThen (d : Option Nat) (T : FT) (ih : FT → Heap → RR) : SR → RR
 | .yes v H => putThen d v T H ih
 | .no => .stuck
noncomputable def callThen (d : Option Nat) (T : FT) (ih : FT → Heap → RR) : Option (AV × Heap) → RR
 | some (v, H) => putThen d v T H ih
 | none => .stuck
noncomputable def cloThen (call : Caller) (d : Option Nat) (args : List AV) (T : FT) (H : Heap) (ih : FT → Heap → RR) (f : AV) : RR :=
 match f with
 | .clo (.func g) fs cs => callThen d T ih (call g (fs ++ args ++ cs) H)
 | _ => .stuck
noncomputable def regAct (call : Caller) (k : Nat) (d : Option Nat) (ih : FT → Heap → RR) (a : IAct) : FT → Heap → RR :=
 match a with
 | .op o => fun T H => opThen d T ih (dstepK o T.evK (lenK H) 0 H)
 | .call f args => fun T H => Bool.rec (motive := fun _ => RR) .stuck (callThen d T ih (call f (mapK T args) H)) (Nat.ble k (lenK H))
 | .callV f args => fun T H => Bool.rec (motive := fun _ => RR) .stuck (cloThen call d (mapK T args) T H ih (T.evK f)) (Nat.ble k (lenK H))
noncomputable def gdSel (b : Bool) (yes no bad : RR) (v : AV) : RR :=
 match v with
 | .sc (.bool true) => Bool.rec (motive := fun _ => RR) no yes b
 | .sc (.bool false) => Bool.rec (motive := fun _ => RR) yes no b
 | .sc (.tuple _) => no
 | _ => bad
noncomputable def regGd (call : Caller) (k : Nat) (d : Option Nat) (a : IAct) (ih : FT → Heap → RR) (gd : Option (Nat × Bool)) : FT → Heap → RR :=
 match gd with
 | none => regAct call k d ih a
 | some (t, b) => fun T H => gdSel b (regAct call k d ih a T H) (putThen d (.sc Go.undef) T H ih) .stuck (T.getK t)
noncomputable def regStep (call : Caller) (k : Nat) (ih : FT → Heap → RR) (x : IOper) : FT → Heap → RR :=
 match x with
 | ⟨d, gd, a⟩ => regGd call k d a ih gd
noncomputable def regK (call : Caller) (k : Nat) (xs : List IOper) : FT → Heap → RR :=
 List.rec (motive := fun _ => FT → Heap → RR) (fun T H => .out T H) (fun x _ ih => regStep call k ih x) xs
def CallerOK (P : Program) (call : Caller) : Prop := ∀ f args H v H', call f args H = some (v, H') → CallOK P f args H fun r H2 => r = v ∧ H2 = H'
theorem AgT.putK {fr : Fr} {T T' : FT} {d : Nat} {v : AV} (h : AgT fr T) (hp : T.putK d v = some T') : AgT (fr.put (some d) v) T' := by
 rw [FT.putK_eq] at hp
 exact AgT.put (d := some d) h hp
theorem putThen_out {d : Option Nat} {v : AV} {T : FT} {H : Heap} {ih : FT → Heap → RR} {T' : FT} {H' : Heap} (h : putThen d v T H ih = .out T' H') {fr : Fr} (ha : AgT fr T) : ∃ T1, AgT (fr.put d v) T1 ∧ ih T1 H = .out T' H' := by
 cases d with
 | none => exact ⟨T, ha, h⟩
 | some d =>
  simp only [putThen] at h
  split at h
  ·rename_i T1 e
   exact ⟨T1, ha.putK e, h⟩
  ·cases h
theorem gok_evK {fr : Fr} {T : FT} (h : AgT fr T) {t : Nat} {b : Bool} {yes no : RR} {T' : FT} {H' : Heap} (hs : gdSel b yes no .stuck (T.getK t) = .out T' H') :
  (gok fr (some (t, b)) = some true ∧ yes = .out T' H') ∨ (gok fr (some (t, b)) = some false ∧ no = .out T' H') := by
 have e : T.getK t = fr.get t := (T.getK_eq t).trans (h t).symm
 rw [e] at hs
 unfold gdSel at hs
 simp only [gok]
 split at hs
 ·rename_i e1
  rw [e1]
  cases b with
  | true => exact .inl ⟨rfl, hs⟩
  | false => exact .inr ⟨rfl, hs⟩
 ·rename_i e1
  rw [e1]
  cases b with
  | true => exact .inr ⟨rfl, hs⟩
  | false => exact .inl ⟨rfl, hs⟩
 ·rename_i e1
  rw [e1]
  exact .inr ⟨rfl, hs⟩
 ·cases hs
section
variable {P : Program} {N k : Nat} {call : Caller}
theorem regAct_sound (hcall : CallerOK P call) {xs : List IOper} {d : Option Nat} {gd : Option (Nat × Bool)} {a : IAct} {ih : FT → Heap → RR} {K : Fr → Heap → Prop} {T' : FT} {H' : Heap}
  (hih : ∀ T H fr, ih T H = .out T' H' → AgT fr T → Reg P N k xs fr H K) {T : FT} {H : Heap} {fr : Fr} (hg : gok fr gd = some true) (ha : AgT fr T) (h : regAct call k d ih a T H = .out T' H') : Reg P N k (⟨d, gd, a⟩ :: xs) fr H K := by
 cases a with
 | op o =>
  simp only [regAct] at h
  unfold opThen at h
  split at h
  ·rename_i v H1 e
   rw [← ha.evK, lenK_eq] at e
   obtain ⟨T1, h1, h2⟩ := putThen_out h ha
   exact Reg.op (x := ⟨d, gd, .op o⟩) hg rfl (dstepK_sound e) (hih T1 H1 _ h2 h1)
  ·cases h
 | call f args =>
  simp only [regAct] at h
  cases hb : Nat.ble k (lenK H) with
  | false => rw [hb] at h; cases h
  | true =>
   rw [hb] at h
   have hk : k ≤ H.length := by rw [← lenK_eq]; exact Nat.le_of_ble_eq_true hb
   replace h : callThen d T ih (call f (mapK T args) H) = .out T' H' := h
   unfold callThen at h
   split at h
   ·rename_i v H1 e
    obtain ⟨T1, h1, h2⟩ := putThen_out h ha
    refine Reg.call (x := ⟨d, gd, .call f args⟩) hk hg rfl ?_
    rw [ha.mapK]
    refine (hcall f _ H v H1 e).mono ?_
    rintro res H2 ⟨rfl, rfl⟩
    exact hih T1 _ _ h2 h1
   ·cases h
 | callV f args =>
  simp only [regAct] at h
  cases hb : Nat.ble k (lenK H) with
  | false => rw [hb] at h; cases h
  | true =>
   rw [hb] at h
   have hk : k ≤ H.length := by rw [← lenK_eq]; exact Nat.le_of_ble_eq_true hb
   replace h : cloThen call d (mapK T args) T H ih (T.evK f) = .out T' H' := h
   unfold cloThen at h
   split at h
   ·rename_i g fs cs ef
    unfold callThen at h
    split at h
    ·rename_i v H1 e
     obtain ⟨T1, h1, h2⟩ := putThen_out h ha
     refine Reg.callV (x := ⟨d, gd, .callV f args⟩) (f := f) (g := g) (fs := fs) (cs := cs) hk hg rfl (by rw [ha.evK]; exact ef) ?_
     rw [ha.mapK]
     refine (hcall g _ H v H1 e).mono ?_
     rintro res H2 ⟨rfl, rfl⟩
     exact hih T1 _ _ h2 h1
    ·cases h
   ·cases h
theorem regK_sound (hcall : CallerOK P call) {K : Fr → Heap → Prop} {T' : FT} {H' : Heap} (hK : ∀ fr', AgT fr' T' → K fr' H') : ∀ (xs : List IOper) (T : FT) (H : Heap) (fr : Fr), regK call k xs T H = .out T' H' → AgT fr T → Reg P N k xs fr H K := by
 intro xs
 induction xs with
 | nil =>
  intro T H fr h ha
  injection h with h1 h2
  subst h1; subst h2
  exact Reg.nil (hK fr ha)
 | cons x xs ih =>
  intro T H fr h ha
  obtain ⟨d, gd, a⟩ := x
  replace h : regGd call k d a (regK call k xs) gd T H = .out T' H' := h
  cases gd with
  | none => exact regAct_sound hcall (ih := regK call k xs) ih rfl ha h
  | some p =>
   obtain ⟨t, b⟩ := p
   rcases gok_evK ha h with ⟨h1, h2⟩ | ⟨h1, h2⟩
   ·exact regAct_sound hcall (ih := regK call k xs) ih h1 ha h2
   ·obtain ⟨T1, h3, h4⟩ := putThen_out h2 ha
    exact Reg.skip (x := ⟨d, some (t, b), a⟩) h1 (ih T1 H _ h4 h3)
end
end Go.Av
