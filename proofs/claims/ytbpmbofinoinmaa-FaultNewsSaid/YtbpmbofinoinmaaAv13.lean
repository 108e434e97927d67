import Derived.Test.YtbpmbofinoinmaaAv12
namespace Go.Av

inductive ICode where
  | skip
  | region (xs : List IOper)
  | draw (xs : List IOper) (after : List (List Nat))
  | seq (a b : ICode)
  | cond (c : Operand) (thn els : ICode)
  | block (id : Nat) (body : ICode)
  | loop (body : ICode)
  | exit (id : Nat)
  | ret
  | bad

def copers (P : Program) (N : Nat) (ops : Array Oper) : List Oper → Option (List IOper)
  | [] => some []
  | o :: r => match coper P N ops o, copers P N ops r with
    | some x, some xs => some (x :: xs)
    | _, _ => none

/-- What an operation stands behind, in whatever order. -/
def cafter (o : Oper) : List Nat := (o.after.toList.filter (Region.binds .any)).map (·.on)

def ccode (P : Program) (N : Nat) : Code → Option ICode
  | .skip => some .skip
  | .region _ ops draw => match copers P N ops ops.toList with
    | some xs => match draw with
      | false => some (.region xs)
      | true => some (.draw xs (ops.toList.map cafter))
    | none => some .bad
  | .seq a b => match ccode P N a, ccode P N b with
    | some x, some y => some (.seq x y)
    | _, _ => none
  | .cond c a b => match ccode P N a, ccode P N b with
    | some x, some y => some (.cond c x y)
    | _, _ => none
  | .block id b => (ccode P N b).map (.block id)
  | .loop b => (ccode P N b).map .loop
  | .exit id => some (.exit id)
  | .ret => some .ret
  | _ => some .bad

/-- Code, from this frame and heap: Q holds of each way out. -/
def AWP (P : Program) (N k : Nat) (c : ICode) (Q : Exit → Fr → Heap → Prop) (fr : Fr) (H : Heap) : Prop :=
  ∀ c0, ccode P N c0 = some c → ∀ M J tmps w, FRep N M J fr tmps → HRep M J H w.heap → MRep M w.heap → c0.wp P (fun e a' w' => Post k N M J H w (Q e) a' w') ⟨tmps, []⟩ w

section
variable {P : Program} {N k : Nat} {fr : Fr} {H : Heap} {Q : Exit → Fr → Heap → Prop}

theorem copers_matches {ops : Array Oper} : ∀ (l : List Oper) (n : Nat) (xs : List IOper), copers P N ops l = some xs → (∀ (j : Nat) o, l[j]? = some o → ops[n + j]? = some o) → Matches P N ops (List.range' n l.length) xs
  | [], n, xs, h, _ => by
    simp [copers] at h
    subst h
    trivial
  | o :: l, n, xs, h, hg => by
    simp only [copers] at h
    split at h
    · rename_i x ys h1 h2
      injection h with h
      subst h
      rw [List.length_cons, List.range'_succ]
      exact ⟨⟨o, hg 0 o rfl, h1⟩, copers_matches l (n + 1) ys h2 fun j o' hj => by rw [Nat.add_assoc, Nat.add_comm 1 j]; exact hg (j + 1) o' hj⟩
    · cases h

theorem AWP.region {xs : List IOper} (h : Reg P N k xs fr H (Q .normal)) : AWP P N k (.region xs) Q fr H := by
  intro c0 hc M J tmps w hF hH hM
  cases c0 with
  | region id ops draw =>
    simp only [ccode] at hc
    split at hc
    · rename_i ys hys
      cases draw with
      | true => cases hc
      | false =>
        injection hc with hc
        injection hc with hc
        subst hc
        refine wp_region ?_
        have hm := copers_matches ops.toList 0 ys hys fun j o hj => by rw [Nat.zero_add, ← Array.getElem?_toList]; exact hj
        rw [← List.range_eq_range'] at hm
        exact h ops _ (by simpa using hm) M J tmps w hF hH hM _ fun a' w' hp => hp
    · cases hc
  | _ => simp only [ccode] at hc; (try split at hc) <;> (try cases hc) <;> (try simp at hc)

theorem AWP.skip (h : Q .normal fr H) : AWP P N k .skip Q fr H := by
  intro c0 hc M J tmps w hF hH hM
  cases c0 with
  | skip => exact wp_skip ⟨M, J, fr, H, .refl k hH hM, hF, rfl, h⟩
  | region id ops draw => simp only [ccode] at hc; split at hc <;> (try cases hc); split at hc <;> cases hc
  | _ => simp only [ccode] at hc; (try split at hc) <;> (try cases hc) <;> (try simp at hc)

theorem AWP.ret (h : Q .ret fr H) : AWP P N k .ret Q fr H := by
  intro c0 hc M J tmps w hF hH hM
  cases c0 with
  | ret => exact wp_ret ⟨M, J, fr, H, .refl k hH hM, hF, rfl, h⟩
  | region id ops draw => simp only [ccode] at hc; split at hc <;> (try cases hc); split at hc <;> cases hc
  | _ => simp only [ccode] at hc; (try split at hc) <;> (try cases hc) <;> (try simp at hc)

theorem AWP.exit {id : Nat} (h : Q (.exit id) fr H) : AWP P N k (.exit id) Q fr H := by
  intro c0 hc M J tmps w hF hH hM
  cases c0 with
  | exit id' =>
    injection hc with hc
    injection hc with hc
    subst hc
    exact wp_exit ⟨M, J, fr, H, .refl k hH hM, hF, rfl, h⟩
  | region id ops draw => simp only [ccode] at hc; split at hc <;> (try cases hc); split at hc <;> cases hc
  | _ => simp only [ccode] at hc; (try split at hc) <;> (try cases hc) <;> (try simp at hc)

def thenQ (R : Fr → Heap → Prop) (Q : Exit → Fr → Heap → Prop) : Exit → Fr → Heap → Prop
  | .normal => R
  | e => Q e

theorem AWP.seq {a b : ICode} (h : AWP P N k a (thenQ (AWP P N k b Q) Q) fr H) : AWP P N k (.seq a b) Q fr H := by
  intro c0 hc M J tmps w hF hH hM
  cases c0 with
  | seq x y =>
    simp only [ccode] at hc
    split at hc
    · rename_i x' y' hx hy
      injection hc with hc
      injection hc with hc1 hc2
      subst hc1; subst hc2
      refine wp_seq (wp_mono (h x hx M J tmps w hF hH hM) fun e a1 w1 hp => ?_)
      obtain ⟨M1, J1, fr1, H1, q1, q2, q3, q4⟩ := hp
      cases e with
      | normal =>
        obtain ⟨t1, d1⟩ := a1
        cases q3
        refine wp_mono (q4 y hy M1 J1 t1 w1 q2 q1.hrep q1.mrep) fun e a2 w2 hp => ?_
        obtain ⟨M2, J2, fr2, H2, r1, r2, r3, r4⟩ := hp
        exact ⟨M2, J2, fr2, H2, q1.trans r1, r2, r3, r4⟩
      | _ => exact ⟨M1, J1, fr1, H1, q1, q2, q3, q4⟩
    · cases hc
  | region id ops draw => simp only [ccode] at hc; split at hc <;> (try cases hc); split at hc <;> cases hc
  | _ => simp only [ccode] at hc; (try split at hc) <;> (try cases hc) <;> (try simp at hc)

theorem AWP.cond {c : Operand} {x y : ICode} {b : Bool} (hb : ev fr c = .sc (.bool b)) (h1 : b = true → AWP P N k x Q fr H) (h2 : b = false → AWP P N k y Q fr H) : AWP P N k (.cond c x y) Q fr H := by
  intro c0 hc M J tmps w hF hH hM
  cases c0 with
  | cond c' x0 y0 =>
    simp only [ccode] at hc
    split at hc
    · rename_i x' y' hx hy
      injection hc with hc
      injection hc with hc0 hc1 hc2
      subst hc0; subst hc1; subst hc2
      have hv := ev_rep (ds := []) hF c'
      rw [hb] at hv
      exact wp_cond_split hv.sc_inv (fun e => h1 e x0 hx M J tmps w hF hH hM) (fun e => h2 e y0 hy M J tmps w hF hH hM)
    · cases hc
  | region id ops draw => simp only [ccode] at hc; split at hc <;> (try cases hc); split at hc <;> cases hc
  | _ => simp only [ccode] at hc; (try split at hc) <;> (try cases hc) <;> (try simp at hc)

def blockQ (id : Nat) (Q : Exit → Fr → Heap → Prop) : Exit → Fr → Heap → Prop
  | .exit id' => match Nat.beq id' id with
    | true => Q .normal
    | false => Q (.exit id')
  | e => Q e

theorem AWP.block {id : Nat} {x : ICode} (h : AWP P N k x (blockQ id Q) fr H) : AWP P N k (.block id x) Q fr H := by
  intro c0 hc M J tmps w hF hH hM
  cases c0 with
  | block id' x0 =>
    simp only [ccode, Option.map_eq_some_iff, ICode.block.injEq] at hc
    obtain ⟨x', hx, rfl, rfl⟩ := hc
    refine wp_block (wp_mono (h x0 hx M J tmps w hF hH hM) fun e a1 w1 hp => ?_)
    cases e with
    | exit id1 =>
      simp only [Exit.inBlock]
      simp only [blockQ] at hp
      by_cases e : id1 = id'
      · subst e
        rw [if_pos rfl]
        simpa using hp
      · rw [if_neg e]
        have : Nat.beq id1 id' = false := by
          cases hb : Nat.beq id1 id' with
          | true => exact absurd (Nat.eq_of_beq_eq_true hb) e
          | false => rfl
        rw [this] at hp
        exact hp
    | _ => exact hp
  | region id ops draw => simp only [ccode] at hc; split at hc <;> (try cases hc); split at hc <;> cases hc
  | _ => simp only [ccode] at hc; (try split at hc) <;> (try cases hc) <;> (try simp at hc)

theorem AWP.sub {c : ICode} {fr' : Fr} {H' : Heap} (hs : Sub k N fr H fr' H') (h : AWP P N k c Q fr' H') : AWP P N k c Q fr H := by
  intro c0 hc M J tmps w hF hH hM
  obtain ⟨M1, J1, s1, f1⟩ := hs M J tmps w hF hH hM
  refine wp_mono (h c0 hc M1 J1 tmps w f1 s1.hrep s1.mrep) fun e a1 w1 hp => ?_
  obtain ⟨M2, J2, fr2, H2, r1, r2, r3, r4⟩ := hp
  exact ⟨M2, J2, fr2, H2, s1.trans r1, r2, r3, r4⟩

theorem AWP.mono {c : ICode} {Q' : Exit → Fr → Heap → Prop} (h : AWP P N k c Q fr H) (hq : ∀ e fr H, Q e fr H → Q' e fr H) : AWP P N k c Q' fr H := by
  intro c0 hc M J tmps w hF hH hM
  exact wp_mono (h c0 hc M J tmps w hF hH hM) fun e a1 w1 ⟨M2, J2, fr2, H2, r1, r2, r3, r4⟩ => ⟨M2, J2, fr2, H2, r1, r2, r3, hq _ _ _ r4⟩

/-- A loop: at its head the state is one of a family; each round lowers the measure. -/
theorem AWP.loop {σ : Type} (F : σ → Fr) (G : σ → Heap) (I : σ → Prop) (μ : σ → Nat) {x : ICode} (s0 : σ) (h0 : I s0) (hs : Sub k N fr H (F s0) (G s0))
    (round : ∀ s, I s → AWP P N k x (thenQ (fun fr' H' => ∃ s', I s' ∧ μ s' < μ s ∧ Sub k N fr' H' (F s') (G s')) Q) (F s) (G s)) : AWP P N k (.loop x) Q fr H := by
  intro c0 hc M J tmps w hF hH hM
  cases c0 with
  | loop x0 =>
    simp only [ccode, Option.map_eq_some_iff, ICode.loop.injEq] at hc
    obtain ⟨x', hx, rfl⟩ := hc
    let Inv : Nat → Act → World → Prop := fun n a w' => ∃ s, I s ∧ μ s = n ∧ a.defers = [] ∧ ∃ M1 J1, Step k M J H w M1 J1 (G s) w' ∧ FRep N M1 J1 (F s) a.tmps
    refine wp_mono (Q := fun e a' w' => Post k N M J H w (Q e) a' w') ?_ fun e a w h => h
    have key : ∀ n a w', Inv n a w' → (Code.loop x0).wp P (fun e a' w' => Post k N M J H w (Q e) a' w') a w' := by
      intro n a w' hinv
      classical
      refine wp_loop (fun a w' => ∃ n, Inv n a w') (fun a w' => if h : ∃ n, Inv n a w' then Classical.choose (show ∃ n, Inv n a w' ∧ ∀ m, Inv m a w' → n ≤ m from by
        have := h
        obtain ⟨n, hn⟩ := this
        induction n using Nat.strongRecOn with
        | _ n ih =>
          by_cases hx : ∃ m, m < n ∧ Inv m a w'
          · obtain ⟨m, hm, hi⟩ := hx
            exact ih m hm hi
          · exact ⟨n, hn, fun m hm => Nat.le_of_not_lt fun hlt => hx ⟨m, hlt, hm⟩⟩) else 0) ⟨n, hinv⟩ ?_
      intro a w' hI
      have hmin := Classical.choose_spec (show ∃ n, Inv n a w' ∧ ∀ m, Inv m a w' → n ≤ m from by
        have := hI
        obtain ⟨n, hn⟩ := this
        induction n using Nat.strongRecOn with
        | _ n ih =>
          by_cases hx : ∃ m, m < n ∧ Inv m a w'
          · obtain ⟨m, hm, hi⟩ := hx
            exact ih m hm hi
          · exact ⟨n, hn, fun m hm => Nat.le_of_not_lt fun hlt => hx ⟨m, hlt, hm⟩⟩)
      simp only [dif_pos hI]
      generalize Classical.choose _ = n0 at hmin
      obtain ⟨⟨s, hs1, hs2, hs3, M1, J1, hs4, hs5⟩, _⟩ := hmin
      obtain ⟨t1, d1⟩ := a
      cases hs3
      refine wp_mono (round s hs1 x0 hx M1 J1 t1 w' hs5 hs4.hrep hs4.mrep) fun e a2 w2 hp => ?_
      obtain ⟨M2, J2, fr2, H2, r1, r2, r3, r4⟩ := hp
      cases e with
      | normal =>
        obtain ⟨s', h1, h2, h3⟩ := r4
        obtain ⟨M3, J3, q1, q2⟩ := h3 M2 J2 a2.tmps w2 r2 r1.hrep r1.mrep
        have hinv' : Inv (μ s') a2 w2 := ⟨s', h1, rfl, r3, M3, J3, (hs4.trans r1).trans q1, q2⟩
        refine ⟨⟨_, hinv'⟩, ?_⟩
        have hex : ∃ n, Inv n a2 w2 := ⟨_, hinv'⟩
        simp only [dif_pos hex]
        have hmin2 := Classical.choose_spec (show ∃ n, Inv n a2 w2 ∧ ∀ m, Inv m a2 w2 → n ≤ m from by
          have := hex
          obtain ⟨n, hn⟩ := this
          induction n using Nat.strongRecOn with
          | _ n ih =>
            by_cases hx : ∃ m, m < n ∧ Inv m a2 w2
            · obtain ⟨m, hm, hi⟩ := hx
              exact ih m hm hi
            · exact ⟨n, hn, fun m hm => Nat.le_of_not_lt fun hlt => hx ⟨m, hlt, hm⟩⟩)
        have := hmin2.2 _ hinv'
        omega
      | _ => exact ⟨M2, J2, fr2, H2, hs4.trans r1, r2, r3, r4⟩
    obtain ⟨M1, J1, q1, q2⟩ := hs M J tmps w hF hH hM
    exact key (μ s0) ⟨tmps, []⟩ w ⟨s0, h0, rfl, rfl, M1, J1, q1, q2⟩
  | region id ops draw => simp only [ccode] at hc; split at hc <;> (try cases hc); split at hc <;> cases hc
  | _ => simp only [ccode] at hc; (try split at hc) <;> (try cases hc) <;> (try simp at hc)

end
end Go.Av
