import Derived.Test.YtnngbbiajioghaaGAvX
namespace Go.Av

/-! Plans that part: where one of two comes next. -/

inductive Pl
  | nil
  | take (i : Nat) (p : Pl)
  | only (i : Nat) (p : Pl)
  | two (i : Nat) (p : Pl) (j : Nat) (q : Pl)

/-- None but these two can come next. -/
def frB (cl : List Nat) (i j : Nat) : List Nat → List Nat → Bool
  | _, [] => true
  | pre, x :: r => (Nat.beq x i || (Nat.beq x j || pre.any fun a => bef cl a x)) && frB cl i j (pre ++ [x]) r
theorem frB_spec {cl : List Nat} {i j : Nat} : ∀ {A pre : List Nat} {x : Nat} {B : List Nat}, frB cl i j pre (A ++ x :: B) = true → x = i ∨ x = j ∨ ∃ a ∈ pre ++ A, bef cl a x = true
  | [], pre, x, B, h => by
    simp only [List.nil_append, frB, Bool.and_eq_true, Bool.or_eq_true, List.any_eq_true] at h
    rcases h.1 with h | h | ⟨a, ha, hb⟩
    · exact .inl (Nat.eq_of_beq_eq_true h)
    · exact .inr (.inl (Nat.eq_of_beq_eq_true h))
    · exact .inr (.inr ⟨a, by simpa using ha, hb⟩)
  | y :: A, pre, x, B, h => by
    simp only [List.cons_append, frB, Bool.and_eq_true] at h
    rcases frB_spec h.2 with h | h | ⟨a, ha, hb⟩
    · exact .inl h
    · exact .inr (.inl h)
    · exact .inr (.inr ⟨a, by simpa using ha, hb⟩)

def noB (i : Nat) (l : List Nat) : Bool := l.all fun a => !Nat.beq a i
theorem noB_spec {i : Nat} {l : List Nat} (h : noB i l = true) : i ∉ l := fun hm => by
  have := List.all_eq_true.1 h i hm
  simp at this
theorem split_one {i : Nat} {A B A' B' : List Nat} (e : A ++ i :: B = A' ++ i :: B') (h1 : i ∉ A') (h2 : i ∉ B') : A = A' ∧ B = B' := by
  rcases List.append_eq_append_iff.1 e with ⟨C, e1, e2⟩ | ⟨C, e1, e2⟩
  · cases C with
    | nil =>
      simp only [List.append_nil] at e1
      simp only [List.nil_append, List.cons.injEq] at e2
      exact ⟨e1.symm, e2.2⟩
    | cons c C =>
      simp only [List.cons_append, List.cons.injEq] at e2
      obtain ⟨rfl, _⟩ := e2
      exact absurd (by rw [e1]; simp) h1
  · cases C with
    | nil =>
      simp only [List.append_nil] at e1
      simp only [List.nil_append, List.cons.injEq] at e2
      exact ⟨e1, e2.2.symm⟩
    | cons c C =>
      simp only [List.cons_append, List.cons.injEq] at e2
      obtain ⟨rfl, e3⟩ := e2
      exact absurd (by rw [e3]; simp) h2

def okP2 (cl : List Nat) (zs : List IOper) : Pl → List Nat → Bool
  | .nil, rem => rem.isEmpty
  | .take i pl, rem => match splitL i rem, zs[i]? with
    | some (A, B), some x => quietX x && (A.all (fun j => !bef cl i j && apartJ zs x j) && (B.all (fun j => bef cl i j || apartJ zs x j) && okP2 cl zs pl (A ++ B)))
    | _, _ => false
  | .only i pl, rem => match rem with
    | a :: B => Nat.beq a i && (B.all (fun j => bef cl i j) && okP2 cl zs pl B)
    | [] => false
  | .two i p j q, rem => frB cl i j [] rem && match splitL i rem, splitL j rem with
    | some (A, B), some (C, D) => (noB i A && (noB i B && okP2 cl zs p (A ++ B))) && (noB j C && (noB j D && okP2 cl zs q (C ++ D)))
    | _, _ => false

def LP2 (P : Program) (k : Nat) (cl : List Nat) (zs : List IOper) : Pl → List (Nat × List (Nat × Nat)) → Fr → Heap → (Fr → Heap → Prop) → Prop
  | .nil, _, fr, H, K => K fr H
  | .take i pl, pend, fr, H, K => ∃ x B, zs[i]? = some x ∧ (∀ q ∈ rdX fr x, q ∈ B) ∧ RT P k [(x, [])] fr H fun fr' H' => LP2 P k cl zs pl (addP i B pend) fr' H' K
  | .only i pl, pend, fr, H, K => ∃ x, zs[i]? = some x ∧ RT P k [(x, protOf cl pend i)] fr H fun fr' H' => LP2 P k cl zs pl pend fr' H' K
  | .two i p j q, pend, fr, H, K => (∃ x, zs[i]? = some x ∧ RT P k [(x, protOf cl pend i)] fr H fun fr' H' => LP2 P k cl zs p pend fr' H' K) ∧ ∃ x, zs[j]? = some x ∧ RT P k [(x, protOf cl pend j)] fr H fun fr' H' => LP2 P k cl zs q pend fr' H' K

theorem LP2.sound {P : Program} {k : Nat} {cl : List Nat} {zs : List IOper} : ∀ (pl : Pl) (rem l : List Nat) (pend : List (Nat × List (Nat × Nat))) {fr : Fr} {H : Heap} {K : Fr → Heap → Prop}, okP2 cl zs pl rem = true → SchedI (fun a b => ¬ bef cl a b = true) rem l →
    LP2 P k cl zs pl pend fr H K → RT P k (l.map (item cl zs pend)) fr H (Kc K)
  | .nil, rem, l, pend, fr, H, K, hok, hs, h => by
    have e : rem = [] := by cases rem with | nil => rfl | cons => cases hok
    rw [hs.nil_inv e]
    exact .nil (.of h)
  | .two i p j q, rem, l, pend, fr, H, K, hok, hs, h => by
    simp only [okP2, Bool.and_eq_true] at hok
    obtain ⟨hf, hok⟩ := hok
    split at hok
    · rename_i A B C D e1 e2
      simp only [Bool.and_eq_true] at hok
      obtain ⟨⟨a1, a2, a3⟩, b1, b2, b3⟩ := hok
      have s1 := splitL_spec e1
      have s2 := splitL_spec e2
      obtain ⟨⟨x, hx, hi⟩, y, hy, hj⟩ := h
      cases hs with
      | nil => simp at s1
      | cons A0 z B0 l hA hs =>
        rcases frB_spec hf with h | h | ⟨a, ha, hb⟩
        · subst h
          obtain ⟨rfl, rfl⟩ := split_one s1 (noB_spec a1) (noB_spec a2)
          rw [List.map_cons, item_get hx]
          exact RT.cons (hi.mono fun fr' H' h => LP2.sound p _ l pend a3 hs h)
        · subst h
          obtain ⟨rfl, rfl⟩ := split_one s2 (noB_spec b1) (noB_spec b2)
          rw [List.map_cons, item_get hy]
          exact RT.cons (hj.mono fun fr' H' h => LP2.sound q _ l pend b3 hs h)
        · exact absurd hb (hA a (by simpa using ha))
    · cases hok
  | .only i pl, rem, l, pend, fr, H, K, hok, hs, h => by
    cases rem with
    | nil => cases hok
    | cons a B =>
      simp only [okP2, Bool.and_eq_true] at hok
      obtain ⟨e, hB, hok⟩ := hok
      have := Nat.eq_of_beq_eq_true e
      subst this
      obtain ⟨l1, l2, q1, q2, q3⟩ := hs.pull [] a B rfl
      have e1 : l1 = [] := by
        cases l1 with
        | nil => rfl
        | cons j l1 =>
          rcases q3 j (List.mem_cons_self ..) with h | ⟨h, h'⟩
          · cases h
          · exact absurd (List.all_eq_true.1 hB j h) h'
      subst e1
      subst q1
      obtain ⟨x, hx, h⟩ := h
      rw [List.nil_append, List.map_cons, item_get hx]
      exact RT.cons (h.mono fun fr' H' h => LP2.sound pl B l2 pend hok q2 h)
  | .take i pl, rem, l, pend, fr, H, K, hok, hs, h => by
    simp only [okP2] at hok
    split at hok
    · rename_i A B x e1 e2
      simp only [Bool.and_eq_true] at hok
      obtain ⟨hq, hA, hB, hok⟩ := hok
      have e := splitL_spec e1
      obtain ⟨l1, l2, q1, q2, q3⟩ := hs.pull A i B e
      obtain ⟨x', C, hx, hC, h⟩ := h
      rw [e2] at hx
      injection hx with hx
      subst hx
      subst q1
      rw [List.map_append, List.map_cons, item_get e2]
      have hap : ∀ j ∈ l1, ¬ bef cl i j = true ∧ apartJ zs x j = true := fun j hj => by
        rcases q3 j hj with h | ⟨h, h'⟩
        · have := List.all_eq_true.1 hA j h
          simp only [Bool.and_eq_true, Bool.not_eq_true'] at this
          exact ⟨by rw [this.1]; simp, this.2⟩
        · have := List.all_eq_true.1 hB j h
          simp only [Bool.or_eq_true] at this
          exact ⟨h', this.resolve_left h'⟩
      have key : ∀ (pend' : List (Nat × List (Nat × Nat))), (∀ j, ∀ q ∈ protOf cl pend j, q ∈ protOf cl pend' j) → (∀ j, ¬ bef cl i j = true → ∀ q ∈ C, q ∈ protOf cl pend' j) → ∀ (v : AV), Took x fr H v C → LP2 P k cl zs pl pend' (fr.put x.dst v) H K →
          RT P k (l1.map (item cl zs pend) ++ (x, protOf cl pend i) :: l2.map (item cl zs pend)) fr H (Kc K) := by
        intro pend' h1 h2 v ht h
        have hrt := LP2.sound pl (A ++ B) (l1 ++ l2) pend' hok q2 h
        rw [List.map_append] at hrt
        have hins := RT.insert (px := protOf cl pend i) (B := C) (l1.map (item cl zs pend')) hrt ht fun a ha => by
          obtain ⟨j, hj, rfl⟩ := List.mem_map.1 ha
          obtain ⟨p1, p2⟩ := hap j hj
          unfold apartJ at p2
          split at p2
          · rename_i y hy
            rw [item_get hy]
            exact ⟨p2, h2 j p1⟩
          · cases p2
        have hdrop : ∀ (L L' : List (IOper × List (Nat × Nat))), Fewer L' L → ∀ {fr : Fr} {H : Heap} {K : Fr → Heap → Prop}, RT P k L fr H K → RT P k L' fr H K := by
          intro L L' hf
          induction hf with
          | nil => exact fun h => h
          | @cons a b L' L hab _ ih =>
            obtain ⟨a1, a2⟩ := a
            obtain ⟨b1, b2⟩ := b
            obtain ⟨rfl, hsub⟩ := hab
            have kk : ∀ {H H' : Heap}, Keeps b2 H H' → Keeps a2 H H' := fun {H H'} h => by
              have hm := h.mem
              clear h
              induction a2 with
              | nil => trivial
              | cons q r ihr => exact ⟨hm q (hsub q (List.mem_cons_self ..)), ihr fun p hp => hsub p (List.mem_cons_of_mem _ hp)⟩
            intro fr H K h
            cases h with
            | op hg hx hs hp h => exact .op hg hx hs (kk hp) (ih h)
            | skip hg h => exact .skip hg (ih h)
            | call hk hg hx hc hp h => exact .call hk hg hx hc (fun res H' hr => kk (hp res H' hr)) fun res H' hr => ih (h res H' hr)
            | callV hk hg hx hf hc hp h => exact .callV hk hg hx hf hc (fun res H' hr => kk (hp res H' hr)) fun res H' hr => ih (h res H' hr)
        have fm : ∀ L : List Nat, Fewer (L.map (item cl zs pend)) (L.map (item cl zs pend')) := fun L => by
          induction L with
          | nil => exact .nil
          | cons j L ih => exact .cons ⟨rfl, h1 j⟩ ih
        have fa : ∀ {a b c d : List (IOper × List (Nat × Nat))}, Fewer a b → Fewer c d → Fewer (a ++ c) (b ++ d) := fun {a b c d} h1 h2 => by
          induction h1 with
          | nil => exact h2
          | cons h _ ih => exact .cons h ih
        exact (hdrop _ _ (fa (fm l1) (.cons ⟨rfl, fun q hq => hq⟩ (fm l2))) hins).mono fun _ _ => Kc.kc
      have fin : ∀ {fr' : Fr} {H' : Heap} {K' : Fr → Heap → Prop}, RT P k [] fr' H' K' → K' fr' H' := fun h => by
        cases h with
        | nil h => exact h
      have mk : ∀ (v : AV), Took x fr H v C → LP2 P k cl zs pl (addP i C pend) (fr.put x.dst v) H K → RT P k (l1.map (item cl zs pend) ++ (x, protOf cl pend i) :: l2.map (item cl zs pend)) fr H (Kc K) := by
        intro v ht h
        cases C with
        | nil => exact key pend (fun _ _ h => h) (fun _ _ q hq => by cases hq) v ht h
        | cons c C =>
          refine key ((i, c :: C) :: pend) (fun j q hq => ?_) (fun j hj q hq => ?_) v ht h
          · simp only [protOf]
            split
            · exact hq
            · exact List.mem_append_right _ hq
          · simp only [protOf]
            split
            · rename_i hb; exact absurd hb hj
            · exact List.mem_append_left _ hq
      unfold quietX at hq
      cases h with
      | @op _ _ _ _ _ _ o v H' hg hxa hst hp h =>
        rw [hxa] at hq
        obtain ⟨rfl, hst'⟩ := quiet_gi (g' := H.length) (i' := 0) (quietO_wr hq _ _ _) hst
        refine mk v (.inl ⟨hg, o, hxa, hq, hst', fun q hq' => hC q ?_⟩) (fin h)
        unfold rdX
        rw [hxa]
        exact hq'
      | skip hg h => exact mk _ (.inr ⟨hg, rfl⟩) (fin h)
      | call hk hg hxa => rw [hxa] at hq; cases hq
      | callV hk hg hxa => rw [hxa] at hq; cases hq
    · cases hok

/-- A region whose order is open, along a plan that parts. -/
theorem AWP.lin2 {P : Program} {N k : Nat} {fr : Fr} {H : Heap} {Q : Exit → Fr → Heap → Prop} {zs : List IOper} {af : List (List Nat)} (pl : Pl) (hp : P.follows .mixedOrders = true)
    (hlow : lowB 0 af = true) (hok : okP2 (clo af) zs pl (List.range zs.length) = true) (h : LP2 P k (clo af) zs pl [] fr H (Q .normal)) : AWP P N k (.draw zs af) Q fr H := by
  intro c0 hc cx M J tmps w hcx hF hH hM
  cases c0 with
  | region id ops draw =>
    simp only [ccode] at hc
    split at hc
    · rename_i us hus
      cases draw with
      | false => cases hc
      | true =>
        injection hc with hc
        injection hc with hc1' hc2'
        subst hc1'; subst hc2'
        refine wpIn_region_draw fun t => lift_post hcx ?_
        rw [hp]
        have hsch : Region.schedule true ops t = Region.linearise .any ops t := by simp [Region.schedule]
        rw [hsch]
        obtain ⟨hlen, hgx⟩ := copers_len _ _ hus
        have hsz : us.length = ops.size := by rw [hlen]; simp
        have haf : ∀ j l, (ops.toList.map cafter)[j]? = some l → afterOf ops j = l := by
          intro j l hj
          rw [List.getElem?_map, Array.getElem?_toList] at hj
          unfold afterOf
          cases ho : ops[j]? with
          | none => rw [ho] at hj; cases hj
          | some o => rw [ho] at hj; simpa using hj
        have hs := linearise_schedI ops (fun a b => ¬ bef (clo (ops.toList.map cafter)) a b = true) (fun j kk hk => by
          have hl : (ops.toList.map cafter)[j]? = some (afterOf ops j) := by
            rw [List.getElem?_map, Array.getElem?_toList]
            unfold afterOf at hk ⊢
            cases ho : ops[j]? with
            | none => rw [ho] at hk; cases hk
            | some o => rfl
          have := lowB_sound _ 0 hlow j _ hl kk hk
          omega) (fun a b hab hb => by
          by_cases h : bef (clo (ops.toList.map cafter)) a b = true
          · exact .inl (bef_spec haf h)
          · exact .inr h) t
        rw [hsz] at hok
        have hrt := LP2.sound pl _ _ [] hok hs h
        have hmem : ∀ (all l : List Nat), SchedI (fun a b => ¬ bef (clo (ops.toList.map cafter)) a b = true) all l → ∀ j ∈ l, j ∈ all := by
          intro all l hs
          induction hs with
          | nil => exact fun j hj => hj
          | cons A i B l _ _ ih =>
            intro j hj
            rcases List.mem_cons.1 hj with rfl | hj
            · simp
            · have := ih j hj
              simp at this ⊢
              rcases this with h | h <;> simp [h]
        have hmat : ∀ l : List Nat, (∀ j ∈ l, j < ops.size) → Matches P N ops l ((l.map (item (clo (ops.toList.map cafter)) us [])).map (·.1)) := by
          intro l
          induction l with
          | nil => exact fun _ => trivial
          | cons j l ih =>
            intro hl
            have hj := hl j (List.mem_cons_self ..)
            have ho : ops[j]? = some ops[j] := Array.getElem?_eq_getElem hj
            obtain ⟨x, e1, e2⟩ := hgx j ops[j] (by rw [Array.getElem?_toList]; exact ho)
            refine ⟨⟨ops[j], ho, ?_⟩, ih fun q hq => hl q (List.mem_cons_of_mem _ hq)⟩
            rw [item_get e1]
            exact e2
        refine hrt.reg (N := N) ops _ (hmat _ fun j hj => List.mem_range.1 (hmem _ _ hs j hj)) M J tmps { w with drawn := w.drawn + 1 } hF hH hM _ fun a' w' hpost => ⟨rfl, ?_⟩
        obtain ⟨M2, J2, fr2, H2, q1, q2, q3, fr3, q4, q5⟩ := hpost
        exact ⟨M2, J2, fr3, H2, ⟨q1.m, q1.j, q1.hrep, q1.mrep, q1.os, q1.tape, q1.output, q1.size, q1.frame, q1.fresh, q1.live, q1.bk⟩, ⟨q2.1, fun t => by rw [q4]; exact q2.2 t⟩, q3, q5⟩
    · cases hc
  | _ => simp only [ccode] at hc; (try split at hc) <;> (try cases hc) <;> (try simp at hc)


section
variable {P : Program} {k : Nat} {fr : Fr} {H : Heap} {K : Fr → Heap → Prop} {cl : List Nat} {zs : List IOper} {i j : Nat} {x y : IOper} {p q : Pl} {pend : List (Nat × List (Nat × Nat))}
theorem LP2.z (h : K fr H) : LP2 P k cl zs .nil pend fr H K := h
theorem LP2.t0 (h : RT P k [(x, [])] fr H fun fr' H' => LP2 P k cl zs p pend fr' H' K) (hx : zs[i]? = some x := by rfl) (hB : rdX fr x = [] := by rfl) : LP2 P k cl zs (.take i p) pend fr H K := ⟨x, [], hx, fun q hq => by rw [hB] at hq; exact hq, h⟩
theorem LP2.t1 {g b : Nat} (h : RT P k [(x, [])] fr H fun fr' H' => LP2 P k cl zs p ((i, [(g, b)]) :: pend) fr' H' K) (hx : zs[i]? = some x := by rfl) (hB : rdX fr x = [(g, b)] := by rfl) : LP2 P k cl zs (.take i p) pend fr H K := ⟨x, [(g, b)], hx, fun q hq => by rw [hB] at hq; exact hq, h⟩
theorem LP2.t2 {g b g' b' : Nat} (h : RT P k [(x, [])] fr H fun fr' H' => LP2 P k cl zs p ((i, [(g, b), (g', b')]) :: pend) fr' H' K) (hx : zs[i]? = some x := by rfl) (hB : rdX fr x = [(g, b), (g', b')] := by rfl) : LP2 P k cl zs (.take i p) pend fr H K :=
  ⟨x, [(g, b), (g', b')], hx, fun q hq => by rw [hB] at hq; exact hq, h⟩
theorem LP2.c (h : RT P k [(x, protOf cl pend i)] fr H fun fr' H' => LP2 P k cl zs p pend fr' H' K) (hx : zs[i]? = some x := by rfl) : LP2 P k cl zs (.only i p) pend fr H K := ⟨x, hx, h⟩
theorem LP2.w (h1 : RT P k [(x, protOf cl pend i)] fr H fun fr' H' => LP2 P k cl zs p pend fr' H' K) (h2 : RT P k [(y, protOf cl pend j)] fr H fun fr' H' => LP2 P k cl zs q pend fr' H' K) (hx : zs[i]? = some x := by rfl) (hy : zs[j]? = some y := by rfl) : LP2 P k cl zs (.two i p j q) pend fr H K :=
  ⟨⟨x, hx, h1⟩, y, hy, h2⟩
end
theorem walkL2 {G G' : Prop} (h : G') (t : Boxed G' → G := by intro hw9; (repeat (first | refine LP2.t0 ?_ | refine LP2.t1 ?_ | refine LP2.t2 ?_ | refine LP2.c ?_ | refine RT.nil ?_ | refine LP2.z ?_ | refine tv1 ?_ | refine tv2 ?_ | refine tv5 ?_ | refine tv6 ?_ | refine tv9 ?_ | refine tv10 ?_ | refine tr1 ?_ | refine tr2 ?_ | refine tr3 ?_ | refine tr4 ?_ | refine tr5 ?_ | refine tr6 ?_ | refine tr7 ?_ | refine tr8 ?_ | refine tr9 ?_ | refine tr10 ?_)); exact hw9.out) : G := t ⟨h⟩
end Go.Av
