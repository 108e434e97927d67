import Derived.Test.YtpkpfgpfkajkpaaGAvX
import Derived.Test.YtpkpfgpfkajkpaaGAvF
namespace Go.Av
inductive Pl
  | nil
  | take (i : Nat) (p : Pl)
  | only (i : Nat) (p : Pl)
  | two (i : Nat) (p : Pl) (j : Nat) (q : Pl)
def frB (cl : List Nat) (i j : Nat) : List Nat → List Nat → Bool
  | _, [] => true
  | pre, x :: r => (Nat.beq x i || (Nat.beq x j || pre.any fun a => bef cl a x)) && frB cl i j (pre ++ [x]) r
theorem frB_spec {cl : List Nat} {i j : Nat} : ∀ {A pre : List Nat} {x : Nat} {B : List Nat}, frB cl i j pre (A ++ x :: B) = true → x = i ∨ x = j ∨ ∃ a ∈ pre ++ A, bef cl a x = true
  | [], pre, x, B, h => by
    simp only [List.nil_append, frB, Bool.and_eq_true, Bool.or_eq_true, List.any_eq_true] at h
    rcases h.1 with h | h | ⟨a, ha, hb⟩
    · exact .inl (Nat.eq_of_beq_eq_true h)
    · exact .inr (.inl (Nat.eq_of_beq_eq_true h))
    · exact .inr (.inr ⟨a, by simpa using ha, hb⟩)
  | y :: A, pre, x, B, h => by
    simp only [List.cons_append, frB, Bool.and_eq_true] at h
    rcases frB_spec h.2 with h | h | ⟨a, ha, hb⟩
    · exact .inl h
    · exact .inr (.inl h)
    · exact .inr (.inr ⟨a, by simpa using ha, hb⟩)
def noB (i : Nat) (l : List Nat) : Bool := l.all fun a => !Nat.beq a i
theorem noB_spec {i : Nat} {l : List Nat} (h : noB i l = true) : i ∉ l := fun hm => by
  have := List.all_eq_true.1 h i hm
  simp at this
theorem split_one {i : Nat} {A B A' B' : List Nat} (e : A ++ i :: B = A' ++ i :: B') (h1 : i ∉ A') (h2 : i ∉ B') : A = A' ∧ B = B' := by
  rcases List.append_eq_append_iff.1 e with ⟨C, e1, e2⟩ | ⟨C, e1, e2⟩
  · cases C with
    | nil =>
      simp only [List.append_nil] at e1
      simp only [List.nil_append, List.cons.injEq] at e2
      exact ⟨e1.symm, e2.2⟩
    | cons c C =>
      simp only [List.cons_append, List.cons.injEq] at e2
      obtain ⟨rfl, _⟩ := e2
      exact absurd (by rw [e1]; simp) h1
  · cases C with
    | nil =>
      simp only [List.append_nil] at e1
      simp only [List.nil_append, List.cons.injEq] at e2
      exact ⟨e1, e2.2.symm⟩
    | cons c C =>
      simp only [List.cons_append, List.cons.injEq] at e2
      obtain ⟨rfl, e3⟩ := e2
      exact absurd (by rw [e3]; simp) h2
def okP2 (cl : List Nat) (zs : List IOper) : Pl → List Nat → Bool
  | .nil, rem => rem.isEmpty
  | .take i pl, rem => match splitL i rem, zs[i]? with
    | some (A, B), some x => quietX x && (A.all (fun j => !bef cl i j && apartJ zs x j) && (B.all (fun j => bef cl i j || apartJ zs x j) && okP2 cl zs pl (A ++ B)))
    | _, _ => false
  | .only i pl, rem => match rem with
    | a :: B => Nat.beq a i && (B.all (fun j => bef cl i j) && okP2 cl zs pl B)
    | [] => false
  | .two i p j q, rem => frB cl i j [] rem && match splitL i rem, splitL j rem with
    | some (A, B), some (C, D) => (noB i A && (noB i B && okP2 cl zs p (A ++ B))) && (noB j C && (noB j D && okP2 cl zs q (C ++ D)))
    | _, _ => false
def LP2 (P : Program) (k : Nat) (cl : List Nat) (zs : List IOper) : Pl → List (Nat × List (Nat × Nat)) → Fr → Heap → (Fr → Heap → Prop) → Prop
  | .nil, _, fr, H, K => K fr H
  | .take i pl, pend, fr, H, K => ∃ x B, zs[i]? = some x ∧ (∀ q ∈ rdX fr x, q ∈ B) ∧ RT P k [(x, [])] fr H fun fr' H' => LP2 P k cl zs pl (addP i B pend) fr' H' K
  | .only i pl, pend, fr, H, K => ∃ x, zs[i]? = some x ∧ RT P k [(x, protOf cl pend i)] fr H fun fr' H' => LP2 P k cl zs pl pend fr' H' K
  | .two i p j q, pend, fr, H, K => (∃ x, zs[i]? = some x ∧ RT P k [(x, protOf cl pend i)] fr H fun fr' H' => LP2 P k cl zs p pend fr' H' K) ∧ ∃ x, zs[j]? = some x ∧ RT P k [(x, protOf cl pend j)] fr H fun fr' H' => LP2 P k cl zs q pend fr' H' K
theorem LP2.sound {P : Program} {k : Nat} {cl : List Nat} {zs : List IOper} : ∀ (pl : Pl) (rem l : List Nat) (pend : List (Nat × List (Nat × Nat))) {fr : Fr} {H : Heap} {K : Fr → Heap → Prop}, okP2 cl zs pl rem = true → SchedI (fun a b => ¬ bef cl a b = true) rem l →
    LP2 P k cl zs pl pend fr H K → RT P k (l.map (item cl zs pend)) fr H (Kc K)
  | .nil, rem, l, pend, fr, H, K, hok, hs, h => by
    have e : rem = [] := by cases rem with | nil => rfl | cons => cases hok
    rw [hs.nil_inv e]
    exact .nil (.of h)
  | .two i p j q, rem, l, pend, fr, H, K, hok, hs, h => by
    simp only [okP2, Bool.and_eq_true] at hok
    obtain ⟨hf, hok⟩ := hok
    split at hok
    · rename_i A B C D e1 e2
      simp only [Bool.and_eq_true] at hok
      obtain ⟨⟨a1, a2, a3⟩, b1, b2, b3⟩ := hok
      have s1 := splitL_spec e1
      have s2 := splitL_spec e2
      obtain ⟨⟨x, hx, hi⟩, y, hy, hj⟩ := h
      cases hs with
      | nil => simp at s1
      | cons A0 z B0 l hA hs =>
        rcases frB_spec hf with h | h | ⟨a, ha, hb⟩
        · subst h
          obtain ⟨rfl, rfl⟩ := split_one s1 (noB_spec a1) (noB_spec a2)
          rw [List.map_cons, item_get hx]
          exact RT.cons (hi.mono fun fr' H' h => LP2.sound p _ l pend a3 hs h)
        · subst h
          obtain ⟨rfl, rfl⟩ := split_one s2 (noB_spec b1) (noB_spec b2)
          rw [List.map_cons, item_get hy]
          exact RT.cons (hj.mono fun fr' H' h => LP2.sound q _ l pend b3 hs h)
        · exact absurd hb (hA a (by simpa using ha))
    · cases hok
  | .only i pl, rem, l, pend, fr, H, K, hok, hs, h => by
    cases rem with
    | nil => cases hok
    | cons a B =>
      simp only [okP2, Bool.and_eq_true] at hok
      obtain ⟨e, hB, hok⟩ := hok
      have := Nat.eq_of_beq_eq_true e
      subst this
      obtain ⟨l1, l2, q1, q2, q3⟩ := hs.pull [] a B rfl
      have e1 : l1 = [] := by
        cases l1 with
        | nil => rfl
        | cons j l1 =>
          rcases q3 j (List.mem_cons_self ..) with h | ⟨h, h'⟩
          · cases h
          · exact absurd (List.all_eq_true.1 hB j h) h'
      subst e1
      subst q1
      obtain ⟨x, hx, h⟩ := h
      rw [List.nil_append, List.map_cons, item_get hx]
      exact RT.cons (h.mono fun fr' H' h => LP2.sound pl B l2 pend hok q2 h)
  | .take i pl, rem, l, pend, fr, H, K, hok, hs, h => by
    simp only [okP2] at hok
    split at hok
    · rename_i A B x e1 e2
      simp only [Bool.and_eq_true] at hok
      obtain ⟨hq, hA, hB, hok⟩ := hok
      have e := splitL_spec e1
      obtain ⟨l1, l2, q1, q2, q3⟩ := hs.pull A i B e
      obtain ⟨x', C, hx, hC, h⟩ := h
      rw [e2] at hx
      injection hx with hx
      subst hx
      subst q1
      rw [List.map_append, List.map_cons, item_get e2]
      have hap : ∀ j ∈ l1, ¬ bef cl i j = true ∧ apartJ zs x j = true := fun j hj => by
        rcases q3 j hj with h | ⟨h, h'⟩
        · have := List.all_eq_true.1 hA j h
          simp only [Bool.and_eq_true, Bool.not_eq_true'] at this
          exact ⟨by rw [this.1]; simp, this.2⟩
        · have := List.all_eq_true.1 hB j h
          simp only [Bool.or_eq_true] at this
          exact ⟨h', this.resolve_left h'⟩
      have key : ∀ (pend' : List (Nat × List (Nat × Nat))), (∀ j, ∀ q ∈ protOf cl pend j, q ∈ protOf cl pend' j) → (∀ j, ¬ bef cl i j = true → ∀ q ∈ C, q ∈ protOf cl pend' j) → ∀ (v : AV), Took x fr H v C → LP2 P k cl zs pl pend' (fr.put x.dst v) H K →
          RT P k (l1.map (item cl zs pend) ++ (x, protOf cl pend i) :: l2.map (item cl zs pend)) fr H (Kc K) := by
        intro pend' h1 h2 v ht h
        have hrt := LP2.sound pl (A ++ B) (l1 ++ l2) pend' hok q2 h
        rw [List.map_append] at hrt
        have hins := RT.insert (px := protOf cl pend i) (B := C) (l1.map (item cl zs pend')) hrt ht fun a ha => by
          obtain ⟨j, hj, rfl⟩ := List.mem_map.1 ha
          obtain ⟨p1, p2⟩ := hap j hj
          unfold apartJ at p2
          split at p2
          · rename_i y hy
            rw [item_get hy]
            exact ⟨p2, h2 j p1⟩
          · cases p2
        have hdrop : ∀ (L L' : List (IOper × List (Nat × Nat))), Fewer L' L → ∀ {fr : Fr} {H : Heap} {K : Fr → Heap → Prop}, RT P k L fr H K → RT P k L' fr H K := by
          intro L L' hf
          induction hf with
          | nil => exact fun h => h
          | @cons a b L' L hab _ ih =>
            obtain ⟨a1, a2⟩ := a
            obtain ⟨b1, b2⟩ := b
            obtain ⟨rfl, hsub⟩ := hab
            have kk : ∀ {H H' : Heap}, Keeps b2 H H' → Keeps a2 H H' := fun {H H'} h => by
              have hm := h.mem
              clear h
              induction a2 with
              | nil => trivial
              | cons q r ihr => exact ⟨hm q (hsub q (List.mem_cons_self ..)), ihr fun p hp => hsub p (List.mem_cons_of_mem _ hp)⟩
            intro fr H K h
            cases h with
            | op hg hx hs hp h => exact .op hg hx hs (kk hp) (ih h)
            | skip hg h => exact .skip hg (ih h)
            | call hk hg hx hc hp h => exact .call hk hg hx hc (fun res H' hr => kk (hp res H' hr)) fun res H' hr => ih (h res H' hr)
            | callV hk hg hx hf hc hp h => exact .callV hk hg hx hf hc (fun res H' hr => kk (hp res H' hr)) fun res H' hr => ih (h res H' hr)
        have fm : ∀ L : List Nat, Fewer (L.map (item cl zs pend)) (L.map (item cl zs pend')) := fun L => by
          induction L with
          | nil => exact .nil
          | cons j L ih => exact .cons ⟨rfl, h1 j⟩ ih
        have fa : ∀ {a b c d : List (IOper × List (Nat × Nat))}, Fewer a b → Fewer c d → Fewer (a ++ c) (b ++ d) := fun {a b c d} h1 h2 => by
          induction h1 with
          | nil => exact h2
          | cons h _ ih => exact .cons h ih
        exact (hdrop _ _ (fa (fm l1) (.cons ⟨rfl, fun q hq => hq⟩ (fm l2))) hins).mono fun _ _ => Kc.kc
      have fin : ∀ {fr' : Fr} {H' : Heap} {K' : Fr → Heap → Prop}, RT P k [] fr' H' K' → K' fr' H' := fun h => by
        cases h with
        | nil h => exact h
      have mk : ∀ (v : AV), Took x fr H v C → LP2 P k cl zs pl (addP i C pend) (fr.put x.dst v) H K → RT P k (l1.map (item cl zs pend) ++ (x, protOf cl pend i) :: l2.map (item cl zs pend)) fr H (Kc K) := by
        intro v ht h
        cases C with
        | nil => exact key pend (fun _ _ h => h) (fun _ _ q hq => by cases hq) v ht h
        | cons c C =>
          refine key ((i, c :: C) :: pend) (fun j q hq => ?_) (fun j hj q hq => ?_) v ht h
          · simp only [protOf]
            split
            · exact hq
            · exact List.mem_append_right _ hq
          · simp only [protOf]
            split
            · rename_i hb; exact absurd hb hj
            · exact List.mem_append_left _ hq
      unfold quietX at hq
      cases h with
      | @op _ _ _ _ _ _ o v H' hg hxa hst hp h =>
        rw [hxa] at hq
        obtain ⟨rfl, hst'⟩ := quiet_gi (g' := H.length) (i' := 0) (quietO_wr hq _ _ _) hst
        refine mk v (.inl ⟨hg, o, hxa, hq, hst', fun q hq' => hC q ?_⟩) (fin h)
        unfold rdX
        rw [hxa]
        exact hq'
      | skip hg h => exact mk _ (.inr ⟨hg, rfl⟩) (fin h)
      | call hk hg hxa => rw [hxa] at hq; cases hq
      | callV hk hg hxa => rw [hxa] at hq; cases hq
    · cases hok
theorem AWP.lin2 {P : Program} {N k : Nat} {fr : Fr} {H : Heap} {Q : Exit → Fr → Heap → Prop} {zs : List IOper} {af : List (List Nat)} (pl : Pl) (hp : P.follows .mixedOrders = true)
    (hlow : lowB 0 af = true) (hok : okP2 (clo af) zs pl (List.range zs.length) = true) (h : LP2 P k (clo af) zs pl [] fr H (Q .normal)) : AWP P N k (.draw zs af) Q fr H := by
  intro c0 hc cx M J tmps w hcx hF hH hM
  cases c0 with
  | region id ops draw =>
    simp only [ccode] at hc
    split at hc
    · rename_i us hus
      cases draw with
      | false => cases hc
      | true =>
        injection hc with hc
        injection hc with hc1' hc2'
        subst hc1'; subst hc2'
        refine wpIn_region_draw fun t => lift_post hcx ?_
        rw [hp]
        have hsch : Region.schedule true ops t = Region.linearise .any ops t := by simp [Region.schedule]
        rw [hsch]
        obtain ⟨hlen, hgx⟩ := copers_len _ _ hus
        have hsz : us.length = ops.size := by rw [hlen]; simp
        have haf : ∀ j l, (ops.toList.map cafter)[j]? = some l → afterOf ops j = l := by
          intro j l hj
          rw [List.getElem?_map, Array.getElem?_toList] at hj
          unfold afterOf
          cases ho : ops[j]? with
          | none => rw [ho] at hj; cases hj
          | some o => rw [ho] at hj; simpa using hj
        have hs := linearise_schedI ops (fun a b => ¬ bef (clo (ops.toList.map cafter)) a b = true) (fun j kk hk => by
          have hl : (ops.toList.map cafter)[j]? = some (afterOf ops j) := by
            rw [List.getElem?_map, Array.getElem?_toList]
            unfold afterOf at hk ⊢
            cases ho : ops[j]? with
            | none => rw [ho] at hk; cases hk
            | some o => rfl
          have := lowB_sound _ 0 hlow j _ hl kk hk
          omega) (fun a b hab hb => by
          by_cases h : bef (clo (ops.toList.map cafter)) a b = true
          · exact .inl (bef_spec haf h)
          · exact .inr h) t
        rw [hsz] at hok
        have hrt := LP2.sound pl _ _ [] hok hs h
        have hmem : ∀ (all l : List Nat), SchedI (fun a b => ¬ bef (clo (ops.toList.map cafter)) a b = true) all l → ∀ j ∈ l, j ∈ all := by
          intro all l hs
          induction hs with
          | nil => exact fun j hj => hj
          | cons A i B l _ _ ih =>
            intro j hj
            rcases List.mem_cons.1 hj with rfl | hj
            · simp
            · have := ih j hj
              simp at this ⊢
              rcases this with h | h <;> simp [h]
        have hmat : ∀ l : List Nat, (∀ j ∈ l, j < ops.size) → Matches P N ops l ((l.map (item (clo (ops.toList.map cafter)) us [])).map (·.1)) := by
          intro l
          induction l with
          | nil => exact fun _ => trivial
          | cons j l ih =>
            intro hl
            have hj := hl j (List.mem_cons_self ..)
            have ho : ops[j]? = some ops[j] := Array.getElem?_eq_getElem hj
            obtain ⟨x, e1, e2⟩ := hgx j ops[j] (by rw [Array.getElem?_toList]; exact ho)
            refine ⟨⟨ops[j], ho, ?_⟩, ih fun q hq => hl q (List.mem_cons_of_mem _ hq)⟩
            rw [item_get e1]
            exact e2
        refine hrt.reg (N := N) ops _ (hmat _ fun j hj => List.mem_range.1 (hmem _ _ hs j hj)) M J tmps { w with drawn := w.drawn + 1 } hF hH hM _ fun a' w' hpost => ⟨rfl, ?_⟩
        obtain ⟨M2, J2, fr2, H2, q1, q2, q3, fr3, q4, q5⟩ := hpost
        exact ⟨M2, J2, fr3, H2, ⟨q1.m, q1.j, q1.hrep, q1.mrep, q1.os, q1.tape, q1.output, q1.size, q1.frame, q1.fresh, q1.live, q1.bk⟩, ⟨q2.1, fun t => by rw [q4]; exact q2.2 t⟩, q3, q5⟩
    · cases hc
  | _ => simp only [ccode] at hc; (try split at hc) <;> (try cases hc) <;> (try simp at hc)
section
variable {P : Program} {k : Nat} {fr : Fr} {H : Heap} {K : Fr → Heap → Prop} {cl : List Nat} {zs : List IOper} {i j : Nat} {x y : IOper} {p q : Pl} {pend : List (Nat × List (Nat × Nat))}
theorem LP2.z (h : K fr H) : LP2 P k cl zs .nil pend fr H K := h
theorem LP2.t0 (h : RT P k [(x, [])] fr H fun fr' H' => LP2 P k cl zs p pend fr' H' K) (hx : zs[i]? = some x := by rfl) (hB : rdX fr x = [] := by rfl) : LP2 P k cl zs (.take i p) pend fr H K := ⟨x, [], hx, fun q hq => by rw [hB] at hq; exact hq, h⟩
theorem LP2.t1 {g b : Nat} (h : RT P k [(x, [])] fr H fun fr' H' => LP2 P k cl zs p ((i, [(g, b)]) :: pend) fr' H' K) (hx : zs[i]? = some x := by rfl) (hB : rdX fr x = [(g, b)] := by rfl) : LP2 P k cl zs (.take i p) pend fr H K := ⟨x, [(g, b)], hx, fun q hq => by rw [hB] at hq; exact hq, h⟩
theorem LP2.t2 {g b g' b' : Nat} (h : RT P k [(x, [])] fr H fun fr' H' => LP2 P k cl zs p ((i, [(g, b), (g', b')]) :: pend) fr' H' K) (hx : zs[i]? = some x := by rfl) (hB : rdX fr x = [(g, b), (g', b')] := by rfl) : LP2 P k cl zs (.take i p) pend fr H K :=
  ⟨x, [(g, b), (g', b')], hx, fun q hq => by rw [hB] at hq; exact hq, h⟩
theorem LP2.c (h : RT P k [(x, protOf cl pend i)] fr H fun fr' H' => LP2 P k cl zs p pend fr' H' K) (hx : zs[i]? = some x := by rfl) : LP2 P k cl zs (.only i p) pend fr H K := ⟨x, hx, h⟩
theorem LP2.w (h1 : RT P k [(x, protOf cl pend i)] fr H fun fr' H' => LP2 P k cl zs p pend fr' H' K) (h2 : RT P k [(y, protOf cl pend j)] fr H fun fr' H' => LP2 P k cl zs q pend fr' H' K) (hx : zs[i]? = some x := by rfl) (hy : zs[j]? = some y := by rfl) : LP2 P k cl zs (.two i p j q) pend fr H K :=
  ⟨⟨x, hx, h1⟩, y, hy, h2⟩
end
theorem walkL2 {G G' : Prop} (h : G') (t : Boxed G' → G := by intro hw9; (repeat (first | refine LP2.t0 ?_ | refine LP2.t1 ?_ | refine LP2.t2 ?_ | refine LP2.c ?_ | refine RT.nil ?_ | refine LP2.z ?_ | refine tv1 ?_ | refine tv2 ?_ | refine tv5 ?_ | refine tv6 ?_ | refine tv9 ?_ | refine tv10 ?_ | refine tr1 ?_ | refine tr2 ?_ | refine tr3 ?_ | refine tr4 ?_ | refine tr5 ?_ | refine tr6 ?_ | refine tr7 ?_ | refine tr8 ?_ | refine tr9 ?_ | refine tr10 ?_)); exact hw9.out) : G := t ⟨h⟩
end Go.Av
namespace Go.Av
set_option maxRecDepth 20000
theorem copM_next {P : Program} {op : Op} {x : Operand} (h : copM P op = some (.mop .next [x])) : op = .next x false := by
  unfold copM at h
  split at h
  · revert h; split <;> simp
  · simp only [Option.some.injEq, IOp.mop.injEq, List.cons.injEq, and_true, true_and] at h
    subst h
    rfl
  all_goals (revert h; (repeat' split) <;> simp; done)
set_option maxHeartbeats 1000000 in
theorem copX_mop {P : Program} {op : Op} {e : MOp} {xs : List Operand} (h : copX P op = some (.mop e xs)) : False := by
  unfold copX at h
  split at h
  all_goals (revert h; (repeat' split) <;> simp; done)
set_option maxHeartbeats 1000000 in
theorem cop_mop {P : Program} {op : Op} {e : MOp} {xs : List Operand} (h : cop P op = some (.mop e xs)) : False := by
  unfold cop at h
  split at h
  all_goals (revert h; (repeat' split) <;> simp; done)
theorem cact_next {P : Program} {op : Op} {x : Operand} (h : cact P op = some (.op (.mop .next [x]))) : op = .next x false := by
  unfold cact at h
  split at h
  · rename_i io hx
    simp only [Option.some.injEq, IAct.op.injEq] at h
    subst h
    exact copM_next hx
  split at h
  · rename_i io hx
    simp only [Option.some.injEq, IAct.op.injEq] at h
    subst h
    exact (copX_mop hx).elim
  · unfold cact0 at h
    split at h
    · cases h
    · cases h
    · simp only [Option.map_eq_some_iff, IAct.op.injEq] at h
      obtain ⟨a, ha, rfl⟩ := h
      exact (cop_mop ha).elim
theorem Reg.next {P : Program} {N k : Nat} {xs : List IOper} {fr : Fr} {H : Heap} {K : Fr → Heap → Prop} {d : Nat} {gd : Option (Nat × Bool)} {x : Operand} {g i : Nat} {cur : Option (Value × AV)} {es : List (Value × AV)} (hg : gok fr gd = some true)
    (hx : ev fr x = .ptr g i 0 0) (hh : hget H g i = some (.it cur es))
    (h0 : es = [] → Reg P N k xs ((d, .tup [.sc (.bool false)]) :: fr) H K)
    (h1 : ∀ l1 y l2, es = l1 ++ y :: l2 → Reg P N k xs ((d, .tup [.sc (.bool true), .sc y.1, y.2]) :: fr) (hset H g i (.it (some y) (l1 ++ l2))) K) :
    Reg P N k (⟨some d, gd, .op (.mop .next [x])⟩ :: xs) fr H K := by
  intro ops l hm M J tmps w hF hH hM Q hQ
  cases l with
  | nil => exact hm.elim
  | cons i0 l =>
    obtain ⟨⟨o0, ho, hc⟩, hm'⟩ := hm
    obtain ⟨c1, c2, c3⟩ := coper_some hc
    have hw := gok_sound hF c2 hg
    have hop := cact_next c3
    have rx := ev_rep (ds := []) hF x
    rw [hx] at rx
    simp only [wpOps, ho, hw, if_true]
    left
    generalize hcv : Act.eval ⟨tmps, []⟩ x = cv at rx
    cases rx with
    | ptr _ _ _ _ β lc hJ hb =>
      rw [Nat.zero_mul] at hcv
      obtain ⟨ob, e1, e2⟩ := hH.its hh hJ hb
      rcases next_it (P := P) hM e1 e2 o0.type with ⟨e3, hrun⟩ | ⟨l1, l2, y, e, w1, ob', e3, hw1, hrun, e4, e5, e6, e7⟩
      · have hrun2 : (execOp (Act.eval ⟨tmps, []⟩) o0).run P w = .ok (.value (.tuple #[.bool false])) w := by simp [execOp, hop, hcv, hrun]
        simp only [Oper.wp, hrun2, Oper.upon]
        rw [put_defers]
        exact h0 e3 ops l hm' M J _ w (hF.put c1 (.tup _ _ rfl fun j c v a b => by
          cases j with
          | zero => simp at a b; subst a; subst b; exact .sc _
          | succ j => simp at a)) hH hM Q hQ
      · have hrun2 : (execOp (Act.eval ⟨tmps, []⟩) o0).run P w = .ok (.value (.tuple #[.bool true, e.key, e.val])) (ChangeMaps.setBlock w1 β ob') := by simp [execOp, hop, hcv, hrun]
        have s1 : Step k M J H w M J H w1 := by
          rcases hw1 with rfl | rfl
          · exact .refl k hH hM
          · exact Step.drew k hH hM rfl rfl rfl rfl
        have hw1h : w1.heap[β]? = some ob := by rcases hw1 with rfl | rfl <;> exact e1
        have s2 : Step k M J H w1 M J (hset H g i (.it (some y) (l1 ++ l2))) (ChangeMaps.setBlock w1 β ob') := by
          refine Step.write k s1.hrep s1.mrep g i lc β _ hh rfl hJ hb ob' _ (fun _ => ⟨β, ob', hb, ?_, e7⟩) rfl rfl rfl rfl
          show (w1.heap.setIfInBounds β ob')[β]? = some ob'
          simp [lt_of_heap' hw1h]
        simp only [Oper.wp, hrun2, Oper.upon]
        rw [put_defers]
        have st := s1.trans s2
        refine h1 l1 y l2 e3 ops l hm' M J _ _ (hF.put c1 (.tup _ _ rfl fun j c v a b => ?_)) st.hrep st.mrep Q fun a' w'' hp => hQ a' w'' ?_
        · match j with
          | 0 => simp at a b; subst a; subst b; exact .sc _
          | 1 => simp at a b; subst a; subst b; rw [← e4]; exact .sc _
          | 2 => simp at a b; subst a; subst b; exact e5
          | j + 3 => simp at a
        · obtain ⟨M2, J2, fr2, H2, q1, q2, q3, q4⟩ := hp
          exact ⟨M2, J2, fr2, H2, st.trans q1, q2, q3, q4⟩
theorem Sub.trunc {k N : Nat} {fr : Fr} {H : Heap} {g i sz : Nat} {rows : List (List AV)} (n : Nat) (hg : hget H g i = some (.cells sz rows)) : Sub k N fr H fr (hset H g i (.cells sz (rows.take n))) := by
  intro M J tmps w hF hH hM
  have hget := fun g' i' => get_hset H g i (.cells sz (rows.take n)) g' i' (.inl (by rw [hg]; rfl))
  have hlive : ∀ g' i', liveAt (hset H g i (.cells sz (rows.take n))) g' i' → liveAt H g' i' := by
    rintro g' i' ⟨y, hy, hyl⟩
    rw [hget] at hy
    by_cases e : g' = g ∧ i' = i
    · obtain ⟨rfl, rfl⟩ := e; exact ⟨_, hg, rfl⟩
    · rw [if_neg e] at hy; exact ⟨y, hy, hyl⟩
  have hle : (rows.take n).length * sz ≤ rows.length * sz := Nat.mul_le_mul_right _ (by rw [List.length_take]; omega)
  have htake : ∀ (q : Nat) (r : List AV), (rows.take n)[q]? = some r → rows[q]? = some r := fun q r h => by
    rw [List.getElem?_take] at h
    split at h
    · exact h
    · cases h
  refine ⟨M, J, ⟨fun _ _ h => h, fun _ _ _ _ h => h, ⟨?_, ?_, ?_, ?_⟩, hM, rfl, rfl, rfl, Nat.le_refl _, fun _ _ h _ => h, fun _ _ h => .inl h, fun g' i' l β h1 h2 h3 => .inl ⟨g', i', l, hlive g' i' h1, h2, h3⟩, fun _ r h => ⟨r, h, rfl⟩⟩, hF⟩
  · intro g' i' x hx hl
    rw [hget] at hx
    by_cases e : g' = g ∧ i' = i
    · obtain ⟨rfl, rfl⟩ := e
      rw [if_pos ⟨rfl, rfl⟩] at hx
      injection hx with hx
      subst hx
      obtain ⟨l, h1, h2, h3, h4⟩ := hH.blk _ _ _ hg rfl
      refine ⟨l, h1, h2, fun q r hq => h3 q r (htake q r hq), ?_⟩
      cases e : l.blk with
      | none => rw [e] at h4; subst h4; simp
      | some β =>
        rw [e] at h4
        obtain ⟨cs, t, a, b, c, o, d⟩ := h4
        exact ⟨cs, t, a, b, by omega, fun j v hj => o j v (by omega), fun q r j c v hq => d q r j c v (htake q r hq)⟩
    · rw [if_neg e] at hx
      exact hH.blk _ _ _ hx hl
  · intro g1 i1 g2 i2 l1 l2 β a b
    exact hH.inj g1 i1 g2 i2 l1 l2 β (hlive _ _ a) (hlive _ _ b)
  · intro g' i' l β a
    exact hH.out g' i' l β (hlive _ _ a)
  · intro g' i' l a
    refine ⟨?_, (hH.dom g' i' l a).2⟩
    rw [hget]
    split
    · rfl
    · exact (hH.dom g' i' l a).1
end Go.Av
namespace Go.Av
inductive Bare : AV → Prop
  | undef : Bare .undef
  | sc (v : Value) : Bare (.sc v)
  | agg (cs : List AV) (h : ∀ c ∈ cs, Bare c) : Bare (.agg cs)
  | tup (cs : List AV) (h : ∀ c ∈ cs, Bare c) : Bare (.tup cs)
  | ptr (g i r o : Nat) : Bare (.ptr g i r o)
  | hsl (g i s l : Nat) : Bare (.hsl g i s l)
  | mref (g i : Nat) : Bare (.mref g i)
theorem Rep.anyM {M J} {a : AV} {v : Value} (h : Rep M J a v) (hb : Bare a) (M' : Mem) : Rep M' J a v := by
  induction hb generalizing v with
  | undef => cases h; exact .undef _
  | sc v => cases h; exact .sc _
  | agg cs _ ih =>
    cases h with
    | agg _ cvs hl hr => exact .agg _ cvs hl fun j c v a b => ih c (List.mem_of_getElem? a) (hr j c v a b)
  | tup cs _ ih =>
    cases h with
    | tup _ cvs hl hr => exact .tup _ cvs hl fun j c v a b => ih c (List.mem_of_getElem? a) (hr j c v a b)
  | ptr g i r o => cases h with | ptr _ _ _ _ β l hJ hb => exact .ptr _ _ _ _ β l hJ hb
  | hsl g i s l =>
    cases h with
    | hsl _ _ _ _ cap β l hJ hb hc hlc => exact .hsl _ _ _ _ cap β l hJ hb hc hlc
    | hslNil _ _ a l hJ hb => exact .hslNil _ _ a l hJ hb
  | mref g i => cases h with | mref _ _ β l hJ hb => exact .mref _ _ β l hJ hb
def BareB : Blk → Prop
  | .dead => True
  | .cells _ rows => ∀ r ∈ rows, ∀ c ∈ r, Bare c
  | _ => False
theorem BRep.anyM {M J} {l : Loc} {h : Array Obj} {x : Blk} (hb : BRep M J l h x) (hx : BareB x) (M' : Mem) : BRep M' J l h x := by
  cases x with
  | dead => trivial
  | cells sz rows =>
    obtain ⟨h1, h2, h3⟩ := hb
    refine ⟨h1, h2, ?_⟩
    cases e : l.blk with
    | none => rw [e] at h3; exact h3
    | some β =>
      rw [e] at h3
      obtain ⟨cs, t, a, b, c, o, d⟩ := h3
      exact ⟨cs, t, a, b, c, o, fun i r j c v x y z => (d i r j c v x y z).anyM (hx r (List.mem_of_getElem? x) c (List.mem_of_getElem? y)) M'⟩
  | _ => exact hx.elim
theorem CallOK.viewF {P : Program} {f : FuncId} {args args' : List AV} {R R' : AV → Heap → Prop} {H : Heap} (h : CallOK P f args' [] R) (ha : ToL (ToT (H ++ gh []) H.length (notIn [])) (rho []) args args')
    (hR : ∀ res H0, R res H0 → Bare res ∧ (∀ g i x, hget H0 g i = some x → BareB x) ∧ ∃ res' H0', Ren (beh H.length) res res' ∧ (∀ g i x', hget H0' g i = some x' → x'.live = true → ∃ x, hget H0 g i = some x ∧ RenB (beh H.length) x x') ∧ (∀ g i, (hget H0 g i).isSome → (hget H0' g i).isSome) ∧ R' res' (H ++ H0')) : CallOK P f args H R' := by
  refine ⟨h.1, fun M J w cargs hl hr hH hM => ?_⟩
  obtain ⟨h1, h2⟩ := ha.spec
  obtain ⟨M1, J1, s1, t1⟩ := to_step (k := 0) (szs := []) (ids := []) (H' := []) hH hM rfl rfl rfl trivial
  refine (h.2 M1 J1 w cargs (by omega) (fun j c x a b => ?_) s1.hrep s1.mrep).mono ?_
  · obtain ⟨c0, hc0⟩ := get_of_len h1 a
    exact t1 _ _ _ (h2 j c0 c hc0 a) (hr j c0 x hc0 b)
  rintro e w' ⟨cv, M', J', res, H0, rfl, hs, hrep, hr0⟩
  obtain ⟨b1, b2, res', H0', r1, r2, r3, r4⟩ := hR res H0 hr0
  have hno : ∀ g i, ¬ liveAt [] g i := by
    rintro g i ⟨x, hx, _⟩
    simp [hget] at hx
  have hsame : ∀ (β : Nat) o, w.heap[β]? = some o → w'.heap[β]? = some o := fun β o ho => hs.frame β o ho fun g i l hl _ => absurd hl (hno g i)
  let J2 : Inj := fun a b => if a < H.length then J a b else J' (a - H.length) b
  have hJlt : ∀ g i l, J g i = some l → g < H.length := fun g i l hJ => hget_lt ((hH.dom g i l hJ).1)
  have x1 : Ext M J M J2 := ⟨fun _ _ h => h, fun g i l hJ => by
    show (if g < H.length then J g i else J' (g - H.length) i) = some l
    rw [if_pos (hJlt g i l hJ)]; exact hJ⟩
  have x2 : Ext M (J'.via (beh H.length)) M J2 := ⟨fun _ _ h => h, fun a b l hJ => by
    show (if a < H.length then J a b else J' (a - H.length) b) = some l
    by_cases hlt : a < H.length
    · unfold Inj.via at hJ
      rw [beh_lt hlt] at hJ
      cases hJ
    · rw [if_neg hlt]
      unfold Inj.via at hJ
      rw [beh_ge (by omega)] at hJ
      exact hJ⟩
  have hl1 : ∀ a b, a < H.length → liveAt (H ++ H0') a b → liveAt H a b := by
    rintro a b hlt ⟨x, hx, hxl⟩
    rw [hget_app_lt hlt] at hx
    exact ⟨x, hx, hxl⟩
  have hl2 : ∀ a b, H.length ≤ a → liveAt (H ++ H0') a b → liveAt H0 (a - H.length) b := by
    rintro a b hge ⟨x, hx, hxl⟩
    rw [hget_app_ge hge] at hx
    obtain ⟨y, hy, hb⟩ := r2 _ _ x hx hxl
    exact ⟨y, hy, hb.live hxl⟩
  have j1 : ∀ {a b : Nat} {l : Loc}, a < H.length → J2 a b = some l → J a b = some l := fun {a b l} hlt hJ => by
    have : (if a < H.length then J a b else J' (a - H.length) b) = some l := hJ
    rwa [if_pos hlt] at this
  have j2 : ∀ {a b : Nat} {l : Loc}, H.length ≤ a → J2 a b = some l → J' (a - H.length) b = some l := fun {a b l} hge hJ => by
    have : (if a < H.length then J a b else J' (a - H.length) b) = some l := hJ
    rwa [if_neg (by omega)] at this
  have hnew : ∀ g i l β, liveAt H0 g i → J' g i = some l → l.blk = some β → w.heap.size ≤ β := fun g i l β a b c => by
    rcases hs.live g i l β a b c with ⟨g0, i0, l0, q, _⟩ | q
    · exact absurd q (hno g0 i0)
    · exact q
  refine ⟨cv, M, J2, res', H ++ H0', rfl, ⟨fun _ _ h => h, fun g i l hg hJ => x1.j g i l hJ, ⟨?_, ?_, ?_, ?_⟩, fun β o ho => hsame β o (hM β o ho), hs.os, hs.tape, hs.output, hs.size, fun β o ho _ => hsame β o ho, fun β o ho => .inl ho, ?_, hs.bk⟩, ((hrep.anyM b1 M).ren r1).ext x2, r4⟩
  · intro a b x hx hxl
    by_cases hlt : a < H.length
    · rw [hget_app_lt hlt] at hx
      obtain ⟨l, p, q⟩ := hH.blk a b x hx hxl
      refine ⟨l, x1.j a b l p, q.ext x1 fun β hβ => ?_⟩
      have hb := (hH.dom a b l p).2 β hβ
      rw [Array.getElem?_eq_getElem hb]
      exact hsame β _ (Array.getElem?_eq_getElem hb)
    · rw [hget_app_ge (by omega)] at hx
      obtain ⟨y, hy, hb⟩ := r2 _ _ x hx hxl
      obtain ⟨l, p, q⟩ := hs.hrep.blk _ _ y hy (hb.live hxl)
      refine ⟨l, x2.j a b l ?_, ((q.anyM (b2 _ _ y hy) M).ren hb).ext x2 fun β _ => rfl⟩
      unfold Inj.via
      rw [beh_ge (by omega)]
      exact p
  · intro a b a' b' l l' β la lb ja jb ba bb
    by_cases h1 : a < H.length
    · by_cases h2 : a' < H.length
      · exact hH.inj a b a' b' l l' β (hl1 a b h1 la) (hl1 a' b' h2 lb) (j1 h1 ja) (j1 h2 jb) ba bb
      · have q1 := (hH.dom a b l (j1 h1 ja)).2 β ba
        have q2 := hnew _ _ l' β (hl2 a' b' (by omega) lb) (j2 (by omega) jb) bb
        omega
    · by_cases h2 : a' < H.length
      · have q1 := (hH.dom a' b' l' (j1 h2 jb)).2 β bb
        have q2 := hnew _ _ l β (hl2 a b (by omega) la) (j2 (by omega) ja) ba
        omega
      · have := hs.hrep.inj _ _ _ _ l l' β (hl2 a b (by omega) la) (hl2 a' b' (by omega) lb) (j2 (by omega) ja) (j2 (by omega) jb) ba bb
        exact ⟨by omega, this.2⟩
  · intro a b l β la ja ba
    by_cases h1 : a < H.length
    · exact hH.out a b l β (hl1 a b h1 la) (j1 h1 ja) ba
    · exact hM.lt (hnew _ _ l β (hl2 a b (by omega) la) (j2 (by omega) ja) ba)
  · intro a b l ja
    by_cases h1 : a < H.length
    · have := hH.dom a b l (j1 h1 ja)
      exact ⟨by rw [hget_app_lt h1]; exact this.1, fun β hβ => Nat.lt_of_lt_of_le (this.2 β hβ) hs.size⟩
    · have := hs.hrep.dom _ _ l (j2 (by omega) ja)
      exact ⟨by rw [hget_app_ge (by omega)]; exact r3 _ _ this.1, this.2⟩
  · intro a b l β la ja ba
    by_cases h1 : a < H.length
    · exact .inl ⟨a, b, l, hl1 a b h1 la, j1 h1 ja, ba⟩
    · exact .inr (hnew _ _ l β (hl2 a b (by omega) la) (j2 (by omega) ja) ba)
theorem CallOK.viewL {P : Program} {f : FuncId} {args args' : List AV} {n sz : Nat} {rows : List (List AV)} {H : Heap} (hb : ∀ r ∈ rows, ∀ c ∈ r, ∃ v, c = .sc v) (h : CallOK P f args' [] fun res H' => res = .hsl 0 0 0 n ∧ H' = [[.cells sz rows]]) (ha : ToL (ToT (H ++ gh []) H.length (notIn [])) (rho []) args args') :
    CallOK P f args H fun res H' => res = .hsl H.length 0 0 n ∧ H' = H ++ [[.cells sz rows]] := by
  refine h.viewF ha ?_
  rintro res H0 ⟨rfl, rfl⟩
  refine ⟨.hsl .., fun g i x hx => ?_, .hsl H.length 0 0 n, [[.cells sz rows]], .hsl _ _ _ _ _ _ (by rw [beh_ge (Nat.le_refl _), Nat.sub_self]), fun g i x' hx hl => ⟨x', hx, ?_⟩, fun _ _ h => h, rfl, rfl⟩
  · match g, i with
    | 0, 0 =>
      injection hx with hx
      subst hx
      intro r hr c hc
      obtain ⟨v, rfl⟩ := hb r hr c hc
      exact .sc v
    | 0, i + 1 => simp [hget] at hx
    | g + 1, i => simp [hget] at hx
  · match g, i with
    | 0, 0 =>
      injection hx with hx
      subst hx
      exact .pure _ _ fun r hr c hc => by
        obtain ⟨v, rfl⟩ := hb r hr c hc
        exact .sc v
    | 0, i + 1 => simp [hget] at hx
    | g + 1, i => simp [hget] at hx
theorem dstep_appN {g i : Nat} {fr : Fr} {H : Heap} {bytes m : Nat} {z : List (Nat × Value)} {s x : Operand} (hs : ev fr s = .sc (.slice none 0 0)) (hx : ev fr x = .sc (.int .i64 ((m + 1 : Nat) : Int))) (hb : (m + 1) * (bytes + 1) ≤ 70368744177664) :
    dstep g i (.mop (.appN bytes z) [s, x]) fr H = some (.hsl g i 0 (m + 1), hset H g i (.cells (zrow z).length (List.replicate (m + 1) (zrow z)))) := by
  have e : Nat.ble ((m + 1) * (bytes + 1)) 70368744177664 = true := Nat.ble_eq_true_of_le hb
  simp only [dstep, avals, List.map_cons, List.map_nil, hs, hx]
  show (match Nat.ble ((m + 1) * (bytes + 1)) 70368744177664 with | true => _ | false => _) = _
  rw [e]
theorem dstep_cut {g i : Nat} {fr : Fr} {H : Heap} {sz : Nat} {x hi : Operand} {k : IntKind} {q g' i' st len : Nat} {rows : List (List AV)} (hx : ev fr x = .hsl g' i' st len) (hh : ev fr hi = .sc (.int k (q : Int))) (hg : hget H g' i' = some (.cells sz rows)) (hq : q ≤ len) :
    dstep g i (.slice sz x none (some hi) none) fr H = some (.hsl g' i' st q, H) := by
  have e0 : Nat.ble 0 q = true := Nat.ble_eq_true_of_le (Nat.zero_le _)
  have e1 : Nat.ble q len = true := Nat.ble_eq_true_of_le hq
  have e2 : Nat.ble len len = true := Nat.ble_eq_true_of_le (Nat.le_refl _)
  have e3 : sbounds fr len none (some hi) none = some (0, q) := by
    simp only [sbounds, sbnd, hh]
    show (match Nat.ble 0 q && (Nat.ble q len && Nat.ble len len) && true with | true => some (0, q) | false => none) = _
    rw [e0, e1, e2]
    rfl
  have e4 : Nat.beq sz sz = true := by simp
  simp only [dstep, hx, hg, e4, e3]
end Go.Av
namespace Go.Av
open Go.MapKept
set_option maxRecDepth 20000
section
variable {P : Program} {M : Mem} {J : Inj} {H : Heap} {w : World} {g i : Nat}
variable {N : Nat} {fr : Fr} {tmps : Array Value} {ds : List Deferred} {o : Oper}
set_option maxHeartbeats 1000000 in
theorem append_two (hF : FRep N M J fr tmps) (hH : HRep M J H w.heap) (hM : MRep M w.heap) (hn : hok H g i) (hJ : J g i = none) {t e : TypeId} {inf : TypeInfo} {z : List (Nat × Value)} {s x : Operand} {args : Array Operand} {ts : Array TypeId}
    (ha : args.toList = [s, x]) (hts : ts.toList = [t, t]) (ht : P.underlying t = some (.slice e)) (hi : P.info? e = some inf) (hz : zOf P e = some z) (h : o.op = .call ⟨.builtin .append, args, ts⟩)
    {g' i' len : Nat} {rows1 rows2 : List (List AV)} (ea : ev fr s = .hsl g' i' 0 len) (hrows : rowsX inf.size H (ev fr x) = some (inf.size, rows2)) (hg : hget H g' i' = some (.cells inf.size rows1)) (hlen1 : rows1.length = len) (hbound : (len + rows2.length) * (inf.bytes + 1) ≤ 70368744177664) :
    OpOK P M J H w g i (execOp (Act.eval ⟨tmps, ds⟩) o) (.hsl g' i' 0 (len + rows2.length)) (hset H g' i' (.cells inf.size (rows1 ++ rows2))) ∨ OpOK P M J H w g i (execOp (Act.eval ⟨tmps, ds⟩) o) (.hsl g i 0 (len + rows2.length)) (hset H g i (.cells inf.size (rows1 ++ rows2))) := by
  have hx := ev_rep (ds := ds) hF x
  have hsv := ev_rep (ds := ds) hF s
  rw [ea] at hsv
  have ha' : args = #[s, x] := by cases args; simp_all
  have ht' : ts = #[t, t] := by cases ts; simp_all
  subst ha'; subst ht'
  obtain ⟨inf', zv, hi', hz0, hsize, hone, hun⟩ := zOf_some hz
  rw [hi] at hi'
  injection hi' with hi'
  subst hi'
  obtain ⟨b, m, c, hxv, hm, hrl2, news, hnl, hnone, hnrep, hnrun⟩ := rowsX_cells (P := P) hH hM hx hrows
  generalize hcx : Act.eval ⟨tmps, ds⟩ x = xv at hxv hnrun
  generalize hcs : Act.eval ⟨tmps, ds⟩ s = sv at hsv
  subst hxv
  have hbytes : (len + m) * inf.bytes ≤ 70368744177664 := by
    rw [hm]; exact Nat.le_trans (Nat.mul_le_mul_left _ (by omega)) hbound
  have hcount : len + m ≤ 70368744177664 := by
    rw [hm]
    have h1 : (len + rows2.length) * 1 ≤ (len + rows2.length) * (inf.bytes + 1) := Nat.mul_le_mul_left _ (by omega)
    omega
  obtain ⟨l0, p1, p2, p3, p4⟩ := hH.cells hg
  subst hm
  have hsuf : ∀ r w1, (Builtin.append_ #[t, t] o.type #[sv, .slice b rows2.length c]).run P w = .ok r w1 → (execOp (Act.eval ⟨tmps, ds⟩) o).run P w = .ok (.value r) w1 := by
    intro r w1 hr
    simp [execOp, h, resolve, invoke, builtin, hcx, hcs, hr]
  have hgrow : ∀ (base : Option Addr) (sCap : Nat) (olds : List Value), sv = .slice base len sCap → sCap < len + rows2.length → olds.length = len * inf.size → (∀ v ∈ olds, v.oneCell' = true) →
      (∀ w' : World, w'.heap = w.heap → (Builtin.firstCells inf.size len sv).run P w' = .ok olds.toArray w') →
      (∀ (q : Nat) (r : List AV) (j : Nat) c v, rows1[q]? = some r → r[j]? = some c → olds[q * inf.size + j]? = some v → Rep M J c v) →
      OpOK P M J H w g i (execOp (Act.eval ⟨tmps, ds⟩) o) (.hsl g i 0 (len + rows2.length)) (hset H g i (.cells inf.size (rows1 ++ rows2))) := by
    intro base sCap olds hsv' hcap hol hoone horun horep
    subst hsv'
    have hrun := run_app_grow (P := P) (w := w) t o.type e inf zv ht hi hz0 base len sCap olds horun b rows2.length c news hnrun hcap (by omega) (growslice_fits hcap (by omega))
    have hge : len + rows2.length ≤ grownCap w (len + rows2.length) sCap e := grownCap_ge w _ _ _
    generalize grownCap w (len + rows2.length) sCap e = cap' at hrun hge
    have hzl : (Builtin.zeroCells zv.cells (cap' - (len + rows2.length))).size = (cap' - (len + rows2.length)) * inf.size := by rw [size_zeroCells, hsize]
    have hsz3 : (olds.toArray ++ news.toArray ++ Builtin.zeroCells zv.cells (cap' - (len + rows2.length))).size = cap' * inf.size := by
      simp only [Array.size_append, List.size_toArray, hol, hnl, hzl]
      rw [← Nat.add_mul, ← Nat.add_mul]
      congr 1
      omega
    have hmul : (len + rows2.length) * inf.size = len * inf.size + rows2.length * inf.size := Nat.add_mul _ _ _
    have hmul2 : (len + rows2.length) * inf.size ≤ cap' * inf.size := Nat.mul_le_mul_right _ hge
    have hget : ∀ (j : Nat) v, (olds.toArray ++ news.toArray ++ Builtin.zeroCells zv.cells (cap' - (len + rows2.length)))[j]? = some v →
        (j < len * inf.size → olds[j]? = some v) ∧ (len * inf.size ≤ j → j < (len + rows2.length) * inf.size → news[j - len * inf.size]? = some v) := by
      intro j v hv
      refine ⟨fun hj => ?_, fun hj hj' => ?_⟩
      · rw [Array.getElem?_append_left (by simp; omega), Array.getElem?_append_left (by simp; omega)] at hv
        simpa using hv
      · rw [Array.getElem?_append_left (by simp; omega), Array.getElem?_append_right (by simp; omega)] at hv
        simpa [hol] using hv
    have hB : BRep M J ⟨some w.heap.size, inf.size, cap' * inf.size⟩ (w.heap.push (.cells (olds.toArray ++ news.toArray ++ Builtin.zeroCells zv.cells (cap' - (len + rows2.length))) e)) (.cells inf.size (rows1 ++ rows2)) := by
      refine BRep.append rfl rfl (get_push _ _) hsz3 hlen1 p3 hrl2 hmul2 (fun j v hj hv => ?_) (fun q r j c v hq hc hv => ?_) (fun q r j c v hq hc hv => ?_)
      · by_cases hlt : j < len * inf.size
        · exact hoone _ (List.mem_of_getElem? ((hget j v hv).1 hlt))
        · exact hnone _ (List.mem_of_getElem? ((hget j v hv).2 (by omega) hj))
      · have h1 := row_le (sz := inf.size) (List.getElem?_eq_some_iff.1 hq).1
        have h2 := (List.getElem?_eq_some_iff.1 hc).1
        rw [p3 q r hq] at h2
        rw [hlen1] at h1
        exact horep q r j c v hq hc ((hget _ v hv).1 (by omega))
      · have h1 := row_le (sz := inf.size) (List.getElem?_eq_some_iff.1 hq).1
        have h2 := (List.getElem?_eq_some_iff.1 hc).1
        rw [hrl2 q r hq] at h2
        have h3 := (hget _ v hv).2 (by omega) (by omega)
        rw [show len * inf.size + (q * inf.size + j) - len * inf.size = q * inf.size + j by omega] at h3
        exact hnrep q r j c v hq hc h3
    refine ⟨_, _, J.set g i ⟨some w.heap.size, inf.size, cap' * inf.size⟩, .inl (hsuf _ _ hrun), ?_, Inj.set_ext _ hJ M, fun k => ?_, fun a b hab => by simp only [Inj.set, if_neg hab]⟩
    · have := Rep.hsl (M := M) (J := J.set g i ⟨some w.heap.size, inf.size, cap' * inf.size⟩) g i 0 (len + rows2.length) cap' w.heap.size _ (Inj.set_self _) rfl (by simp) hge
      rwa [Nat.zero_mul] at this
    · exact (Step.alloc k hH hM g i hn hJ (some (.cells (olds.toArray ++ news.toArray ++ Builtin.zeroCells zv.cells (cap' - (len + rows2.length))) e)) _ _ rfl hB rfl rfl rfl rfl)
  cases hsv with
  | hslNil _ _ a0 l hJ' hb' =>
    rw [hJ'] at p1
    injection p1 with p1
    subst p1
    have hr0 : rows1 = [] := by simpa using hlen1
    subst hr0
    by_cases hm0 : rows2.length = 0
    · have hr2 : rows2 = [] := by simpa using hm0
      subst hr2
      have hn0 : news = [] := by simpa using hnl
      subst hn0
      have hrun : (Builtin.append_ #[t, t] o.type #[.slice a0 0 0, .slice b 0 c]).run P w = .ok (.slice a0 0 0) w := by
        have := hnrun w rfl
        simp at this
        cases a0 with
        | none => simp [Builtin.append_, run_underlying ht, sizeOf, typeInfo, hi, Builtin.lenOf, this]
        | some a => simp [Builtin.append_, run_underlying ht, sizeOf, typeInfo, hi, Builtin.lenOf, this, storeCells]
      refine .inr ⟨_, w, J.set g i ⟨none, inf.size, 0⟩, .inl (hsuf _ _ hrun), .hslNil g i _ _ (Inj.set_self _) rfl, Inj.set_ext _ hJ M, fun k => ?_, fun a b hab => by simp only [Inj.set, if_neg hab]⟩
      exact (Step.alloc k hH hM g i hn hJ none _ _ rfl ⟨rfl, fun q r hq => by simp at hq, rfl⟩ rfl rfl rfl rfl)
    · refine .inr (hgrow a0 0 [] rfl (by omega) (by simp) (fun v hv => by cases hv) (fun w' _ => by cases a0 <;> simp [Builtin.firstCells, loadCells, loadCellsFrom]) (fun q r j c v hq => by simp at hq))
  | hsl _ _ _ _ cap β l hJ' hb' hc' hlc =>
    rw [hJ'] at p1
    injection p1 with p1
    subst p1
    obtain ⟨cs, e', q1, q2, q3, q4, q5⟩ := p4 β hb'
    rw [Nat.zero_add] at hc'
    rw [Nat.zero_mul] at hgrow hsuf hcs
    rw [p2] at hc'
    by_cases hroom : len + rows2.length ≤ cap
    · have hmul : (len + rows2.length) * inf.size = len * inf.size + rows2.length * inf.size := Nat.add_mul _ _ _
      have hmul2 : (len + rows2.length) * inf.size ≤ cap * inf.size := Nat.mul_le_mul_right _ hroom
      have hst := run_storeCells P β (len * inf.size) e' news w cs 0 q1 (by rw [hnl]; omega) hnone
      rw [Nat.add_zero] at hst
      have hrun : (Builtin.append_ #[t, t] o.type #[.slice (some ⟨β, 0, none⟩) len cap, .slice b rows2.length c]).run P w = .ok (.slice (some ⟨β, 0, none⟩) (len + rows2.length) cap) (wset w β (.cells (splice cs (len * inf.size) news) e' (0, 0))) := by
        have := hnrun w rfl
        simp [Builtin.append_, run_underlying ht, sizeOf, typeInfo, hi, Builtin.lenOf, hroom, this, addr_add, hst]
      have hblt := lt_of_heap q1
      refine .inl ⟨_, _, J, .inl (hsuf _ _ hrun), ?_, .refl _ _, fun k => ?_, fun a b hab => rfl⟩
      · have := Rep.hsl (M := M) (J := J) g' i' 0 (len + rows2.length) cap β _ hJ' hb' (by rw [Nat.zero_add, p2]; exact hc') hroom
        rwa [Nat.zero_mul] at this
      · refine Step.write k hH hM g' i' l β _ hg rfl hJ' hb' (.cells (splice cs (len * inf.size) news) e' (0, 0)) _ (fun _ => ?_) rfl rfl rfl rfl
        refine BRep.append p2 hb' (heap_wset_same _ _ _ hblt) (by simp [q2]) hlen1 p3 hrl2 (by omega) (fun j v hj hv => ?_) (fun q r j c v hq hc hv => ?_) (fun q r j c v hq hc hv => ?_)
        · rw [get_splice] at hv
          split at hv
          · exact hnone _ (List.mem_of_getElem? hv)
          · exact q4 j v (by rw [hlen1]; omega) hv
        · have h1 := row_le (sz := inf.size) (List.getElem?_eq_some_iff.1 hq).1
          have h2 := (List.getElem?_eq_some_iff.1 hc).1
          rw [p3 q r hq] at h2
          rw [hlen1] at h1
          rw [get_splice, if_neg (by omega)] at hv
          exact q5 q r j c v hq hc hv
        · have h1 := row_le (sz := inf.size) (List.getElem?_eq_some_iff.1 hq).1
          have h2 := (List.getElem?_eq_some_iff.1 hc).1
          rw [hrl2 q r hq] at h2
          rw [get_splice, if_pos (by rw [hnl]; omega)] at hv
          rw [show len * inf.size + (q * inf.size + j) - len * inf.size = q * inf.size + j by omega] at hv
          exact hnrep q r j c v hq hc hv
    · have hle0 : 0 + len * inf.size ≤ cs.size := by
        have : len * inf.size ≤ cap * inf.size := Nat.mul_le_mul_right _ hlc
        omega
      have hget : ∀ j v, (cs.extract 0 (0 + len * inf.size)).toList[j]? = some v → j < len * inf.size ∧ cs[j]? = some v := by
        intro j v hv
        rw [Array.getElem?_toList, Array.getElem?_extract] at hv
        split at hv
        · rw [Nat.zero_add] at hv
          exact ⟨by omega, hv⟩
        · cases hv
      refine .inr ?_
      refine hgrow (some ⟨β, 0, none⟩) cap (cs.extract 0 (0 + len * inf.size)).toList rfl (by omega) (by simp; omega) (fun v hv => ?_) (fun w' hw' => ?_) (fun q r j c v hq hc hv => q5 q r j c v hq hc (hget _ v hv).2)
      · obtain ⟨j, hj⟩ := List.getElem?_of_mem hv
        have := hget j v hj
        exact q4 j v (by rw [hlen1]; exact this.1) this.2
      · rw [Array.toArray_toList]
        exact run_loadCells_block P (by rw [hw']; exact q1) hle0
end
set_option maxHeartbeats 1000000 in
theorem cop_append {P : Program} {op : Op} {sz bytes : Nat} {s x : Operand} (h : cop P op = some (.append sz bytes s x)) : ∃ args ts t e inf z, op = .call ⟨.builtin .append, args, ts⟩ ∧ args.toList = [s, x] ∧ ts.toList = [t, t] ∧ P.underlying t = some (.slice e) ∧ P.info? e = some inf ∧ zOf P e = some z ∧ sz = inf.size ∧ bytes = inf.bytes := by
  unfold cop at h
  split at h
  case h_27 =>
    rename_i args ts
    split at h
    · rename_i s' x' t u ha ht
      split at h
      · rename_i e h1
        split at h
        · rename_i inf z h2 h3
          split at h
          · rename_i h4
            simp only [Bool.and_eq_true, decide_eq_true_eq] at h4
            obtain ⟨rfl, _⟩ := h4
            simp only [Option.some.injEq, IOp.append.injEq] at h
            obtain ⟨rfl, rfl, rfl, rfl⟩ := h
            exact ⟨args, ts, t, e, inf, z, rfl, ha, ht, h1, h2, h3, rfl, rfl⟩
          · cases h
        · cases h
      · cases h
    · cases h
  all_goals (exfalso; revert h; (repeat' split) <;> simp; done)
set_option maxHeartbeats 1000000 in
theorem copX_append {P : Program} {op : Op} {sz bytes : Nat} {s x : Operand} (h : copX P op = some (.append sz bytes s x)) : False := by
  unfold copX at h
  split at h
  all_goals (revert h; (repeat' split) <;> simp; done)
set_option maxHeartbeats 1000000 in
theorem copM_append {P : Program} {op : Op} {sz bytes : Nat} {s x : Operand} (h : copM P op = some (.append sz bytes s x)) : False := by
  unfold copM at h
  split at h
  all_goals (revert h; (repeat' split) <;> simp; done)
theorem cact_append {P : Program} {op : Op} {sz bytes : Nat} {s x : Operand} (h : cact P op = some (.op (.append sz bytes s x))) : cop P op = some (.append sz bytes s x) := by
  unfold cact at h
  split at h
  · rename_i io hx
    simp only [Option.some.injEq, IAct.op.injEq] at h
    subst h
    exact (copM_append hx).elim
  split at h
  · rename_i io hx
    simp only [Option.some.injEq, IAct.op.injEq] at h
    subst h
    exact (copX_append hx).elim
  · unfold cact0 at h
    split at h
    · cases h
    · cases h
    · simp only [Option.map_eq_some_iff, IAct.op.injEq] at h
      obtain ⟨a, ha, rfl⟩ := h
      exact ha
theorem Reg.app2 {P : Program} {N k : Nat} {xs : List IOper} {fr : Fr} {H : Heap} {K : Fr → Heap → Prop} {d : Nat} {gd : Option (Nat × Bool)} {sz bytes : Nat} {s x : Operand} {g' i' len : Nat} {rows1 rows2 : List (List AV)} (hg : gok fr gd = some true)
    (hs : ev fr s = .hsl g' i' 0 len) (hx : rowsX sz H (ev fr x) = some (sz, rows2)) (hh : hget H g' i' = some (.cells sz rows1)) (hl : rows1.length = len) (hb : (len + rows2.length) * (bytes + 1) ≤ 70368744177664)
    (h0 : Reg P N k xs ((d, .hsl g' i' 0 (len + rows2.length)) :: fr) (hset H g' i' (.cells sz (rows1 ++ rows2))) K)
    (h1 : Reg P N k xs ((d, .hsl H.length 0 0 (len + rows2.length)) :: fr) (hset H H.length 0 (.cells sz (rows1 ++ rows2))) K) :
    Reg P N k (⟨some d, gd, .op (.append sz bytes s x)⟩ :: xs) fr H K := by
  intro ops l hm M J tmps w hF hH hM Q hQ
  cases l with
  | nil => exact hm.elim
  | cons i0 l =>
    obtain ⟨⟨o0, ho, hc⟩, hm'⟩ := hm
    obtain ⟨c1, c2, c3⟩ := coper_some hc
    have hw := gok_sound hF c2 hg
    obtain ⟨args, ts, t, e, inf, z, hop, ha, hts, ht, hi, hz, rfl, rfl⟩ := cop_append (cact_append c3)
    have hfree : J H.length 0 = none := hH.fresh
    have key := append_two (P := P) (ds := []) (g := H.length) (i := 0) hF hH hM (.inr ⟨rfl, rfl⟩) hfree ha hts ht hi hz hop hs hx hh hl hb
    simp only [wpOps, ho, hw, if_true]
    have go : ∀ (v : AV) (H' : Heap), OpOK P M J H w H.length 0 (execOp (Act.eval ⟨tmps, []⟩) o0) v H' → Reg P N k xs ((d, v) :: fr) H' K → o0.wp P ⟨tmps, []⟩ w (wpOps P ops Q l) Q := by
      intro v H' hok hreg
      obtain ⟨cv, w', J', hrun, hrep, hext, hstep, _⟩ := hok
      have hnext : wpOps P ops Q l (Act.put ⟨tmps, []⟩ o0.dst cv) w' := by
        rw [put_defers]
        refine hreg ops l hm' M J' _ w' ((hF.ext hext).put c1 hrep) (hstep k).hrep (hstep k).mrep Q fun a' w'' hp => hQ a' w'' ?_
        obtain ⟨M2, J2, fr2, H2, q1, q2, q3, q4⟩ := hp
        exact ⟨M2, J2, fr2, H2, (hstep k).trans q1, q2, q3, q4⟩
      rcases hrun with hrun | ⟨hrun, rfl⟩
      · simp only [Oper.wp, hrun, Oper.upon]
        exact hnext
      · simp only [Oper.wp, hrun, Oper.upon]
        exact hnext
    left
    rcases key with hok | hok
    · exact go _ _ hok h0
    · exact go _ _ hok h1
theorem CallOK.viewT {P : Program} {f : FuncId} {args args' : List AV} {n sz : Nat} {v : Value} {rows : List (List AV)} {H : Heap} (hb : ∀ r ∈ rows, ∀ c ∈ r, ∃ v, c = .sc v) (h : CallOK P f args' [] fun res H' => res = .tup [.hsl 0 0 0 n, .sc v] ∧ H' = [[.cells sz rows]]) (ha : ToL (ToT (H ++ gh []) H.length (notIn [])) (rho []) args args') :
    CallOK P f args H fun res H' => res = .tup [.hsl H.length 0 0 n, .sc v] ∧ H' = H ++ [[.cells sz rows]] := by
  refine h.viewF ha ?_
  rintro res H0 ⟨rfl, rfl⟩
  refine ⟨.tup _ fun c hc => (by rcases List.mem_cons.1 hc with rfl | hc; exact .hsl ..; rw [List.mem_singleton.1 hc]; exact .sc _), fun g i x hx => ?_, .tup [.hsl H.length 0 0 n, .sc v], [[.cells sz rows]], .tup _ _ rfl fun j x y a b => (by match j with | 0 => (injection a with a; injection b with b; subst a; subst b; exact .hsl _ _ _ _ _ _ (by rw [beh_ge (Nat.le_refl _), Nat.sub_self])) | 1 => (injection a with a; injection b with b; subst a; subst b; exact .sc _) | j + 2 => simp at a), fun g i x' hx hl => ⟨x', hx, ?_⟩, fun _ _ h => h, rfl, rfl⟩
  · match g, i with
    | 0, 0 =>
      injection hx with hx
      subst hx
      intro r hr c hc
      obtain ⟨v, rfl⟩ := hb r hr c hc
      exact .sc v
    | 0, i + 1 => simp [hget] at hx
    | g + 1, i => simp [hget] at hx
  · match g, i with
    | 0, 0 =>
      injection hx with hx
      subst hx
      exact .pure _ _ fun r hr c hc => by
        obtain ⟨v, rfl⟩ := hb r hr c hc
        exact .sc v
    | 0, i + 1 => simp [hget] at hx
    | g + 1, i => simp [hget] at hx
end Go.Av
