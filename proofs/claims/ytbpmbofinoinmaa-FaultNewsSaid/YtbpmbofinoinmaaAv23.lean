import Derived.Test.YtbpmbofinoinmaaAv22
namespace Go.Av

/-! A region whose order is open and whose last operation, behind all others, does whatever it does; calls from a heap whose first blocks are the callee's. -/

theorem wpOps_append {P : Program} {ops : Array Oper} {Q : Exit → Act → World → Prop} {l2 : List Nat} : ∀ (l : List Nat) (a : Act) (w : World), wpOps P ops (fun e a w => e = .normal ∧ wpOps P ops Q l2 a w) l a w → wpOps P ops Q (l ++ l2) a w
  | [], a, w, h => h.2
  | i :: l, a, w, h => by
    show wpOps P ops Q (i :: (l ++ l2)) a w
    simp only [wpOps] at h ⊢
    split at h
    · exact wpOps_append l a w h
    · rename_i o e
      split at h
      · rename_i hw
        rw [if_pos hw]
        rcases h with h | ⟨_, a', w', h, _⟩
        · left
          unfold Oper.wp at h ⊢
          generalize (execOp a.eval o).run P w = r at *
          cases r with
          | ok n w' =>
            cases n <;> simp only [Oper.upon] at h ⊢
            all_goals first
              | exact wpOps_append l _ _ h
              | exact Calls.mono h (fun e w'' he => by
                  cases e
                  · exact wpOps_append l _ _ he
                  · cases he.1
                  · obtain ⟨_, _, h, _⟩ := he; cases h)
              | exact Rows.mono h (fun _ _ he => wpOps_append l _ _ he)
          | halt x w' =>
            cases x <;> simp only [Oper.upon] at h ⊢ <;> cases h.1
        · cases h
      · rename_i hw
        rw [if_neg hw]
        exact wpOps_append l _ _ h

def splitLast {α : Type} : List α → Option (List α × α)
  | [] => none
  | [x] => some ([], x)
  | x :: y :: r => match splitLast (y :: r) with
    | some (l, z) => some (x :: l, z)
    | none => none

theorem splitLast_eq {α : Type} : ∀ {zs xs : List α} {y : α}, splitLast zs = some (xs, y) → zs = xs ++ [y]
  | [], xs, y, h => by cases h
  | [x], xs, y, h => by simp [splitLast] at h; obtain ⟨rfl, rfl⟩ := h; rfl
  | x :: z :: r, xs, y, h => by
    simp only [splitLast] at h
    split at h
    · rename_i l u e
      injection h with h
      injection h with h1 h2
      subst h1; subst h2
      rw [splitLast_eq e]
      rfl
    · cases h

def chkL (af : List (List Nat)) (R : List RRec) : Bool :=
  lowB 0 af && (chkAll af R 0 R && (Nat.beq af.length (R.length + 1) && (List.range R.length).all fun j => befB af af.length j R.length))

theorem AWP.drawLast {P : Program} {N k : Nat} {fr : Fr} {H : Heap} {Q : Exit → Fr → Heap → Prop} {zs xs : List IOper} {y : IOper} {af : List (List Nat)} {R : List RRec} {fr' : Fr} {H' : Heap} (hz : splitLast zs = some (xs, y)) (hp : P.follows .mixedOrders = true)
    (hrun : DRun P H.length 0 xs fr (H ++ [List.replicate zs.length .dead]) R fr' H') (hchk : chkL af R = true) (h : Reg P N k [y] fr' H' (Q .normal)) : AWP P N k (.draw zs af) Q fr H := by
  have hz := splitLast_eq hz
  intro c0 hc M J tmps w hF hH hM
  cases c0 with
  | region id ops draw =>
    simp only [ccode] at hc
    split at hc
    · rename_i ys hys
      cases draw with
      | false => cases hc
      | true =>
        injection hc with hc
        injection hc with hc1 hc2
        subst hc1; subst hc2
        refine wp_region_draw fun t => ?_
        rw [hp]
        have hsch : Region.schedule true ops t = Region.linearise .any ops t := by simp [Region.schedule]
        rw [hsch]
        obtain ⟨hlen, hgx⟩ := copers_len _ _ hys
        obtain ⟨hrx, hrid⟩ := hrun.recs
        have hsz : ops.size = R.length + 1 := by
          have := congrArg List.length hrx
          simp at this
          rw [this]
          have h2 : ys.length = ops.size := by rw [hlen]; simp
          rw [← h2, hz]
          simp
        have hyget : ∀ (j : Nat) (x : IOper), xs[j]? = some x → ys[j]? = some x := by
          intro j x hj
          rw [hz, List.getElem?_append_left (List.getElem?_eq_some_iff.1 hj).1]
          exact hj
        have hxlen : xs.length = R.length := by rw [← hrx]; simp
        let R' : Nat → RRec := fun j => R.getD j ⟨⟨none, none, .call 0 []⟩, (0, 0), .undef, [], []⟩
        have hR' : ∀ j, j < R.length → R[j]? = some (R' j) := by
          intro j hj
          simp [R', List.getD, hj]
        have haf : ∀ j l, (ops.toList.map cafter)[j]? = some l → afterOf ops j = l := by
          intro j l hj
          rw [List.getElem?_map, Array.getElem?_toList] at hj
          unfold afterOf
          cases ho : ops[j]? with
          | none => rw [ho] at hj; cases hj
          | some o => rw [ho] at hj; simpa using hj
        simp only [chkL, Bool.and_eq_true] at hchk
        obtain ⟨hc1, hc2, _, hc4⟩ := hchk
        have hs := linearise_schedI ops (fun a b => b < R.length ∧ indep (R' a) (R' b) = true) (fun j k hk => by
          have hl : (ops.toList.map cafter)[j]? = some (afterOf ops j) := by
            rw [List.getElem?_map, Array.getElem?_toList]
            unfold afterOf at hk ⊢
            cases ho : ops[j]? with
            | none => rw [ho] at hk; cases hk
            | some o => rfl
          have := lowB_sound _ 0 hc1 j _ hl k hk
          omega) (fun a b hab hb => by
          by_cases hbn : b < R.length
          · have h1 := chkAll_sound _ 0 hc2 b _ (hR' b hbn)
            rcases chkB_sound _ 0 h1 a _ (hR' a (by omega)) (by omega) with h2 | h2
            · left
              rw [Nat.zero_add, Nat.zero_add] at h2
              exact befB_sound haf _ _ _ h2
            · exact .inr ⟨hbn, h2⟩
          · have hbe : b = R.length := by omega
            subst hbe
            left
            exact befB_sound haf _ _ _ (List.all_eq_true.1 hc4 a (List.mem_range.2 hab))) t
        rw [hsz, List.range_succ] at hs
        obtain ⟨l', hl', hs'⟩ := hs.last (n := R.length) (fun a ha => by have := ha.1; omega) (List.range R.length) (by simp) rfl
        have hs := hs'.to (R := R') fun a b hab => hab.2
        rw [hl']
        refine wpOps_append l' _ _ ?_
        have hrem : ((List.range R.length).map fun j => (j, R' j)).map (·.2) = R := by
          apply List.ext_getElem?
          intro j
          rw [List.map_map, List.getElem?_map]
          by_cases hj : j < R.length
          · rw [hR' j hj, List.getElem?_range hj]
            rfl
          · have h1 : (List.range R.length)[j]? = none := List.getElem?_eq_none (by rw [List.length_range]; omega)
            have h2 : R[j]? = none := List.getElem?_eq_none (by omega)
            rw [h1, h2]
            rfl
        have hdead : ∀ g i x, hget (H ++ [List.replicate ys.length Blk.dead]) g i = some x → x.live = true → hget H g i = some x := by
          intro g i x hx hl
          rw [hget_append] at hx
          split at hx
          · rw [List.getElem?_replicate] at hx
            split at hx
            · injection hx with hx; subst hx; cases hl
            · cases hx
          · exact hx
        have hH0 : HRep M J (H ++ [List.replicate ys.length .dead]) w.heap := by
          refine ⟨fun g i x hx hl => hH.blk g i x (hdead g i x hx hl) hl, fun g i g' i' l l' β ⟨x, hx, hl⟩ ⟨y, hy, hl'⟩ => hH.inj g i g' i' l l' β ⟨x, hdead _ _ _ hx hl, hl⟩ ⟨y, hdead _ _ _ hy hl', hl'⟩,
            fun g i l β ⟨x, hx, hl⟩ => hH.out g i l β ⟨x, hdead _ _ _ hx hl, hl⟩, fun g i l hJ => ?_⟩
          have := hH.dom g i l hJ
          refine ⟨?_, this.2⟩
          rw [hget_append]
          split
          · rename_i e
            subst e
            have h2 := this.1
            simp [hget] at h2
          · exact this.1
        have hids : ∀ j, j < R.length → (R' j).id = (H.length, j) := fun j hj => by rw [hrid j _ (hR' j hj), Nat.zero_add]
        have hlive : ∀ g i, liveAt (H ++ [List.replicate ys.length Blk.dead]) g i → liveAt H g i := fun g i ⟨x, hx, hl⟩ => ⟨x, hdead g i x hx hl, hl⟩
        refine run_sched (k := k) (N := N) (t := (fr', H')) hs (fun p hp => ?_) ?_ (fr, H ++ [List.replicate ys.length .dead]) M J tmps { w with drawn := w.drawn + 1 } hF hH0 hM (by rw [hrem]; exact hrun.run) (fun p hp => ?_) _ fun a' w' hp => ⟨rfl, ?_⟩
        · obtain ⟨j, hj, rfl⟩ := List.mem_map.1 hp
          have hj := List.mem_range.1 hj
          have ho : ops[j]? = some ops[j] := Array.getElem?_eq_getElem (by omega)
          obtain ⟨x, hx1, hx2⟩ := hgx j ops[j] (by rw [Array.getElem?_toList]; exact ho)
          refine ⟨ops[j], ho, ?_⟩
          have : some (R' j).x = some x := by
            rw [← hx1]
            have h3 : xs[j]? = some (R' j).x := by rw [← hrx, List.getElem?_map, hR' j hj]; rfl
            rw [hyget j _ h3]
          injection this with this
          rw [this]
          exact hx2
        · rw [List.map_map]
          have he : (List.range R.length).map ((fun x : Nat × RRec => x.2.id) ∘ fun j => (j, R' j)) = (List.range R.length).map fun j => (H.length, j) :=
            List.map_congr_left fun j hj => hids j (List.mem_range.1 hj)
          rw [he]
          exact List.Pairwise.map _ (fun a b hab e => hab (by injection e)) List.nodup_range
        · obtain ⟨j, hj, rfl⟩ := List.mem_map.1 hp
          have hj := List.mem_range.1 hj
          rw [hids j hj]
          refine ⟨?_, ?_⟩
          · rw [hget_append, if_pos rfl, List.getElem?_replicate, if_pos (by rw [hlen]; simp; omega)]
            rfl
          · cases e : J H.length j with
            | none => rfl
            | some l =>
              have := (hH.dom _ _ l e).1
              simp [hget] at this
        · obtain ⟨M2, J2, fr2, H2, q1, q2, q3, q4, q5⟩ := hp
          subst q4; subst q5
          obtain ⟨a't, a'd⟩ := a'
          cases q3
          have q1' : Step k M J H w M2 J2 H2 w' :=
            ⟨q1.m, q1.j, q1.hrep, q1.mrep, q1.os, q1.tape, q1.output, q1.size, fun β o ho hn => q1.frame β o ho fun g i l hl hJ => hn g i l (hlive g i hl) hJ,
              fun β o ho => or2 (q1.fresh β o ho) (fun h => h) fun h => or2 h (fun h => h) fun ⟨g, i, l, a, b, c⟩ => ⟨g, i, l, hlive g i a, b, c⟩,
              fun g i l β a b c => or2 (q1.live g i l β a b c) (fun ⟨g0, i0, l0, a, b, c⟩ => ⟨g0, i0, l0, hlive g0 i0 a, b, c⟩) fun h => h⟩
          have ho : ops[R.length]? = some ops[R.length] := Array.getElem?_eq_getElem (by omega)
          obtain ⟨x, hx1, hx2⟩ := hgx R.length ops[R.length] (by rw [Array.getElem?_toList]; exact ho)
          have hxy : x = y := by
            rw [hz, ← hxlen, List.getElem?_append_right (Nat.le_refl _), Nat.sub_self] at hx1
            simpa using hx1.symm
          subst hxy
          refine h ops [R.length] ⟨⟨_, ho, hx2⟩, trivial⟩ M2 J2 a't w' q2 q1.hrep q1.mrep _ fun a'' w'' hp => ?_
          obtain ⟨M3, J3, fr3, H3, r1, r2, r3, r4⟩ := hp
          exact ⟨M3, J3, fr3, H3, q1'.trans r1, r2, r3, r4⟩
    · cases hc
  | _ => simp only [ccode] at hc; (try split at hc) <;> (try cases hc) <;> (try simp at hc)

theorem AWP.dkl {P : Program} {N k : Nat} {fr : Fr} {H : Heap} {Q : Exit → Fr → Heap → Prop} {zs xs : List IOper} {y : IOper} {af : List (List Nat)} (hz : splitLast zs = some (xs, y)) (hp : P.follows .mixedOrders = true)
    (h : DK P H.length 0 xs fr (H ++ [List.replicate zs.length .dead]) [] fun R fr' H' => chkL af R = true ∧ Reg P N k [y] fr' H' (Q .normal)) : AWP P N k (.draw zs af) Q fr H := by
  obtain ⟨R, fr', H', h1, h2, h3⟩ := h
  exact AWP.drawLast hz hp h1 h2 h3

/-! Two families of one block each, ahead of others. -/

def low2 (g i : Nat) : Option (Nat × Nat) := match Nat.blt g 2 && Nat.beq i 0 with
  | true => some (g, i)
  | false => none

theorem low2_spec {g i : Nat} {p : Nat × Nat} (h : low2 g i = some p) : g < 2 ∧ i = 0 ∧ p = (g, i) := by
  unfold low2 at h
  split at h
  · rename_i e
    simp only [Bool.and_eq_true] at e
    injection h with h
    exact ⟨Nat.le_of_ble_eq_true e.1, Nat.eq_of_beq_eq_true e.2, h.symm⟩
  · cases h

theorem CallOK.two {P : Program} {f : FuncId} {args : List AV} {a b : Blk} {X : Heap} {R : AV → Blk → Blk → Prop} (h : CallOK P f args [[a], [b]] fun res H' => ∃ a' b', H' = [[a'], [b']] ∧ Pure res ∧ PureB a' ∧ PureB b' ∧ R res a' b') (ha : PureB a) (hb : PureB b)
    (hargs : RenArgs low2 args args) : CallOK P f args ([a] :: [b] :: X) fun res H' => ∃ a' b', H' = [a'] :: [b'] :: X ∧ PureB a' ∧ PureB b' ∧ R res a' b' := by
  have hcase : ∀ (a b : Blk) (X : Heap) g i, g < 2 → i = 0 → hget ([a] :: [b] :: X) g i = some (match g with | 0 => a | _ => b) := by
    intro a b X g i hg hi
    subst hi
    match g, hg with
    | 0, _ => rfl
    | 1, _ => rfl
  have hinv : ∀ (a b : Blk) g i x, hget [[a], [b]] g i = some x → g < 2 ∧ i = 0 ∧ x = (match g with | 0 => a | _ => b) := by
    intro a b g i x h
    match g, i with
    | 0, 0 => exact ⟨by omega, rfl, by simpa [hget] using h.symm⟩
    | 1, 0 => exact ⟨by omega, rfl, by simpa [hget] using h.symm⟩
    | 0, i + 1 => simp [hget] at h
    | 1, i + 1 => simp [hget] at h
    | g + 2, i => simp [hget] at h
  have hl2 : ∀ g i, g < 2 → i = 0 → low2 g i = some (g, i) := by
    intro g i hg hi
    subst hi
    match g, hg with
    | 0, _ => rfl
    | 1, _ => rfl
  refine CallOK.via low2 low2 h rfl hargs.spec.2 (fun g i p e => ?_) (fun g i p e => ?_) (fun g i x e => ?_) (fun g i p e => ?_) fun res H' hr => ?_
  · obtain ⟨h1, h2, rfl⟩ := low2_spec e
    exact e
  · obtain ⟨h1, h2, rfl⟩ := low2_spec e
    exact e
  · obtain ⟨h1, h2, h3⟩ := hinv a b g i x e
    have hx : PureB x := by
      subst h3
      split
      · exact ha
      · exact hb
    exact ⟨hx.live, (g, i), x, hl2 g i h1 h2, by rw [hcase a b X g i h1 h2, h3], hx.ren⟩
  · obtain ⟨h1, h2, rfl⟩ := low2_spec e
    rw [hcase a b [] g i h1 h2]
    rfl
  · obtain ⟨a', b', rfl, h1, h2, h3, h4⟩ := hr
    refine ⟨fun g i e => ?_, res, [a'] :: [b'] :: X, .pure h1, fun g i x hx hxl => ?_, fun g i e => ?_, a', b', rfl, h2, h3, h4⟩
    · obtain ⟨x, hx⟩ := Option.isSome_iff_exists.1 e
      obtain ⟨p1, p2, _⟩ := hinv a' b' g i x hx
      rw [hcase a b [] g i p1 p2]
      rfl
    · by_cases hg : g < 2 ∧ i = 0
      · rw [hcase a' b' X g i hg.1 hg.2] at hx
        injection hx with hx
        left
        refine ⟨(g, i), x, hl2 g i hg.1 hg.2, by rw [hcase a' b' [] g i hg.1 hg.2, hx], PureB.ren ?_⟩
        subst hx
        split
        · exact h2
        · exact h3
      · right
        refine ⟨?_, ?_⟩
        · cases e : low2 g i with
          | none => rfl
          | some p => exact absurd ⟨(low2_spec e).1, (low2_spec e).2.1⟩ hg
        · match g, i, hg, hx with
          | 0, i + 1, _, hx => simp [hget] at hx
          | 1, i + 1, _, hx => simp [hget] at hx
          | g + 2, i, _, hx => exact hx
          | 0, 0, hg, _ => exact absurd ⟨by omega, rfl⟩ hg
          | 1, 0, hg, _ => exact absurd ⟨by omega, rfl⟩ hg
    · match g, i with
      | 0, 0 => rfl
      | 1, 0 => rfl
      | 0, i + 1 => simp [hget] at e
      | 1, i + 1 => simp [hget] at e
      | g + 2, i => exact e

end Go.Av
