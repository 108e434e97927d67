import Derived.Test.YtpkpfgpfkajkpaaGAv22
namespace Go.Av

/-! A region whose order is open and whose last operation, behind all others, does whatever it does; calls from a heap whose first blocks are the callee's. -/

theorem wpOps_append {P : Program} {ops : Array Oper} {Q : Exit → Act → World → Prop} {l2 : List Nat} : ∀ (l : List Nat) (a : Act) (w : World), wpOps P ops (fun e a w => e = .normal ∧ wpOps P ops Q l2 a w) l a w → wpOps P ops Q (l ++ l2) a w
  | [], a, w, h => h.2
  | i :: l, a, w, h => by
    show wpOps P ops Q (i :: (l ++ l2)) a w
    simp only [wpOps] at h ⊢
    split at h
    · exact wpOps_append l a w h
    · rename_i o e
      split at h
      · rename_i hw
        rw [if_pos hw]
        rcases h with h | ⟨_, a', w', h, _⟩
        · left
          unfold Oper.wp at h ⊢
          generalize (execOp a.eval o).run P w = r at *
          cases r with
          | ok n w' =>
            cases n <;> simp only [Oper.upon] at h ⊢
            all_goals first
              | exact wpOps_append l _ _ h
              | exact Calls.mono h (fun e w'' he => by
                  cases e
                  · exact wpOps_append l _ _ he
                  · cases he.1
                  · obtain ⟨_, _, h, _⟩ := he; cases h)
              | exact Rows.mono h (fun _ _ he => wpOps_append l _ _ he)
          | halt x w' =>
            cases x <;> simp only [Oper.upon] at h ⊢ <;> cases h.1
        · cases h
      · rename_i hw
        rw [if_neg hw]
        exact wpOps_append l _ _ h

def splitLast {α : Type} : List α → Option (List α × α)
  | [] => none
  | [x] => some ([], x)
  | x :: y :: r => match splitLast (y :: r) with
    | some (l, z) => some (x :: l, z)
    | none => none

theorem splitLast_eq {α : Type} : ∀ {zs xs : List α} {y : α}, splitLast zs = some (xs, y) → zs = xs ++ [y]
  | [], xs, y, h => by cases h
  | [x], xs, y, h => by simp [splitLast] at h; obtain ⟨rfl, rfl⟩ := h; rfl
  | x :: z :: r, xs, y, h => by
    simp only [splitLast] at h
    split at h
    · rename_i l u e
      injection h with h
      injection h with h1 h2
      subst h1; subst h2
      rw [splitLast_eq e]
      rfl
    · cases h

def chkL (af : List (List Nat)) (R : List RRec) : Bool :=
  lowB 0 af && (chkAll af R 0 R && (Nat.beq af.length (R.length + 1) && (List.range R.length).all fun j => befB af af.length j R.length))

theorem AWP.drawLast {P : Program} {N k : Nat} {fr : Fr} {H : Heap} {Q : Exit → Fr → Heap → Prop} {zs xs : List IOper} {y : IOper} {af : List (List Nat)} {R : List RRec} {fr' : Fr} {H' : Heap} (hz : splitLast zs = some (xs, y)) (hp : P.follows .mixedOrders = true)
    (hrun : DRun P H.length 0 xs fr (H ++ [List.replicate zs.length .dead]) R fr' H') (hchk : chkL af R = true) (h : Reg P N k [y] fr' H' (Q .normal)) : AWP P N k (.draw zs af) Q fr H := by
  have hz := splitLast_eq hz
  intro c0 hc cx M J tmps w hcx hF hH hM
  cases c0 with
  | region id ops draw =>
    simp only [ccode] at hc
    split at hc
    · rename_i ys hys
      cases draw with
      | false => cases hc
      | true =>
        injection hc with hc
        injection hc with hc1 hc2
        subst hc1; subst hc2
        refine wpIn_region_draw fun t => lift_post hcx ?_
        rw [hp]
        have hsch : Region.schedule true ops t = Region.linearise .any ops t := by simp [Region.schedule]
        rw [hsch]
        obtain ⟨hlen, hgx⟩ := copers_len _ _ hys
        obtain ⟨hrx, hrid⟩ := hrun.recs
        have hsz : ops.size = R.length + 1 := by
          have := congrArg List.length hrx
          simp at this
          rw [this]
          have h2 : ys.length = ops.size := by rw [hlen]; simp
          rw [← h2, hz]
          simp
        have hyget : ∀ (j : Nat) (x : IOper), xs[j]? = some x → ys[j]? = some x := by
          intro j x hj
          rw [hz, List.getElem?_append_left (List.getElem?_eq_some_iff.1 hj).1]
          exact hj
        have hxlen : xs.length = R.length := by rw [← hrx]; simp
        let R' : Nat → RRec := fun j => R.getD j ⟨⟨none, none, .call 0 []⟩, (0, 0), .undef, [], []⟩
        have hR' : ∀ j, j < R.length → R[j]? = some (R' j) := by
          intro j hj
          simp [R', List.getD, hj]
        have haf : ∀ j l, (ops.toList.map cafter)[j]? = some l → afterOf ops j = l := by
          intro j l hj
          rw [List.getElem?_map, Array.getElem?_toList] at hj
          unfold afterOf
          cases ho : ops[j]? with
          | none => rw [ho] at hj; cases hj
          | some o => rw [ho] at hj; simpa using hj
        simp only [chkL, Bool.and_eq_true] at hchk
        obtain ⟨hc1, hc2, _, hc4⟩ := hchk
        have hs := linearise_schedI ops (fun a b => b < R.length ∧ indep (R' a) (R' b) = true) (fun j k hk => by
          have hl : (ops.toList.map cafter)[j]? = some (afterOf ops j) := by
            rw [List.getElem?_map, Array.getElem?_toList]
            unfold afterOf at hk ⊢
            cases ho : ops[j]? with
            | none => rw [ho] at hk; cases hk
            | some o => rfl
          have := lowB_sound _ 0 hc1 j _ hl k hk
          omega) (fun a b hab hb => by
          by_cases hbn : b < R.length
          · have h1 := chkAll_sound _ 0 hc2 b _ (hR' b hbn)
            rcases chkB_sound _ 0 h1 a _ (hR' a (by omega)) (by omega) with h2 | h2
            · left
              rw [Nat.zero_add, Nat.zero_add] at h2
              exact befB_sound haf _ _ _ h2
            · exact .inr ⟨hbn, h2⟩
          · have hbe : b = R.length := by omega
            subst hbe
            left
            exact befB_sound haf _ _ _ (List.all_eq_true.1 hc4 a (List.mem_range.2 hab))) t
        rw [hsz, List.range_succ] at hs
        obtain ⟨l', hl', hs'⟩ := hs.last (n := R.length) (fun a ha => by have := ha.1; omega) (List.range R.length) (by simp) rfl
        have hs := hs'.to (R := R') fun a b hab => hab.2
        rw [hl']
        refine wpOps_append l' _ _ ?_
        have hrem : ((List.range R.length).map fun j => (j, R' j)).map (·.2) = R := by
          apply List.ext_getElem?
          intro j
          rw [List.map_map, List.getElem?_map]
          by_cases hj : j < R.length
          · rw [hR' j hj, List.getElem?_range hj]
            rfl
          · have h1 : (List.range R.length)[j]? = none := List.getElem?_eq_none (by rw [List.length_range]; omega)
            have h2 : R[j]? = none := List.getElem?_eq_none (by omega)
            rw [h1, h2]
            rfl
        have hdead : ∀ g i x, hget (H ++ [List.replicate ys.length Blk.dead]) g i = some x → x.live = true → hget H g i = some x := by
          intro g i x hx hl
          rw [hget_append] at hx
          split at hx
          · rw [List.getElem?_replicate] at hx
            split at hx
            · injection hx with hx; subst hx; cases hl
            · cases hx
          · exact hx
        have hH0 : HRep M J (H ++ [List.replicate ys.length .dead]) w.heap := by
          refine ⟨fun g i x hx hl => hH.blk g i x (hdead g i x hx hl) hl, fun g i g' i' l l' β ⟨x, hx, hl⟩ ⟨y, hy, hl'⟩ => hH.inj g i g' i' l l' β ⟨x, hdead _ _ _ hx hl, hl⟩ ⟨y, hdead _ _ _ hy hl', hl'⟩,
            fun g i l β ⟨x, hx, hl⟩ => hH.out g i l β ⟨x, hdead _ _ _ hx hl, hl⟩, fun g i l hJ => ?_⟩
          have := hH.dom g i l hJ
          refine ⟨?_, this.2⟩
          rw [hget_append]
          split
          · rename_i e
            subst e
            have h2 := this.1
            simp [hget] at h2
          · exact this.1
        have hids : ∀ j, j < R.length → (R' j).id = (H.length, j) := fun j hj => by rw [hrid j _ (hR' j hj), Nat.zero_add]
        have hlive : ∀ g i, liveAt (H ++ [List.replicate ys.length Blk.dead]) g i → liveAt H g i := fun g i ⟨x, hx, hl⟩ => ⟨x, hdead g i x hx hl, hl⟩
        refine run_sched (k := k) (N := N) (t := (fr', H')) hs (fun p hp => ?_) ?_ (fr, H ++ [List.replicate ys.length .dead]) M J tmps { w with drawn := w.drawn + 1 } hF hH0 hM (by rw [hrem]; exact hrun.run) (fun p hp => ?_) _ fun a' w' hp => ⟨rfl, ?_⟩
        · obtain ⟨j, hj, rfl⟩ := List.mem_map.1 hp
          have hj := List.mem_range.1 hj
          have ho : ops[j]? = some ops[j] := Array.getElem?_eq_getElem (by omega)
          obtain ⟨x, hx1, hx2⟩ := hgx j ops[j] (by rw [Array.getElem?_toList]; exact ho)
          refine ⟨ops[j], ho, ?_⟩
          have : some (R' j).x = some x := by
            rw [← hx1]
            have h3 : xs[j]? = some (R' j).x := by rw [← hrx, List.getElem?_map, hR' j hj]; rfl
            rw [hyget j _ h3]
          injection this with this
          rw [this]
          exact hx2
        · rw [List.map_map]
          have he : (List.range R.length).map ((fun x : Nat × RRec => x.2.id) ∘ fun j => (j, R' j)) = (List.range R.length).map fun j => (H.length, j) :=
            List.map_congr_left fun j hj => hids j (List.mem_range.1 hj)
          rw [he]
          exact List.Pairwise.map _ (fun a b hab e => hab (by injection e)) List.nodup_range
        · obtain ⟨j, hj, rfl⟩ := List.mem_map.1 hp
          have hj := List.mem_range.1 hj
          rw [hids j hj]
          refine ⟨?_, ?_⟩
          · rw [hget_append, if_pos rfl, List.getElem?_replicate, if_pos (by rw [hlen]; simp; omega)]
            rfl
          · cases e : J H.length j with
            | none => rfl
            | some l =>
              have := (hH.dom _ _ l e).1
              simp [hget] at this
        · obtain ⟨M2, J2, fr2, H2, q1, q2, q3, q4, q5⟩ := hp
          subst q4; subst q5
          obtain ⟨a't, a'd⟩ := a'
          cases q3
          have q1' : Step k M J H w M2 J2 H2 w' :=
            ⟨q1.m, q1.j, q1.hrep, q1.mrep, q1.os, q1.tape, q1.output, q1.size, fun β o ho hn => q1.frame β o ho fun g i l hl hJ => hn g i l (hlive g i hl) hJ,
              fun β o ho => or2 (q1.fresh β o ho) (fun h => h) fun h => or2 h (fun h => h) fun ⟨g, i, l, a, b, c⟩ => ⟨g, i, l, hlive g i a, b, c⟩,
              fun g i l β a b c => or2 (q1.live g i l β a b c) (fun ⟨g0, i0, l0, a, b, c⟩ => ⟨g0, i0, l0, hlive g0 i0 a, b, c⟩) fun h => h, q1.bk⟩
          have ho : ops[R.length]? = some ops[R.length] := Array.getElem?_eq_getElem (by omega)
          obtain ⟨x, hx1, hx2⟩ := hgx R.length ops[R.length] (by rw [Array.getElem?_toList]; exact ho)
          have hxy : x = y := by
            rw [hz, ← hxlen, List.getElem?_append_right (Nat.le_refl _), Nat.sub_self] at hx1
            simpa using hx1.symm
          subst hxy
          refine h ops [R.length] ⟨⟨_, ho, hx2⟩, trivial⟩ M2 J2 a't w' q2 q1.hrep q1.mrep _ fun a'' w'' hp => ?_
          obtain ⟨M3, J3, fr3, H3, r1, r2, r3, r4⟩ := hp
          exact ⟨rfl, M3, J3, fr3, H3, q1'.trans r1, r2, r3, r4⟩
    · cases hc
  | _ => simp only [ccode] at hc; (try split at hc) <;> (try cases hc) <;> (try simp at hc)

theorem AWP.dkl {P : Program} {N k : Nat} {fr : Fr} {H : Heap} {Q : Exit → Fr → Heap → Prop} {zs xs : List IOper} {y : IOper} {af : List (List Nat)} (hz : splitLast zs = some (xs, y)) (hp : P.follows .mixedOrders = true)
    (h : DK P H.length 0 xs fr (H ++ [List.replicate zs.length .dead]) [] fun R fr' H' => chkL af R = true ∧ Reg P N k [y] fr' H' (Q .normal)) : AWP P N k (.draw zs af) Q fr H := by
  obtain ⟨R, fr', H', h1, h2, h3⟩ := h
  exact AWP.drawLast hz hp h1 h2 h3

/-! Two families of one block each, ahead of others. -/

def low2 (g i : Nat) : Option (Nat × Nat) := match Nat.blt g 2 && Nat.beq i 0 with
  | true => some (g, i)
  | false => none

theorem low2_spec {g i : Nat} {p : Nat × Nat} (h : low2 g i = some p) : g < 2 ∧ i = 0 ∧ p = (g, i) := by
  unfold low2 at h
  split at h
  · rename_i e
    simp only [Bool.and_eq_true] at e
    injection h with h
    exact ⟨Nat.le_of_ble_eq_true e.1, Nat.eq_of_beq_eq_true e.2, h.symm⟩
  · cases h

theorem CallOK.two {P : Program} {f : FuncId} {args : List AV} {a b : Blk} {X : Heap} {R : AV → Blk → Blk → Prop} (h : CallOK P f args [[a], [b]] fun res H' => ∃ a' b', H' = [[a'], [b']] ∧ Pure res ∧ PureB a' ∧ PureB b' ∧ R res a' b') (ha : PureB a) (hb : PureB b)
    (hargs : RenArgs low2 args args) : CallOK P f args ([a] :: [b] :: X) fun res H' => ∃ a' b', H' = [a'] :: [b'] :: X ∧ PureB a' ∧ PureB b' ∧ R res a' b' := by
  have hcase : ∀ (a b : Blk) (X : Heap) g i, g < 2 → i = 0 → hget ([a] :: [b] :: X) g i = some (match g with | 0 => a | _ => b) := by
    intro a b X g i hg hi
    subst hi
    match g, hg with
    | 0, _ => rfl
    | 1, _ => rfl
  have hinv : ∀ (a b : Blk) g i x, hget [[a], [b]] g i = some x → g < 2 ∧ i = 0 ∧ x = (match g with | 0 => a | _ => b) := by
    intro a b g i x h
    match g, i with
    | 0, 0 => exact ⟨by omega, rfl, by simpa [hget] using h.symm⟩
    | 1, 0 => exact ⟨by omega, rfl, by simpa [hget] using h.symm⟩
    | 0, i + 1 => simp [hget] at h
    | 1, i + 1 => simp [hget] at h
    | g + 2, i => simp [hget] at h
  have hl2 : ∀ g i, g < 2 → i = 0 → low2 g i = some (g, i) := by
    intro g i hg hi
    subst hi
    match g, hg with
    | 0, _ => rfl
    | 1, _ => rfl
  refine CallOK.via low2 low2 h rfl hargs.spec.2 (fun g i p e => ?_) (fun g i p e => ?_) (fun g i x e => ?_) (fun g i p e => ?_) fun res H' hr => ?_
  · obtain ⟨h1, h2, rfl⟩ := low2_spec e
    exact e
  · obtain ⟨h1, h2, rfl⟩ := low2_spec e
    exact e
  · obtain ⟨h1, h2, h3⟩ := hinv a b g i x e
    have hx : PureB x := by
      subst h3
      split
      · exact ha
      · exact hb
    exact ⟨hx.live, (g, i), x, hl2 g i h1 h2, by rw [hcase a b X g i h1 h2, h3], hx.ren⟩
  · obtain ⟨h1, h2, rfl⟩ := low2_spec e
    rw [hcase a b [] g i h1 h2]
    rfl
  · obtain ⟨a', b', rfl, h1, h2, h3, h4⟩ := hr
    refine ⟨fun g i e => ?_, res, [a'] :: [b'] :: X, .pure h1, fun g i x hx hxl => ?_, fun g i e => ?_, a', b', rfl, h2, h3, h4⟩
    · obtain ⟨x, hx⟩ := Option.isSome_iff_exists.1 e
      obtain ⟨p1, p2, _⟩ := hinv a' b' g i x hx
      rw [hcase a b [] g i p1 p2]
      rfl
    · by_cases hg : g < 2 ∧ i = 0
      · rw [hcase a' b' X g i hg.1 hg.2] at hx
        injection hx with hx
        left
        refine ⟨(g, i), x, hl2 g i hg.1 hg.2, by rw [hcase a' b' [] g i hg.1 hg.2, hx], PureB.ren ?_⟩
        subst hx
        split
        · exact h2
        · exact h3
      · right
        refine ⟨?_, ?_⟩
        · cases e : low2 g i with
          | none => rfl
          | some p => exact absurd ⟨(low2_spec e).1, (low2_spec e).2.1⟩ hg
        · match g, i, hg, hx with
          | 0, i + 1, _, hx => simp [hget] at hx
          | 1, i + 1, _, hx => simp [hget] at hx
          | g + 2, i, _, hx => exact hx
          | 0, 0, hg, _ => exact absurd ⟨by omega, rfl⟩ hg
          | 1, 0, hg, _ => exact absurd ⟨by omega, rfl⟩ hg
    · match g, i with
      | 0, 0 => rfl
      | 1, 0 => rfl
      | 0, i + 1 => simp [hget] at e
      | 1, i + 1 => simp [hget] at e
      | g + 2, i => exact e

end Go.Av
namespace Go.Av

/-! More of what a walk uses. -/

theorem Ghost.push (H : Heap) (sz : Nat) : Ghost H (H ++ [[.cells sz []]]) := by
  refine ⟨fun g i x' hx hl => ?_, fun g i h => ?_⟩
  · rw [hget_append] at hx
    split at hx
    · rename_i e
      subst e
      right
      refine ⟨by simp [hget], sz, ?_⟩
      cases i with
      | zero => simpa using hx.symm
      | succ i => simp at hx
    · exact .inl ⟨x', hx, .refl _⟩
  · rw [hget_append]
    split
    · rename_i e
      subst e
      simp [hget] at h
    · exact h

theorem GhT.push (H : Heap) (sz : Nat) : GhT H (H ++ [[.cells sz []]]) (.sc (.slice none 0 0)) (.hsl H.length 0 0 0) :=
  .mk H.length 0 sz (by simp [hget]) (by rw [hget_append, if_pos rfl]; rfl)

def CongAll (T : AV → AV → Prop) (fr : Fr) : Fr → Prop
  | [] => True
  | x :: r => Cong T (fr.get x.1) x.2 ∧ CongAll T fr r

theorem CongAll.mem {T fr} : ∀ {fr' : Fr}, CongAll T fr fr' → ∀ x ∈ fr', Cong T (fr.get x.1) x.2
  | [], _, x, h => by cases h
  | _ :: _, ⟨h1, h2⟩, x, h => by
    cases h with
    | head => exact h1
    | tail _ h => exact CongAll.mem h2 x h

/-- A nil slice becomes a block. -/
theorem Sub.nilBlk {k N : Nat} {fr fr' : Fr} {H : Heap} (sz : Nat) (h : CongAll (GhT H (H ++ [[.cells sz []]])) fr fr') : Sub k N fr H fr' (H ++ [[.cells sz []]]) := Sub.ghost (Ghost.push H sz) h.mem

def allS (_ _ : Nat) : Bool := true
def deadH (H : Heap) : Heap := H.map fun f => f.map fun _ => .dead

theorem hget_dead {H : Heap} {g i : Nat} : (hget (deadH H) g i).isSome = (hget H g i).isSome ∧ ∀ x, hget (deadH H) g i = some x → x = .dead := by
  unfold hget deadH
  rw [List.getElem?_map]
  cases H[g]? with
  | none => exact ⟨rfl, fun x h => by cases h⟩
  | some f =>
    simp only [Option.map_some, List.getElem?_map]
    cases f[i]? with
    | none => exact ⟨rfl, fun x h => by cases h⟩
    | some y => exact ⟨rfl, fun x h => by simpa using h.symm⟩

theorem Frozen.all (H : Heap) : Frozen H allS (deadH H) := by
  refine ⟨fun g i x' hx hl => ?_, fun g i h => by rw [hget_dead.1]; exact h⟩
  have := hget_dead.2 x' hx
  subst this
  cases hl

def FzA (H : Heap) : AV → AV → Prop := Cong (FzT H allS)

def FzAll (H : Heap) (fr : Fr) : Fr → Prop
  | [] => True
  | x :: r => (FzA H (fr.get x.1) x.2 ∧ Pure x.2) ∧ FzAll H fr r

theorem FzAll.mem {H fr} : ∀ {fr' : Fr}, FzAll H fr fr' → ∀ x ∈ fr', FzA H (fr.get x.1) x.2 ∧ Pure x.2
  | [], _, x, h => by cases h
  | _ :: _, ⟨h1, h2⟩, x, h => by
    cases h with
    | head => exact h1
    | tail _ h => exact FzAll.mem h2 x h

theorem pure_get {fr : Fr} (h : ∀ y ∈ fr, Pure y.2) (t : Nat) : Pure (fr.get t) := by
  induction fr with
  | nil => exact .undef
  | cons p l ih =>
    obtain ⟨d, v⟩ := p
    show Pure (match Nat.beq d t with | true => v | false => Fr.get l t)
    split
    · exact h (d, v) (List.mem_cons_self ..)
    · exact ih fun y hy => h y (List.mem_cons_of_mem _ hy)

/-- All blocks are frozen. -/
theorem Sub.frzAll {N : Nat} {fr fr' : Fr} {H : Heap} (h : FzAll H fr fr') : Sub 0 N fr H fr' [] := by
  intro M J tmps w hF hH hM
  obtain ⟨h1, h2, h3⟩ := Step.frz (k := 0) hH hM (Frozen.all H)
  have hF' := hF.cong h2 h3 fun x hx => (h.mem x hx).1
  refine ⟨_, _, h1.ren (ρ := rho []) (H'' := []) (Numb.list rfl rfl rfl trivial), hF'.1, fun t => (hF'.2 t).anyJ (pure_get (fun y hy => (h.mem y hy).2) t) _⟩

theorem SubV.frzAll {H : Heap} {a b : AV} (h : FzA H a b) (hp : Pure b) : SubV 0 H a [] b :=
  (SubV.frz allS (Frozen.all H) h).trans (SubV.ren (rho []) (Numb.list rfl rfl rfl trivial) (.pure hp))

/-- The end of a function whose result's blocks are its own. -/
theorem fin_frz {e : Exit} (he : e = .normal ∨ e = .ret) {rs : List IRes} {fr : Fr} {H : Heap} {res res' : AV} {R : AV → Heap → Prop} (hres : resOf fr H rs = some res) (hz : FzA H res res') (hp : Pure res') (hR : R res' []) :
    (e = .normal ∨ e = .ret) ∧ ∃ res res' H2, resOf fr H rs = some res ∧ SubV 0 H res H2 res' ∧ R res' H2 := ⟨he, res, res', [], hres, .frzAll hz hp, hR⟩

theorem FzA.hsl {H : Heap} {g i start len sz : Nat} {rows rows' : List (List AV)} (h : hget H g i = some (.cells sz rows)) (hl : start + len ≤ rows.length) (e : (rows.drop start).take len = rows') : FzA H (.hsl g i start len) (.list sz rows') := by
  subst e
  exact .base (.hsl g i start len sz rows rfl h hl)
theorem FzA.all {H : Heap} {g i len sz : Nat} {rows : List (List AV)} (h : hget H g i = some (.cells sz rows)) (hl : rows.length = len) : FzA H (.hsl g i 0 len) (.list sz rows) :=
  .hsl h (by omega) (by rw [List.drop_zero, List.take_of_length_le (by omega)])
theorem FzA.ptr {H : Heap} {g i row sz : Nat} {rows : List (List AV)} {r : List AV} (h : hget H g i = some (.cells sz rows)) (hr : rows[row]? = some r) : FzA H (.ptr g i row 0) (.cptr r) :=
  .base (.ptr g i row 0 sz rows r rfl h hr)
theorem FzA.mref {H : Heap} {g i : Nat} {es : List (Value × AV)} (h : hget H g i = some (.map es)) : FzA H (.mref g i) (.tmap es) := .base (.mref g i es rfl h)
theorem FzA.refl (H : Heap) (a : AV) : FzA H a a := Cong.refl a

def CongL (T : AV → AV → Prop) : List AV → List AV → Prop
  | [], [] => True
  | a :: l, b :: m => Cong T a b ∧ CongL T l m
  | _, _ => False

theorem CongL.spec {T} : ∀ {l m : List AV}, CongL T l m → l.length = m.length ∧ ∀ (j : Nat) a b, l[j]? = some a → m[j]? = some b → Cong T a b
  | [], [], _ => ⟨rfl, fun j a b h => by simp at h⟩
  | [], _ :: _, h => h.elim
  | _ :: _, [], h => h.elim
  | x :: l, y :: m, ⟨h1, h2⟩ => by
    obtain ⟨h3, h4⟩ := CongL.spec h2
    refine ⟨by simp [h3], fun j a b ha hb => ?_⟩
    cases j with
    | zero => simp at ha hb; subst ha; subst hb; exact h1
    | succ j => exact h4 j a b (by simpa using ha) (by simpa using hb)

theorem Cong.tupL {T} {l m : List AV} (h : CongL T l m) : Cong T (.tup l) (.tup m) := .tup l m h.spec.1 h.spec.2
theorem Cong.aggL {T} {l m : List AV} (h : CongL T l m) : Cong T (.agg l) (.agg m) := .agg l m h.spec.1 h.spec.2

theorem dstep_app {g i : Nat} {fr : Fr} {H : Heap} {sz bytes : Nat} {s x : Operand} {g' i' len : Nat} {rows1 rows2 : List (List AV)} (hs : ev fr s = .hsl g' i' 0 len) (hx : rowsX sz H (ev fr x) = some (sz, rows2)) (hh : hget H g' i' = some (.cells sz rows1))
    (hl : rows1.length = len) (hb : (len + rows2.length) * (bytes + 1) ≤ 70368744177664) (e3 : (Nat.beq g g' && Nat.beq i i') = false) :
    dstep g i (.append sz bytes s x) fr H = some (.hsl g i 0 (len + rows2.length), hset (hset H g' i' .dead) g i (.cells sz (rows1 ++ rows2))) := by
  have e2 : Nat.ble ((len + rows2.length) * (bytes + 1)) 70368744177664 = true := by simpa using hb
  simp only [dstep, hx, hs, hh]
  have e4 : Nat.beq sz sz = true := by simp
  have e5 : Nat.beq rows1.length len = true := by simp [hl]
  simp only [e4, e5, e2, e3, Bool.and_self]

/-- A walk's ways come together. -/
theorem Reg.join {P : Program} {N k : Nat} {xs : List IOper} {fr : Fr} {H : Heap} {c : ICode} {Q : Exit → Fr → Heap → Prop} (F' : Fr) (H' : Heap) (h1 : Reg P N k xs fr H fun fr2 H2 => Sub k N fr2 H2 F' H') (h2 : AWP P N k c Q F' H') :
    Reg P N k xs fr H (AWP P N k c Q) := h1.mono fun _ _ hs => AWP.sub hs h2

/-- .. behind a piece of code. -/
theorem AWP.join {P : Program} {N k : Nat} {a b : ICode} {fr : Fr} {H : Heap} {Q : Exit → Fr → Heap → Prop} (F' : Fr) (H' : Heap) (h1 : AWP P N k a (thenQ (fun fr2 H2 => Sub k N fr2 H2 F' H') Q) fr H) (h2 : AWP P N k b Q F' H') : AWP P N k (.seq a b) Q fr H :=
  AWP.seq (AWP.mono h1 fun e fr H h => by
    cases e <;> first | exact AWP.sub h h2 | exact h)

end Go.Av
namespace Go.Av

theorem dstep_idxArr {g i : Nat} {fr : Fr} {H : Heap} {n sz : Nat} {x ix : Operand} {k : IntKind} {m : Int} {q g' i' row o : Nat} (hx : ev fr x = .ptr g' i' row o) (hi : ev fr ix = .sc (.int k m)) (hm : m = (q : Int)) (hq : q < n) :
    dstep g i (.idxArr n sz x ix) fr H = some (.ptr g' i' row (o + q * sz), H) := by
  subst hm
  have e1 : Nat.blt q n = true := by simpa [Nat.blt_eq] using hq
  simp only [dstep, hi, hx]
  show (match Nat.blt q n with
    | true => some (AV.ptr g' i' row (o + q * sz), H)
    | false => none) = _
  rw [e1]

theorem dstep_idxArrC {g i : Nat} {fr : Fr} {H : Heap} {n sz : Nat} {x ix : Operand} {k : IntKind} {m : Int} {q : Nat} {cells : List AV} (hx : ev fr x = .cptr cells) (hi : ev fr ix = .sc (.int k m)) (hm : m = (q : Int)) (hq : q < n) :
    dstep g i (.idxArr n sz x ix) fr H = some (.cptr (cells.drop (q * sz)), H) := by
  subst hm
  have e1 : Nat.blt q n = true := by simpa [Nat.blt_eq] using hq
  simp only [dstep, hi, hx]
  show (match Nat.blt q n with
    | true => some (AV.cptr (cells.drop (q * sz)), H)
    | false => none) = _
  rw [e1]

theorem dstep_idxVal {g i : Nat} {fr : Fr} {H : Heap} {n : Nat} {x ix : Operand} {k : IntKind} {m : Int} {q : Nat} {cells : List AV} {c : AV} (hx : ev fr x = .agg cells) (hi : ev fr ix = .sc (.int k m)) (hm : m = (q : Int)) (hq : q < n) (hc : cells[q]? = some c) :
    dstep g i (.idxVal n 1 false x ix) fr H = some (c, H) := by
  subst hm
  have e1 : Nat.blt q n = true := by simpa [Nat.blt_eq] using hq
  have e2 : ldAV 1 false (cells.drop (q * 1)) = some c := by
    rw [Nat.mul_one]
    obtain ⟨hl, he⟩ := List.getElem?_eq_some_iff.1 hc
    rw [List.drop_eq_getElem_cons hl, he]
    rfl
  simp only [dstep, hi, hx]
  show (match Nat.blt q n with
    | true => match ldAV 1 false (cells.drop (q * 1)) with
      | some v => some (v, H)
      | none => none
    | false => none) = _
  rw [e1, e2]

/-- A cell is read. -/
theorem dstep_ld1 {g i : Nat} {fr : Fr} {H : Heap} {a : Operand} {g' i' row off s : Nat} {rows : List (List AV)} {r : List AV} {c : AV} (ha : ev fr a = .ptr g' i' row off) (hh : hget H g' i' = some (.cells s rows)) (hr : rows[row]? = some r) (hc : r[off]? = some c) :
    dstep g i (.load 1 false a) fr H = some (c, H) := by
  have e2 : ldAV 1 false (r.drop off) = some c := by
    obtain ⟨hl, he⟩ := List.getElem?_eq_some_iff.1 hc
    rw [List.drop_eq_getElem_cons hl, he]
    rfl
  simp only [dstep, ha, hh, hr, e2]

theorem dstep_ld1C {g i : Nat} {fr : Fr} {H : Heap} {a : Operand} {cells : List AV} {c : AV} {rest : List AV} (ha : ev fr a = .cptr cells) (hc : cells = c :: rest) :
    dstep g i (.load 1 false a) fr H = some (c, H) := by
  subst hc
  simp only [dstep, ha, ldAV]

/-- A variable of more cells is read. -/
theorem dstep_ldN {g i : Nat} {fr : Fr} {H : Heap} {a : Operand} {sz g' i' row off s : Nat} {rows : List (List AV)} {r cs : List AV} (ha : ev fr a = .ptr g' i' row off) (hh : hget H g' i' = some (.cells s rows)) (hr : rows[row]? = some r) (hl : off + sz ≤ r.length) (hc : (r.drop off).take sz = cs) :
    dstep g i (.load sz true a) fr H = some (.agg cs, H) := by
  have e2 : ldAV sz true (r.drop off) = some (.agg cs) := by
    have : Nat.ble sz (r.drop off).length = true := by simp; omega
    simp only [ldAV, this, hc]
  simp only [dstep, ha, hh, hr, e2]

theorem dstep_ldNC {g i : Nat} {fr : Fr} {H : Heap} {a : Operand} {sz : Nat} {cells cs : List AV} (ha : ev fr a = .cptr cells) (hl : sz ≤ cells.length) (hc : cells.take sz = cs) :
    dstep g i (.load sz true a) fr H = some (.agg cs, H) := by
  have e2 : ldAV sz true cells = some (.agg cs) := by
    have : Nat.ble sz cells.length = true := by simpa using hl
    simp only [ldAV, this, hc]
  simp only [dstep, ha, e2]

/-- Cells are written. -/
theorem dstep_stN {g i : Nat} {fr : Fr} {H : Heap} {a x : Operand} {sz g' i' row off s : Nat} {rows : List (List AV)} {r cs : List AV} (ha : ev fr a = .ptr g' i' row off) (hx : (ev fr x).cs = some cs) (hh : hget H g' i' = some (.cells s rows)) (hr : rows[row]? = some r)
    (hs : cs.length = sz) (hl : off + sz ≤ r.length) (h1 : cs.all AV.cell1 = true) :
    dstep g i (.store sz a x) fr H = some (.undef, hset H g' i' (.cells s (rows.set row (lsplice r off cs)))) := by
  have e1 : Nat.beq cs.length sz = true := by simp [hs]
  have e2 : Nat.ble (off + sz) r.length = true := by simpa using hl
  simp only [dstep, ha, hx, hh, hr, e1, e2, h1, Bool.and_self]

theorem dstep_eqArr {g i : Nat} {fr : Fr} {H : Heap} {neg : Bool} {n : Nat} {x y : Operand} {a b : List Bool} (hx : ev fr x = .agg (a.map fun b => .sc (.bool b))) (hy : ev fr y = .agg (b.map fun b => .sc (.bool b))) (ha : a.length = n) (hb : b.length = n) :
    dstep g i (.eqArr neg n x y) fr H = some (.sc (.bool (neg != (a == b))), H) := by
  have hbools : ∀ l : List Bool, bools (l.map fun b => AV.sc (.bool b)) = some l := by
    intro l
    induction l with
    | nil => rfl
    | cons c l ih => simp [bools, ih]
  have e1 : Nat.beq a.length n = true := by simp [ha]
  have e2 : Nat.beq b.length n = true := by simp [hb]
  simp only [dstep, hx, hy, hbools, e1, e2, Bool.and_self]
  cases neg <;> cases (a == b) <;> rfl

theorem lsplice_one {α : Type} (l : List α) : ∀ (k : Nat) (v : α), lsplice l k [v] = l.set k v := by
  induction l with
  | nil => intro k v; rfl
  | cons x l ih =>
    intro k v
    cases k with
    | zero => simp [lsplice, lsplice_nil]
    | succ k => simp [lsplice, ih]

theorem lsplice_all {α : Type} : ∀ (l vs : List α), vs.length = l.length → lsplice l 0 vs = vs
  | [], [], _ => rfl
  | [], _ :: _, h => by simp at h
  | _ :: _, [], h => by simp at h
  | x :: l, v :: vs, h => by
    show v :: lsplice l 0 vs = v :: vs
    rw [lsplice_all l vs (by simpa using h)]

theorem take_drop0 {α : Type} {l : List α} {n : Nat} (h : l.length = n) : List.take n (List.drop 0 l) = l := by
  rw [List.drop_zero, List.take_of_length_le (by omega)]

/-- A set of the numbers below n, as an array of truth values. -/
def bset (n : Nat) (s : Nat → Bool) : List AV := (List.range n).map fun i => .sc (.bool (s i))

theorem bset_len (n : Nat) (s : Nat → Bool) : (bset n s).length = n := by simp [bset]
theorem bset_get {n : Nat} {s : Nat → Bool} {q : Nat} (h : q < n) : (bset n s)[q]? = some (.sc (.bool (s q))) := by simp [bset, h]
theorem bset_set (n : Nat) (s : Nat → Bool) (q : Nat) (b : Bool) : (bset n s).set q (.sc (.bool b)) = bset n fun i => if i = q then b else s i := by
  apply List.ext_getElem?
  intro j
  rw [List.getElem?_set]
  by_cases hj : j < n
  · by_cases e : q = j
    · subst e
      simp [bset, hj]
    · rw [if_neg e, bset_get hj, bset_get hj, if_neg (fun h => e h.symm)]
  · have h1 : ∀ s, (bset n s)[j]? = none := fun s => List.getElem?_eq_none (by rw [bset_len]; omega)
    rw [h1, h1]
    split
    · rw [bset_len, if_neg (by omega)]
    · rfl
theorem bset_splice (n : Nat) (s : Nat → Bool) (q : Nat) (b : Bool) : lsplice (bset n s) q [.sc (.bool b)] = bset n fun i => if i = q then b else s i := by rw [lsplice_one, bset_set]
theorem pure_bset (n : Nat) (s : Nat → Bool) : ∀ c ∈ bset n s, Pure c := fun c hc => by
  obtain ⟨a, _, rfl⟩ := List.mem_map.1 hc
  exact .sc _
theorem bset_cell1 (n : Nat) (s : Nat → Bool) : (bset n s).all AV.cell1 = true := by
  rw [List.all_eq_true]
  intro c hc
  obtain ⟨a, _, rfl⟩ := List.mem_map.1 hc
  rfl
theorem bset_congr {n : Nat} {s t : Nat → Bool} (h : ∀ i, i < n → s i = t i) : bset n s = bset n t := List.map_congr_left fun i hi => by rw [h i (List.mem_range.1 hi)]
theorem bset_bools (n : Nat) (s : Nat → Bool) : bset n s = ((List.range n).map s).map fun b => .sc (.bool b) := by simp [bset]

/-- One block, one row, told otherwise. -/
theorem RenB.row {ρ : Nat → Nat → Option (Nat × Nat)} {sz : Nat} {r r' : List AV} (e : r = r') (h : ∀ c ∈ r', Pure c) : RenB ρ (.cells sz [r]) (.cells sz [r']) := by
  subst e
  exact .pure sz [r] (allPure_cons' h)
where
  allPure_cons' {r : List AV} (h : ∀ c ∈ r, Pure c) : ∀ x ∈ [r], ∀ c ∈ x, Pure c := fun x hx => by
    have : x = r := by simpa using hx
    subst this
    exact h

theorem RenB.rows {ρ : Nat → Nat → Option (Nat × Nat)} {sz : Nat} {rows rows' : List (List AV)} (e : rows = rows') (h : ∀ r ∈ rows', ∀ c ∈ r, Pure c) : RenB ρ (.cells sz rows) (.cells sz rows') := by
  subst e
  exact .pure sz rows h

end Go.Av
namespace Go.Av

/-! The layer's code, run: what is reckoned holds of every run of the program. -/

/-- Frames as trees. -/
inductive FT where
  | leaf
  | node (v : AV) (l r : FT)

def FT.get : FT → Nat → AV
  | .leaf, _ => .undef
  | .node v l r, n => match n with
    | 0 => v
    | m + 1 => match Nat.beq (Nat.mod m 2) 0 with
      | true => l.get (Nat.div m 2)
      | false => r.get (Nat.div m 2)

def FT.put : FT → Nat → AV → Option FT
  | .leaf, _, _ => none
  | .node v l r, n, x => match n with
    | 0 => some (.node x l r)
    | m + 1 => match Nat.beq (Nat.mod m 2) 0 with
      | true => match l.put (Nat.div m 2) x with
        | some l' => some (.node v l' r)
        | none => none
      | false => match r.put (Nat.div m 2) x with
        | some r' => some (.node v l r')
        | none => none

def FT.full : Nat → FT
  | 0 => .leaf
  | d + 1 => .node .undef (FT.full d) (FT.full d)

theorem FT.get_put : ∀ (T T' : FT) (d : Nat) (v : AV), T.put d v = some T' → ∀ t, T'.get t = match Nat.beq d t with | true => v | false => T.get t := by
  intro T
  induction T with
  | leaf => intro T' d v h; cases h
  | node u l r ihl ihr =>
    intro T' d v h t
    cases d with
    | zero =>
      simp only [FT.put, Option.some.injEq] at h
      subst h
      cases t with
      | zero => rfl
      | succ t => rfl
    | succ m =>
      simp only [FT.put] at h
      split at h
      · rename_i e
        split at h
        · rename_i l' hl
          injection h with h
          subst h
          cases t with
          | zero => rfl
          | succ t =>
            have := ihl l' _ _ hl
            simp only [FT.get]
            split
            · rename_i e'
              rw [this]
              have e1 : m % 2 = 0 := Nat.eq_of_beq_eq_true e
              have e2 : t % 2 = 0 := Nat.eq_of_beq_eq_true e'
              have : Nat.beq (Nat.div m 2) (Nat.div t 2) = Nat.beq (m + 1) (t + 1) := by
                rw [Bool.eq_iff_iff]
                simp only [Nat.beq_eq]
                show m / 2 = t / 2 ↔ m + 1 = t + 1
                omega
              rw [this]
            · rename_i e'
              have e1 : m % 2 = 0 := Nat.eq_of_beq_eq_true e
              have e2 : ¬ t % 2 = 0 := fun h => by
                have : Nat.beq (Nat.mod t 2) 0 = true := by
                  show Nat.beq (t % 2) 0 = true
                  rw [h]; rfl
                rw [this] at e'; cases e'
              have : Nat.beq (m + 1) (t + 1) = false := by
                rw [Bool.eq_false_iff]
                simp only [ne_eq, Nat.beq_eq]
                omega
              rw [this]
        · cases h
      · rename_i e
        split at h
        · rename_i l' hl
          injection h with h
          subst h
          cases t with
          | zero => rfl
          | succ t =>
            have := ihr l' _ _ hl
            have e1 : ¬ m % 2 = 0 := fun h => by
              have : Nat.beq (Nat.mod m 2) 0 = true := by
                show Nat.beq (m % 2) 0 = true
                rw [h]; rfl
              rw [this] at e; cases e
            simp only [FT.get]
            split
            · rename_i e'
              have e2 : t % 2 = 0 := Nat.eq_of_beq_eq_true e'
              have : Nat.beq (m + 1) (t + 1) = false := by
                rw [Bool.eq_false_iff]
                simp only [ne_eq, Nat.beq_eq]
                omega
              rw [this]
            · rename_i e'
              rw [this]
              have e2 : ¬ t % 2 = 0 := fun h => by
                have : Nat.beq (Nat.mod t 2) 0 = true := by
                  show Nat.beq (t % 2) 0 = true
                  rw [h]; rfl
                rw [this] at e'; cases e'
              have : Nat.beq (Nat.div m 2) (Nat.div t 2) = Nat.beq (m + 1) (t + 1) := by
                rw [Bool.eq_iff_iff]
                simp only [Nat.beq_eq]
                show m / 2 = t / 2 ↔ m + 1 = t + 1
                omega
              rw [this]
        · cases h

def FT.putO (T : FT) (d : Option Nat) (v : AV) : Option FT :=
  match d with
  | some d => T.put d v
  | none => some T

/-- The frame and the tree say the same. -/
def AgT (fr : Fr) (T : FT) : Prop := ∀ t, fr.get t = T.get t

theorem AgT.put {fr : Fr} {T T' : FT} {d : Option Nat} {v : AV} (h : AgT fr T) (hp : T.putO d v = some T') : AgT (fr.put d v) T' := by
  cases d with
  | none => injection hp with hp; subst hp; exact h
  | some d =>
    intro t
    rw [FT.get_put _ _ _ _ hp t]
    show (match Nat.beq d t with | true => v | false => Fr.get fr t) = _
    rw [h t]

def FT.ev (T : FT) : Operand → AV
  | .tmp t => T.get t
  | .const v => .sc v
  | .global g => .sc (.pointer (some ⟨g, 0, none⟩))
  | .func f => .sc (.func (.func f) #[] #[])

theorem AgT.ev {fr : Fr} {T : FT} (h : AgT fr T) : Av.ev fr = T.ev := by
  funext x
  cases x with
  | tmp t => exact h t
  | _ => rfl

theorem AgT.avals {fr : Fr} {T : FT} (h : AgT fr T) (l : List Operand) : Av.avals fr l = l.map T.ev := by unfold Av.avals; rw [h.ev]

def sbndE (e : Operand → AV) (d : Nat) : Option Operand → Option Nat
  | none => some d
  | some x => match e x with
    | .sc (.int _ (.ofNat q)) => some q
    | _ => none

def sboundsE (e : Operand → AV) (d : Nat) (lo hi mx : Option Operand) : Option (Nat × Nat) :=
  match sbndE e 0 lo, sbndE e d hi, sbndE e d mx with
  | some l, some h, some m => match Nat.ble l h && (Nat.ble h m && Nat.ble m d) && (mx.isNone || hi.isSome) with
    | true => some (l, h)
    | false => none
  | _, _, _ => none

def dstepE (e : Operand → AV) (g i : Nat) (o : IOp) (H : Heap) : Option (AV × Heap) :=
  match o with
  | .move x => fz (e x) H
  | .pick c a b => match e c with
    | .sc (.bool true) => fz (e a) H
    | .sc (.bool false) => fz (e b) H
    | _ => none
  | .alloc z => some (.ptr g i 0 0, hset H g i (.cells (zrow z).length [zrow z]))
  | .box x => match (e x).cs with
    | some cs => match cs.all AV.cell1 with
      | true => some (.ptr g i 0 0, hset H g i (.cells cs.length [cs]))
      | false => none
    | none => none
  | .build z parts => match lay (zrow z) (parts.map fun p => (p.1, p.2.1, e p.2.2)) with
    | some cs => some (.agg cs, H)
    | none => none
  | .buildSlice sz z n parts => match layRows sz (List.replicate n (zrow z)) (parts.map fun p => (p.1, e p.2)) with
    | some rows => some (.hsl g i 0 n, hset H g i (.cells sz rows))
    | none => none
  | .load sz agg a => match e a with
    | .cptr cells => match ldAV sz agg cells with
      | some v => some (v, H)
      | none => none
    | .ptr g' i' row off => match hget H g' i' with
      | some (.cells _ rows) => match rows[row]? with
        | some r => match ldAV sz agg (r.drop off) with
          | some v => some (v, H)
          | none => none
        | none => none
      | _ => none
    | _ => none
  | .store sz a x => match e a with
    | .ptr g' i' row off => match (e x).cs with
      | some cs => match hget H g' i' with
        | some (.cells s rows) => match rows[row]? with
          | some r => match Nat.beq cs.length sz && (Nat.ble (off + sz) r.length && cs.all AV.cell1) with
            | true => some (.undef, hset H g' i' (.cells s (rows.set row (lsplice r off cs))))
            | false => none
          | none => none
        | _ => none
      | none => none
    | _ => none
  | .nilCheck x => match e x with
    | .ptr g' i' row off => some (.ptr g' i' row off, H)
    | .cptr cells => some (.cptr cells, H)
    | _ => none
  | .bin op t x y => match e x, e y with
    | .sc a, .sc b => match Sem.pure? (do eqGuard op t x y a b; binOp op t a b) with
      | some v => some (.sc v, H)
      | none => none
    | _, _ => none
  | .eqBool neg x y => match e x, e y with
    | .sc (.bool a), .sc (.bool b) => match neg with
      | true => some (.sc (.bool (!(a == b))), H)
      | false => some (.sc (.bool (a == b)), H)
    | _, _ => none
  | .eqNil neg x => match e x with
    | .ptr _ _ _ _ => some (.sc (.bool neg), H)
    | .cptr _ => some (.sc (.bool neg), H)
    | .sc (.pointer none) => some (.sc (.bool (!neg)), H)
    | _ => none
  | .eqNilM neg x => match e x with
    | .mref _ _ => some (.sc (.bool neg), H)
    | .tmap _ => some (.sc (.bool neg), H)
    | .sc (.map none) => some (.sc (.bool (!neg)), H)
    | _ => none
  | .eqNilS neg x => match e x with
    | .list _ (_ :: _) => some (.sc (.bool neg), H)
    | .hsl g' i' _ len => match len with
      | _ + 1 => some (.sc (.bool neg), H)
      | 0 => match hget H g' i' with
        | some (.cells _ (_ :: _)) => some (.sc (.bool neg), H)
        | _ => none
    | .sc (.slice none 0 0) => some (.sc (.bool (!neg)), H)
    | _ => none
  | .eqArr neg n x y => match e x, e y with
    | .agg xs, .agg ys => match bools xs, bools ys with
      | some a, some b => match Nat.beq a.length n && Nat.beq b.length n with
        | true => match neg with
          | true => some (.sc (.bool (!(a == b))), H)
          | false => some (.sc (.bool (a == b)), H)
        | false => none
      | _, _ => none
    | _, _ => none
  | .un op x => match e x with
    | .sc a => match Sem.pure? (Op.unary op a) with
      | some v => some (.sc v, H)
      | none => none
    | _ => none
  | .conv k x => match e x with
    | .sc (.int _ n) => some (.sc (.int k (k.wrap n)), H)
    | _ => none
  | .makeFunc fn first captured => match fzl (first.map e), fzl (captured.map e) with
    | some a, some b => some (.clo fn a b, H)
    | _, _ => none
  | .makeMap => some (.mref g i, hset H g i (.map []))
  | .makeSlice sz bytes z l => match e l with
    | .sc (.int .i64 (.ofNat n)) => match Nat.ble (bytes * n) 70368744177664 && Nat.ble n 1073741824 with
      | true => some (.hsl g i 0 n, hset H g i (.cells sz (List.replicate n (zrow z))))
      | false => none
    | _ => none
  | .slice sz x lo hi mx => match e x with
    | .list s rows => match Nat.beq s sz with
      | true => match sboundsE e rows.length lo hi mx with
        | some (l, h) => some (.list sz ((rows.drop l).take (h - l)), H)
        | none => none
      | false => none
    | .hsl g' i' start len => match hget H g' i' with
      | some (.cells s _) => match Nat.beq s sz with
        | true => match sboundsE e len lo hi mx with
          | some (l, h) => match Nat.beq l 0 with
            | true => some (.hsl g' i' start h, H)
            | false => match Nat.beq l h with
              | true => some (.list sz [], H)
              | false => some (.hsl g' i' (start + l) (h - l), H)
          | none => none
        | false => none
      | _ => none
    | .sc (.slice none 0 0) => match sboundsE e 0 lo hi mx with
      | some _ => some (.sc (.slice none 0 0), H)
      | none => none
    | _ => none
  | .fieldAddr off x => match e x with
    | .cptr cells => some (.cptr (cells.drop off), H)
    | .ptr g' i' row o => some (.ptr g' i' row (o + off), H)
    | _ => none
  | .field off sz agg x => match (e x) with
    | .agg cells => match ldAV sz agg (cells.drop off) with
      | some v => some (v, H)
      | none => none
    | _ => none
  | .idxSl sz x ix => match e ix with
    | .sc (.int _ n) => match e x with
      | .list s rows => match Nat.beq s sz, rowIx rows n with
        | true, some r => some (.cptr r, H)
        | _, _ => none
      | .hsl g' i' start len => match n with
        | .ofNat q => match hget H g' i' with
          | some (.cells s rows) => match Nat.beq s sz && (Nat.blt q len && Nat.ble (start + len) rows.length) with
            | true => some (.ptr g' i' (start + q) 0, H)
            | false => none
          | _ => none
        | .negSucc _ => none
      | _ => none
    | _ => none
  | .idxArr n sz x ix => match e ix with
    | .sc (.int _ (.ofNat q)) => match Nat.blt q n with
      | true => match e x with
        | .cptr cells => some (.cptr (cells.drop (q * sz)), H)
        | .ptr g' i' row o => some (.ptr g' i' row (o + q * sz), H)
        | _ => none
      | false => none
    | _ => none
  | .idxVal n sz agg x ix => match e ix with
    | .sc (.int _ (.ofNat q)) => match Nat.blt q n with
      | true => match e x with
        | .agg cells => match ldAV sz agg (cells.drop (q * sz)) with
          | some v => some (v, H)
          | none => none
        | _ => none
      | false => none
    | _ => none
  | .lookup z k x ix ok => match e ix with
    | .sc (.int k' n) => match decide (k = k') with
      | true => lres z ok H (mlook H k n (e x))
      | false => none
    | _ => none
  | .mapUpdate k m ix x => match e m, e ix with
    | .mref g' i', .sc (.int k' n) => match decide (k = k') with
      | true => match hget H g' i' with
        | some (.map es) => match mfind k n es with
          | some none => some (.undef, hset H g' i' (.map (es ++ [(.int k n, e x)])))
          | some (some _) => some (.undef, hset H g' i' (.map (mput n (e x) es)))
          | none => none
        | _ => none
      | false => none
    | _, _ => none
  | .extract x ix => match e x with
    | .tup vs => match vs[ix]? with
      | some v => some (v, H)
      | none => none
    | _ => none
  | .len x => match e x with
    | .list _ rows => some (.sc (.int .i64 rows.length), H)
    | .hsl _ _ _ len => some (.sc (.int .i64 len), H)
    | .sc (.slice none 0 0) => some (.sc (.int .i64 (0 : Nat)), H)
    | _ => none
  | .lenM x => match e x with
    | .tmap es => some (.sc (.int .i64 es.length), H)
    | .mref g' i' => match hget H g' i' with
      | some (.map es) => some (.sc (.int .i64 es.length), H)
      | _ => none
    | .sc (.map none) => some (.sc (.int .i64 (0 : Nat)), H)
    | _ => none
  | .append sz bytes s x => match rowsX sz H (e x) with
    | some (s2, rows2) => match Nat.beq s2 sz with
      | true => match e s with
        | .hsl g' i' 0 len => match hget H g' i' with
          | some (.cells s1 rows1) => match Nat.beq s1 sz && (Nat.beq rows1.length len && Nat.ble ((len + rows2.length) * (bytes + 1)) 70368744177664) with
            | true => match Nat.beq g g' && Nat.beq i i' with
              | true => none
              | false => some (.hsl g i 0 (len + rows2.length), hset (hset H g' i' .dead) g i (.cells sz (rows1 ++ rows2)))
            | false => none
          | _ => none
        | .sc (.slice none 0 0) => match Nat.ble (rows2.length * (bytes + 1)) 70368744177664 with
          | true => some (.hsl g i 0 rows2.length, hset H g i (.cells sz rows2))
          | false => none
        | _ => none
      | false => none
    | none => none
  | .max args => match scs (args.map e) with
    | some vs => match Sem.pure? (Builtin.max_ #[] 0 vs.toArray) with
      | some v => some (.sc v, H)
      | none => none
    | none => none
  | .min args => match scs (args.map e) with
    | some vs => match Sem.pure? (Builtin.min_ #[] 0 vs.toArray) with
      | some v => some (.sc v, H)
      | none => none
    | none => none
  | .xop o xs => match xstep H o (xs.map e) with
    | some v => some (v, H)
    | none => none
  | .insF ks m ix x => match e m, flatOf (e ix) with
    | .mref g' i', some k => match cellsEq ks k k with
      | some _ => match hget H g' i' with
        | some (.map []) => match ukey k with
          | some c => some (.undef, hset H g' i' (.umap c.length [(c, e x)]))
          | none => none
        | some (.umap n es) => match ukey k with
          | some c => match Nat.beq c.length n, ufind c es with
            | true, none => some (.undef, hset H g' i' (.umap n (uins c (e x) es)))
            | _, _ => none
          | none => none
        | _ => none
      | none => none
    | _, _ => none
  | .mop o xs => mstep g i H o (xs.map e)


theorem sbounds_eq (fr : Fr) (d : Nat) (lo hi mx : Option Operand) : sbounds fr d lo hi mx = sboundsE (ev fr) d lo hi mx := by
  cases lo <;> cases hi <;> cases mx <;> rfl

theorem dstepE_eq (g i : Nat) (o : IOp) (fr : Fr) (H : Heap) : dstep g i o fr H = dstepE (ev fr) g i o H := by
  cases o <;> first | rfl | (simp only [dstep, dstepE, sbounds_eq]; rfl)

def gokE (T : FT) : Option (Nat × Bool) → Option Bool
  | none => some true
  | some (t, b) => match T.get t with
    | .sc (.bool c) => match b with
      | true => some c
      | false => some (!c)
    | .sc (.tuple _) => some false
    | _ => none

theorem gokE_eq {fr : Fr} {T : FT} (h : AgT fr T) (g : Option (Nat × Bool)) : gok fr g = gokE T g := by
  cases g with
  | none => rfl
  | some p =>
    obtain ⟨t, b⟩ := p
    simp only [gok, gokE, h t]
    rfl

def drdE (e : Operand → AV) : IOp → List (Nat × Nat)
  | .load _ _ a => refs (e a)
  | .store _ a _ => refs (e a)
  | .idxSl _ x _ => refs (e x)
  | .slice _ x _ _ _ => refs (e x)
  | .lenM x => refs (e x)
  | .eqNilS _ x => refs (e x)
  | .lookup _ _ x _ _ => refs (e x)
  | .mapUpdate _ m _ _ => refs (e m)
  | .append _ _ s x => refs (e s) ++ refs (e x)
  | .xop _ xs => (xs.map e).flatMap refs
  | .insF _ m _ _ => refs (e m)
  | .mop _ xs => (xs.map e).flatMap refs
  | _ => []

def dwrE (e : Operand → AV) (g i : Nat) : IOp → List (Nat × Nat)
  | .alloc _ => [(g, i)]
  | .box _ => [(g, i)]
  | .buildSlice _ _ _ _ => [(g, i)]
  | .makeMap => [(g, i)]
  | .makeSlice _ _ _ _ => [(g, i)]
  | .store _ a _ => refs (e a)
  | .mapUpdate _ m _ _ => refs (e m)
  | .insF _ m _ _ => refs (e m)
  | .append _ _ s _ => (g, i) :: refs (e s)
  | .mop o xs => mwr g i o (xs.map e)
  | _ => []

theorem drdE_eq (fr : Fr) (o : IOp) : drd fr o = drdE (ev fr) o := by cases o <;> rfl
theorem dwrE_eq (fr : Fr) (g i : Nat) (o : IOp) : dwr g i fr o = dwrE (ev fr) g i o := by cases o <;> rfl

abbrev Caller := FuncId → List AV → Heap → Option (AV × Heap)

mutual
/-- A value that holds no number of a block from the family k on. -/
def lowV (k : Nat) : AV → Bool
  | .undef => true
  | .sc _ => true
  | .agg c => lowL k c
  | .tup c => lowL k c
  | .list _ r => lowR k r
  | .cptr c => lowL k c
  | .tmap e => lowM k e
  | .ptr g _ _ _ => Nat.blt g k
  | .hsl g _ _ _ => Nat.blt g k
  | .mref g _ => Nat.blt g k
  | .clo _ a b => lowL k a && lowL k b
  | .yld g _ => Nat.blt g k
def lowL (k : Nat) : List AV → Bool
  | [] => true
  | a :: l => lowV k a && lowL k l
def lowR (k : Nat) : List (List AV) → Bool
  | [] => true
  | a :: l => lowL k a && lowR k l
def lowM (k : Nat) : List (Value × AV) → Bool
  | [] => true
  | (_, a) :: l => lowV k a && lowM k l
end

def lowB' (k : Nat) : Blk → Bool
  | .dead => true
  | .cells _ rows => lowR k rows
  | .map es => lowM k es
  | .lp .. => false
  | .umap .. => false
  | .it .. => false

def lowF (k : Nat) : List Blk → Bool
  | [] => true
  | x :: l => lowB' k x && lowF k l

/-- The first n families. -/
def lowH (k : Nat) : Nat → Heap → Bool
  | 0, _ => true
  | _ + 1, [] => true
  | n + 1, f :: r => lowF k f && lowH k n r

mutual
/-- A result whose blocks are its own, frozen. -/
def fzV (H : Heap) : AV → Option AV
  | .hsl g i s l => match hget H g i with
    | some (.cells sz rows) => match Nat.ble (s + l) rows.length with
      | true => some (.list sz ((rows.drop s).take l))
      | false => none
    | _ => none
  | .ptr g i row 0 => match hget H g i with
    | some (.cells _ rows) => match rows[row]? with
      | some r => some (.cptr r)
      | none => none
    | _ => none
  | .mref g i => match hget H g i with
    | some (.map es) => some (.tmap es)
    | _ => none
  | .tup vs => match fzVs H vs with
    | some us => some (.tup us)
    | none => none
  | .agg vs => match fzVs H vs with
    | some us => some (.agg us)
    | none => none
  | a => some a
def fzVs (H : Heap) : List AV → Option (List AV)
  | [] => some []
  | a :: l => match fzV H a, fzVs H l with
    | some b, some q => some (b :: q)
    | _, _ => none
end

/-- A region's operations. -/
inductive RR where
  | stuck
  | out (T : FT) (H : Heap)

def regE (call : Caller) (k : Nat) : List IOper → FT → Heap → RR
  | [], T, H => .out T H
  | ⟨d, gd, a⟩ :: xs, T, H => match gokE T gd with
    | some true => match a with
      | .op o => match dstepE T.ev H.length 0 o H with
        | some (v, H') => match T.putO d v with
          | some T' => regE call k xs T' H'
          | none => .stuck
        | none => .stuck
      | .call f args => match Nat.ble k H.length with
        | true => match call f (args.map T.ev) H with
          | some (v, H') => match T.putO d v with
            | some T' => regE call k xs T' H'
            | none => .stuck
          | none => .stuck
        | false => .stuck
      | .callV f args => match Nat.ble k H.length with
        | true => match T.ev f with
          | .clo (.func g) fs cs => match call g (fs ++ args.map T.ev ++ cs) H with
            | some (v, H') => match T.putO d v with
              | some T' => regE call k xs T' H'
              | none => .stuck
            | none => .stuck
          | _ => .stuck
        | false => .stuck
    | some false => match T.putO d (.sc Go.undef) with
      | some T' => regE call k xs T' H
      | none => .stuck
    | none => .stuck

/-- .. whose order is open. -/
inductive DR where
  | stuck
  | out (R : List RRec) (T : FT) (H : Heap)

def DR.cons (r : RRec) : DR → DR
  | .stuck => .stuck
  | .out R T H => .out (r :: R) T H

def drawE (call : Caller) (base : Nat) : Nat → List IOper → FT → Heap → DR
  | _, [], T, H => .out [] T H
  | j, ⟨d, gd, a⟩ :: xs, T, H => match gokE T gd with
    | some true => match a with
      | .op o => match dstepE T.ev base j o H with
        | some (v, H') => match T.putO d v with
          | some T' => (drawE call base (j + 1) xs T' H').cons ⟨⟨d, gd, a⟩, (base, j), v, drdE T.ev o, dwrE T.ev base j o⟩
          | none => .stuck
        | none => .stuck
      | .call f args => match lowL 0 (args.map T.ev) with
        | true => match call f (args.map T.ev) [] with
          | some (v0, H0) => match fzV H0 v0 with
            | some v => match lowV 0 v with
              | true => match T.putO d v with
                | some T' => (drawE call base (j + 1) xs T' H).cons ⟨⟨d, gd, a⟩, (base, j), v, [], []⟩
                | none => .stuck
              | false => .stuck
            | none => .stuck
          | none => .stuck
        | false => .stuck
      | .callV _ _ => .stuck
    | some false => match T.putO d (.sc Go.undef) with
      | some T' => (drawE call base (j + 1) xs T' H).cons ⟨⟨d, gd, a⟩, (base, j), .sc Go.undef, [], []⟩
      | none => .stuck
    | none => .stuck

inductive XR where
  | stuck
  | out (e : Exit) (T : FT) (H : Heap)

def XR.block (id : Nat) : XR → XR
  | .out (.exit id') T H => match Nat.beq id' id with
    | true => .out .normal T H
    | false => .out (.exit id') T H
  | r => r

def iterE (f : FT → Heap → XR) : Nat → FT → Heap → XR
  | 0, _, _ => .stuck
  | n + 1, T, H => match f T H with
    | .out .normal T' H' => iterE f n T' H'
    | r => r

def RR.x : RR → XR
  | .stuck => .stuck
  | .out T H => .out .normal T H

/-- Is the last operation a call with effects? -/
def lastCall (xs : List IOper) : Bool := match splitLast xs with
  | some (_, ⟨_, _, .callV _ _⟩) => true
  | some (_, ⟨_, _, .call _ _⟩) => true
  | _ => false

def splitCallE : List IOper → Option (List IOper × IOper × List IOper)
  | [] => none
  | x :: l => match x.act with
    | .op _ => match splitCallE l with
      | some (a, y, b) => some (x :: a, y, b)
      | none => none
    | _ => some ([], x, l)

def execE (call : Caller) (k fuel : Nat) : ICode → FT → Heap → XR
  | .skip, T, H => .out .normal T H
  | .region xs, T, H => (regE call k xs T H).x
  | .draw xs af, T, H => match drawE call H.length 0 xs T (H ++ [List.replicate xs.length .dead]) with
    | .out R T' H' => match chk af R with
      | true => .out .normal T' H'
      | false => .stuck
    | .stuck => match splitCallE xs with
      | some (ys, y, zs) => match drawE call H.length 0 ys T (H ++ [List.replicate ys.length .dead]) with
        | .out R T' H' => match chk (af.take ys.length) R with
          | true => match regE call k [y] T' H' with
            | .out T2 H2 => match drawE call H2.length 0 zs T2 (H2 ++ [List.replicate zs.length .dead]) with
              | .out _ T3 H3 => .out .normal T3 H3
              | .stuck => .stuck
            | .stuck => .stuck
          | false => .stuck
        | .stuck => .stuck
      | none => .stuck
  | .seq a b, T, H => match execE call k fuel a T H with
    | .out .normal T' H' => execE call k fuel b T' H'
    | r => r
  | .cond c a b, T, H => match T.ev c with
    | .sc (.bool true) => execE call k fuel a T H
    | .sc (.bool false) => execE call k fuel b T H
    | _ => .stuck
  | .block id b, T, H => (execE call k fuel b T H).block id
  | .loop b, T, H => iterE (execE call k fuel b) fuel T H
  | .exit id, T, H => .out (.exit id) T H
  | .ret, T, H => .out .ret T H
  | .rangeF .., _, _ => .stuck
  | .bad, _, _ => .stuck

def resOneE (T : FT) (H : Heap) : IRes → Option AV
  | .tmp t => match fz (T.get t) [] with
    | some (v, _) => some v
    | none => none
  | .cell a sz agg => match T.get a with
    | .ptr g i row off => match hget H g i with
      | some (.cells _ rows) => match rows[row]? with
        | some r => ldAV sz agg (r.drop off)
        | none => none
      | _ => none
    | _ => none

def resAllE (T : FT) (H : Heap) : List IRes → Option (List AV)
  | [] => some []
  | r :: l => match resOneE T H r, resAllE T H l with
    | some x, some xs => some (x :: xs)
    | _, _ => none

def resOfE (T : FT) (H : Heap) (rs : List IRes) : Option AV :=
  match resAllE T H rs with
  | some [x] => some x
  | some xs => some (.tup xs)
  | none => none

theorem resOfE_eq {fr : Fr} {T : FT} (h : AgT fr T) (H : Heap) (rs : List IRes) : resOf fr H rs = resOfE T H rs := by
  have h1 : ∀ r, resOne fr H r = resOneE T H r := fun r => by
    cases r with
    | tmp t => simp only [resOne, resOneE, h t]; rfl
    | cell a sz agg => simp only [resOne, resOneE, h a]; rfl
  have h2 : ∀ rs, resAll fr H rs = resAllE T H rs := fun rs => by
    induction rs with
    | nil => rfl
    | cons r rs ih => simp only [resAll, resAllE, h1, ih]; rfl
  simp only [resOf, resOfE, h2]
  rfl

def argsT : Nat → List AV → FT → Option FT
  | _, [], T => some T
  | i, a :: r, T => match T.put i a with
    | some T' => argsT (i + 1) r T'
    | none => none

/-- The end of a call: the callee's own blocks are forgotten, where nothing speaks of them. -/
def endE (k : Nat) (res : AV) (H : Heap) : AV × Heap :=
  match lowV k res && lowH k k H with
  | true => (res, H.take k)
  | false => (res, H)

def tabL : List (Nat × IFun) → FuncId → Option IFun
  | [], _ => none
  | (n, F) :: l, f => match Nat.beq n f with
    | true => some F
    | false => tabL l f

def runE (sum : Caller) (tab : FuncId → Option IFun) (fuel : Nat) : Nat → Caller
  | 0, _, _, _ => none
  | d + 1, f, args, H => match sum f args H with
    | some r => some r
    | none => match tab f with
      | none => none
      | some F => match Nat.ble args.length F.n with
        | true => match argsT 0 args (FT.full 12) with
          | some T => match execE (runE sum tab fuel d) H.length fuel F.code T H with
            | .out .normal T' H' => match resOfE T' H' F.res with
              | some res => some (endE H.length res H')
              | none => none
            | .out .ret T' H' => match resOfE T' H' F.res with
              | some res => some (endE H.length res H')
              | none => none
            | _ => none
          | none => none
        | false => none

end Go.Av
