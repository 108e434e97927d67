import Derived.Test.YtbpmbofinoinmaaAv17
namespace Go.Av

def befB (af : List (List Nat)) : Nat → Nat → Nat → Bool
  | 0, _, _ => false
  | f + 1, a, b => match af[b]? with
    | some l => l.any (Nat.beq a) || l.any fun m => befB af f a m
    | none => false

theorem befB_sound {af : List (List Nat)} {F : Nat → List Nat} (hF : ∀ j l, af[j]? = some l → F j = l) : ∀ (f a b : Nat), befB af f a b = true → Bef F a b
  | 0, _, _, h => by simp [befB] at h
  | f + 1, a, b, h => by
    simp only [befB] at h
    split at h
    · rename_i l hl
      have hb := hF b l hl
      simp only [Bool.or_eq_true, List.any_eq_true] at h
      rcases h with ⟨k, hk, he⟩ | ⟨m, hm, he⟩
      · have : a = k := Nat.eq_of_beq_eq_true he
        subst this
        exact .base (by rw [hb]; exact hk)
      · exact .step (by rw [hb]; exact hm) (befB_sound hF f a m he)
    · cases h

/-- The operations that no edge orders may change places; edges lead back. -/
def chkB (af : List (List Nat)) (R : List RRec) (b : Nat) (rb : RRec) : Nat → List RRec → Bool
  | _, [] => true
  | a, ra :: l => (Nat.ble b a || (befB af af.length a b || indep ra rb)) && chkB af R b rb (a + 1) l

def chkAll (af : List (List Nat)) (R : List RRec) : Nat → List RRec → Bool
  | _, [] => true
  | b, rb :: l => chkB af R b rb 0 R && chkAll af R (b + 1) l

def lowB : Nat → List (List Nat) → Bool
  | _, [] => true
  | j, l :: r => l.all (fun k => Nat.blt k j) && lowB (j + 1) r

def chk (af : List (List Nat)) (R : List RRec) : Bool := lowB 0 af && chkAll af R 0 R

theorem chkB_sound {af R b rb} : ∀ (l : List RRec) (a0 : Nat), chkB af R b rb a0 l = true → ∀ (j : Nat) ra, l[j]? = some ra → a0 + j < b → befB af af.length (a0 + j) b = true ∨ indep ra rb = true
  | [], _, _, j, ra, h, _ => by simp at h
  | r :: l, a0, h, j, ra, hj, hlt => by
    simp only [chkB, Bool.and_eq_true, Bool.or_eq_true] at h
    cases j with
    | zero =>
      simp at hj
      subst hj
      rcases h.1 with h1 | h1
      · have := Nat.le_of_ble_eq_true h1; omega
      · exact h1
    | succ j =>
      have := chkB_sound l (a0 + 1) h.2 j ra (by simpa using hj) (by omega)
      rwa [show a0 + 1 + j = a0 + (j + 1) by omega] at this

theorem chkAll_sound {af R} : ∀ (l : List RRec) (b0 : Nat), chkAll af R b0 l = true → ∀ (j : Nat) rb, l[j]? = some rb → chkB af R (b0 + j) rb 0 R = true
  | [], _, _, j, rb, h => by simp at h
  | r :: l, b0, h, j, rb, hj => by
    simp only [chkAll, Bool.and_eq_true] at h
    cases j with
    | zero => simp at hj; subst hj; exact h.1
    | succ j =>
      have := chkAll_sound l (b0 + 1) h.2 j rb (by simpa using hj)
      rwa [show b0 + 1 + j = b0 + (j + 1) by omega] at this

theorem lowB_sound : ∀ (l : List (List Nat)) (j0 : Nat), lowB j0 l = true → ∀ (j : Nat) as, l[j]? = some as → ∀ k ∈ as, k < j0 + j
  | [], _, _, j, as, h => by simp at h
  | r :: l, j0, h, j, as, hj => by
    simp only [lowB, Bool.and_eq_true, List.all_eq_true] at h
    cases j with
    | zero =>
      simp at hj
      subst hj
      intro k hk
      have : k < j0 := Nat.le_of_ble_eq_true (h.1 k hk)
      omega
    | succ j =>
      have := lowB_sound l (j0 + 1) h.2 j as (by simpa using hj)
      rwa [show j0 + 1 + j = j0 + (j + 1) by omega] at this

/-- The region's operations in the order of the text. -/
inductive DRun (P : Program) (base : Nat) : Nat → List IOper → Fr → Heap → List RRec → Fr → Heap → Prop
  | nil (j : Nat) (fr : Fr) (H : Heap) : DRun P base j [] fr H [] fr H
  | op {j : Nat} {x : IOper} {xs : List IOper} {fr : Fr} {H : Heap} {o : IOp} {v : AV} {H1 : Heap} {R : List RRec} {fr' : Fr} {H' : Heap} (hg : gok fr x.guard = some true) (hx : x.act = .op o)
      (hs : dstep base j o fr H = some (v, H1)) (h : DRun P base (j + 1) xs (fr.put x.dst v) H1 R fr' H') : DRun P base j (x :: xs) fr H (⟨x, (base, j), v, drd fr o, dwr base j fr o⟩ :: R) fr' H'
  | call {j : Nat} {x : IOper} {xs : List IOper} {fr : Fr} {H : Heap} {f : FuncId} {args : List Operand} {v : AV} {R : List RRec} {fr' : Fr} {H' : Heap} (hg : gok fr x.guard = some true) (hx : x.act = .call f args)
      (hc : PureRun P f (avals fr args) v) (h : DRun P base (j + 1) xs (fr.put x.dst v) H R fr' H') : DRun P base j (x :: xs) fr H (⟨x, (base, j), v, [], []⟩ :: R) fr' H'
  | skip {j : Nat} {x : IOper} {xs : List IOper} {fr : Fr} {H : Heap} {R : List RRec} {fr' : Fr} {H' : Heap} (hg : gok fr x.guard = some false)
      (h : DRun P base (j + 1) xs (fr.put x.dst (.sc Go.undef)) H R fr' H') : DRun P base j (x :: xs) fr H (⟨x, (base, j), .sc Go.undef, [], []⟩ :: R) fr' H'

theorem DRun.run {P base j xs fr H R fr' H'} (h : DRun P base j xs fr H R fr' H') : Run P R (fr, H) (fr', H') := by
  induction h with
  | nil => exact Eqv.refl _
  | op hg hx hs _ ih => exact ⟨_, ⟨rfl, .inl ⟨hg, _, hx, hs, rfl, rfl⟩⟩, ih⟩
  | @call j x xs fr H f args v R fr' H' hg hx hc _ ih => exact ⟨(fr.put x.dst v, H), ⟨rfl, .inr (.inl ⟨hg, rfl, rfl, fun _ _ => rfl, _, _, hx, hc⟩)⟩, ih⟩
  | @skip j x xs fr H R fr' H' hg _ ih => exact ⟨(fr.put x.dst (.sc Go.undef), H), ⟨rfl, .inr (.inr ⟨hg, rfl, rfl, rfl, fun _ _ => rfl⟩)⟩, ih⟩

theorem DRun.recs {P base j xs fr H R fr' H'} (h : DRun P base j xs fr H R fr' H') : R.map (·.x) = xs ∧ ∀ (i : Nat) r, R[i]? = some r → r.id = (base, j + i) := by
  induction h with
  | nil => exact ⟨rfl, fun i r h => by simp at h⟩
  | op _ _ _ _ ih =>
    refine ⟨by simp [ih.1], fun i r h => ?_⟩
    cases i with
    | zero => simp at h; subst h; rfl
    | succ i => rw [ih.2 i r (by simpa using h)]; congr 1; omega
  | call _ _ _ _ ih =>
    refine ⟨by simp [ih.1], fun i r h => ?_⟩
    cases i with
    | zero => simp at h; subst h; rfl
    | succ i => rw [ih.2 i r (by simpa using h)]; congr 1; omega
  | skip _ _ ih =>
    refine ⟨by simp [ih.1], fun i r h => ?_⟩
    cases i with
    | zero => simp at h; subst h; rfl
    | succ i => rw [ih.2 i r (by simpa using h)]; congr 1; omega

theorem hget_append (H : Heap) (f : List Blk) (g i : Nat) : hget (H ++ [f]) g i = if g = H.length then f[i]? else hget H g i := by
  unfold hget
  rw [List.getElem?_append]
  by_cases h : g < H.length
  · rw [if_pos h, if_neg (by omega)]
  · rw [if_neg h]
    by_cases e : g = H.length
    · subst e; simp
    · rw [if_neg e, List.getElem?_eq_none (by simp; omega), List.getElem?_eq_none (by omega)]

theorem copers_len {P : Program} {N : Nat} {ops : Array Oper} : ∀ (l : List Oper) (xs : List IOper), copers P N ops l = some xs → xs.length = l.length ∧ ∀ (j : Nat) o, l[j]? = some o → ∃ x, xs[j]? = some x ∧ coper P N ops o = some x
  | [], xs, h => by
    simp [copers] at h
    subst h
    exact ⟨rfl, fun j o h => by simp at h⟩
  | o :: l, xs, h => by
    simp only [copers] at h
    split at h
    · rename_i x ys h1 h2
      injection h with h
      subst h
      obtain ⟨h3, h4⟩ := copers_len l ys h2
      refine ⟨by simp [h3], fun j o' hj => ?_⟩
      cases j with
      | zero => simp at hj; subst hj; exact ⟨x, rfl, h1⟩
      | succ j => exact h4 j o' (by simpa using hj)
    · cases h

/-- A region whose order is open. -/
theorem AWP.draw {P : Program} {N k : Nat} {fr : Fr} {H : Heap} {Q : Exit → Fr → Heap → Prop} {xs : List IOper} {af : List (List Nat)} {R : List RRec} {fr' : Fr} {H' : Heap} (hp : P.follows .mixedOrders = true)
    (hrun : DRun P H.length 0 xs fr (H ++ [List.replicate xs.length .dead]) R fr' H') (hchk : chk af R = true) (h : Q .normal fr' H') : AWP P N k (.draw xs af) Q fr H := by
  intro c0 hc M J tmps w hF hH hM
  cases c0 with
  | region id ops draw =>
    simp only [ccode] at hc
    split at hc
    · rename_i ys hys
      cases draw with
      | false => cases hc
      | true =>
        injection hc with hc
        injection hc with hc1 hc2
        subst hc1; subst hc2
        refine wp_region_draw fun t => ?_
        rw [hp]
        have hsch : Region.schedule true ops t = Region.linearise .any ops t := by simp [Region.schedule]
        rw [hsch]
        obtain ⟨hlen, hgx⟩ := copers_len _ _ hys
        obtain ⟨hrx, hrid⟩ := hrun.recs
        have hRlen : R.length = ops.size := by
          have := congrArg List.length hrx
          simp at this
          rw [this, hlen]
          simp
        let R' : Nat → RRec := fun j => R.getD j ⟨⟨none, none, .call 0 []⟩, (0, 0), .undef, [], []⟩
        have hR' : ∀ j, j < ops.size → R[j]? = some (R' j) := by
          intro j hj
          have : j < R.length := by omega
          simp [R', List.getD, this]
        have haf : ∀ j l, (ops.toList.map cafter)[j]? = some l → afterOf ops j = l := by
          intro j l hj
          rw [List.getElem?_map, Array.getElem?_toList] at hj
          unfold afterOf
          cases ho : ops[j]? with
          | none => rw [ho] at hj; cases hj
          | some o => rw [ho] at hj; simpa using hj
        simp only [chk, Bool.and_eq_true] at hchk
        have hs := linearise_sched ops R' (fun j k hk => by
          have hl : (ops.toList.map cafter)[j]? = some (afterOf ops j) := by
            rw [List.getElem?_map, Array.getElem?_toList]
            unfold afterOf at hk ⊢
            cases ho : ops[j]? with
            | none => rw [ho] at hk; cases hk
            | some o => rfl
          have := lowB_sound _ 0 hchk.1 j _ hl k hk
          omega) (fun a b hab hb => by
          have h1 := chkAll_sound _ 0 hchk.2 b _ (hR' b hb)
          rcases chkB_sound _ 0 h1 a _ (hR' a (by omega)) (by omega) with h2 | h2
          · left
            rw [Nat.zero_add, Nat.zero_add] at h2
            exact befB_sound haf _ _ _ h2
          · exact .inr h2) t
        have hrem : ((List.range ops.size).map fun j => (j, R' j)).map (·.2) = R := by
          apply List.ext_getElem?
          intro j
          rw [List.map_map, List.getElem?_map]
          by_cases hj : j < ops.size
          · rw [hR' j hj, List.getElem?_range hj]
            rfl
          · have h1 : (List.range ops.size)[j]? = none := List.getElem?_eq_none (by rw [List.length_range]; omega)
            have h2 : R[j]? = none := List.getElem?_eq_none (by omega)
            rw [h1, h2]
            rfl
        have hdead : ∀ g i x, hget (H ++ [List.replicate ys.length Blk.dead]) g i = some x → x.live = true → hget H g i = some x := by
          intro g i x hx hl
          rw [hget_append] at hx
          split at hx
          · rw [List.getElem?_replicate] at hx
            split at hx
            · injection hx with hx; subst hx; cases hl
            · cases hx
          · exact hx
        have hH0 : HRep M J (H ++ [List.replicate ys.length .dead]) w.heap := by
          refine ⟨fun g i x hx hl => hH.blk g i x (hdead g i x hx hl) hl, fun g i g' i' l l' β ⟨x, hx, hl⟩ ⟨y, hy, hl'⟩ => hH.inj g i g' i' l l' β ⟨x, hdead _ _ _ hx hl, hl⟩ ⟨y, hdead _ _ _ hy hl', hl'⟩,
            fun g i l β ⟨x, hx, hl⟩ => hH.out g i l β ⟨x, hdead _ _ _ hx hl, hl⟩, fun g i l hJ => ?_⟩
          have := hH.dom g i l hJ
          refine ⟨?_, this.2⟩
          rw [hget_append]
          split
          · rename_i e
            subst e
            have h2 := this.1
            simp [hget] at h2
          · exact this.1
        have hids : ∀ j, j < ops.size → (R' j).id = (H.length, j) := fun j hj => by rw [hrid j _ (hR' j hj), Nat.zero_add]
        refine run_sched (k := k) (N := N) (t := (fr', H')) hs (fun p hp => ?_) ?_ (fr, H ++ [List.replicate ys.length .dead]) M J tmps { w with drawn := w.drawn + 1 } hF hH0 hM (by rw [hrem]; exact hrun.run) (fun p hp => ?_) _ fun a' w' hp => ?_
        · obtain ⟨j, hj, rfl⟩ := List.mem_map.1 hp
          have hj := List.mem_range.1 hj
          have ho : ops[j]? = some ops[j] := Array.getElem?_eq_getElem hj
          obtain ⟨x, hx1, hx2⟩ := hgx j ops[j] (by rw [Array.getElem?_toList]; exact ho)
          refine ⟨ops[j], ho, ?_⟩
          have : some (R' j).x = some x := by
            rw [← hx1, ← hrx, List.getElem?_map, hR' j hj]
            rfl
          injection this with this
          rw [this]
          exact hx2
        · rw [List.map_map]
          have he : (List.range ops.size).map ((fun x : Nat × RRec => x.2.id) ∘ fun j => (j, R' j)) = (List.range ops.size).map fun j => (H.length, j) :=
            List.map_congr_left fun j hj => hids j (List.mem_range.1 hj)
          rw [he]
          exact List.Pairwise.map _ (fun a b hab e => hab (by injection e)) List.nodup_range
        · obtain ⟨j, hj, rfl⟩ := List.mem_map.1 hp
          have hj := List.mem_range.1 hj
          rw [hids j hj]
          refine ⟨?_, ?_⟩
          · rw [hget_append, if_pos rfl, List.getElem?_replicate, if_pos (by rw [hlen]; simpa using hj)]
            rfl
          · cases e : J H.length j with
            | none => rfl
            | some l =>
              have := (hH.dom _ _ l e).1
              simp [hget] at this
        · obtain ⟨M2, J2, fr2, H2, q1, q2, q3, q4, q5⟩ := hp
          subst q4; subst q5
          refine ⟨M2, J2, fr2, H2, ?_, q2, q3, h⟩
          have hlive : ∀ g i, liveAt (H ++ [List.replicate ys.length Blk.dead]) g i → liveAt H g i := fun g i ⟨x, hx, hl⟩ => ⟨x, hdead g i x hx hl, hl⟩
          exact ⟨q1.m, q1.j, q1.hrep, q1.mrep, q1.os, q1.tape, q1.output, q1.size, fun β o ho hn => q1.frame β o ho fun g i l hl hJ => hn g i l (hlive g i hl) hJ,
            fun β o ho => or2 (q1.fresh β o ho) (fun h => h) fun h => or2 h (fun h => h) fun ⟨g, i, l, a, b, c⟩ => ⟨g, i, l, hlive g i a, b, c⟩,
            fun g i l β a b c => or2 (q1.live g i l β a b c) (fun ⟨g0, i0, l0, a, b, c⟩ => ⟨g0, i0, l0, hlive g0 i0 a, b, c⟩) fun h => h⟩
    · cases hc
  | _ => simp only [ccode] at hc; (try split at hc) <;> (try cases hc) <;> (try simp at hc)

end Go.Av
