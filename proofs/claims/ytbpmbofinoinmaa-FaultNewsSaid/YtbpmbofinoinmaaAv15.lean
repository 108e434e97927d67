import Derived.Test.YtbpmbofinoinmaaAv14
namespace Go.Av

/-! A region whose order is open: its operations in whatever order come to what they come to in the order of the text, if those that no edge orders do not touch what the others write. -/

def refs : AV → List (Nat × Nat)
  | .ptr g i _ _ => [(g, i)]
  | .hsl g i _ _ => [(g, i)]
  | .mref g i => [(g, i)]
  | _ => []

def IOp.opds : IOp → List Operand
  | .move x => [x]
  | .pick c a b => [c, a, b]
  | .alloc _ => []
  | .box x => [x]
  | .build _ parts => parts.map (·.2.2)
  | .buildSlice _ _ _ parts => parts.map (·.2)
  | .load _ _ a => [a]
  | .store _ a x => [a, x]
  | .nilCheck x => [x]
  | .bin _ _ x y => [x, y]
  | .eqBool _ x y => [x, y]
  | .eqNil _ x => [x]
  | .eqNilM _ x => [x]
  | .eqNilS _ x => [x]
  | .eqArr _ _ x y => [x, y]
  | .un _ x => [x]
  | .conv _ x => [x]
  | .makeFunc _ a b => a ++ b
  | .makeMap => []
  | .makeSlice _ _ _ l => [l]
  | .slice _ x lo hi mx => x :: (lo.toList ++ (hi.toList ++ mx.toList))
  | .fieldAddr _ x => [x]
  | .field _ _ _ x => [x]
  | .idxSl _ x i => [x, i]
  | .idxArr _ _ x i => [x, i]
  | .idxVal _ _ _ x i => [x, i]
  | .lookup _ _ x i _ => [x, i]
  | .mapUpdate _ m i x => [m, i, x]
  | .extract x _ => [x]
  | .len x => [x]
  | .lenM x => [x]
  | .append _ _ s x => [s, x]
  | .max args => args
  | .min args => args

/-- The blocks that an operation looks at. -/
def drd (fr : Fr) : IOp → List (Nat × Nat)
  | .load _ _ a => refs (ev fr a)
  | .store _ a _ => refs (ev fr a)
  | .idxSl _ x _ => refs (ev fr x)
  | .slice _ x _ _ _ => refs (ev fr x)
  | .lenM x => refs (ev fr x)
  | .eqNilS _ x => refs (ev fr x)
  | .lookup _ _ x _ _ => refs (ev fr x)
  | .mapUpdate _ m _ _ => refs (ev fr m)
  | .append _ _ s x => refs (ev fr s) ++ refs (ev fr x)
  | _ => []

/-- .. and those that it writes. -/
def dwr (g i : Nat) (fr : Fr) : IOp → List (Nat × Nat)
  | .alloc _ => [(g, i)]
  | .box _ => [(g, i)]
  | .buildSlice _ _ _ _ => [(g, i)]
  | .makeMap => [(g, i)]
  | .makeSlice _ _ _ _ => [(g, i)]
  | .store _ a _ => refs (ev fr a)
  | .mapUpdate _ m _ _ => refs (ev fr m)
  | .append _ _ s _ => (g, i) :: refs (ev fr s)
  | _ => []

theorem dstep_frame {g i : Nat} {o : IOp} {fr fr2 : Fr} {H : Heap} (h : ∀ x ∈ o.opds, ev fr2 x = ev fr x) : dstep g i o fr2 H = dstep g i o fr H := by
  have hav : ∀ l : List Operand, (∀ x ∈ l, ev fr2 x = ev fr x) → avals fr2 l = avals fr l := fun l hl => List.map_congr_left hl
  cases o with
  | build z parts =>
    have : parts.map (fun p => (p.1, p.2.1, ev fr2 p.2.2)) = parts.map (fun p => (p.1, p.2.1, ev fr p.2.2)) :=
      List.map_congr_left fun p hp => by rw [h p.2.2 (List.mem_map.2 ⟨p, hp, rfl⟩)]
    simp only [dstep, this]
  | buildSlice sz z n parts =>
    have : parts.map (fun p => (p.1, ev fr2 p.2)) = parts.map (fun p => (p.1, ev fr p.2)) :=
      List.map_congr_left fun p hp => by rw [h p.2 (List.mem_map.2 ⟨p, hp, rfl⟩)]
    simp only [dstep, this]
  | makeFunc fn a b => simp only [dstep, hav a fun x hx => h x (List.mem_append_left _ hx), hav b fun x hx => h x (List.mem_append_right _ hx)]
  | max args => simp only [dstep, hav args h]
  | min args => simp only [dstep, hav args h]
  | alloc z => rfl
  | makeMap => rfl
  | slice sz x lo hi mx =>
    have hb : ∀ (d : Nat) (y : Option Operand), (∀ z ∈ y.toList, ev fr2 z = ev fr z) → sbnd fr2 d y = sbnd fr d y := by
      intro d y hy
      cases y with
      | none => rfl
      | some z => simp only [sbnd, hy z (by simp)]
    have h1 := fun d => hb d lo fun z hz => h z (by simp only [IOp.opds]; exact List.mem_cons_of_mem _ (List.mem_append_left _ hz))
    have h2 := fun d => hb d hi fun z hz => h z (by simp only [IOp.opds]; exact List.mem_cons_of_mem _ (List.mem_append_right _ (List.mem_append_left _ hz)))
    have h3 := fun d => hb d mx fun z hz => h z (by simp only [IOp.opds]; exact List.mem_cons_of_mem _ (List.mem_append_right _ (List.mem_append_right _ hz)))
    have h4 : ∀ d, sbounds fr2 d lo hi mx = sbounds fr d lo hi mx := fun d => by simp only [sbounds, h1, h2, h3]
    simp only [dstep, h x (by simp [IOp.opds]), h4]
  | move x => simp only [dstep, h x (by simp [IOp.opds])]
  | box x => simp only [dstep, h x (by simp [IOp.opds])]
  | load sz agg a => simp only [dstep, h a (by simp [IOp.opds])]
  | nilCheck x => simp only [dstep, h x (by simp [IOp.opds])]
  | eqNil neg x => simp only [dstep, h x (by simp [IOp.opds])]
  | eqNilM neg x => simp only [dstep, h x (by simp [IOp.opds])]
  | eqNilS neg x => simp only [dstep, h x (by simp [IOp.opds])]
  | un op x => simp only [dstep, h x (by simp [IOp.opds])]
  | conv k x => simp only [dstep, h x (by simp [IOp.opds])]
  | makeSlice sz bytes z l => simp only [dstep, h l (by simp [IOp.opds])]
  | fieldAddr off x => simp only [dstep, h x (by simp [IOp.opds])]
  | field off sz agg x => simp only [dstep, h x (by simp [IOp.opds])]
  | extract x i => simp only [dstep, h x (by simp [IOp.opds])]
  | len x => simp only [dstep, h x (by simp [IOp.opds])]
  | lenM x => simp only [dstep, h x (by simp [IOp.opds])]
  | pick c a b => simp only [dstep, h a (by simp [IOp.opds]), h b (by simp [IOp.opds]), h c (by simp [IOp.opds])]
  | store sz a x => simp only [dstep, h a (by simp [IOp.opds]), h x (by simp [IOp.opds])]
  | bin op t x y => simp only [dstep, h x (by simp [IOp.opds]), h y (by simp [IOp.opds])]
  | eqBool neg x y => simp only [dstep, h x (by simp [IOp.opds]), h y (by simp [IOp.opds])]
  | eqArr neg n x y => simp only [dstep, h x (by simp [IOp.opds]), h y (by simp [IOp.opds])]
  | idxSl sz x y => simp only [dstep, h x (by simp [IOp.opds]), h y (by simp [IOp.opds])]
  | idxArr n sz x y => simp only [dstep, h x (by simp [IOp.opds]), h y (by simp [IOp.opds])]
  | idxVal n sz agg x y => simp only [dstep, h x (by simp [IOp.opds]), h y (by simp [IOp.opds])]
  | lookup z k x y ok => simp only [dstep, h x (by simp [IOp.opds]), h y (by simp [IOp.opds])]
  | append sz bytes x y => simp only [dstep, h x (by simp [IOp.opds]), h y (by simp [IOp.opds])]
  | mapUpdate k x y z => simp only [dstep, h x (by simp [IOp.opds]), h y (by simp [IOp.opds]), h z (by simp [IOp.opds])]

/-- What one heap's step says of another's. -/
def Local (g i : Nat) (fr : Fr) (o : IOp) (H H' H2 : Heap) (r : Option (AV × Heap)) (v : AV) : Prop :=
  ∃ H2', r = some (v, H2') ∧ (∀ a b, (a, b) ∈ dwr g i fr o → hget H2' a b = hget H' a b) ∧ (∀ a b, (a, b) ∉ dwr g i fr o → hget H2' a b = hget H2 a b) ∧ (∀ a b, (a, b) ∉ dwr g i fr o → hget H' a b = hget H a b) ∧
    ∀ a b, (a, b) ∈ dwr g i fr o → (hget H' a b).isSome

theorem Local.set {g i : Nat} {fr : Fr} {o : IOp} {H H2 : Heap} {v : AV} {a b : Nat} {x : Blk} (h1 : hok H a b) (h2 : hok H2 a b) (hd : dwr g i fr o = [(a, b)]) : Local g i fr o H (hset H a b x) H2 (some (v, hset H2 a b x)) v := by
  refine ⟨_, rfl, fun c d hc => ?_, fun c d hc => ?_, fun c d hc => ?_, fun c d hc => ?_⟩
  · rw [hd] at hc
    simp at hc
    obtain ⟨rfl, rfl⟩ := hc
    rw [get_hset _ _ _ _ _ _ h1, get_hset _ _ _ _ _ _ h2]
    simp
  · rw [hd] at hc
    rw [get_hset _ _ _ _ _ _ h2, if_neg (by simpa using hc)]
  · rw [hd] at hc
    rw [get_hset _ _ _ _ _ _ h1, if_neg (by simpa using hc)]
  · rw [hd] at hc
    rw [get_hset _ _ _ _ _ _ h1, if_pos (by simpa using hc)]
    rfl

theorem Local.quiet {g i : Nat} {fr : Fr} {o : IOp} {H H2 : Heap} {v : AV} (hd : dwr g i fr o = []) : Local g i fr o H H H2 (some (v, H2)) v :=
  ⟨H2, rfl, (fun a b h => by rw [hd] at h; cases h), fun _ _ _ => rfl, fun _ _ _ => rfl, fun a b h => by rw [hd] at h; cases h⟩

theorem rowsOf_local {H H2 : Heap} {a : AV} (h : ∀ p ∈ refs a, hget H2 p.1 p.2 = hget H p.1 p.2) : rowsOf H2 a = rowsOf H a := by
  cases a with
  | hsl g i s l => simp only [rowsOf, h (g, i) (by simp [refs])]
  | _ => rfl

theorem rowsX_local {H H2 : Heap} {a : AV} {s0 : Nat} (h : ∀ p ∈ refs a, hget H2 p.1 p.2 = hget H p.1 p.2) : rowsX s0 H2 a = rowsX s0 H a := by
  unfold rowsX
  split
  · rfl
  · exact rowsOf_local h

theorem mlook_local {H H2 : Heap} {a : AV} {k : IntKind} {n : Int} (h : ∀ p ∈ refs a, hget H2 p.1 p.2 = hget H p.1 p.2) : mlook H2 k n a = mlook H k n a := by
  cases a with
  | mref g i => simp only [mlook, h (g, i) (by simp [refs])]
  | sc v => cases v <;> first | rfl | (rename_i r; cases r <;> rfl)
  | _ => rfl

theorem dstep_heap {g i : Nat} {o : IOp} {fr : Fr} {H H2 H' : Heap} {v : AV} (hs : dstep g i o fr H = some (v, H')) (h1 : (g, i) ∈ dwr g i fr o → (hget H g i).isSome) (h2 : (g, i) ∈ dwr g i fr o → (hget H2 g i).isSome)
    (hh : ∀ p ∈ drd fr o, hget H2 p.1 p.2 = hget H p.1 p.2) : Local g i fr o H H' H2 (dstep g i o fr H2) v := by
  cases o with
  | alloc z => simp only [dstep, Option.some.injEq, Prod.mk.injEq] at hs; obtain ⟨rfl, rfl⟩ := hs; exact .set (.inl (h1 (by simp [dwr]))) (.inl (h2 (by simp [dwr]))) rfl
  | makeMap => simp only [dstep, Option.some.injEq, Prod.mk.injEq] at hs; obtain ⟨rfl, rfl⟩ := hs; exact .set (.inl (h1 (by simp [dwr]))) (.inl (h2 (by simp [dwr]))) rfl
  | box x =>
    simp only [dstep] at hs ⊢
    split at hs
    · split at hs
      · rename_i hall
        simp only [Option.some.injEq, Prod.mk.injEq] at hs; obtain ⟨rfl, rfl⟩ := hs
        try simp only [hall]
        exact .set (.inl (h1 (by simp [dwr]))) (.inl (h2 (by simp [dwr]))) rfl
      · cases hs
    · cases hs
  | buildSlice sz z n parts =>
    simp only [dstep] at hs ⊢
    split at hs
    · simp only [Option.some.injEq, Prod.mk.injEq] at hs; obtain ⟨rfl, rfl⟩ := hs
      exact .set (.inl (h1 (by simp [dwr]))) (.inl (h2 (by simp [dwr]))) rfl
    · cases hs
  | makeSlice sz bytes z l =>
    simp only [dstep] at hs ⊢
    split at hs
    · split at hs
      · rename_i hb
        simp only [Option.some.injEq, Prod.mk.injEq] at hs; obtain ⟨rfl, rfl⟩ := hs
        try simp only [hb]
        exact .set (.inl (h1 (by simp [dwr]))) (.inl (h2 (by simp [dwr]))) rfl
      · cases hs
    · cases hs
  | store sz a x =>
    simp only [dstep] at hs ⊢
    split at hs
    · rename_i g' i' row off e
      have hg := hh (g', i') (by simp [drd, e, refs])
      try simp only [e]
      split at hs
      · rename_i cs hcs
        simp only at hg
        try simp only [hg]
        split at hs
        · rename_i s rows hget0
          split at hs
          · rename_i r hrow
            split at hs
            · rename_i hb
              simp only [Option.some.injEq, Prod.mk.injEq] at hs; obtain ⟨rfl, rfl⟩ := hs
              try simp only [hrow, hb]
              exact .set (.inl (by rw [hget0]; rfl)) (.inl (by rw [hg, hget0]; rfl)) (by simp [dwr, e, refs])
            · cases hs
          · cases hs
        · cases hs
      · cases hs
    · cases hs
  | mapUpdate k m ix x =>
    simp only [dstep] at hs ⊢
    split at hs
    · rename_i g' i' k' n em ei
      have hg := hh (g', i') (by simp [drd, em, refs])
      simp only at hg
      split at hs
      · rename_i hk
        try simp only [hg]
        split at hs
        · rename_i es hget0
          split at hs
          · rename_i hf
            simp only [Option.some.injEq, Prod.mk.injEq] at hs; obtain ⟨rfl, rfl⟩ := hs
            try simp only [hf]
            exact .set (.inl (by rw [hget0]; rfl)) (.inl (by rw [hg, hget0]; rfl)) (by simp [dwr, em, refs])
          · rename_i hf
            simp only [Option.some.injEq, Prod.mk.injEq] at hs; obtain ⟨rfl, rfl⟩ := hs
            try simp only [hf]
            exact .set (.inl (by rw [hget0]; rfl)) (.inl (by rw [hg, hget0]; rfl)) (by simp [dwr, em, refs])
          · cases hs
        · cases hs
      · cases hs
    · cases hs
  | append sz bytes s x =>
    simp only [dstep] at hs ⊢
    rw [rowsX_local (H := H) fun p hp => hh p (by simp only [drd]; exact List.mem_append_right _ hp)]
    split at hs
    · rename_i s2 rows2 hr2
      split at hs
      · rename_i hb2
        try simp only [hb2]
        split at hs
        · rename_i g' i' len e
          have hg := hh (g', i') (by simp [drd, e, refs])
          simp only at hg
          try simp only [hg]
          split at hs
          · rename_i s1 rows1 hget0
            split at hs
            · rename_i hb1
              try simp only [hb1]
              split at hs
              · cases hs
              · rename_i hne
                simp only [Option.some.injEq, Prod.mk.injEq] at hs; obtain ⟨rfl, rfl⟩ := hs
                try simp only [hne]
                have hne' : ¬ (g = g' ∧ i = i') := by
                  rintro ⟨rfl, rfl⟩
                  simp at hne
                have ok1 : hok H g' i' := .inl (by rw [hget0]; rfl)
                have ok2 : hok H2 g' i' := .inl (by rw [hg, hget0]; rfl)
                have k1 : hok (hset H g' i' .dead) g i := .inl (by rw [get_hset _ _ _ _ _ _ ok1, if_neg hne']; exact h1 (by simp [dwr]))
                have k2 : hok (hset H2 g' i' .dead) g i := .inl (by rw [get_hset _ _ _ _ _ _ ok2, if_neg hne']; exact h2 (by simp [dwr]))
                refine ⟨_, rfl, fun c d hc => ?_, fun c d hc => ?_, fun c d hc => ?_, fun c d hc => ?_⟩
                · simp only [dwr, e, refs, List.mem_cons, Prod.mk.injEq, List.not_mem_nil, or_false] at hc
                  rw [get_hset _ _ _ _ _ _ k1, get_hset _ _ _ _ _ _ k2]
                  rcases hc with hc | hc
                  · rw [if_pos hc, if_pos hc]
                  · split
                    · rfl
                    · rw [get_hset _ _ _ _ _ _ ok1, get_hset _ _ _ _ _ _ ok2, if_pos hc, if_pos hc]
                · simp only [dwr, e, refs, List.mem_cons, Prod.mk.injEq, List.not_mem_nil, or_false, not_or] at hc
                  rw [get_hset _ _ _ _ _ _ k2, if_neg hc.1, get_hset _ _ _ _ _ _ ok2, if_neg hc.2]
                · simp only [dwr, e, refs, List.mem_cons, Prod.mk.injEq, List.not_mem_nil, or_false, not_or] at hc
                  rw [get_hset _ _ _ _ _ _ k1, if_neg hc.1, get_hset _ _ _ _ _ _ ok1, if_neg hc.2]
                · simp only [dwr, e, refs, List.mem_cons, Prod.mk.injEq, List.not_mem_nil, or_false] at hc
                  rw [get_hset _ _ _ _ _ _ k1]
                  rcases hc with hc | hc
                  · rw [if_pos hc]; rfl
                  · split
                    · rfl
                    · rw [get_hset _ _ _ _ _ _ ok1, if_pos hc]; rfl
            · cases hs
          · cases hs
        · rename_i e
          split at hs
          · rename_i hb1
            simp only [Option.some.injEq, Prod.mk.injEq] at hs; obtain ⟨rfl, rfl⟩ := hs
            try simp only [hb1]
            exact .set (.inl (h1 (by simp [dwr]))) (.inl (h2 (by simp [dwr]))) (by simp [dwr, e, refs])
          · cases hs
        · cases hs
      · cases hs
    · cases hs
  | lookup z k x ix ok =>
    simp only [dstep] at hs ⊢
    split at hs
    · split at hs
      · rename_i hk
        try simp only [hk]
        rw [mlook_local (H := H) fun p hp => hh p hp]
        generalize mlook H _ _ _ = r at hs
        cases r with
        | none => cases hs
        | some r =>
          cases r <;> cases ok <;> simp only [lres, Option.some.injEq, Prod.mk.injEq] at hs <;> obtain ⟨rfl, rfl⟩ := hs <;> exact .quiet rfl
      · cases hs
    · cases hs
  | load sz agg a =>
    simp only [dstep] at hs ⊢
    split at hs
    · split at hs
      · rename_i hl
        simp only [Option.some.injEq, Prod.mk.injEq] at hs; obtain ⟨rfl, rfl⟩ := hs
        try simp only [hl]
        exact .quiet rfl
      · cases hs
    · rename_i g' i' row off e
      have hg := hh (g', i') (by simp [drd, e, refs])
      simp only at hg
      try simp only [hg]
      split at hs
      · split at hs
        · split at hs
          · rename_i h3 _ h4 _ h5
            simp only [Option.some.injEq, Prod.mk.injEq] at hs; obtain ⟨rfl, rfl⟩ := hs
            try simp only [*]
            exact .quiet rfl
          · cases hs
        · cases hs
      · cases hs
    · cases hs
  | idxSl sz x ix =>
    simp only [dstep] at hs ⊢
    split at hs
    · split at hs
      · split at hs
        · rename_i h3 h4
          simp only [Option.some.injEq, Prod.mk.injEq] at hs; obtain ⟨rfl, rfl⟩ := hs
          try simp only [h3, h4]
          exact .quiet rfl
        · cases hs
      · rename_i g' i' start len e
        have hg := hh (g', i') (by simp [drd, e, refs])
        simp only at hg
        try simp only [hg]
        split at hs
        · split at hs
          · split at hs
            · rename_i hb
              simp only [Option.some.injEq, Prod.mk.injEq] at hs; obtain ⟨rfl, rfl⟩ := hs
              try simp only [hb]
              exact .quiet rfl
            · cases hs
          · cases hs
        · cases hs
      · cases hs
    · cases hs
  | eqNilS neg x =>
    simp only [dstep] at hs ⊢
    split at hs
    · simp only [Option.some.injEq, Prod.mk.injEq] at hs; obtain ⟨rfl, rfl⟩ := hs
      exact .quiet rfl
    · rename_i g' i' st len e
      have hg := hh (g', i') (by simp [drd, e, refs])
      simp only at hg
      cases len with
      | succ n =>
        simp only [Option.some.injEq, Prod.mk.injEq] at hs; obtain ⟨rfl, rfl⟩ := hs
        exact .quiet rfl
      | zero =>
        simp only at hs ⊢
        rw [hg]
        split at hs
        · simp only [Option.some.injEq, Prod.mk.injEq] at hs; obtain ⟨rfl, rfl⟩ := hs
          exact .quiet rfl
        · cases hs
    · simp only [Option.some.injEq, Prod.mk.injEq] at hs; obtain ⟨rfl, rfl⟩ := hs
      exact .quiet rfl
    · cases hs
  | lenM x =>
    simp only [dstep] at hs ⊢
    split at hs
    · simp only [Option.some.injEq, Prod.mk.injEq] at hs; obtain ⟨rfl, rfl⟩ := hs
      exact .quiet rfl
    · rename_i g' i' e
      have hg := hh (g', i') (by simp [drd, e, refs])
      simp only at hg
      try simp only [hg]
      split at hs
      · simp only [Option.some.injEq, Prod.mk.injEq] at hs; obtain ⟨rfl, rfl⟩ := hs
        exact .quiet rfl
      · cases hs
    · simp only [Option.some.injEq, Prod.mk.injEq] at hs; obtain ⟨rfl, rfl⟩ := hs
      exact .quiet rfl
    · cases hs
  | slice sz x lo hi mx =>
    simp only [dstep] at hs ⊢
    split at hs
    · split at hs
      · rename_i h3
        split at hs
        · rename_i h4
          simp only [Option.some.injEq, Prod.mk.injEq] at hs; obtain ⟨rfl, rfl⟩ := hs
          try simp only [h3, h4]
          exact .quiet rfl
        · cases hs
      · cases hs
    · rename_i g' i' start len e
      have hg := hh (g', i') (by simp [drd, e, refs])
      simp only at hg
      try simp only [hg]
      split at hs
      · split at hs
        · rename_i h3
          split at hs
          · rename_i h4
            try simp only [h3, h4]
            split at hs
            · rename_i h5
              simp only [Option.some.injEq, Prod.mk.injEq] at hs; obtain ⟨rfl, rfl⟩ := hs
              try simp only [h5]
              exact .quiet rfl
            · rename_i h5
              split at hs
              · rename_i h6
                simp only [Option.some.injEq, Prod.mk.injEq] at hs; obtain ⟨rfl, rfl⟩ := hs
                try simp only [h5, h6]
                exact .quiet rfl
              · rename_i h6
                simp only [Option.some.injEq, Prod.mk.injEq] at hs; obtain ⟨rfl, rfl⟩ := hs
                try simp only [h5, h6]
                exact .quiet rfl
          · cases hs
        · cases hs
      · cases hs
    · split at hs
      · rename_i h4
        simp only [Option.some.injEq, Prod.mk.injEq] at hs; obtain ⟨rfl, rfl⟩ := hs
        try simp only [h4]
        exact .quiet rfl
      · cases hs
    · cases hs
  | move x => simp only [dstep, fz_eq, Option.some.injEq, Prod.mk.injEq] at hs; obtain ⟨rfl, rfl⟩ := hs; simp only [dstep, fz_eq]; exact .quiet rfl
  | makeFunc fn a b => simp only [dstep, fzl_eq, Option.some.injEq, Prod.mk.injEq] at hs; obtain ⟨rfl, rfl⟩ := hs; simp only [dstep, fzl_eq]; exact .quiet rfl
  | _ =>
    simp only [dstep] at hs ⊢
    try simp only [fz_eq] at hs ⊢
    (repeat' split at hs) <;> (try (cases hs; done)) <;> (simp only [Option.some.injEq, Prod.mk.injEq] at hs; obtain ⟨rfl, rfl⟩ := hs; (try simp only [*]); exact .quiet rfl)

end Go.Av
