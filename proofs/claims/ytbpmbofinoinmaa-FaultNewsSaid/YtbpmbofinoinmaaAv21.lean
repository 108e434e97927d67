import Derived.Test.YtbpmbofinoinmaaAv20
namespace Go.Av

/-! The state told anew: nil slices become blocks without memory, blocks are frozen. -/

/-- What a telling says of single values, carried through what is built of them. -/
inductive Cong (T : AV → AV → Prop) : AV → AV → Prop
  | base {a b : AV} (h : T a b) : Cong T a b
  | undef (a : AV) : Cong T a .undef
  | refl (a : AV) : Cong T a a
  | agg (xs ys : List AV) (hl : xs.length = ys.length) (h : ∀ (j : Nat) x y, xs[j]? = some x → ys[j]? = some y → Cong T x y) : Cong T (.agg xs) (.agg ys)
  | tup (xs ys : List AV) (hl : xs.length = ys.length) (h : ∀ (j : Nat) x y, xs[j]? = some x → ys[j]? = some y → Cong T x y) : Cong T (.tup xs) (.tup ys)
  | cptr (xs ys : List AV) (hl : xs.length = ys.length) (h : ∀ (j : Nat) x y, xs[j]? = some x → ys[j]? = some y → Cong T x y) : Cong T (.cptr xs) (.cptr ys)
  | list (sz : Nat) (rows rows' : List (List AV)) (hl : rows.length = rows'.length) (hr : ∀ (i : Nat) (r r' : List AV), rows[i]? = some r → rows'[i]? = some r' → r.length = r'.length)
      (h : ∀ (i : Nat) (r r' : List AV) (j : Nat) x y, rows[i]? = some r → rows'[i]? = some r' → r[j]? = some x → r'[j]? = some y → Cong T x y) : Cong T (.list sz rows) (.list sz rows')
  | clo (fn : Fn) (fs cs fs' cs' : List AV) (h1 : fs.length = fs'.length) (h2 : cs.length = cs'.length)
      (h3 : ∀ (j : Nat) x y, fs[j]? = some x → fs'[j]? = some y → Cong T x y) (h4 : ∀ (j : Nat) x y, cs[j]? = some x → cs'[j]? = some y → Cong T x y) :
      Cong T (.clo fn fs cs) (.clo fn fs' cs')

theorem get_of_len {α : Type} {xs ys : List α} (hl : xs.length = ys.length) {j : Nat} {y : α} (h : ys[j]? = some y) : ∃ x, xs[j]? = some x := by
  have := (List.getElem?_eq_some_iff.1 h).1
  exact ⟨xs[j], List.getElem?_eq_getElem (by omega)⟩

theorem Cong.rep {T : AV → AV → Prop} {M J M' J'} (hx : Ext M J M' J') (hT : ∀ a b v, T a b → Rep M J a v → Rep M' J' b v) {a b : AV} (h : Cong T a b) : ∀ {v : Value}, Rep M J a v → Rep M' J' b v := by
  induction h with
  | base h => exact fun hv => hT _ _ _ h hv
  | undef a => exact fun _ => .undef _
  | refl a => exact fun hv => hv.ext hx
  | agg xs ys hl _ ih =>
    intro v hv
    cases hv with
    | agg _ cvs hl' hr =>
      exact .agg ys cvs (by omega) fun j c v a b => by
        obtain ⟨x, hx⟩ := get_of_len hl a
        exact ih j x c hx a (hr j x v hx b)
  | tup xs ys hl _ ih =>
    intro v hv
    cases hv with
    | tup _ cvs hl' hr =>
      exact .tup ys cvs (by omega) fun j c v a b => by
        obtain ⟨x, hx⟩ := get_of_len hl a
        exact ih j x c hx a (hr j x v hx b)
  | cptr xs ys hl _ ih =>
    intro v hv
    cases hv with
    | cptr _ β off cs e fr hM hle hr =>
      refine .cptr ys β off cs e fr (hx.m _ _ hM) ?_ fun j c v a b => ?_
      · rcases hle with rfl | hle
        · left
          cases ys with | nil => rfl | cons _ _ => simp at hl
        · right; omega
      · obtain ⟨x, hx⟩ := get_of_len hl a
        exact ih j x c hx a (hr j x v hx b)
  | list sz rows rows' hl hlr _ ih =>
    intro v hv
    cases hv with
    | nilList _ a cap =>
      have : rows' = [] := by cases rows' with | nil => rfl | cons _ _ => simp at hl
      subst this
      exact .nilList sz a cap
    | list _ _ β off cap n cs e fr hn hM hsz hle ho hr =>
      refine .list sz rows' β off cap n cs e fr (by omega) (hx.m _ _ hM) (fun i r' h => ?_) (by rw [← hl]; exact hle) (by rw [← hl]; exact ho) fun i r' j c v a b d => ?_
      · obtain ⟨r, h'⟩ := get_of_len hl h
        rw [← hlr i r r' h' h]
        exact hsz i r h'
      · obtain ⟨r, h'⟩ := get_of_len hl a
        obtain ⟨x, hx⟩ := get_of_len (hlr i r r' h' a) b
        exact ih i r r' j x c h' a hx b (hr i r j x v h' hx d)
  | clo fn fs cs fs' cs' h1 h2 _ _ ih1 ih2 =>
    intro v hv
    cases hv with
    | clo _ _ _ cfs ccs hf hc g1 g2 =>
      refine .clo fn fs' cs' cfs ccs (by omega) (by omega) (fun j c v a b => ?_) (fun j c v a b => ?_)
      · obtain ⟨x, hx⟩ := get_of_len h1 a
        exact ih1 j x c hx a (g1 j x v hx b)
      · obtain ⟨x, hx⟩ := get_of_len h2 a
        exact ih2 j x c hx a (g2 j x v hx b)

inductive CongB (T : AV → AV → Prop) : Blk → Blk → Prop
  | refl (x : Blk) : CongB T x x
  | cells (sz : Nat) (rows rows' : List (List AV)) (hl : rows.length = rows'.length) (hr : ∀ (i : Nat) (r r' : List AV), rows[i]? = some r → rows'[i]? = some r' → r.length = r'.length)
      (h : ∀ (i : Nat) (r r' : List AV) (j : Nat) x y, rows[i]? = some r → rows'[i]? = some r' → r[j]? = some x → r'[j]? = some y → Cong T x y) : CongB T (.cells sz rows) (.cells sz rows')

theorem CongB.live {T x y} (h : CongB T x y) (hl : y.live = true) : x.live = true := by
  cases h with
  | refl => exact hl
  | cells => rfl

theorem CongB.rep {T : AV → AV → Prop} {M J M' J'} (hx : Ext M J M' J') (hT : ∀ a b v, T a b → Rep M J a v → Rep M' J' b v) {x y : Blk} (h : CongB T x y) {l : Loc} {hp : Array Obj} (hb : BRep M J l hp x) : BRep M' J' l hp y := by
  cases h with
  | refl => exact hb.ext hx fun _ _ => rfl
  | cells sz rows rows' hl hlr hr =>
    obtain ⟨h1, h2, h3⟩ := hb
    refine ⟨h1, fun i r' hr' => ?_, ?_⟩
    · obtain ⟨r, h'⟩ := get_of_len hl hr'
      rw [← hlr i r r' h' hr']
      exact h2 i r h'
    · cases e : l.blk with
      | none =>
        rw [e] at h3
        subst h3
        cases rows' with | nil => rfl | cons _ _ => simp at hl
      | some β =>
        rw [e] at h3
        obtain ⟨cs, t, a, b, c, o, d⟩ := h3
        refine ⟨cs, t, a, b, by rw [← hl]; exact c, by rw [← hl]; exact o, fun i r' j y v p q s => ?_⟩
        obtain ⟨r, h'⟩ := get_of_len hl p
        obtain ⟨x, hx'⟩ := get_of_len (hlr i r r' h' p) q
        exact Cong.rep hx hT (hr i r r' j x y h' p hx' q) (d i r j x v h' hx' s)

theorem FRep.cong {T : AV → AV → Prop} {N M J M' J' fr fr' tmps} (hx : Ext M J M' J') (hT : ∀ a b v, T a b → Rep M J a v → Rep M' J' b v) (h : FRep N M J fr tmps) (hr : ∀ x ∈ fr', Cong T (fr.get x.1) x.2) : FRep N M' J' fr' tmps := by
  refine ⟨h.1, fun t => ?_⟩
  have key : Cong T (fr.get t) (Fr.get fr' t) := by
    clear h
    induction fr' with
    | nil => exact .undef _
    | cons p fr' ih =>
      obtain ⟨d, v⟩ := p
      show Cong T (fr.get t) (match Nat.beq d t with | true => v | false => Fr.get fr' t)
      split
      · rename_i e
        have : d = t := Nat.eq_of_beq_eq_true e
        subst this
        exact hr (d, v) (List.mem_cons_self ..)
      · exact ih fun x hx => hr x (List.mem_cons_of_mem _ hx)
  exact key.rep hx hT (h.2 t)

/-! Nil slices. -/

inductive GhT (H H' : Heap) : AV → AV → Prop
  | mk (g i sz : Nat) (h : hget H g i = none) (h' : hget H' g i = some (.cells sz [])) : GhT H H' (.sc (.slice none 0 0)) (.hsl g i 0 0)

/-- A heap with more blocks, that have no memory, and cells that speak of them. -/
structure Ghost (H H' : Heap) : Prop where
  blk : ∀ g i x', hget H' g i = some x' → x'.live = true → (∃ x, hget H g i = some x ∧ CongB (GhT H H') x x') ∨ (hget H g i = none ∧ ∃ sz, x' = .cells sz [])
  dom : ∀ g i, (hget H g i).isSome → (hget H' g i).isSome

def Inj.ghost (J : Inj) (H H' : Heap) : Inj := fun g i =>
  match hget H g i, hget H' g i with
  | none, some (.cells sz []) => some ⟨none, sz, 0⟩
  | _, _ => J g i

theorem Step.ghost {k M J H H'} {w : World} (hH : HRep M J H w.heap) (hM : MRep M w.heap) (hg : Ghost H H') : Step k M J H w M (J.ghost H H') H' w ∧ Ext M J M (J.ghost H H') ∧
    ∀ a b v, GhT H H' a b → Rep M J a v → Rep M (J.ghost H H') b v := by
  have hold : ∀ g i, (hget H g i).isSome → J.ghost H H' g i = J g i := by
    intro g i h
    obtain ⟨x, hx⟩ := Option.isSome_iff_exists.1 h
    unfold Inj.ghost
    rw [hx]
  have hnew : ∀ g i sz, hget H g i = none → hget H' g i = some (.cells sz []) → J.ghost H H' g i = some ⟨none, sz, 0⟩ := by
    intro g i sz h h'
    unfold Inj.ghost
    rw [h, h']
  have hx : Ext M J M (J.ghost H H') := ⟨fun _ _ h => h, fun g i l h => by rw [hold g i (hH.dom g i l h).1]; exact h⟩
  have hT : ∀ a b v, GhT H H' a b → Rep M J a v → Rep M (J.ghost H H') b v := by
    intro a b v h hv
    cases h with
    | mk g i sz h h' =>
      cases hv
      exact .hslNil g i _ (hnew g i sz h h') rfl
  have key : ∀ g i l, J.ghost H H' g i = some l → (J g i = some l ∧ (hget H g i).isSome) ∨ (l.blk = none ∧ ∃ sz, hget H' g i = some (.cells sz [])) := by
    intro g i l h
    unfold Inj.ghost at h
    split at h
    · rename_i sz e1 e2
      injection h with h
      subst h
      exact .inr ⟨rfl, sz, e2⟩
    · exact .inl ⟨h, (hH.dom g i l h).1⟩
  have klive : ∀ g i l β, liveAt H' g i → J.ghost H H' g i = some l → l.blk = some β → liveAt H g i ∧ J g i = some l := by
    rintro g i l β ⟨x', h1, h2⟩ h3 h4
    rcases key g i l h3 with ⟨h5, h6⟩ | ⟨h5, _⟩
    · rcases hg.blk g i x' h1 h2 with ⟨x, h7, h8⟩ | ⟨h7, _⟩
      · exact ⟨⟨x, h7, h8.live h2⟩, h5⟩
      · rw [h7] at h6; cases h6
    · rw [h5] at h4; cases h4
  refine ⟨⟨fun _ _ h => h, fun g i l _ h => hx.j g i l h, ⟨?_, ?_, ?_, ?_⟩, hM, rfl, rfl, rfl, Nat.le_refl _, fun _ _ h _ => h, fun _ _ h => .inl h, ?_⟩, hx, hT⟩
  · intro g i x' h1 h2
    rcases hg.blk g i x' h1 h2 with ⟨x, h3, h4⟩ | ⟨h3, sz, rfl⟩
    · obtain ⟨l, h5, h6⟩ := hH.blk g i x h3 (h4.live h2)
      exact ⟨l, hx.j g i l h5, h4.rep hx hT h6⟩
    · exact ⟨_, hnew g i sz h3 h1, rfl, fun i r h => by simp at h, rfl⟩
  · intro g i g' i' l l' β a b c d e f
    obtain ⟨a1, a2⟩ := klive g i l β a c e
    obtain ⟨b1, b2⟩ := klive g' i' l' β b d f
    exact hH.inj g i g' i' l l' β a1 b1 a2 b2 e f
  · intro g i l β a b c
    obtain ⟨a1, a2⟩ := klive g i l β a b c
    exact hH.out g i l β a1 a2 c
  · intro g i l h
    rcases key g i l h with ⟨h1, h2⟩ | ⟨h1, sz, h2⟩
    · exact ⟨hg.dom g i h2, (hH.dom g i l h1).2⟩
    · exact ⟨by rw [h2]; rfl, fun β hβ => by rw [h1] at hβ; cases hβ⟩
  · intro g i l β a b c
    obtain ⟨a1, a2⟩ := klive g i l β a b c
    exact .inl ⟨g, i, l, a1, a2, c⟩

theorem Sub.ghost {k N : Nat} {fr fr' : Fr} {H H' : Heap} (hg : Ghost H H') (h : ∀ x ∈ fr', Cong (GhT H H') (fr.get x.1) x.2) : Sub k N fr H fr' H' := by
  intro M J tmps w hF hH hM
  obtain ⟨h1, h2, h3⟩ := Step.ghost (k := k) hH hM hg
  exact ⟨M, _, h1, hF.cong h2 h3 h⟩

/-! Freezing. -/

inductive FzT (H : Heap) (S : Nat → Nat → Bool) : AV → AV → Prop
  | hsl (g i start len sz : Nat) (rows : List (List AV)) (hS : S g i = true) (h : hget H g i = some (.cells sz rows)) (hl : start + len ≤ rows.length) : FzT H S (.hsl g i start len) (.list sz ((rows.drop start).take len))
  | ptr (g i row off sz : Nat) (rows : List (List AV)) (r : List AV) (hS : S g i = true) (h : hget H g i = some (.cells sz rows)) (hr : rows[row]? = some r) : FzT H S (.ptr g i row off) (.cptr (r.drop off))
  | mref (g i : Nat) (es : List (Value × AV)) (hS : S g i = true) (h : hget H g i = some (.map es)) : FzT H S (.mref g i) (.tmap es)

structure Frozen (H : Heap) (S : Nat → Nat → Bool) (H' : Heap) : Prop where
  blk : ∀ g i x', hget H' g i = some x' → x'.live = true → S g i = false ∧ ∃ x, hget H g i = some x ∧ CongB (FzT H S) x x'
  dom : ∀ g i, (hget H g i).isSome → (hget H' g i).isSome

open Classical in
noncomputable def Mem.freeze (M : Mem) (J : Inj) (H : Heap) (S : Nat → Nat → Bool) (h : Array Obj) : Mem := fun β =>
  if ∃ g i l, S g i = true ∧ liveAt H g i ∧ J g i = some l ∧ l.blk = some β then h[β]? else M β

theorem Step.frz {k M J H S H'} {w : World} (hH : HRep M J H w.heap) (hM : MRep M w.heap) (hf : Frozen H S H') : Step k M J H w (M.freeze J H S w.heap) J H' w ∧ Ext M J (M.freeze J H S w.heap) J ∧
    ∀ a b v, FzT H S a b → Rep M J a v → Rep (M.freeze J H S w.heap) J b v := by
  have hin : ∀ g i l β, S g i = true → liveAt H g i → J g i = some l → l.blk = some β → M.freeze J H S w.heap β = w.heap[β]? := by
    intro g i l β a b c d
    unfold Mem.freeze
    rw [if_pos ⟨g, i, l, a, b, c, d⟩]
  have hx : Ext M J (M.freeze J H S w.heap) J := by
    refine ⟨fun β o h => ?_, fun _ _ _ h => h⟩
    unfold Mem.freeze
    split
    · rename_i e
      obtain ⟨g, i, l, a, b, c, d⟩ := e
      rw [hH.out g i l β b c d] at h
      cases h
    · exact h
  have hT : ∀ a b v, FzT H S a b → Rep M J a v → Rep (M.freeze J H S w.heap) J b v := by
    intro a b v h hv
    cases h with
    | hsl g i start len sz rows hS h hl =>
      have hlive : liveAt H g i := ⟨_, h, rfl⟩
      obtain ⟨l', h1, h2, h3, h4⟩ := hH.blk g i _ h rfl
      cases hv with
      | hsl _ _ _ _ cap β l hJ hb hc hlc =>
        rw [hJ] at h1
        injection h1 with h1
        subst h1
        rw [hb] at h4
        obtain ⟨cs, e, k1, k2, k3, k4, k5⟩ := h4
        have hm : M.freeze J H S w.heap β = some (.cells cs e (0, 0)) := by rw [hin g i l β hS hlive hJ hb]; exact k1
        have hlen : ((rows.drop start).take len).length = len := by simp; omega
        have hrow : ∀ (q : Nat) r, ((rows.drop start).take len)[q]? = some r → q < len ∧ rows[start + q]? = some r := by
          intro q r hq
          have hql := (List.getElem?_eq_some_iff.1 hq).1
          rw [List.getElem?_take, List.getElem?_drop] at hq
          rw [hlen] at hql
          rw [if_pos hql] at hq
          exact ⟨hql, hq⟩
        have hmul : ∀ q, q ≤ len → start * sz + q * sz ≤ rows.length * sz := by
          intro q hq
          rw [← Nat.add_mul]
          exact Nat.mul_le_mul_right _ (by omega)
        rw [h2]
        refine .list sz _ β (start * sz) cap len cs e (0, 0) ⟨hlen.symm, hlc⟩ hm (fun q r hq => h3 _ r (hrow q r hq).2) ?_ (fun j v hj hv => ?_) (fun q r j c v hq hc hv => ?_)
        · rw [hlen]
          have := hmul len (Nat.le_refl _)
          omega
        · refine k4 _ v ?_ hv
          rw [hlen] at hj
          have := hmul len (Nat.le_refl _)
          omega
        · obtain ⟨q1, q2⟩ := hrow q r hq
          refine (k5 _ r j c v q2 hc ?_).ext hx
          rw [Nat.add_mul]
          exact hv
      | hslNil _ _ l hJ hb =>
        have hnil : rows = [] := by
          rw [hJ] at h1
          injection h1 with h1
          subst h1
          rw [hb] at h4
          exact h4
        subst hnil
        simp only [List.drop_nil, List.take_nil]
        exact .nilList sz none 0
    | ptr g i row off sz rows r hS h hr =>
      have hlive : liveAt H g i := ⟨_, h, rfl⟩
      obtain ⟨l', h1, h2, h3, h4⟩ := hH.blk g i _ h rfl
      cases hv with
      | ptr _ _ _ _ β l hJ hb =>
        rw [hJ] at h1
        injection h1 with h1
        subst h1
        rw [hb] at h4
        obtain ⟨cs, e, k1, k2, k3, k4, k5⟩ := h4
        have hm : M.freeze J H S w.heap β = some (.cells cs e (0, 0)) := by rw [hin g i l β hS hlive hJ hb]; exact k1
        have hrl := (List.getElem?_eq_some_iff.1 hr).1
        have hlen := h3 row r hr
        have hmul : row * sz + sz ≤ rows.length * sz := by
          rw [show row * sz + sz = (row + 1) * sz by rw [Nat.add_mul, Nat.one_mul]]
          exact Nat.mul_le_mul_right _ (by omega)
        rw [h2]
        refine .cptr _ β (row * sz + off) cs e (0, 0) hm ?_ (fun j c v hc hv => ?_)
        · rcases Nat.lt_or_ge off r.length with hlt | hge
          · right
            rw [List.length_drop]
            omega
          · left; exact List.drop_eq_nil_of_le hge
        · rw [List.getElem?_drop] at hc
          refine (k5 row r (off + j) c v hr hc ?_).ext hx
          rw [← Nat.add_assoc]
          exact hv
    | mref g i es hS h =>
      have hlive : liveAt H g i := ⟨_, h, rfl⟩
      obtain ⟨l', h1, β', ces, clock, h2, h3, h4, h5, h6⟩ := hH.blk g i _ h rfl
      cases hv with
      | mref _ _ β l hJ hb =>
        rw [hJ] at h1
        injection h1 with h1
        subst h1
        rw [hb] at h2
        injection h2 with h2
        subst h2
        exact .tmap es β clock ces (by rw [hin g i l β hS hlive hJ hb]; exact h3) h4 h5 fun j x y a b => (h6 j x y a b).ext hx
  have klive : ∀ g i, liveAt H' g i → S g i = false ∧ liveAt H g i := by
    rintro g i ⟨x', h1, h2⟩
    obtain ⟨h3, x, h4, h5⟩ := hf.blk g i x' h1 h2
    exact ⟨h3, x, h4, h5.live h2⟩
  refine ⟨⟨hx.m, fun _ _ _ _ h => h, ⟨?_, ?_, ?_, ?_⟩, ?_, rfl, rfl, rfl, Nat.le_refl _, fun _ _ h _ => h, ?_, ?_⟩, hx, hT⟩
  · intro g i x' h1 h2
    obtain ⟨_, x, h4, h5⟩ := hf.blk g i x' h1 h2
    obtain ⟨l, h6, h7⟩ := hH.blk g i x h4 (h5.live h2)
    exact ⟨l, h6, h5.rep hx hT h7⟩
  · intro g i g' i' l l' β a b c d e f
    exact hH.inj g i g' i' l l' β (klive g i a).2 (klive g' i' b).2 c d e f
  · intro g i l β a b c
    obtain ⟨a1, a2⟩ := klive g i a
    unfold Mem.freeze
    rw [if_neg]
    · exact hH.out g i l β a2 b c
    · rintro ⟨g', i', l', p, q, r, s⟩
      obtain ⟨rfl, rfl⟩ := hH.inj g i g' i' l l' β a2 q b r c s
      rw [a1] at p
      cases p
  · intro g i l h
    have := hH.dom g i l h
    exact ⟨hf.dom g i this.1, this.2⟩
  · intro β o h
    unfold Mem.freeze at h
    split at h
    · exact h
    · exact hM β o h
  · intro β o h
    unfold Mem.freeze at h
    split at h
    · rename_i e
      obtain ⟨g, i, l, a, b, c, d⟩ := e
      exact .inr (.inr ⟨g, i, l, b, c, d⟩)
    · exact .inl h
  · intro g i l β a b c
    exact .inl ⟨g, i, l, (klive g i a).2, b, c⟩

theorem Sub.frz {k N : Nat} {fr fr' : Fr} {H H' : Heap} (S : Nat → Nat → Bool) (hf : Frozen H S H') (h : ∀ x ∈ fr', Cong (FzT H S) (fr.get x.1) x.2) : Sub k N fr H fr' H' := by
  intro M J tmps w hF hH hM
  obtain ⟨h1, h2, h3⟩ := Step.frz (k := k) hH hM hf
  exact ⟨_, J, h1, hF.cong h2 h3 h⟩

theorem SubV.frz {k : Nat} {H H' : Heap} {a b : AV} (S : Nat → Nat → Bool) (hf : Frozen H S H') (h : Cong (FzT H S) a b) : SubV k H a H' b := by
  intro M J v w hv hH hM
  obtain ⟨h1, h2, h3⟩ := Step.frz (k := k) hH hM hf
  exact ⟨_, J, h1, h.rep h2 h3 hv⟩

end Go.Av
