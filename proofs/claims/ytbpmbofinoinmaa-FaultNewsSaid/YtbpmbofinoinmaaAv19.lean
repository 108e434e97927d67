import Derived.Test.YtbpmbofinoinmaaAv18
namespace Go.Av

/-! What a walk uses. -/

theorem wrap_small {n : Int} (h1 : -9223372036854775808 ≤ n) (h2 : n ≤ 9223372036854775807) : IntKind.i64.wrap n = n := by
  rw [IntKind.wrap_i64]; omega

theorem Ren.int {ρ : Nat → Nat → Option (Nat × Nat)} {k : IntKind} {a b : Int} (h : a = b) : Ren ρ (.sc (.int k a)) (.sc (.int k b)) := by subst h; exact .sc _
theorem Ren.bool {ρ : Nat → Nat → Option (Nat × Nat)} {a b : Bool} (h : a = b) : Ren ρ (.sc (.bool a)) (.sc (.bool b)) := by subst h; exact .sc _
theorem Ren.of_eq {ρ : Nat → Nat → Option (Nat × Nat)} {a b : AV} (h : a = b) (hp : Pure b) : Ren ρ a b := by subst h; exact .pure hp

def rho (ids : List (List (Nat × Nat))) (g i : Nat) : Option (Nat × Nat) :=
  match ids[g]? with
  | some f => f[i]?
  | none => none

def famOK (ρ : Nat → Nat → Option (Nat × Nat)) (H : Heap) : List (Nat × Nat) → List Blk → Prop
  | [], [] => True
  | p :: ps, x :: xs => (∃ y, hget H p.1 p.2 = some y ∧ RenB ρ y x) ∧ famOK ρ H ps xs
  | _, _ => False

def famsOK (ρ : Nat → Nat → Option (Nat × Nat)) (H : Heap) : List (List (Nat × Nat)) → Heap → Prop
  | [], [] => True
  | p :: ps, x :: xs => famOK ρ H p x ∧ famsOK ρ H ps xs
  | _, _ => False

theorem famOK_get {ρ H} : ∀ {ps : List (Nat × Nat)} {xs : List Blk}, famOK ρ H ps xs → ps.length = xs.length ∧ ∀ (i : Nat) p x, ps[i]? = some p → xs[i]? = some x → ∃ y, hget H p.1 p.2 = some y ∧ RenB ρ y x
  | [], [], _ => ⟨rfl, fun i p x h => by simp at h⟩
  | [], _ :: _, h => h.elim
  | _ :: _, [], h => h.elim
  | p :: ps, x :: xs, ⟨h1, h2⟩ => by
    obtain ⟨h3, h4⟩ := famOK_get h2
    refine ⟨by simp [h3], fun i q y hq hy => ?_⟩
    cases i with
    | zero => simp at hq hy; subst hq; subst hy; exact h1
    | succ i => exact h4 i q y (by simpa using hq) (by simpa using hy)

theorem famsOK_get {ρ H} : ∀ {ps : List (List (Nat × Nat))} {xs : Heap}, famsOK ρ H ps xs → ps.length = xs.length ∧ ∀ (i : Nat) p x, ps[i]? = some p → xs[i]? = some x → famOK ρ H p x
  | [], [], _ => ⟨rfl, fun i p x h => by simp at h⟩
  | [], _ :: _, h => h.elim
  | _ :: _, [], h => h.elim
  | p :: ps, x :: xs, ⟨h1, h2⟩ => by
    obtain ⟨h3, h4⟩ := famsOK_get h2
    refine ⟨by simp [h3], fun i q y hq hy => ?_⟩
    cases i with
    | zero => simp at hq hy; subst hq; subst hy; exact h1
    | succ i => exact h4 i q y (by simpa using hq) (by simpa using hy)

def idIn (p : Nat × Nat) (l : List (Nat × Nat)) : Bool := l.any fun q => Nat.beq p.1 q.1 && Nat.beq p.2 q.2
def ndup : List (Nat × Nat) → Bool
  | [] => true
  | p :: l => !idIn p l && ndup l

theorem ndup_spec : ∀ {l : List (Nat × Nat)}, ndup l = true → l.Nodup
  | [], _ => List.nodup_nil
  | p :: l, h => by
    simp only [ndup, Bool.and_eq_true, Bool.not_eq_true'] at h
    refine List.nodup_cons.2 ⟨fun hm => ?_, ndup_spec h.2⟩
    have : idIn p l = true := List.any_eq_true.2 ⟨p, hm, by simp⟩
    rw [this] at h
    cases h.1

/-- The first families keep their numbers. -/
def lowOK : Nat → Nat → List (List (Nat × Nat)) → Bool
  | _, 0, _ => true
  | _, _ + 1, [] => false
  | g, k + 1, f :: r => (f.zipIdx.all fun x => Nat.beq x.1.1 g && Nat.beq x.1.2 x.2) && lowOK (g + 1) k r

/-- .. all of them. -/
def lens : Nat → List (List (Nat × Nat)) → Heap → Bool
  | 0, _, _ => true
  | k + 1, f :: r, h :: H => Nat.ble h.length f.length && lens k r H
  | _ + 1, _, _ => false

theorem lowOK_spec : ∀ (k g0 : Nat) (ids : List (List (Nat × Nat))), lowOK g0 k ids = true → ∀ g f, g < k → ids[g]? = some f → ∀ (i : Nat) p, f[i]? = some p → p = (g0 + g, i)
  | 0, _, _, _, g, _, hg, _ => by omega
  | k + 1, g0, [], h, g, f, hg, hf => by simp at hf
  | k + 1, g0, f0 :: r, h, g, f, hg, hf => by
    simp only [lowOK, Bool.and_eq_true] at h
    cases g with
    | zero =>
      simp at hf
      subst hf
      intro i p hp
      have := List.all_eq_true.1 h.1 (p, i) (by
        rw [List.mem_zipIdx_iff_getElem?]
        exact hp)
      simp only [Bool.and_eq_true] at this
      exact Prod.ext (by simpa using Nat.eq_of_beq_eq_true this.1) (Nat.eq_of_beq_eq_true this.2)
    | succ g =>
      intro i p hp
      have := lowOK_spec k (g0 + 1) r h.2 g f (by omega) (by simpa using hf) i p hp
      rw [this]
      exact Prod.ext (by simp; omega) rfl

theorem lens_spec : ∀ (k : Nat) (ids : List (List (Nat × Nat))) (H : Heap), lens k ids H = true → ∀ g, g < k → ∀ i, (hget H g i).isSome → ∃ f, ids[g]? = some f ∧ i < f.length
  | 0, _, _, _, g, hg => by omega
  | k + 1, [], H, h, g, hg => by simp [lens] at h
  | k + 1, f :: r, [], h, g, hg => by simp [lens] at h
  | k + 1, f :: r, h0 :: H, h, g, hg => by
    simp only [lens, Bool.and_eq_true] at h
    intro i hi
    cases g with
    | zero =>
      refine ⟨f, rfl, ?_⟩
      simp only [hget, List.getElem?_cons_zero] at hi
      have : i < h0.length := by
        rw [Option.isSome_iff_exists] at hi
        obtain ⟨y, hy⟩ := hi
        exact (List.getElem?_eq_some_iff.1 hy).1
      have := Nat.le_of_ble_eq_true h.1
      omega
    | succ g =>
      obtain ⟨f', h1, h2⟩ := lens_spec k r H h.2 g (by omega) i (by simpa [hget] using hi)
      exact ⟨f', by simpa using h1, h2⟩

theorem Numb.list {k : Nat} {H H' : Heap} {ids : List (List (Nat × Nat))} (h1 : lowOK 0 k ids = true) (h2 : lens k ids H = true) (h3 : ndup ids.flatten = true) (h4 : famsOK (rho ids) H ids H') : Numb (rho ids) k H H' := by
  obtain ⟨hl, hf⟩ := famsOK_get h4
  have hnd := ndup_spec h3
  refine ⟨fun g i hg hi => ?_, fun g i g' i' p hp hp' => ?_, fun g i x hx _ => ?_, fun g i p hp _ => ?_⟩
  · obtain ⟨f, e1, e2⟩ := lens_spec k ids H h2 g hg i hi
    have := lowOK_spec k 0 ids h1 g f hg e1 i f[i] (List.getElem?_eq_getElem e2)
    simp only [rho, e1, List.getElem?_eq_getElem e2, this, Nat.zero_add]
  · unfold rho at hp hp'
    split at hp
    · rename_i f e
      split at hp'
      · rename_i f' e'
        unfold List.Nodup at hnd
        rw [List.pairwise_flatten] at hnd
        by_cases hgg : g = g'
        · subst hgg
          rw [e] at e'
          injection e' with e'
          subst e'
          refine ⟨rfl, ?_⟩
          have hn := hnd.1 f (List.mem_of_getElem? e)
          have hi := (List.getElem?_eq_some_iff.1 hp).1
          exact (List.getElem?_inj hi hn).1 (hp.trans hp'.symm)
        · exfalso
          have hpw := hnd.2
          rw [List.pairwise_iff_getElem] at hpw
          have hg1 := (List.getElem?_eq_some_iff.1 e).1
          have hg2 := (List.getElem?_eq_some_iff.1 e').1
          have v1 := (List.getElem?_eq_some_iff.1 e).2
          have v2 := (List.getElem?_eq_some_iff.1 e').2
          rcases Nat.lt_or_gt_of_ne hgg with hlt | hgt
          · have := hpw g g' hg1 hg2 hlt
            rw [v1, v2] at this
            exact this p (List.mem_of_getElem? hp) p (List.mem_of_getElem? hp') rfl
          · have := hpw g' g hg2 hg1 hgt
            rw [v1, v2] at this
            exact this p (List.mem_of_getElem? hp') p (List.mem_of_getElem? hp) rfl
      · cases hp'
    · cases hp
  · unfold hget at hx
    split at hx
    · rename_i f e
      have hg := (List.getElem?_eq_some_iff.1 e).1
      have e' : ids[g]? = some ids[g] := List.getElem?_eq_getElem (by omega)
      obtain ⟨q1, q2⟩ := famOK_get (hf g _ _ e' e)
      have hi := (List.getElem?_eq_some_iff.1 hx).1
      have e2 : ids[g][i]? = some ids[g][i] := List.getElem?_eq_getElem (by omega)
      obtain ⟨y, r1, r2⟩ := q2 i _ x e2 hx
      exact ⟨_, _, y, by simp only [rho, e']; exact e2, r1, r2⟩
    · cases hx
  · unfold rho at hp
    split at hp
    · rename_i f e
      have hg := (List.getElem?_eq_some_iff.1 e).1
      have e' : H'[g]? = some H'[g] := List.getElem?_eq_getElem (by omega)
      obtain ⟨q1, _⟩ := famOK_get (hf g _ _ e e')
      have hi := (List.getElem?_eq_some_iff.1 hp).1
      simp only [hget, e', List.getElem?_eq_getElem (show i < H'[g].length by omega)]
      rfl
    · cases hp

def RenAll (ρ : Nat → Nat → Option (Nat × Nat)) (fr : Fr) : Fr → Prop
  | [] => True
  | x :: r => Ren ρ (fr.get x.1) x.2 ∧ RenAll ρ fr r

theorem RenAll.mem {ρ fr} : ∀ {fr' : Fr}, RenAll ρ fr fr' → ∀ x ∈ fr', Ren ρ (fr.get x.1) x.2
  | [], _, x, h => by cases h
  | _ :: _, ⟨h1, h2⟩, x, h => by
    cases h with
    | head => exact h1
    | tail _ h => exact RenAll.mem h2 x h

def LeAll (fr : Fr) : Fr → Prop
  | [] => True
  | x :: r => Le (fr.get x.1) x.2 ∧ LeAll fr r

theorem LeAll.mem {fr} : ∀ {fr' : Fr}, LeAll fr fr' → ∀ x ∈ fr', Le (fr.get x.1) x.2
  | [], _, x, h => by cases h
  | _ :: _, ⟨h1, h2⟩, x, h => by
    cases h with
    | head => exact h1
    | tail _ h => exact LeAll.mem h2 x h

/-- The state told anew: these slots, these blocks (ids: their old numbers). -/
theorem Sub.re {k N : Nat} {fr fr' : Fr} {H H' : Heap} (ids : List (List (Nat × Nat))) (h1 : lowOK 0 k ids = true) (h2 : lens k ids H = true) (h3 : ndup ids.flatten = true) (h4 : famsOK (rho ids) H ids H')
    (h5 : RenAll (rho ids) fr fr') : Sub k N fr H fr' H' := Sub.ren _ (Numb.list h1 h2 h3 h4) h5.mem

/-- .. where no block is kept. -/
theorem Sub.none {N : Nat} {fr fr' : Fr} {H : Heap} (h5 : RenAll (rho []) fr fr') : Sub 0 N fr H fr' [] := Sub.re [] rfl rfl rfl trivial h5

theorem Sub.keep {k N : Nat} {fr fr' : Fr} {H : Heap} (h : LeAll fr fr') : Sub k N fr H fr' H := Sub.le h.mem

theorem SubV.pure {H : Heap} {res : AV} (h : Pure res) : SubV 0 H res [] res := SubV.ren (rho []) (Numb.list rfl rfl rfl trivial) (.pure h)

/-- The end of a function whose result holds no mutable block. -/
theorem fin_pure {e : Exit} (he : e = .normal ∨ e = .ret) {rs : List IRes} {fr : Fr} {H : Heap} {res : AV} {R : AV → Heap → Prop} (hres : resOf fr H rs = some res) (hp : Pure res) (hR : R res []) :
    (e = .normal ∨ e = .ret) ∧ ∃ res res' H2, resOf fr H rs = some res ∧ SubV 0 H res H2 res' ∧ R res' H2 := ⟨he, res, res, [], hres, .pure hp, hR⟩

section
variable {P : Program} {N k : Nat} {fr : Fr} {H : Heap} {Q : Exit → Fr → Heap → Prop}
theorem AWP.condT {c : Operand} {x y : ICode} (hb : ev fr c = .sc (.bool true)) (h : AWP P N k x Q fr H) : AWP P N k (.cond c x y) Q fr H := AWP.cond hb (fun _ => h) (fun e => by cases e)
theorem AWP.condF {c : Operand} {x y : ICode} (hb : ev fr c = .sc (.bool false)) (h : AWP P N k y Q fr H) : AWP P N k (.cond c x y) Q fr H := AWP.cond hb (fun e => by cases e) (fun _ => h)

end

/-! Values that hold no mutable block. -/
theorem Pure.listOf {sz : Nat} {rows : List (List AV)} (h : ∀ r ∈ rows, ∀ c ∈ r, Pure c) : Pure (.list sz rows) := .list sz rows h
theorem Pure.cells {l : List AV} (h : ∀ c ∈ l, Pure c) : Pure (.agg l) := .agg l h
theorem allPure_nil : ∀ c ∈ ([] : List AV), Pure c := fun c h => by cases h
theorem allPure_cons {a : AV} {l : List AV} (h : Pure a) (h' : ∀ c ∈ l, Pure c) : ∀ c ∈ a :: l, Pure c := fun c hc => by
  cases hc with
  | head => exact h
  | tail _ hc => exact h' c hc
theorem allPure_map {α : Type} {f : α → List AV} (h : ∀ a, ∀ c ∈ f a, Pure c) (l : List α) : ∀ r ∈ l.map f, ∀ c ∈ r, Pure c := fun r hr => by
  obtain ⟨a, _, rfl⟩ := List.mem_map.1 hr
  exact h a
theorem allPure_append {l l' : List AV} (h : ∀ c ∈ l, Pure c) (h' : ∀ c ∈ l', Pure c) : ∀ c ∈ l ++ l', Pure c := fun c hc => (List.mem_append.1 hc).elim (h c) (h' c)
theorem allPure_sc {α : Type} {f : α → Value} (l : List α) : ∀ c ∈ l.map (fun a => AV.sc (f a)), Pure c := fun c hc => by
  obtain ⟨a, _, rfl⟩ := List.mem_map.1 hc
  exact .sc _

end Go.Av
