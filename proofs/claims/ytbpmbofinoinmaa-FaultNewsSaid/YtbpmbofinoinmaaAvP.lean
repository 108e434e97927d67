import Derived.Test.YtbpmbofinoinmaaAvO
namespace Go.Av

/-! Ends of functions that work on three blocks of others. -/

def s3 (g _ : Nat) : Bool := Nat.ble 3 g

theorem frozen3 {a b d : Blk} {X : Heap} : Frozen ([a] :: [b] :: [d] :: X) s3 ([a] :: [b] :: [d] :: deadH X) := by
  refine ⟨fun g i x' hx hl => ?_, fun g i h => ?_⟩
  · match g, hx with
    | 0, hx => exact ⟨rfl, x', hx, .refl _⟩
    | 1, hx => exact ⟨rfl, x', hx, .refl _⟩
    | 2, hx => exact ⟨rfl, x', hx, .refl _⟩
    | g + 3, hx =>
      have := hget_dead.2 x' (show hget (deadH X) g i = some x' from hx)
      subst this
      cases hl
  · match g, h with
    | 0, h => exact h
    | 1, h => exact h
    | 2, h => exact h
    | g + 3, h =>
      show (hget (deadH X) g i).isSome
      rw [hget_dead.1]
      exact h

theorem blk_w3 {x : Blk} {ρ : Nat → Nat → Option (Nat × Nat)} (h : LoB 3 x) (h0 : ρ 0 0 = some (0, 0)) (h1 : ρ 1 0 = some (1, 0)) (h2 : ρ 2 0 = some (2, 0)) : RenB ρ x x :=
  h.2.weaken fun g i p e => by
    obtain ⟨hg, rfl, rfl⟩ := lowS_spec e
    match g, hg with
    | 0, _ => exact h0
    | 1, _ => exact h1
    | 2, _ => exact h2

theorem SubV.drop3 {a b d : Blk} {X : Heap} {res : AV} (ha : LoB 3 a) (hb : LoB 3 b) (hd : LoB 3 d) (hp : Pure res) : SubV 3 ([a] :: [b] :: [d] :: X) res [[a], [b], [d]] res :=
  SubV.ren (rho [[(0, 0)], [(1, 0)], [(2, 0)]]) (Numb.list rfl rfl rfl ⟨⟨⟨_, rfl, blk_w3 ha rfl rfl rfl⟩, trivial⟩, ⟨⟨_, rfl, blk_w3 hb rfl rfl rfl⟩, trivial⟩, ⟨⟨_, rfl, blk_w3 hd rfl rfl rfl⟩, trivial⟩, trivial⟩) (.pure hp)

/-- The result is plain. -/
theorem fin3 {e : Exit} (he : e = .normal ∨ e = .ret) {rs : List IRes} {fr : Fr} {a b d : Blk} {X : Heap} {res : AV} {R : AV → Heap → Prop} (hres : resOf fr ([a] :: [b] :: [d] :: X) rs = some res) (hp : Pure res) (ha : LoB 3 a) (hb : LoB 3 b) (hd : LoB 3 d) (hR : R res [[a], [b], [d]]) :
    (e = .normal ∨ e = .ret) ∧ ∃ res res' H2, resOf fr ([a] :: [b] :: [d] :: X) rs = some res ∧ SubV 3 ([a] :: [b] :: [d] :: X) res H2 res' ∧ R res' H2 := ⟨he, res, res, _, hres, .drop3 ha hb hd hp, hR⟩

/-- The result's own memory is frozen. -/
theorem fin3z {e : Exit} (he : e = .normal ∨ e = .ret) {rs : List IRes} {fr : Fr} {a b d : Blk} {X : Heap} {res res' : AV} {R : AV → Heap → Prop} (hres : resOf fr ([a] :: [b] :: [d] :: X) rs = some res) (hz : Cong (FzT ([a] :: [b] :: [d] :: X) s3) res res') (hp : Pure res')
    (ha : LoB 3 a) (hb : LoB 3 b) (hd : LoB 3 d) (hR : R res' [[a], [b], [d]]) :
    (e = .normal ∨ e = .ret) ∧ ∃ res res' H2, resOf fr ([a] :: [b] :: [d] :: X) rs = some res ∧ SubV 3 ([a] :: [b] :: [d] :: X) res H2 res' ∧ R res' H2 := ⟨he, res, res', _, hres, (SubV.frz s3 frozen3 hz).trans (.drop3 ha hb hd hp), hR⟩

theorem RenB.one {ρ : Nat → Nat → Option (Nat × Nat)} {sz : Nat} {xs ys : List AV} (h : RenArgs ρ xs ys) : RenB ρ (.cells sz [xs]) (.cells sz [ys]) := by
  obtain ⟨h1, h2⟩ := h.spec
  refine .cells sz _ _ rfl (fun i r r' a b => ?_) fun i r r' j x y a b c d => ?_
  · have e1 : r = xs := List.mem_singleton.1 (List.mem_of_getElem? a)
    have e2 : r' = ys := List.mem_singleton.1 (List.mem_of_getElem? b)
    subst e1; subst e2
    exact h1
  · have e1 : r = xs := List.mem_singleton.1 (List.mem_of_getElem? a)
    have e2 : r' = ys := List.mem_singleton.1 (List.mem_of_getElem? b)
    subst e1; subst e2
    exact h2 j x y c d

theorem dstep_mapNew {g i : Nat} {fr : Fr} {H : Heap} {k : IntKind} {m ix x : Operand} {g' i' : Nat} {n : Int} {es : List (Value × AV)} (hm : ev fr m = .mref g' i') (hi : ev fr ix = .sc (.int k n)) (hh : hget H g' i' = some (.map es)) (hf : mfind k n es = some none) :
    dstep g i (.mapUpdate k m ix x) fr H = some (.undef, hset H g' i' (.map (es ++ [(.int k n, ev fr x)]))) := by
  simp only [dstep, hm, hi, decide_true, hh, hf]

/-- A box of a slice of the next block. -/
def boxB (n : Nat) : Blk := .cells 1 [[.hsl 1 0 0 n]]
theorem lo_box (n : Nat) : LoB 3 (boxB n) :=
  ⟨rfl, .cells 1 _ _ rfl (fun i r r' a b => by cases eq_of_get a b; rfl) fun i r r' j x y a b c d => by
    cases eq_of_get a b
    cases eq_of_get c d
    have h1 : r = [.hsl 1 0 0 n] := List.mem_singleton.1 (List.mem_of_getElem? a)
    subst h1
    have h2 : x = .hsl 1 0 0 n := List.mem_singleton.1 (List.mem_of_getElem? c)
    subst h2
    exact .hsl 1 0 1 0 0 n (lowS_lt (by omega))⟩
def oneB (v : Value) : Blk := .cells 1 [[.sc v]]
theorem lo_one (v : Value) : LoB 3 (oneB v) := LoB.pure fun r hr => by rw [List.mem_singleton.1 hr]; exact allPure_cons (.sc _) allPure_nil
theorem lo_rows {sz : Nat} {rows : List (List AV)} (h : ∀ r ∈ rows, ∀ c ∈ r, Pure c) : LoB 3 (.cells sz rows) := LoB.pure h

end Go.Av
