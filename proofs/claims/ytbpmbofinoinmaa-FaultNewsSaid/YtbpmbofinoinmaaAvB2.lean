import Derived.Test.YtbpmbofinoinmaaAvB
import Derived.ReadAgain
import Derived.JoinedOf
import Derived.ChangeCalls
namespace Go.Av
open Go.RowKit Go.WideShapes Go.ChangeShapes Go.ChangeAt

section
variable {H : Type} {enc : TypeId × Value → H} {P : Program}

theorem arg_one {w : World} {base : Nat} {t : TypeId} {v : Value} {d : Nat} {s : Sh} (hs : shp P d t = some [s]) (hn : ∀ fs, P.underlying t ≠ some (.struct fs)) (h : Value.okWide P w .any base t v) : v.cells.toList = [v] := by
  cases v with
  | agg cs =>
    exfalso
    cases d with
    | zero => simp [shp] at hs
    | succ d =>
      simp only [shp] at hs
      split at hs
      · rename_i ht; simp [Value.okWide, ht, Cell.okWide, Cell.ok] at h
      · rename_i k ht; simp [Value.okWide, ht, Cell.okWide, Cell.ok] at h
      · rename_i ht; simp [Value.okWide, ht, Cell.okWide, Cell.ok] at h
      · rename_i k ht; simp [Value.okWide, ht, Cell.okWide, Cell.ok] at h
      · rename_i e ht; simp [Value.okWide, ht, Cell.okWide, Cell.ok] at h
      · rename_i fs ht; exact hn fs ht
      · cases hs
  | _ => rfl

theorem args_one {w : World} {base d : Nat} : ∀ (ts : List TypeId) (row : List Sh) (vs : List Value), shpArgs P d ts = some row → (∀ (j : Nat) t v, ts[j]? = some t → vs[j]? = some v → Value.okWide P w .any base t v) → vs.length ≤ ts.length → ∀ v ∈ vs, v.cells.toList = [v]
  | [], _, [], _, _, _, v, hv => by cases hv
  | [], _, _ :: _, _, _, hl, _, _ => by simp at hl
  | t :: ts, row, [], _, _, _, v, hv => by cases hv
  | t :: ts, row, u :: vs, hs, h, hl, v, hv => by
    simp only [shpArgs] at hs
    split at hs
    · rename_i s r e1 e2
      split at hs
      · cases hs
      · rename_i hne
        rcases List.mem_cons.1 hv with e | e
        · subst e
          exact arg_one e1 (fun fs hf => hne fs hf) (h 0 t v rfl rfl)
        · exact args_one ts r vs e2 (fun j t v a b => h (j + 1) t v (by simpa using a) (by simpa using b)) (by simpa using hl) v e
    · cases hs

theorem trodAll_carry {w w' : World} : ∀ {ts : List TypeId} {vs : List Value} {ds : List (DataW H)} {ps : List MemPlace}, DataW.TrodAll enc P w 0 (fun _ => true) true ts vs ds ps → (∀ p ∈ ps, w.sameAt w' p) → DataW.TrodAll enc P w' 0 (fun _ => true) true ts vs ds ps
  | [], [], [], _, h, _ => h
  | t :: ts, v :: vs, d :: ds, ps, ⟨p, q, ⟨fuel, h1⟩, h2, e⟩, hs => by
    subst e
    exact ⟨p, q, ⟨fuel, DataW.trod_carry fuel t _ _ h1 fun x hx => hs x (List.mem_append_left _ hx)⟩, trodAll_carry h2 fun x hx => hs x (List.mem_append_right _ hx), rfl⟩

/-- Memory that only grows: what a law leaves behind. -/
theorem post_of_grown {f : Func} {s : ChangeSpec} {W W' : World} {args : Array Value} {ds gs : List (DataW H)} {before : List MemPlace} {tb : TypeId}
    (hW : DataW.Whole enc P f.params.toList s.vars false W args.toList ds gs before) (hvars : s.vars = [])
    (hl : laidOutB P = true) (hm : mapsRowed P = true) (hz : ∀ t e, t < P.types.size → P.underlying t = some (.slice e) → 0 < P.cellsOf e) (hts : ∀ t ∈ f.params.toList, t < P.types.size)
    (hr : f.resultTypes = #[tb]) (htb : P.underlying tb = some .bool) (hres : (s.fn H (ds ++ gs)).results = [.lit (.bool true)]) (hargs : (s.fn H (ds ++ gs)).args = ds) (hv : (s.fn H (ds ++ gs)).vars = []) (hb : Below W.heap.size W W') :
    s.post enc P f false true false false W args (.bool true) W' := by
  have hlt : ∀ p ∈ before, p.block < W.heap.size := fun p hp => hW.lt p hp
  have hold : ∀ p ∈ before, (fun b => decide (b < W.heap.size)) p.block = true := fun p hp => by simpa using hlt p hp
  obtain ⟨p, q, h1, h2, e, hzf, hn⟩ := hW
  have hq : gs = [] ∧ q = [] := by
    rw [hvars] at h2
    cases gs with
    | nil => exact ⟨rfl, h2⟩
    | cons => exact h2.elim
  obtain ⟨rfl, rfl⟩ := hq
  rw [List.append_nil] at e
  subst e
  have hsame : ∀ p ∈ before, W.sameAt W' p := fun p hp => by
    cases p with
    | cell b off => exact hb.cell (p := ⟨b, off, none⟩) (hlt _ hp)
    | map b => exact hb.block b (hlt _ hp)
  have hc := trodAll_carry h1 hsame
  have hcs : ∀ sp : Nat → Bool, (∀ p ∈ before, sp p.block = true) → DataW.TrodAll enc P W' 0 sp true f.params.toList args.toList (s.fn H (ds ++ [])).args before := fun sp hsp => by
    rw [hargs]
    exact DataW.TrodAll.respare (kids_rows hl hm) hz hts hc hsp
  have hvs : ∀ sp : Nat → Bool, DataW.TrodVars enc P W' sp s.vars (s.fn H (ds ++ [])).vars [] := fun sp => by
    rw [hvars, hv]
    rfl
  have hrs : ∀ (b : Nat) (sp : Nat → Bool) (hd : Bool), DataW.TrodAll enc P W' b sp hd f.resultTypes.toList ((Value.bool true).resultList f.resultTypes.size) (s.fn H (ds ++ [])).results [] := fun b sp hd => by
    rw [hres, hr]
    exact trodAll_mk1 (shut_bool htb true)
  refine ⟨ds, [], before, [], before, [], ⟨before, [], h1, h2, by simp, hzf, hn⟩, hrs _ _ _, hcs _ hold, hvs _, World.keptBut_mono (fun p hp => ⟨hp, .inr (.inl hp)⟩) (hb.frame (· ∈ before)), fun _ => ?_⟩
  refine ⟨ok_one hr rfl (okWide_bool_mk htb true), _, _, ([] ++ before) ++ [], ⟨[] ++ before, [], trodAll_append (hcs _ (fun _ _ => rfl)) (hrs _ _ _), hvs _, rfl, ?_, ?_⟩, ?_⟩
  · intro b off hp
    have hin : MemPlace.cell b off ∈ before := by simpa using hp
    rw [hb.frozen (hlt _ hin)]
    exact hzf b off hin
  · intro ha
    cases ha
  · intro p hp _
    simpa using hp

/-- A law, out of its contract over frozen arguments. -/
theorem law_calls {f : FuncId} {fn : Func} {s : ChangeSpec} {row : List Sh} {d : Nat} {tb : TypeId} (hs : shpArgs P d fn.params.toList = some row) (hvars : s.vars = [])
    (hl : laidOutB P = true) (hm : mapsRowed P = true) (hz : ∀ t e, t < P.types.size → P.underlying t = some (.slice e) → 0 < P.cellsOf e) (hts : ∀ t ∈ fn.params.toList, t < P.types.size)
    (hr : fn.resultTypes = #[tb]) (htb : P.underlying tb = some .bool)
    (hspec : ∀ ds : List (DataW H), ds.length = fn.params.size → (s.fn H ds).results = [.lit (.bool true)] ∧ (s.fn H ds).args = ds ∧ (s.fn H ds).vars = [])
    (hc : ∀ avs : List AV, avs.length = row.length → (∀ (j : Nat) t c, row[j]? = some t → avs[j]? = some c → Fit t c) → CallOK P f avs [] fun res _ => res = .sc (.bool true))
    {W : World} {base : Nat} {args : Array Value} {ds gs : List (DataW H)} {before : List MemPlace}
    (hval : ∀ (j : Nat) t v, fn.params[j]? = some t → args[j]? = some v → Value.okWide P W .any base t v) (hW : DataW.Whole enc P fn.params.toList s.vars false W args.toList ds gs before) :
    Calls P f args W fun e W' => ∃ v, e = .returned v ∧ s.post enc P fn false true false false W args v W' := by
  have hW0 := hW
  obtain ⟨p, q, h1, h2, e, hzf, hn⟩ := hW
  obtain ⟨l1, l2⟩ := trodAll_length h1
  have hgs : gs = [] := by
    rw [hvars] at h2
    cases gs with
    | nil => rfl
    | cons => exact h2.elim
  subst hgs
  have hone := args_one fn.params.toList row args.toList hs (fun j t v a b => hval j t v (by simpa using a) (by simpa using b)) (by omega)
  obtain ⟨hlen, avs, e1, e2, e3⟩ := trodAll_ok fn.params.toList row args.toList ds p h1 hs hone
  refine ((hc avs e1 e2).2 (memOf W) noJ W args (by simp at hlen; omega) (fun j c v a b => (e3 j c v a (by simpa using b)).1) (noJ_rep _ _) (memOf_rep W)).mono ?_
  rintro e W' ⟨v, M', J', res, H', rfl, hst, hrep, rfl⟩
  cases hrep
  obtain ⟨r1, r2, r3⟩ := hspec ds (by simp at l1 l2 ⊢; omega)
  refine ⟨.bool true, rfl, post_of_grown hW0 hvars hl hm hz hts hr htb (by rw [List.append_nil]; exact r1) (by rw [List.append_nil]; exact r2) (by rw [List.append_nil]; exact r3) ?_⟩
  exact Below.same (fun β o h => hst.mrep β o (hst.m β o h)) hst.os hst.tape hst.output hst.size

end
end Go.Av
