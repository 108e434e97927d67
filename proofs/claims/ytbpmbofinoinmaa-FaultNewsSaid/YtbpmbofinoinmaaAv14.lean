import Derived.Test.YtbpmbofinoinmaaAv13
namespace Go.Av

/-- A result: a slot, or a variable in memory. -/
inductive IRes where
  | tmp (t : Nat)
  | cell (a : Nat) (sz : Nat) (agg : Bool)

def cresult (P : Program) : ResultVar → Option IRes
  | .tmp t => some (.tmp t)
  | .cell a t => (varOf P t).map fun p => .cell a p.1 p.2

def cresults (P : Program) : List ResultVar → Option (List IRes)
  | [] => some []
  | r :: l => match cresult P r, cresults P l with
    | some x, some xs => some (x :: xs)
    | _, _ => none

/-- What a function is, with all that the tables say written out. -/
structure IFun where
  n : Nat
  code : ICode
  res : List IRes

def cfun (P : Program) (f : FuncId) : Option IFun :=
  match P.funcs[f]? with
  | some fn => match fn.body, cresults P fn.results.toList with
    | some b, some rs => match ccode P fn.ntmps b with
      | some c => match fn.name == "runtime.NumGoroutine" with
        | true => none
        | false => some ⟨fn.ntmps, c, rs⟩
      | none => none
    | _, _ => none
  | none => none

def resOne (fr : Fr) (H : Heap) : IRes → Option AV
  | .tmp t => match fz (fr.get t) [] with
    | some (v, _) => some v
    | none => none
  | .cell a sz agg => match fr.get a with
    | .ptr g i row off => match hget H g i with
      | some (.cells _ rows) => match rows[row]? with
        | some r => ldAV sz agg (r.drop off)
        | none => none
      | _ => none
    | _ => none

def resAll (fr : Fr) (H : Heap) : List IRes → Option (List AV)
  | [] => some []
  | r :: l => match resOne fr H r, resAll fr H l with
    | some x, some xs => some (x :: xs)
    | _, _ => none

def resOf (fr : Fr) (H : Heap) (rs : List IRes) : Option AV :=
  match resAll fr H rs with
  | some [x] => some x
  | some xs => some (.tup xs)
  | none => none

def argsFr : Nat → List AV → Fr
  | _, [] => []
  | i, a :: r => (i, a) :: argsFr (i + 1) r

/-- The result, told otherwise, over a heap told otherwise. -/
def SubV (k : Nat) (H : Heap) (res : AV) (H' : Heap) (res' : AV) : Prop :=
  ∀ M J v (w : World), Rep M J res v → HRep M J H w.heap → MRep M w.heap → ∃ M' J', Step k M J H w M' J' H' w ∧ Rep M' J' res' v

theorem SubV.refl (k : Nat) (H : Heap) (res : AV) : SubV k H res H res := fun _ _ _ _ hv hH hM => ⟨_, _, .refl k hH hM, hv⟩
theorem SubV.trans {k : Nat} {H H' H'' : Heap} {a b c : AV} (h1 : SubV k H a H' b) (h2 : SubV k H' b H'' c) : SubV k H a H'' c := by
  intro M J v w hv hH hM
  obtain ⟨M1, J1, s1, r1⟩ := h1 M J v w hv hH hM
  obtain ⟨M2, J2, s2, r2⟩ := h2 M1 J1 v w r1 s1.hrep s1.mrep
  exact ⟨M2, J2, s1.trans s2, r2⟩
theorem SubV.ren {k : Nat} {H H' : Heap} {a b : AV} (ρ : Nat → Nat → Option (Nat × Nat)) (hn : Numb ρ k H H') (h : Ren ρ a b) : SubV k H a H' b :=
  fun M J _ _ hv hH hM => ⟨M, J.via ρ, (Step.refl k hH hM).ren hn, hv.ren h⟩
theorem SubV.le {k : Nat} {H : Heap} {a b : AV} (h : Le a b) : SubV k H a H b := fun M J v _ hv hH hM => ⟨M, J, .refl k hH hM, h M J v hv⟩

section
variable {P : Program} {N k : Nat} {fr : Fr} {H : Heap}

theorem argsFr_get : ∀ (args : List AV) (i t : Nat), Fr.get (argsFr i args) t = if i ≤ t ∧ t < i + args.length then (args[t - i]?).getD .undef else .undef
  | [], i, t => by simp only [argsFr, Fr.get, List.length_nil]; rw [if_neg (by omega)]
  | a :: r, i, t => by
    simp only [argsFr, Fr.get]
    split
    · rename_i e
      have : i = t := Nat.eq_of_beq_eq_true e
      subst this
      rw [if_pos ⟨Nat.le_refl _, by simp⟩]
      simp
    · rename_i e
      have hne : i ≠ t := fun h => by subst h; simp at e
      rw [argsFr_get r (i + 1) t]
      simp only [List.length_cons]
      by_cases h : i + 1 ≤ t ∧ t < i + 1 + r.length
      · rw [if_pos h, if_pos (by omega), show t - i = (t - (i + 1)) + 1 by omega]
        rfl
      · rw [if_neg h, if_neg (by omega)]

def resSem (tmps : Array Value) : ResultVar → Sem Value
  | .tmp t => pure (tmps.getD t Go.undef)
  | .cell a t => do loadVar t (← asAddr (tmps.getD a Go.undef))

theorem results_eq (fn : Func) (tmps : Array Value) : results fn tmps = (do
    let vs ← fn.results.mapM (resSem tmps)
    pure (if h : vs.size = 1 then vs[0] else .tuple vs)) := rfl

theorem resOne_rep {M J} {w : World} {tmps : Array Value} (hF : FRep N M J fr tmps) (hH : HRep M J H w.heap) {r : ResultVar} {x : IRes} (hx : cresult P r = some x) {v : AV} (h : resOne fr H x = some v) :
    ∃ cv, (resSem tmps r).run P w = .ok cv w ∧ Rep M J v cv := by
  cases r with
  | tmp t =>
    injection hx with hx
    subst hx
    simp only [resOne, fz_eq, Option.some.injEq] at h
    subst h
    exact ⟨_, rfl, hF.2 t⟩
  | cell a t =>
    simp only [cresult, Option.map_eq_some_iff] at hx
    obtain ⟨⟨sz, agg⟩, hv, rfl⟩ := hx
    have ha := hF.2 a
    simp only [resOne] at h
    split at h
    · rename_i g i row off e
      rw [e] at ha
      split at h
      · rename_i s rows hg
        split at h
        · rename_i r hrow
          generalize hcv : tmps.getD a Go.undef = cv at ha
          cases ha with
          | ptr _ _ _ _ β l hJ hb =>
            obtain ⟨l', h1, h2, h3, h4⟩ := hH.cells hg
            rw [hJ] at h1
            injection h1 with h1
            subst h1
            obtain ⟨cs, t', h5, h6, h7, _, h8⟩ := h4 β hb
            have hrl := (List.getElem?_eq_some_iff.1 hrow).1
            have := row_le (sz := s) hrl
            have hlen := h3 row r hrow
            obtain ⟨x, hx, hrx⟩ := run_loadVar (P := P) (off := row * l.sz + off) (cells := r.drop off) hv h5 h (by
              rw [List.length_drop, h2]
              rcases Nat.lt_or_ge off r.length with hlt | hge
              · right; omega
              · left; exact List.drop_eq_nil_of_le hge) (fun j c y hc hy => by
              rw [List.getElem?_drop] at hc
              exact h8 row r (off + j) c y hrow hc (by rw [← h2, ← Nat.add_assoc]; exact hy))
            exact ⟨x, by simp only [resSem, hcv, asAddr, Sem.run_bind, Sem.run_pure, Result.andThen_ok, hx], hrx⟩
        · cases h
      · cases h
    · cases h

theorem resAll_rep {M J} {w : World} {tmps : Array Value} (hF : FRep N M J fr tmps) (hH : HRep M J H w.heap) : ∀ (rs : List ResultVar) (xs : List IRes), cresults P rs = some xs → ∀ vs, resAll fr H xs = some vs →
    ∃ cvs : List Value, (rs.mapM (resSem tmps)).run P w = .ok cvs w ∧ vs.length = cvs.length ∧
      ∀ (j : Nat) c v, vs[j]? = some c → cvs[j]? = some v → Rep M J c v
  | [], xs, hx, vs, h => by
    simp [cresults] at hx
    subst hx
    simp [resAll] at h
    subst h
    exact ⟨[], by simp, rfl, fun j c v hc => by simp at hc⟩
  | r :: rs, xs, hx, vs, h => by
    simp only [cresults] at hx
    split at hx
    · rename_i x xs' h1 h2
      injection hx with hx
      subst hx
      simp only [resAll] at h
      split at h
      · rename_i a as h3 h4
        injection h with h
        subst h
        obtain ⟨cv, hr, hrep⟩ := resOne_rep (P := P) hF hH h1 h3
        obtain ⟨cvs, hrs, hlen, hreps⟩ := resAll_rep hF hH rs xs' h2 as h4
        refine ⟨cv :: cvs, ?_, by simp [hlen], fun j c v hc hv => ?_⟩
        · rw [List.mapM_cons]
          simp only [Sem.run_bind]
          rw [hr]
          simp only [Result.andThen_ok]
          rw [hrs]
          rfl
        · cases j with
          | zero => simp at hc hv; subst hc; subst hv; exact hrep
          | succ j => exact hreps j c v (by simpa using hc) (by simpa using hv)
      · cases h
    · cases hx

/-- A function's contract out of its code's. -/
theorem CallOK.of {f : FuncId} {F : IFun} (hf : cfun P f = some F) {args : List AV} {R : AV → Heap → Prop}
    (h : AWP P F.n H.length F.code (fun e fr' H' => (e = .normal ∨ e = .ret) ∧ ∃ res res' H2, resOf fr' H' F.res = some res ∧ SubV H.length H' res H2 res' ∧ R res' H2) (argsFr 0 args) H) (hn : args.length ≤ F.n) :
    CallOK P f args H R := by
  unfold cfun at hf
  split at hf
  · rename_i fn hfn
    split at hf
    · rename_i b rs hb hrs
      split at hf
      · rename_i c hc
        split at hf
        · cases hf
        · rename_i hname
          injection hf with hf
          subst hf
          refine ⟨⟨fn, hfn, hname, by rw [hb]; rfl⟩, fun M J w cargs hlen hargs hH hM => ?_⟩
          refine calls_of_wp hfn hb ?_
          have hF : FRep fn.ntmps M J (argsFr 0 args) (cargs ++ Array.replicate (fn.ntmps - cargs.size) Go.undef) := by
            refine ⟨by simp only [Array.size_append, Array.size_replicate]; simp only at hn; omega, fun t => ?_⟩
            rw [argsFr_get, Nat.zero_add]
            by_cases ht : t < args.length
            · rw [if_pos ⟨Nat.zero_le _, ht⟩, Nat.sub_zero, List.getElem?_eq_getElem ht, Option.getD_some]
              rw [Array.getD_eq_getD_getElem?, Array.getElem?_append_left (by omega), Array.getElem?_eq_getElem (by omega), Option.getD_some]
              exact hargs t _ _ (List.getElem?_eq_getElem ht) (Array.getElem?_eq_getElem (by omega))
            · rw [if_neg (by omega)]
              exact .undef _
          refine wp_mono (h b hc M J _ w hF hH hM) fun e a' w' hp => ?_
          obtain ⟨M1, J1, fr1, H1, q1, q2, q3, hexit, res, res', H2, hres, hsub, hR⟩ := hp
          have hfin : a'.defers = [] ∧ ∃ v, (results fn a'.tmps).run P w' = .ok v w' ∧ ∃ v0 M' J' res H', Ending.returned v = .returned v0 ∧ Step H.length M J H w M' J' H' w' ∧ Rep M' J' res v0 ∧ R res H' := by
            refine ⟨q3, ?_⟩
            have hmany : ∀ vs, resAll fr1 H1 rs = some vs → ∃ cvs : List Value, (fn.results.mapM (resSem a'.tmps)).run P w' = .ok cvs.toArray w' ∧
                vs.length = cvs.length ∧ ∀ (j : Nat) c v, vs[j]? = some c → cvs[j]? = some v → Rep M1 J1 c v := by
              intro vs hvs
              obtain ⟨cvs, h1, h2, h3⟩ := resAll_rep (P := P) q2 q1.hrep fn.results.toList rs hrs vs hvs
              refine ⟨cvs, ?_, h2, h3⟩
              rw [Array.mapM_eq_mapM_toList]
              simp only [Sem.run_map]
              rw [h1]
              rfl
            unfold resOf at hres
            split at hres
            · rename_i x hvs
              injection hres with hres
              subst hres
              obtain ⟨cvs, h1, h2, h3⟩ := hmany _ hvs
              cases cvs with
              | nil => simp at h2
              | cons cv r =>
                have : r = [] := by simpa using h2.symm
                subst this
                obtain ⟨M2, J2, s2, r2⟩ := hsub M1 J1 cv w' (h3 0 x cv rfl rfl) q1.hrep q1.mrep
                refine ⟨cv, ?_, cv, M2, J2, res', H2, rfl, q1.trans s2, r2, hR⟩
                rw [results_eq]
                simp only [Sem.run_bind, h1, Result.andThen_ok]
                rfl
            · rename_i vs hne hvs
              injection hres with hres
              subst hres
              obtain ⟨cvs, h1, h2, h3⟩ := hmany _ hvs
              have hne1 : cvs.length ≠ 1 := by
                intro e
                rw [e] at h2
                obtain ⟨x, hx⟩ := List.length_eq_one_iff.1 h2
                exact hne x hx
              obtain ⟨M2, J2, s2, r2⟩ := hsub M1 J1 (.tuple cvs.toArray) w' (.tup vs cvs.toArray (by simpa using h2) (fun j c v a b => h3 j c v a (by simpa using b))) q1.hrep q1.mrep
              refine ⟨.tuple cvs.toArray, ?_, _, M2, J2, res', H2, rfl, q1.trans s2, r2, hR⟩
              rw [results_eq]
              simp only [Sem.run_bind, h1]
              have : ¬ (cvs.toArray.size = 1) := by simpa using hne1
              simp only [Result.andThen_ok, dif_neg this, Sem.run_pure]
            · cases hres
          rcases hexit with rfl | rfl
          · exact hfin
          · exact hfin
      · cases hf
    · cases hf
  · cases hf

end
end Go.Av
