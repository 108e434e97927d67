import Derived.Test.YtbpmbofinoinmaaAv9
namespace Go.Av
open Go.MapKept
section
variable {P : Program} {M : Mem} {J : Inj} {H : Heap} {w : World} {g i : Nat}
variable {N : Nat} {fr : Fr} {tmps : Array Value} {ds : List Deferred} {o : Oper} {v : AV} {H' : Heap}

/-- Looking for an integer key: as the model's own search finds it. -/
theorem mfind_spec (k k0 : IntKind) (n : Int) : ∀ (es : List (Value × AV)) (cl : List MapEntry) (res : Option AV) (q : Nat), es.length = cl.length → (∀ (j : Nat) x y, es[j]? = some x → cl[j]? = some y → x.1 = y.key) →
    mfind k n es = some res →
    (res = none ∧ Instr.findNow (.int k0) (.int k n) cl q = some none) ∨
    ∃ x j c, res = some x ∧ es[j]? = some (.int k n, x) ∧ cl[j]? = some c ∧ c.key = .int k n ∧ Instr.findNow (.int k0) (.int k n) cl q = some (some (q + j, c.val)) ∧ ∀ y, mput n y es = es.set j (.int k n, y)
  | [], cl, res, q, hl, _, h => by
    simp [mfind] at h
    subst h
    cases cl with
    | nil => exact .inl ⟨rfl, rfl⟩
    | cons _ _ => simp at hl
  | (key, x) :: es, cl, res, q, hl, hk, h => by
    cases cl with
    | nil => simp at hl
    | cons c cl =>
      have hkey : key = c.key := hk 0 _ _ rfl rfl
      cases key with
      | int k' m =>
        simp only [mfind] at h
        split at h
        · rename_i e1
          have e1 : k = k' := of_decide_eq_true e1
          subst e1
          split at h
          · rename_i e2
            have e2 : n = m := of_decide_eq_true e2
            subst e2
            injection h with h
            subst h
            exact .inr ⟨x, 0, c, rfl, rfl, rfl, hkey.symm, by simp [Instr.findNow, ← hkey, Instr.sameNow], fun y => by simp [mput]⟩
          · rename_i e2
            have e2 : ¬ n = m := of_decide_eq_false e2
            have hs : Instr.sameNow (.int k0) (.int k n) c.key = some false := by
              rw [← hkey]
              simp [Instr.sameNow, e2]
            rcases mfind_spec k k0 n es cl res (q + 1) (by simpa using hl) (fun j x y a b => hk (j + 1) x y a b) h with ⟨h1, h2⟩ | ⟨x', j, c', h1, h2, h3, h4, h5, h6⟩
            · exact .inl ⟨h1, by simp [Instr.findNow, hs, h2]⟩
            · exact .inr ⟨x', j + 1, c', h1, by simpa using h2, by simpa using h3, h4, by simp [Instr.findNow, hs, h5]; omega, fun y => by simp [mput, e2, h6 y]⟩
        · cases h
      | _ => simp [mfind] at h

theorem HRep.maps {H : Heap} {h : Array Obj} (hH : HRep M J H h) {g i : Nat} {es : List (Value × AV)} (hg : hget H g i = some (.map es)) :
    ∃ l β ces clock, J g i = some l ∧ l.blk = some β ∧ h[β]? = some (.map ces clock) ∧ es.length = ces.size ∧
      (∀ (j : Nat) x y, es[j]? = some x → ces[j]? = some y → x.1 = y.key) ∧ (∀ (j : Nat) x y, es[j]? = some x → ces[j]? = some y → Rep M J x.2 y.val) := by
  obtain ⟨l, h1, β, ces, clock, h2, h3, h4, h5, h6⟩ := hH.blk g i _ hg rfl
  exact ⟨l, β, ces, clock, h1, h2, h3, h4, h5, h6⟩

theorem zvOf_rep {t : TypeId} {a : AV} (h : zvOf P t = some a) (w : World) : ∃ zv, (zeroValue t).run P w = .ok zv w ∧ Rep M J a zv := by
  unfold zvOf at h
  split at h
  · rename_i inf hi
    split at h
    · rename_i cs hz
      injection h with h
      subst h
      refine ⟨_, run_zeroValue hi hz w, .agg _ _ (by rw [zrow_eq, unrle_rle]; simp) fun j c v hc hv => ?_⟩
      rw [zrow_eq, unrle_rle, List.getElem?_map, Array.getElem?_toList, hv] at hc
      simp at hc
      subst hc
      exact .sc v
    · rename_i zv _ hz
      injection h with h
      subst h
      exact ⟨zv, run_zeroValue hi hz w, .sc zv⟩
    · cases h
  · cases h

theorem ok_lookup (hF : FRep N M J fr tmps) (hH : HRep M J H w.heap) (hM : MRep M w.heap) {t kt e : TypeId} {z : AV} {k : IntKind} {x ix : Operand} {ok : Bool} (ht : P.underlying t = some (.map kt e)) (hkt : P.underlying kt = some (.int k))
    (hz : zvOf P e = some z) (h : o.op = .lookup t x ix ok) (hs : dstep g i (.lookup z k x ix ok) fr H = some (v, H')) : OpOK P M J H w g i (execOp (Act.eval ⟨tmps, ds⟩) o) v H' := by
  have hx := ev_rep (ds := ds) hF x
  have hix := ev_rep (ds := ds) hF ix
  obtain ⟨zv, hzrun, hzrep⟩ := zvOf_rep (M := M) (J := J) hz w
  simp only [dstep] at hs
  split at hs
  · rename_i k' n ei
    rw [ei] at hix
    have hixv := hix.sc_inv
    split at hs
    · rename_i hk
      have hk : k = k' := of_decide_eq_true hk
      subst hk
      generalize hcv : Act.eval ⟨tmps, ds⟩ x = cv at hx
      have hkey : IsKey (.int k) (.int k n) := rfl
      -- what the search finds, and that the operation gives it
      have key : ∀ (res : Option AV), (∃ (ces : Array MapEntry) (found : Option (Nat × Value)), ((cv = .map none ∧ ces = #[]) ∨ ∃ r clock, cv = .map (some r) ∧ w.heap[r]? = some (.map ces clock)) ∧
            Instr.findNow (.int k) (.int k n) ces.toList 0 = some found ∧
            (match res, found with | none, none => True | some y, some (_, u) => Rep M J y u | _, _ => False)) →
          lres z ok H (some res) = some (v, H') → OpOK P M J H w g i (execOp (Act.eval ⟨tmps, ds⟩) o) v H' := by
        rintro res ⟨ces, found, h1, h2, h3⟩ hs
        have hck : ∀ b, (Instr.checkKey b 10000 kt (.int k n)).run P w = .ok () w := fun b => run_checkKey hkt hkey b 9999
        have hfk := run_findKey (P := P) (w := w) hkt h2
        have pair : ∀ (a : AV) (u : Value) (b : Bool), Rep M J a u → Rep M J (.tup [a, .sc (.bool b)]) (.tuple #[u, .bool b]) := by
          intro a u b hr
          refine .tup _ _ rfl fun j c y hc hy => ?_
          cases j with
          | zero => simp at hc hy; subst hc; subst hy; exact hr
          | succ j =>
            cases j with
            | zero => simp at hc hy; subst hc; subst hy; exact .sc _
            | succ j => simp at hc
        have hexec : ∀ u b, (match found with | some (_, v) => u = v ∧ b = true | none => u = zv ∧ b = false) →
            (execOp (Act.eval ⟨tmps, ds⟩) o).run P w = .ok (.value (if ok then .tuple #[u, .bool b] else u)) w := by
          intro u b hub
          rcases h1 with ⟨rfl, rfl⟩ | ⟨r, clock, rfl, hr⟩
          · simp only [execOp, h, hixv, hcv, Instr.lookup, Sem.run_bind, run_underlying ht, Result.andThen_ok, Sem.run_pure, hck, hfk]
            cases found with
            | none => obtain ⟨rfl, rfl⟩ := hub; simp [hzrun]
            | some p => obtain ⟨rfl, rfl⟩ := hub; simp
          · simp only [execOp, h, hixv, hcv, Instr.lookup, Sem.run_bind, run_underlying ht, Result.andThen_ok, Sem.run_pure, run_getObj_map hr, hck, hfk]
            cases found with
            | none => obtain ⟨rfl, rfl⟩ := hub; simp [hzrun]
            | some p => obtain ⟨rfl, rfl⟩ := hub; simp
        cases res with
        | none =>
          cases found with
          | some p => exact h3.elim
          | none =>
            have hr := hexec zv false ⟨rfl, rfl⟩
            cases ok with
            | true =>
              simp only [lres, Option.some.injEq, Prod.mk.injEq] at hs
              obtain ⟨rfl, rfl⟩ := hs
              exact .quiet hH hM hr (pair z zv false hzrep)
            | false =>
              simp only [lres, Option.some.injEq, Prod.mk.injEq] at hs
              obtain ⟨rfl, rfl⟩ := hs
              exact .quiet hH hM hr hzrep
        | some y =>
          cases found with
          | none => exact h3.elim
          | some p =>
            have hr := hexec p.2 true ⟨rfl, rfl⟩
            cases ok with
            | true =>
              simp only [lres, Option.some.injEq, Prod.mk.injEq] at hs
              obtain ⟨rfl, rfl⟩ := hs
              exact .quiet hH hM hr (pair y p.2 true h3)
            | false =>
              simp only [lres, Option.some.injEq, Prod.mk.injEq] at hs
              obtain ⟨rfl, rfl⟩ := hs
              exact .quiet hH hM hr h3
      have found : ∀ (es : List (Value × AV)) (ces : Array MapEntry) (res : Option AV), es.length = ces.size → (∀ (j : Nat) x y, es[j]? = some x → ces[j]? = some y → x.1 = y.key) →
          (∀ (j : Nat) x y, es[j]? = some x → ces[j]? = some y → Rep M J x.2 y.val) → mfind k n es = some res →
          ∃ found, Instr.findNow (.int k) (.int k n) ces.toList 0 = some found ∧ (match res, found with | none, none => True | some y, some (_, u) => Rep M J y u | _, _ => False) := by
        intro es ces res h1 h2 h3 h4
        rcases mfind_spec k k n es ces.toList res 0 (by simpa using h1) (fun j x y a b => h2 j x y a (by simpa using b)) h4 with ⟨e1, e2⟩ | ⟨y, j, c, e1, e2, e3, e4, e5, _⟩
        · subst e1; exact ⟨none, e2, trivial⟩
        · subst e1
          exact ⟨_, e5, h3 j _ c e2 (by simpa using e3)⟩
      cases hfd : mlook H k n (ev fr x) with
      | none => rw [hfd] at hs; cases hs
      | some res =>
        rw [hfd] at hs
        refine key res ?_ hs
        unfold mlook at hfd
        split at hfd
        · rename_i es ea
          rw [ea] at hx
          cases hx with
          | tmap _ β clock ces hMb hl hk' hr =>
            obtain ⟨f, hf1, hf2⟩ := found es ces res hl hk' hr hfd
            exact ⟨ces, f, .inr ⟨_, _, rfl, hM _ _ hMb⟩, hf1, hf2⟩
        · rename_i g' i' ea
          rw [ea] at hx
          split at hfd
          · rename_i es hg
            cases hx with
            | mref _ _ β l hJ hb =>
              obtain ⟨l', β', ces, clock, p1, p2, p3, p4, p5, p6⟩ := hH.maps hg
              rw [hJ] at p1
              injection p1 with p1
              subst p1
              rw [hb] at p2
              injection p2 with p2
              subst p2
              obtain ⟨f, hf1, hf2⟩ := found es ces res p4 p5 p6 hfd
              exact ⟨ces, f, .inr ⟨_, _, rfl, p3⟩, hf1, hf2⟩
          · cases hfd
        · rename_i ea
          rw [ea] at hx
          cases hx
          injection hfd with hfd
          subst hfd
          exact ⟨#[], none, .inl ⟨rfl, rfl⟩, rfl, trivial⟩
        · cases hfd
    · cases hs
  · cases hs

theorem ok_mapUpdate (hF : FRep N M J fr tmps) (hH : HRep M J H w.heap) (hM : MRep M w.heap) {t kt e : TypeId} {k : IntKind} {m ix x : Operand} (ht : P.underlying t = some (.map kt e)) (hkt : P.underlying kt = some (.int k))
    (h : o.op = .mapUpdate t m ix x) (hs : dstep g i (.mapUpdate k m ix x) fr H = some (v, H')) : OpOK P M J H w g i (execOp (Act.eval ⟨tmps, ds⟩) o) v H' := by
  have hx := ev_rep (ds := ds) hF x
  have hm := ev_rep (ds := ds) hF m
  have hix := ev_rep (ds := ds) hF ix
  simp only [dstep] at hs
  split at hs
  · rename_i g' i' k' n em ei
    rw [ei] at hix
    rw [em] at hm
    have hixv := hix.sc_inv
    split at hs
    · rename_i hk
      have hk : k = k' := of_decide_eq_true hk
      subst hk
      have hkey : IsKey (.int k) (.int k n) := rfl
      generalize hcv : Act.eval ⟨tmps, ds⟩ m = cv at hm
      generalize hxv : Act.eval ⟨tmps, ds⟩ x = xv at hx
      split at hs
      · rename_i es hg
        obtain ⟨l', β, ces, clock, p1, p2, p3, p4, p5, p6⟩ := hH.maps hg
        cases hm with
        | mref _ _ β' l hJ hb =>
          rw [hJ] at p1
          injection p1 with p1
          subst p1
          rw [hb] at p2
          injection p2 with p2
          subst p2
          have hck : ∀ b, (Instr.checkKey b 10000 kt (.int k n)).run P w = .ok () w := fun b => run_checkKey hkt hkey b 9999
          have hblt := lt_of_heap p3
          have fin : ∀ (o' : Obj) (es' : List (Value × AV)) (ces' : Array MapEntry) (clock' : Nat), o' = .map ces' clock' → (execOp (Act.eval ⟨tmps, ds⟩) o).run P w = .ok .skip { w with heap := w.heap.setIfInBounds β' o' } →
              es'.length = ces'.size → (∀ (j : Nat) x y, es'[j]? = some x → ces'[j]? = some y → x.1 = y.key) → (∀ (j : Nat) x y, es'[j]? = some x → ces'[j]? = some y → Rep M J x.2 y.val) →
              OpOK P M J H w g i (execOp (Act.eval ⟨tmps, ds⟩) o) .undef (hset H g' i' (.map es')) := by
            intro o' es' ces' clock' ho hrun q1 q2 q3
            subst ho
            refine ⟨Go.undef, _, J, .inr ⟨hrun, rfl⟩, .undef _, .refl _ _, fun k => ?_, fun _ _ _ => rfl⟩
            exact Step.write k hH hM g' i' l β' _ hg rfl hJ hb (.map ces' clock') _ (fun _ => ⟨β', ces', clock', hb, by simp [hblt], q1, q2, q3⟩) rfl rfl rfl rfl
          have hpreN : Instr.findNow (.int k) (.int k n) ces.toList 0 = some none →
              (execOp (Act.eval ⟨tmps, ds⟩) o).run P w = .ok .skip { w with heap := w.heap.setIfInBounds β' (.map (ces.push { key := .int k n, val := xv, born := clock }) (clock + 1)) } := by
            intro hf
            have hfk := run_findKey (P := P) (w := w) hkt hf
            simp only [execOp, h, hixv, hcv, hxv, Instr.mapUpdate, Sem.run_bind, run_underlying ht, Result.andThen_ok, run_getObj_map p3, hck, hfk, run_setObj_map _ p3, Sem.run_pure]
          have hpreS : ∀ (j : Nat) (u : Value) (c : MapEntry), Instr.findNow (.int k) (.int k n) ces.toList 0 = some (some (j, u)) → ces[j]? = some c → c.key = .int k n →
              (execOp (Act.eval ⟨tmps, ds⟩) o).run P w = .ok .skip { w with heap := w.heap.setIfInBounds β' (.map (ces.modify j fun e => { e with key := .int k n, val := xv }) clock) } := by
            intro j u c hf hcj hck'
            have hfk := run_findKey (P := P) (w := w) hkt hf
            have hkeep : (Instr.keyThatStays (.int k n) (.int k n)).run P w = .ok (.int k n) w := by simp [Instr.keyThatStays, Instr.sameBits]
            simp only [execOp, h, hixv, hcv, hxv, Instr.mapUpdate, Sem.run_bind, run_underlying ht, Result.andThen_ok, run_getObj_map p3, hck, hfk, hcj, Option.map_some, Option.getD_some, hck', hkeep, run_setObj_map _ p3, Sem.run_pure]
          split at hs
          · rename_i hmf
            simp only [Option.some.injEq, Prod.mk.injEq] at hs
            obtain ⟨rfl, rfl⟩ := hs
            rcases mfind_spec k k n es ces.toList none 0 (by simpa using p4) (fun j x y a b => p5 j x y a (by simpa using b)) hmf with ⟨_, e2⟩ | ⟨y, j, c, e1, _⟩
            · refine fin _ _ _ _ rfl (hpreN e2) (by simp [p4]) (fun j a b ha hb => ?_) (fun j a b ha hb => ?_)
              · rw [List.getElem?_append] at ha
                rw [Array.getElem?_push] at hb
                by_cases hj : j = ces.size
                · rw [if_pos hj] at hb
                  rw [if_neg (by omega)] at ha
                  injection hb with hb
                  subst hb
                  rw [show j - es.length = 0 by omega] at ha
                  simp at ha
                  subst ha
                  exact hixv.symm ▸ rfl
                · rw [if_neg hj] at hb
                  have := (Array.getElem?_eq_some_iff.1 hb).1
                  rw [if_pos (by omega)] at ha
                  exact p5 j a b ha hb
              · rw [List.getElem?_append] at ha
                rw [Array.getElem?_push] at hb
                by_cases hj : j = ces.size
                · rw [if_pos hj] at hb
                  rw [if_neg (by omega)] at ha
                  injection hb with hb
                  subst hb
                  rw [show j - es.length = 0 by omega] at ha
                  simp at ha
                  subst ha
                  exact hx
                · rw [if_neg hj] at hb
                  have := (Array.getElem?_eq_some_iff.1 hb).1
                  rw [if_pos (by omega)] at ha
                  exact p6 j a b ha hb
            · cases e1
          · rename_i y0 hmf
            simp only [Option.some.injEq, Prod.mk.injEq] at hs
            obtain ⟨rfl, rfl⟩ := hs
            rcases mfind_spec k k n es ces.toList (some y0) 0 (by simpa using p4) (fun j x y a b => p5 j x y a (by simpa using b)) hmf with ⟨e1, _⟩ | ⟨y, j, c, e1, e2, e3, e4, e5, e6⟩
            · cases e1
            · have hcj : ces[j]? = some c := by simpa using e3
              have hjlt := (Array.getElem?_eq_some_iff.1 hcj).1
              rw [e6]
              rw [Nat.zero_add] at e5
              refine fin _ _ (ces.modify j fun e => { e with key := .int k n, val := xv }) clock rfl (hpreS j _ c e5 hcj e4) (by simp [p4]) (fun j' a b ha hb => ?_) (fun j' a b ha hb => ?_)
              · rw [List.getElem?_set] at ha
                rw [Array.getElem?_modify] at hb
                split at ha
                · rename_i hjj
                  rw [if_pos hjj, ← hjj, hcj] at hb
                  simp at hb
                  subst hb
                  split at ha
                  · injection ha with ha; subst ha; rfl
                  · cases ha
                · rename_i hjj
                  rw [if_neg hjj] at hb
                  exact p5 j' a b ha hb
              · rw [List.getElem?_set] at ha
                rw [Array.getElem?_modify] at hb
                split at ha
                · rename_i hjj
                  rw [if_pos hjj, ← hjj, hcj] at hb
                  simp at hb
                  subst hb
                  split at ha
                  · injection ha with ha; subst ha; exact hx
                  · cases ha
                · rename_i hjj
                  rw [if_neg hjj] at hb
                  exact p6 j' a b ha hb
          · cases hs
      · cases hs
    · cases hs
  · cases hs

theorem ok_insert (hF : FRep N M J fr tmps) (hH : HRep M J H w.heap) (hM : MRep M w.heap) {t kt e : TypeId} {k : IntKind} {m ix x : Operand} (ht : P.underlying t = some (.map kt e)) (hkt : P.underlying kt = some (.int k))
    (h : o.op = .insert t m ix x) (hs : dstep g i (.mapUpdate k m ix x) fr H = some (v, H')) : OpOK P M J H w g i (execOp (Act.eval ⟨tmps, ds⟩) o) v H' := by
  have he : execOp (Act.eval ⟨tmps, ds⟩) o = execOp (Act.eval ⟨tmps, ds⟩) { o with op := .mapUpdate t m ix x } := by simp only [execOp, h]
  rw [he]
  exact ok_mapUpdate (o := { o with op := .mapUpdate t m ix x }) hF hH hM ht hkt rfl hs

theorem ok_lenM (hF : FRep N M J fr tmps) (hH : HRep M J H w.heap) (hM : MRep M w.heap) {x : Operand} {t k e : TypeId} {args : Array Operand} {ts : Array TypeId} (ha : args.toList = [x]) (ht : ts.toList = [t]) (hu : P.underlying t = some (.map k e))
    (h : o.op = .call ⟨.builtin .len, args, ts⟩) (hs : dstep g i (.lenM x) fr H = some (v, H')) : OpOK P M J H w g i (execOp (Act.eval ⟨tmps, ds⟩) o) v H' := by
  have hx := ev_rep (ds := ds) hF x
  have ha' : args = #[x] := by cases args; simp_all
  have ht' : ts = #[t] := by cases ts; simp_all
  subst ha'; subst ht'
  have key : ∀ β (ces : Array MapEntry) clock, Act.eval ⟨tmps, ds⟩ x = .map (some β) → w.heap[β]? = some (.map ces clock) → (execOp (Act.eval ⟨tmps, ds⟩) o).run P w = .ok (.value (.int .i64 ces.size)) w := by
    intro β ces clock hp hb
    simp [execOp, h, resolve, invoke, builtin, Builtin.len_, run_underlying hu, hp, goInt, run_getObj_map hb]
  have key0 : Act.eval ⟨tmps, ds⟩ x = .map none → (execOp (Act.eval ⟨tmps, ds⟩) o).run P w = .ok (.value (.int .i64 (0 : Nat))) w := by
    intro hp
    simp [execOp, h, resolve, invoke, builtin, Builtin.len_, run_underlying hu, hp, goInt]
  simp only [dstep] at hs
  generalize hcv : Act.eval ⟨tmps, ds⟩ x = cv at hx key key0
  split at hs
  · rename_i ea
    rw [ea] at hx
    simp only [Option.some.injEq, Prod.mk.injEq] at hs
    obtain ⟨rfl, rfl⟩ := hs
    cases hx with
    | tmap es β clock ces hMb hl hk _ =>
      have := key β ces clock rfl (hM _ _ hMb)
      rw [← hl] at this
      exact .quiet hH hM this (.sc _)
  · rename_i ea
    rw [ea] at hx
    split at hs
    · rename_i es hg
      simp only [Option.some.injEq, Prod.mk.injEq] at hs
      obtain ⟨rfl, rfl⟩ := hs
      cases hx with
      | mref _ _ β l hJ hb =>
        obtain ⟨l', p1, p2⟩ := hH.blk _ _ _ hg rfl
        rw [hJ] at p1
        injection p1 with p1
        subst p1
        obtain ⟨β', ces, clock, q1, q2, q3, q4, q5⟩ := p2
        rw [hb] at q1
        injection q1 with q1
        subst q1
        have := key β ces clock rfl q2
        rw [← q3] at this
        exact .quiet hH hM this (.sc _)
    · cases hs
  · rename_i ea
    rw [ea] at hx
    simp only [Option.some.injEq, Prod.mk.injEq] at hs
    obtain ⟨rfl, rfl⟩ := hs
    cases hx
    exact .quiet hH hM (key0 rfl) (.sc _)
  · cases hs

theorem ok_eqNilM (hF : FRep N M J fr tmps) (hH : HRep M J H w.heap) (hM : MRep M w.heap) {neg : Bool} {t u k e : TypeId} {x : Operand} (ht : P.underlying t = some (.map k e))
    (h : o.op = .binOp (if neg then .neq else .eql) t x (.const (.map none)) u) (hs : dstep g i (.eqNilM neg x) fr H = some (v, H')) : OpOK P M J H w g i (execOp (Act.eval ⟨tmps, ds⟩) o) v H' := by
  have hx := ev_rep (ds := ds) hF x
  have key : ∀ (p : Option Nat), Act.eval ⟨tmps, ds⟩ x = .map p → (execOp (Act.eval ⟨tmps, ds⟩) o).run P w = .ok (.value (.bool (if neg then !p.isNone else p.isNone))) w := by
    intro p hp
    have hq0 : ∀ d, (Op.equalIn (d + 1) t (.map p) (.map none)).run P w = .ok p.isNone w := fun d => by
      cases p <;> simp [Op.equalIn, run_underlying ht]
    have hq : (Op.equal t (.map p) (.map none)).run P w = .ok p.isNone w := hq0 9999
    have hc : Act.eval ⟨tmps, ds⟩ (.const (.map none)) = .map none := rfl
    cases neg <;> simp [execOp, h, hp, hc, eqGuard, binOp, hq]
  simp only [dstep] at hs
  generalize hcv : Act.eval ⟨tmps, ds⟩ x = cv at hx key
  split at hs
  · rename_i ea
    rw [ea] at hx
    simp only [Option.some.injEq, Prod.mk.injEq] at hs
    obtain ⟨rfl, rfl⟩ := hs
    cases hx with
    | mref =>
      refine .quiet hH hM (key _ rfl) ?_
      cases neg <;> exact .sc _
  · rename_i ea
    rw [ea] at hx
    simp only [Option.some.injEq, Prod.mk.injEq] at hs
    obtain ⟨rfl, rfl⟩ := hs
    cases hx with
    | tmap =>
      refine .quiet hH hM (key _ rfl) ?_
      cases neg <;> exact .sc _
  · rename_i ea
    rw [ea] at hx
    simp only [Option.some.injEq, Prod.mk.injEq] at hs
    obtain ⟨rfl, rfl⟩ := hs
    cases hx
    refine .quiet hH hM (key _ rfl) ?_
    cases neg <;> exact .sc _
  · cases hs

theorem ok_eqNilS (hF : FRep N M J fr tmps) (hH : HRep M J H w.heap) (hM : MRep M w.heap) {neg : Bool} {t u e : TypeId} {x : Operand} (ht : P.underlying t = some (.slice e))
    (h : o.op = .binOp (if neg then .neq else .eql) t x (.const (.slice none 0 0)) u) (hs : dstep g i (.eqNilS neg x) fr H = some (v, H')) : OpOK P M J H w g i (execOp (Act.eval ⟨tmps, ds⟩) o) v H' := by
  have hx := ev_rep (ds := ds) hF x
  have key : ∀ (p : Option Addr) (n c : Nat), Act.eval ⟨tmps, ds⟩ x = .slice p n c → (execOp (Act.eval ⟨tmps, ds⟩) o).run P w = .ok (.value (.bool (if neg then !p.isNone else p.isNone))) w := by
    intro p n c hp
    have hq0 : ∀ d, (Op.equalIn (d + 1) t (.slice p n c) (.slice none 0 0)).run P w = .ok p.isNone w := fun d => by
      cases p <;> simp [Op.equalIn, run_underlying ht]
    have hq : (Op.equal t (.slice p n c) (.slice none 0 0)).run P w = .ok p.isNone w := hq0 9999
    have hc : Act.eval ⟨tmps, ds⟩ (.const (.slice none 0 0)) = .slice none 0 0 := rfl
    cases neg <;> simp [execOp, h, hp, hc, eqGuard, binOp, hq]
  simp only [dstep] at hs
  generalize hcv : Act.eval ⟨tmps, ds⟩ x = cv at hx key
  split at hs
  · rename_i ea
    rw [ea] at hx
    simp only [Option.some.injEq, Prod.mk.injEq] at hs
    obtain ⟨rfl, rfl⟩ := hs
    cases hx with
    | list =>
      refine .quiet hH hM (key _ _ _ rfl) ?_
      cases neg <;> exact .sc _
  · rename_i g' i' st len ea
    rw [ea] at hx
    cases len with
    | succ n =>
      simp only [Option.some.injEq, Prod.mk.injEq] at hs
      obtain ⟨rfl, rfl⟩ := hs
      cases hx with
      | hsl =>
        refine .quiet hH hM (key _ _ _ rfl) ?_
        cases neg <;> exact .sc _
    | zero =>
      simp only at hs
      split at hs
      · rename_i s r rs hg
        simp only [Option.some.injEq, Prod.mk.injEq] at hs
        obtain ⟨rfl, rfl⟩ := hs
        cases hx with
        | hsl =>
          refine .quiet hH hM (key _ _ _ rfl) ?_
          cases neg <;> exact .sc _
        | hslNil _ _ l hJ hb =>
          obtain ⟨l', p1, p2, p3, p4⟩ := hH.blk _ _ _ hg rfl
          rw [hJ] at p1
          injection p1 with p1
          subst p1
          rw [hb] at p4
          cases p4
      · cases hs
  · rename_i ea
    rw [ea] at hx
    simp only [Option.some.injEq, Prod.mk.injEq] at hs
    obtain ⟨rfl, rfl⟩ := hs
    cases hx
    refine .quiet hH hM (key _ _ _ rfl) ?_
    cases neg <;> exact .sc _
  · cases hs

end
end Go.Av
