import Derived.Test.YtbpmbofinoinmaaAv7
namespace Go.Av
section
variable {P : Program} {M : Mem} {J : Inj} {H : Heap} {w : World} {g i : Nat}
variable {N : Nat} {fr : Fr} {tmps : Array Value} {ds : List Deferred} {o : Oper} {v : AV} {H' : Heap}

theorem run_mapM {α β : Type} (f : α → Sem β) (h : α → β) : ∀ (l : List α), (∀ x ∈ l, (f x).run P w = .ok (h x) w) → (l.mapM f).run P w = .ok (l.map h) w
  | [], _ => by simp
  | x :: l, hf => by
    have h1 := hf x (List.mem_cons_self ..)
    have h2 := run_mapM f h l fun y hy => hf y (List.mem_cons_of_mem _ hy)
    simp [h1, h2]

theorem run_arr_mapM {α β : Type} (f : α → Sem β) (h : α → β) (a : Array α) (hf : ∀ x ∈ a.toList, (f x).run P w = .ok (h x) w) : (a.mapM f).run P w = .ok (a.map h) w := by
  rw [Array.mapM_eq_mapM_toList]
  simp only [Sem.run_map, run_mapM f h a.toList hf, Result.andThen_ok]
  congr 1
  apply Array.ext'
  simp

theorem foldl_splice (l : List Value) : ∀ (cs : Array Value) (off k : Nat), (l.zipIdx k).foldl (fun cs (x : Value × Nat) => cs.setIfInBounds (off + x.2) x.1) cs = splice cs (off + k) l := by
  induction l with
  | nil => intro cs off k; rfl
  | cons v l ih =>
    intro cs off k
    simp only [List.zipIdx_cons, List.foldl_cons, splice]
    rw [ih, Nat.add_assoc]

theorem foldl_splice' (a : Array Value) (cs : Array Value) (off : Nat) : a.zipIdx.foldl (fun cs (x : Value × Nat) => cs.setIfInBounds (off + x.2) x.1) cs = splice cs off a.toList := by
  rw [← Array.foldl_toList, Array.toList_zipIdx, foldl_splice, Nat.add_zero]

/-- A row of cells that stand for concrete ones. -/
def RowRep (M : Mem) (J : Inj) (xs : List AV) (cs : Array Value) : Prop := xs.length = cs.size ∧ ∀ (j : Nat) c v, xs[j]? = some c → cs[j]? = some v → Rep M J c v

theorem RowRep.splice {xs : List AV} {cs : Array Value} (h : RowRep M J xs cs) {ys : List AV} {ws : List Value} (hl : ys.length = ws.length) (hr : ∀ (j : Nat) c v, ys[j]? = some c → ws[j]? = some v → Rep M J c v) (off : Nat) :
    RowRep M J (lsplice xs off ys) (splice cs off ws) := by
  refine ⟨by simp [h.1], fun j c v hc hv => ?_⟩
  rw [get_lsplice] at hc
  rw [get_splice] at hv
  have := h.1
  split at hc
  · rename_i hh
    rw [if_pos (by omega)] at hv
    exact hr _ c v hc hv
  · rename_i hh
    rw [if_neg (by omega)] at hv
    exact h.2 j c v hc hv

theorem lay_rep (hF : FRep N M J fr tmps) (fs : Array Field) : ∀ (parts : List (Nat × Operand)) (lp : List (Nat × Nat × Operand)) (xs ys : List AV) (cs : Array Value), partOf P fs parts = some lp →
    lay xs (lp.map fun p => (p.1, p.2.1, ev fr p.2.2)) = some ys → RowRep M J xs cs →
    ∃ cs', Instr.fill ((fs.map fun f => (f.offset, P.cellsOf f.type))[·]?) cs (parts.map fun p => (p.1, Act.eval ⟨tmps, ds⟩ p.2)) = some cs' ∧ RowRep M J ys cs' := by
  intro parts
  induction parts with
  | nil =>
    intro lp xs ys cs hp hl hr
    simp [partOf] at hp
    subst hp
    simp [lay] at hl
    subst hl
    exact ⟨cs, rfl, hr⟩
  | cons p parts ih =>
    obtain ⟨k, x⟩ := p
    intro lp xs ys cs hp hl hr
    simp only [partOf] at hp
    split at hp
    · rename_i f q hf hq
      split at hp
      · rename_i n hn
        injection hp with hp
        subst hp
        simp only [List.map_cons, lay] at hl
        split at hl
        · rename_i c hc
          split at hl
          · rename_i hb
            simp only [Bool.and_eq_true] at hb
            have hcn : c.length = n := Nat.eq_of_beq_eq_true hb.1
            have hle : f.offset + n ≤ xs.length := Nat.le_of_ble_eq_true hb.2
            obtain ⟨h1, h2⟩ := (ev_rep (ds := ds) hF x).cs hc
            have hsz : P.cellsOf f.type = n := by
              unfold szOf at hn
              unfold Program.cellsOf
              rw [hn]; rfl
            obtain ⟨cs', h3, h4⟩ := ih q _ ys (splice cs f.offset (Act.eval ⟨tmps, ds⟩ x).cells.toList) hq hl (hr.splice (by simpa using h1) (fun j c v a b => h2 j c v a (by simpa using b)) f.offset)
            refine ⟨cs', ?_, h4⟩
            have hr1 := hr.1
            simp only [List.map_cons, Instr.fill, Array.getElem?_map, hf, Option.map_some]
            rw [if_neg (by
              simp only [Bool.or_eq_true, decide_eq_true_eq, not_or]
              rw [hsz]
              omega)]
            rw [foldl_splice']
            simp only [Array.getElem?_map] at h3
            exact h3
          · cases hl
        · cases hl
      · cases hp
    · cases hp

theorem ok_build (hF : FRep N M J fr tmps) (hH : HRep M J H w.heap) (hM : MRep M w.heap) {t : TypeId} {fs : Array Field} {z : List (Nat × Value)} {parts : Array (Nat × Operand)} {lp : List (Nat × Nat × Operand)}
    (ht : P.underlying t = some (.struct fs)) (hz : zOf P t = some z) (hall : fs.all (fun f => (szOf P f.type).isSome) = true) (hp : partOf P fs parts.toList = some lp) (h : o.op = .build t parts)
    (hs : dstep g i (.build z lp) fr H = some (v, H')) : OpOK P M J H w g i (execOp (Act.eval ⟨tmps, ds⟩) o) v H' := by
  obtain ⟨inf, zv, hi, hz0, hsize, hone, hun⟩ := zOf_some hz
  simp only [dstep] at hs
  split at hs
  · rename_i ys hl
    simp only [Option.some.injEq, Prod.mk.injEq] at hs
    obtain ⟨rfl, rfl⟩ := hs
    have hz1 : RowRep M J (zrow z) zv.cells := ⟨by rw [zrow_eq, hun]; simp, fun j c v hc hv => by rw [zrow_get hun hc hv]; exact .sc v⟩
    obtain ⟨cs', h1, h2⟩ := lay_rep (P := P) (ds := ds) hF fs parts.toList lp _ ys zv.cells hp hl hz1
    refine .quiet hH hM (cv := .agg cs') ?_ (.agg _ _ h2.1 h2.2)
    have hm : (fs.mapM fun f => (do pure (f.offset, ← sizeOf f.type) : Sem (Nat × Nat))).run P w = .ok (fs.map fun f => (f.offset, P.cellsOf f.type)) w := by
      refine run_arr_mapM _ _ _ fun f hf => ?_
      have hsome : (szOf P f.type).isSome = true := by
        obtain ⟨j, hj, rfl⟩ := List.mem_iff_getElem.1 hf
        rw [Array.all_eq_true] at hall
        simp at hj
        simpa using hall j hj
      rw [Option.isSome_iff_exists] at hsome
      obtain ⟨n, hn⟩ := hsome
      have : P.cellsOf f.type = n := by
        have := hn
        unfold szOf at this
        unfold Program.cellsOf
        rw [this]; rfl
      simp [run_sizeOf hn, this]
    have hfill : Instr.fill ((fs.map fun f => (f.offset, P.cellsOf f.type))[·]?) zv.cells (parts.map fun p => (p.1, Act.eval ⟨tmps, ds⟩ p.2)).toList = some cs' := by
      rw [Array.toList_map]; exact h1
    simp only [execOp, h, Instr.build, Sem.run_bind, run_zeroValue hi hz0, Result.andThen_ok, run_underlying ht, hm, hfill, Sem.run_pure]
  · cases hs

/-- Rows that stand for the cells of a block. -/
def RowsRep (M : Mem) (J : Inj) (sz : Nat) (rows : List (List AV)) (cs : Array Value) : Prop :=
  rows.length * sz = cs.size ∧ (∀ (q : Nat) (r : List AV), rows[q]? = some r → r.length = sz) ∧ (∀ (j : Nat) v, cs[j]? = some v → v.oneCell' = true) ∧
    ∀ (q : Nat) (r : List AV) (j : Nat) c v, rows[q]? = some r → r[j]? = some c → cs[q * sz + j]? = some v → Rep M J c v

theorem layRows_rep (hF : FRep N M J fr tmps) (sz : Nat) : ∀ (parts : List (Nat × Operand)) (xs ys : List (List AV)) (cs : Array Value),
    layRows sz xs (parts.map fun p => (p.1, ev fr p.2)) = some ys → RowsRep M J sz xs cs →
    ∃ cs', Instr.fill (fun i => some (i * sz, sz)) cs (parts.map fun p => (p.1, Act.eval ⟨tmps, ds⟩ p.2)) = some cs' ∧ RowsRep M J sz ys cs' ∧ cs'.size = cs.size := by
  intro parts
  induction parts with
  | nil =>
    intro xs ys cs hl hr
    simp [layRows] at hl
    subst hl
    exact ⟨cs, rfl, hr, rfl⟩
  | cons p parts ih =>
    obtain ⟨k, x⟩ := p
    intro xs ys cs hl hr
    simp only [List.map_cons, layRows] at hl
    split at hl
    · rename_i c hc
      split at hl
      · rename_i hb
        simp only [Bool.and_eq_true] at hb
        have hcn : c.length = sz := Nat.eq_of_beq_eq_true hb.1
        have hk : k < xs.length := Nat.le_of_ble_eq_true hb.2.1
        obtain ⟨h1, h2⟩ := (ev_rep (ds := ds) hF x).cs hc
        generalize hxv : Act.eval ⟨tmps, ds⟩ x = xv at h1 h2
        obtain ⟨r1, r2, r3, r4⟩ := hr
        have hkle := row_le (sz := sz) hk
        have hone : ∀ y ∈ xv.cells.toList, y.oneCell' = true := fun y hy => by
          obtain ⟨j, hj, rfl⟩ := List.mem_iff_getElem.1 hy
          simp at hj
          have hjc : j < c.length := by omega
          exact (h2 j c[j] _ (List.getElem?_eq_getElem hjc) (by simp [hj])).cell1 (List.all_eq_true.1 hb.2.2 _ (List.getElem_mem hjc))
        have hlen : xv.cells.toList.length = sz := by simp; omega
        have hnew : RowsRep M J sz (xs.set k c) (splice cs (k * sz) xv.cells.toList) := by
          refine ⟨by simp [r1], fun q r hq => ?_, fun j y hy => ?_, fun q r j c' y hq hc' hy => ?_⟩
          · rw [List.getElem?_set] at hq
            split at hq
            · rename_i e
              subst e
              injection hq with hq
              subst hq
              exact hcn
            · exact r2 q r hq
          · rw [get_splice] at hy
            split at hy
            · exact hone y (List.mem_of_getElem? hy)
            · exact r3 j y hy
          · rw [List.getElem?_set] at hq
            rw [get_splice] at hy
            split at hq
            · rename_i e
              subst e
              injection hq with hq
              subst hq
              have hj := (List.getElem?_eq_some_iff.1 hc').1
              rw [if_pos (by rw [hlen]; omega)] at hy
              rw [show k * sz + j - k * sz = j by omega] at hy
              exact h2 j c' y hc' (by simpa using hy)
            · rename_i e
              have hj := (List.getElem?_eq_some_iff.1 hc').1
              rw [r2 q r hq] at hj
              rw [if_neg] at hy
              · exact r4 q r j c' y hq hc' hy
              · rw [hlen]
                rcases Nat.lt_or_gt_of_ne e with hlt | hgt
                · have := row_le (sz := sz) hlt; omega
                · have := row_le (sz := sz) hgt; omega
        obtain ⟨cs', h3, h4, h5⟩ := ih _ ys _ hl hnew
        refine ⟨cs', ?_, h4, by rw [h5]; simp⟩
        simp only [List.map_cons, Instr.fill, hxv]
        rw [if_neg (by
          simp only [Bool.or_eq_true, decide_eq_true_eq, not_or]
          omega)]
        rw [foldl_splice']
        exact h3
      · cases hl
    · cases hl

theorem ok_buildSlice (hF : FRep N M J fr tmps) (hH : HRep M J H w.heap) (hM : MRep M w.heap) (hn : hok H g i) (hJ : J g i = none) {t e : TypeId} {sz n : Nat} {z : List (Nat × Value)} {parts : Array (Nat × Operand)}
    (ht : P.underlying t = some (.slice e)) (hsz : szOf P e = some sz) (hz : zOf P e = some z) (hlim : n * sz ≤ 16777216) (hpos : 0 < sz) (h : o.op = .buildSlice t n parts)
    (hs : dstep g i (.buildSlice sz z n parts.toList) fr H = some (v, H')) : OpOK P M J H w g i (execOp (Act.eval ⟨tmps, ds⟩) o) v H' := by
  obtain ⟨inf, zv, hi, hz0, hsize, hone, hun⟩ := zOf_some hz
  have hszi : inf.size = sz := by
    unfold szOf at hsz
    rw [hi] at hsz
    simpa using hsz
  have hzs : zv.cells.size = sz := by omega
  simp only [dstep] at hs
  split at hs
  · rename_i ys hl
    simp only [Option.some.injEq, Prod.mk.injEq] at hs
    obtain ⟨rfl, rfl⟩ := hs
    have hzl : (zrow z).length = sz := by rw [zrow_eq, hun]; simp [hzs]
    have h0 : RowsRep M J sz (List.replicate n (zrow z)) (madeCells zv.cells (n * sz)) := by
      refine ⟨by simp [size_madeCells], fun q r hq => ?_, fun j y hy => ?_, fun q r j c y hq hc hy => ?_⟩
      · rw [List.getElem?_replicate] at hq
        split at hq
        · injection hq with hq; subst hq; exact hzl
        · cases hq
      · have hj : j < n * sz := by have := (Array.getElem?_eq_some_iff.1 hy).1; rwa [size_madeCells] at this
        have hjm : j % sz < sz := Nat.mod_lt _ hpos
        rw [get_madeCells _ _ _ hj, hzs, getElem!_pos zv.cells (j % sz) (by omega)] at hy
        injection hy with hy
        subst hy
        exact hone _ (Array.getElem_mem _)
      · rw [List.getElem?_replicate] at hq
        split at hq
        · rename_i hqn
          injection hq with hq
          subst hq
          have hj : j < sz := by rw [← hzl]; exact (List.getElem?_eq_some_iff.1 hc).1
          have := row_le (sz := sz) hqn
          rw [zrow_get hun hc (get_madeCells_lt hzs hj (by omega) hy)]
          exact .sc y
        · cases hq
    obtain ⟨cs', h1, ⟨r1, r2, r3, r4⟩, h3⟩ := layRows_rep (ds := ds) hF sz parts.toList _ ys _ hl h0
    have hylen : ys.length = n := by
      have : ys.length * sz = n * sz := by rw [r1, h3, size_madeCells]
      exact Nat.eq_of_mul_eq_mul_right hpos this
    refine .new hH hM hn hJ (w' := { w with heap := w.heap.push (.cells cs' e) }) (.cells cs' e) _ ⟨some w.heap.size, sz, n * sz⟩ rfl rfl rfl rfl (cv := .slice (some ⟨w.heap.size, 0, none⟩) n n) ?_ rfl ?_ ?_
    · have hlim' : ¬ (16777216 < n * sz) := by omega
      have hfill : Instr.fill (fun i => some (i * sz, sz)) ((Array.range (n * sz)).map (zv.cells[· % zv.cells.size]!)) (parts.map fun p => (p.1, Act.eval ⟨tmps, ds⟩ p.2)).toList = some cs' := by
        rw [Array.toList_map]; exact h1
      by_cases h0' : n * sz = 0
      · have hfill0 : Instr.fill (fun i => some (i * sz, sz)) ((Array.range (n * sz)).map ((#[] : Array Value)[· % (#[] : Array Value).size]!)) (parts.map fun p => (p.1, Act.eval ⟨tmps, ds⟩ p.2)).toList = some cs' := by
          rw [h0'] at hfill ⊢
          rw [show Array.range 0 = #[] from rfl, Array.map_empty] at hfill ⊢
          exact hfill
        simp only [execOp, h, Instr.buildSlice, Sem.run_bind, run_underlying ht, Result.andThen_ok, run_sizeOf hsz, newRow, Sem.run_pure]
        rw [if_neg (by show ¬ (n * sz > 2 ^ 24); omega), if_pos h0']
        simp only [Sem.run_pure, Result.andThen_ok, hfill0, Sem.run_bind, run_newObj]
      · simp only [execOp, h, Instr.buildSlice, Sem.run_bind, run_underlying ht, Result.andThen_ok, run_sizeOf hsz]
        rw [if_neg (by show ¬ (n * sz > 2 ^ 24); omega), if_neg h0']
        simp only [Sem.run_bind, run_zeroValue hi hz0, Sem.run_pure, Result.andThen_ok, hfill, newRow, run_newObj]
    · refine ⟨rfl, r2, cs', e, get_push _ _, by rw [h3, size_madeCells], by rw [hylen]; exact Nat.le_refl _, fun j y _ hy => r3 j y hy, r4⟩
    · have := Rep.hsl (M := M) (J := J.set g i ⟨some w.heap.size, sz, n * sz⟩) g i 0 n n w.heap.size _ (Inj.set_self _) rfl (by simp) (Nat.le_refl _)
      rwa [Nat.zero_mul] at this
  · cases hs

end
end Go.Av
