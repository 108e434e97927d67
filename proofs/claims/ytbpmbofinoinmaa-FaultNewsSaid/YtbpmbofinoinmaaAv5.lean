import Derived.Test.YtbpmbofinoinmaaAv4
namespace Go.Av

/-- What an operation gives, and what it does to memory. -/
def OpOK (P : Program) (M : Mem) (J : Inj) (H : Heap) (w : World) (g i : Nat) (s : Sem Next) (v : AV) (H' : Heap) : Prop :=
  ∃ cv w' J', (s.run P w = .ok (.value cv) w' ∨ (s.run P w = .ok .skip w' ∧ cv = Go.undef)) ∧ Rep M J' v cv ∧ Ext M J M J' ∧ (∀ k, Step k M J H w M J' H' w') ∧
    ∀ g' i', ¬ (g' = g ∧ i' = i) → J' g' i' = J g' i'

section
variable {P : Program} {M : Mem} {J : Inj} {H : Heap} {w : World} {g i : Nat}

theorem OpOK.quiet (hH : HRep M J H w.heap) (hM : MRep M w.heap) {s : Sem Next} {v : AV} {cv : Value} (h : s.run P w = .ok (.value cv) w) (hr : Rep M J v cv) : OpOK P M J H w g i s v H :=
  ⟨cv, w, J, .inl h, hr, .refl _ _, fun k => .refl k hH hM, fun _ _ _ => rfl⟩

theorem OpOK.new (hH : HRep M J H w.heap) (hM : MRep M w.heap) (hn : hok H g i) (hJ : J g i = none) {s : Sem Next} {v : AV} {cv : Value} {w' : World} (o : Obj) (x : Blk) (l : Loc)
    (hw : w'.heap = w.heap.push o) (hos : w'.os = w.os) (htape : w'.tape = w.tape) (hout : w'.output = w.output) (h : s.run P w = .ok (.value cv) w') (hl : l.blk = some w.heap.size)
    (hx : BRep M J l w'.heap x) (hr : Rep M (J.set g i l) v cv) : OpOK P M J H w g i s v (hset H g i x) :=
  ⟨cv, w', J.set g i l, .inl h, hr, Inj.set_ext l hJ M, fun k => Step.alloc k hH hM g i hn hJ (some o) x l (by rw [hl]; rfl) hx hw hos htape hout, fun g' i' hne => by simp only [Inj.set, if_neg hne]⟩

theorem zOf_some {t : TypeId} {z : List (Nat × Value)} (h : zOf P t = some z) : ∃ inf zv, P.info? t = some inf ∧ inf.zero = some zv ∧ zv.cells.size = inf.size ∧ (∀ v ∈ zv.cells, v.oneCell' = true) ∧ unrle z = zv.cells.toList := by
  unfold zOf at h
  split at h
  · rename_i inf hi
    split at h
    · rename_i zv hz
      split at h
      · rename_i hb
        simp only [Bool.and_eq_true, Array.all_eq_true] at hb
        injection h with h
        subst h
        refine ⟨inf, zv, hi, hz, Nat.eq_of_beq_eq_true hb.1, fun v hv => ?_, unrle_rle _⟩
        obtain ⟨j, hj, rfl⟩ := Array.mem_iff_getElem.1 hv
        exact hb.2 j hj
      · cases h
    · cases h
  · cases h

theorem run_zeroValue {t : TypeId} {inf : TypeInfo} {zv : Value} (hi : P.info? t = some inf) (hz : inf.zero = some zv) (w : World) : (zeroValue t).run P w = .ok zv w := by
  simp [zeroValue, typeInfo, hi, hz]

theorem run_newVar (t : TypeId) (v : Value) (w : World) : (newVar t v).run P w = .ok ⟨w.heap.size, 0, none⟩ { w with heap := w.heap.push (.cells v.cells t) } := by
  simp [newVar, newRow]

theorem get_push (h : Array Obj) (o : Obj) : (h.push o)[h.size]? = some o := by simp

/-- A row of cells, all of them of one cell, is a block. -/
theorem BRep.row (l : Loc) (h : Array Obj) (β : Nat) (cs : Array Value) (e : TypeId) (xs : List AV) (hl : l.blk = some β) (hsz : l.sz = xs.length) (htot : cs.size = l.tot) (hh : h[β]? = some (.cells cs e (0, 0)))
    (hlen : xs.length = cs.size) (h1 : ∀ (j : Nat) v, cs[j]? = some v → v.oneCell' = true) (hr : ∀ (j : Nat) c v, xs[j]? = some c → cs[j]? = some v → Rep M J c v) : BRep M J l h (.cells xs.length [xs]) := by
  refine ⟨hsz, fun q r hq => ?_, ?_⟩
  · cases q with
    | zero => simp at hq; subst hq; rfl
    | succ q => simp at hq
  · rw [hl]
    refine ⟨cs, e, hh, htot, by simp; omega, fun j v _ hv => h1 j v hv, fun q r j c v hq hj hv => ?_⟩
    cases q with
    | zero => simp at hq hv; subst hq; exact hr j c v hj hv
    | succ q => simp at hq

variable {N : Nat} {fr : Fr} {tmps : Array Value} {ds : List Deferred} {o : Oper} {v : AV} {H' : Heap}

theorem Rep.ptr0 {l : Loc} {β : Nat} (hJ : J g i = some l) (hb : l.blk = some β) : Rep M J (.ptr g i 0 0) (.pointer (some ⟨β, 0, none⟩)) := by
  have := Rep.ptr (M := M) g i 0 0 β l hJ hb
  rwa [Nat.zero_mul] at this

theorem Inj.set_self (l : Loc) : (J.set g i l) g i = some l := by simp [Inj.set]

theorem ok_move (hF : FRep N M J fr tmps) (hH : HRep M J H w.heap) (hM : MRep M w.heap) {x : Operand} (h : o.op = .move x ∨ o.op = .assign x) (hs : dstep g i (.move x) fr H = some (v, H')) :
    OpOK P M J H w g i (execOp (Act.eval ⟨tmps, ds⟩) o) v H' := by
  simp only [dstep, fz_eq, Option.some.injEq, Prod.mk.injEq] at hs
  obtain ⟨rfl, rfl⟩ := hs
  refine .quiet hH hM (cv := Act.eval ⟨tmps, ds⟩ x) ?_ (ev_rep hF x)
  rcases h with h | h <;> simp [execOp, h]

theorem Rep.sc_inv {a : Value} {cv : Value} (h : Rep M J (.sc a) cv) : cv = a := by cases h; rfl

theorem ok_pick (hF : FRep N M J fr tmps) (hH : HRep M J H w.heap) (hM : MRep M w.heap) {c a b : Operand} (h : o.op = .pick c a b) (hs : dstep g i (.pick c a b) fr H = some (v, H')) :
    OpOK P M J H w g i (execOp (Act.eval ⟨tmps, ds⟩) o) v H' := by
  have hc := ev_rep (ds := ds) hF c
  simp only [dstep] at hs
  split at hs
  · rename_i e
    rw [e] at hc
    simp only [fz_eq, Option.some.injEq, Prod.mk.injEq] at hs
    obtain ⟨rfl, rfl⟩ := hs
    exact .quiet hH hM (cv := Act.eval ⟨tmps, ds⟩ a) (by simp [execOp, h, hc.sc_inv, asBool]) (ev_rep hF a)
  · rename_i e
    rw [e] at hc
    simp only [fz_eq, Option.some.injEq, Prod.mk.injEq] at hs
    obtain ⟨rfl, rfl⟩ := hs
    exact .quiet hH hM (cv := Act.eval ⟨tmps, ds⟩ b) (by simp [execOp, h, hc.sc_inv, asBool]) (ev_rep hF b)
  · cases hs

theorem ok_alloc (hH : HRep M J H w.heap) (hM : MRep M w.heap) (hn : hok H g i) (hJ : J g i = none) {t : TypeId} {z : List (Nat × Value)} (hz : zOf P t = some z) (h : o.op = .alloc t)
    (hs : dstep g i (.alloc z) fr H = some (v, H')) : OpOK P M J H w g i (execOp (Act.eval ⟨tmps, ds⟩) o) v H' := by
  obtain ⟨inf, zv, hi, hz0, hsize, hone, hun⟩ := zOf_some hz
  simp only [dstep, Option.some.injEq, Prod.mk.injEq] at hs
  obtain ⟨rfl, rfl⟩ := hs
  have hlen : (zrow z).length = zv.cells.size := by rw [zrow_eq, hun]; simp
  refine .new hH hM hn hJ (w' := { w with heap := w.heap.push (.cells zv.cells t) }) (.cells zv.cells t) _ ⟨some w.heap.size, (zrow z).length, zv.cells.size⟩ rfl rfl rfl rfl
    (cv := .pointer (some ⟨w.heap.size, 0, none⟩)) ?_ rfl ?_ ?_
  · simp [execOp, h, Instr.alloc, run_zeroValue hi hz0, run_newVar]
  · refine BRep.row _ _ w.heap.size zv.cells t (zrow z) rfl rfl rfl (get_push _ _) hlen (fun j v hv => hone v (Array.mem_of_getElem? hv)) fun j c v hc hv => ?_
    rw [zrow_eq, hun, List.getElem?_map, Array.getElem?_toList, hv] at hc
    simp at hc
    subst hc
    exact .sc v
  · exact Rep.ptr0 (Inj.set_self _) rfl

theorem ok_box (hF : FRep N M J fr tmps) (hH : HRep M J H w.heap) (hM : MRep M w.heap) (hn : hok H g i) (hJ : J g i = none) {t : TypeId} {x : Operand} (h : o.op = .box t x)
    (hs : dstep g i (.box x) fr H = some (v, H')) : OpOK P M J H w g i (execOp (Act.eval ⟨tmps, ds⟩) o) v H' := by
  have hx := ev_rep (ds := ds) hF x
  simp only [dstep] at hs
  split at hs
  · rename_i cs hcs
    split at hs
    · rename_i hall
      simp only [Option.some.injEq, Prod.mk.injEq] at hs
      obtain ⟨rfl, rfl⟩ := hs
      obtain ⟨hl, hrep⟩ := hx.cs hcs
      refine .new hH hM hn hJ (w' := { w with heap := w.heap.push (.cells (Act.eval ⟨tmps, ds⟩ x).cells t) }) (.cells (Act.eval ⟨tmps, ds⟩ x).cells t) _
        ⟨some w.heap.size, cs.length, (Act.eval ⟨tmps, ds⟩ x).cells.size⟩ rfl rfl rfl rfl (cv := .pointer (some ⟨w.heap.size, 0, none⟩)) ?_ rfl ?_ ?_
      · simp [execOp, h, Instr.box, run_newVar]
      · refine BRep.row _ _ w.heap.size _ t cs rfl rfl rfl (get_push _ _) hl (fun j v hv => ?_) hrep
        have hj : j < cs.length := by rw [hl]; exact (Array.getElem?_eq_some_iff.1 hv).1
        exact (hrep j cs[j] v (List.getElem?_eq_getElem hj) hv).cell1 (List.all_eq_true.1 hall _ (List.getElem_mem hj))
      · exact Rep.ptr0 (Inj.set_self _) rfl
    · cases hs
  · cases hs

theorem ldAV_agg {sz : Nat} {cells : List AV} (h : ldAV sz true cells = some v) : sz ≤ cells.length ∧ v = .agg (cells.take sz) := by
  simp only [ldAV] at h
  split at h
  · rename_i hb
    injection h with h
    exact ⟨Nat.le_of_ble_eq_true hb, h.symm⟩
  · cases h

theorem ldAV_one {sz : Nat} {cells : List AV} (h : ldAV sz false cells = some v) : cells[0]? = some v := by
  cases cells with
  | nil => cases h
  | cons c r => simpa [ldAV] using h

theorem varOf_some {t : TypeId} {sz : Nat} {agg : Bool} (h : varOf P t = some (sz, agg)) : szOf P t = some sz ∧ aggOf P t = some agg ∧ 0 < sz := by
  unfold varOf at h
  split at h
  · rename_i n h1 h2
    simp only [Option.some.injEq, Prod.mk.injEq] at h
    obtain ⟨rfl, rfl⟩ := h
    exact ⟨h1, h2, Nat.succ_pos _⟩
  · rename_i h1 h2
    simp only [Option.some.injEq, Prod.mk.injEq] at h
    obtain ⟨rfl, rfl⟩ := h
    exact ⟨h1, h2, Nat.one_pos⟩
  · cases h

theorem run_isAgg {t : TypeId} {b : Bool} (h : aggOf P t = some b) (w : World) : (isAgg t).run P w = .ok b w := by
  unfold aggOf at h
  unfold isAgg
  split at h <;> simp_all [run_underlying]

theorem run_sizeOf {t : TypeId} {n : Nat} (h : szOf P t = some n) (w : World) : (sizeOf t).run P w = .ok n w := by
  unfold szOf at h
  cases e : P.info? t with
  | none => rw [e] at h; cases h
  | some inf =>
    rw [e] at h
    simp at h
    simp [sizeOf, typeInfo, e, h]

/-- A load out of a block whose cells are known. -/
theorem run_loadVar {t : TypeId} {sz : Nat} {agg : Bool} (h : varOf P t = some (sz, agg)) {β off : Nat} {cs : Array Value} {e : TypeId} {f : Nat × Nat} (hb : w.heap[β]? = some (.cells cs e f)) {cells : List AV}
    (hl : ldAV sz agg cells = some v) (hle : cells = [] ∨ off + cells.length ≤ cs.size) (hr : ∀ (j : Nat) c x, cells[j]? = some c → cs[off + j]? = some x → Rep M J c x) :
    ∃ cv, (loadVar t ⟨β, off, none⟩).run P w = .ok cv w ∧ Rep M J v cv := by
  obtain ⟨h1, h2, h3⟩ := varOf_some h
  cases agg with
  | true =>
    obtain ⟨hsz, rfl⟩ := ldAV_agg hl
    have hle' : off + sz ≤ cs.size := by
      rcases hle with rfl | hle
      · simp at hsz; omega
      · omega
    refine ⟨.agg (cs.extract off (off + sz)), ?_, ?_⟩
    · simp [loadVar, run_isAgg h2, run_sizeOf h1, run_loadCells_block P hb hle']
    · refine .agg _ _ (by simp; omega) fun j c x hc hx => ?_
      have hj : j < sz := by
        have := (List.getElem?_eq_some_iff.1 hc).1
        simp at this; omega
      rw [List.getElem?_take, if_pos hj] at hc
      rw [Array.getElem?_extract] at hx
      split at hx
      · exact hr j c x hc hx
      · cases hx
  | false =>
    have h0 := ldAV_one hl
    have hlt : off < cs.size := by
      rcases hle with rfl | hle
      · simp at h0
      · have := (List.getElem?_eq_some_iff.1 h0).1; omega
    refine ⟨cs[off], ?_, hr 0 v cs[off] h0 (by simp [hlt])⟩
    simp [loadVar, run_isAgg h2, cell_block hb, hlt]

end
end Go.Av
