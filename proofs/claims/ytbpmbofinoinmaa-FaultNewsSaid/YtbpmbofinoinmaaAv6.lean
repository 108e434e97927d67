import Derived.Test.YtbpmbofinoinmaaAv5
import Derived.Laws.StructEq
namespace Go.Av
section
variable {P : Program} {M : Mem} {J : Inj} {H : Heap} {w : World} {g i : Nat}
variable {N : Nat} {fr : Fr} {tmps : Array Value} {ds : List Deferred} {o : Oper} {v : AV} {H' : Heap}

/-- A block of cells, as it lies. -/
theorem HRep.cells {H : Heap} {h : Array Obj} (hH : HRep M J H h) {g i sz : Nat} {rows : List (List AV)} (hg : hget H g i = some (.cells sz rows)) :
    ∃ l, J g i = some l ∧ l.sz = sz ∧ (∀ (q : Nat) (r : List AV), rows[q]? = some r → r.length = sz) ∧
      ∀ β, l.blk = some β → ∃ cs e, h[β]? = some (.cells cs e (0, 0)) ∧ cs.size = l.tot ∧ rows.length * sz ≤ l.tot ∧ (∀ (j : Nat) v, j < rows.length * sz → cs[j]? = some v → v.oneCell' = true) ∧
        ∀ (q : Nat) (r : List AV) (j : Nat) c v, rows[q]? = some r → r[j]? = some c → cs[q * sz + j]? = some v → Rep M J c v := by
  obtain ⟨l, h1, h2, h3, h4⟩ := hH.blk g i _ hg rfl
  refine ⟨l, h1, h2, h3, fun β hβ => ?_⟩
  rw [hβ] at h4
  exact h4

theorem row_le {n sz q : Nat} (h : q < n) : q * sz + sz ≤ n * sz := by
  have : (q + 1) * sz ≤ n * sz := Nat.mul_le_mul_right _ h
  rw [Nat.add_mul] at this
  omega

theorem ok_load (hF : FRep N M J fr tmps) (hH : HRep M J H w.heap) (hM : MRep M w.heap) {t : TypeId} {sz : Nat} {agg : Bool} {a : Operand} (hv : varOf P t = some (sz, agg)) (h : o.op = .load t a)
    (hs : dstep g i (.load sz agg a) fr H = some (v, H')) : OpOK P M J H w g i (execOp (Act.eval ⟨tmps, ds⟩) o) v H' := by
  have ha := ev_rep (ds := ds) hF a
  simp only [dstep] at hs
  split at hs
  · rename_i cells e
    rw [e] at ha
    split at hs
    · rename_i v' hl
      simp only [Option.some.injEq, Prod.mk.injEq] at hs
      obtain ⟨rfl, rfl⟩ := hs
      generalize hcv : Act.eval ⟨tmps, ds⟩ a = cv at ha
      cases ha with
      | cptr _ β off cs e f hMb hle hr =>
        obtain ⟨x, hx, hrx⟩ := run_loadVar hv (hM _ _ hMb) hl hle hr
        exact .quiet hH hM (by simp [execOp, h, Instr.loadAt, hcv, Instr.sureAddr, hx]) hrx
    · cases hs
  · rename_i g' i' row off e
    rw [e] at ha
    split at hs
    · rename_i s rows hg
      split at hs
      · rename_i r hrow
        split at hs
        · rename_i v' hl
          simp only [Option.some.injEq, Prod.mk.injEq] at hs
          obtain ⟨rfl, rfl⟩ := hs
          generalize hcv : Act.eval ⟨tmps, ds⟩ a = cv at ha
          cases ha with
          | ptr _ _ _ _ β l hJ hb =>
            obtain ⟨l', h1, h2, h3, h4⟩ := hH.cells hg
            rw [hJ] at h1
            injection h1 with h1
            subst h1
            obtain ⟨cs, t', h5, h6, h7, _, h8⟩ := h4 β hb
            have hrl := (List.getElem?_eq_some_iff.1 hrow).1
            have := row_le (sz := s) hrl
            have hlen := h3 row r hrow
            obtain ⟨x, hx, hrx⟩ := run_loadVar (off := row * l.sz + off) (cells := r.drop off) hv h5 hl (by
              rw [List.length_drop, h2]
              rcases Nat.lt_or_ge off r.length with hlt | hge
              · right; omega
              · left; exact List.drop_eq_nil_of_le hge) (fun j c y hc hy => by
              rw [List.getElem?_drop] at hc
              exact h8 row r (off + j) c y hrow hc (by rw [← h2, ← Nat.add_assoc]; exact hy))
            exact .quiet hH hM (by simp [execOp, h, Instr.loadAt, hcv, Instr.sureAddr, hx]) hrx
        · cases hs
      · cases hs
    · cases hs
  · cases hs

theorem ok_store (hF : FRep N M J fr tmps) (hH : HRep M J H w.heap) (hM : MRep M w.heap) {t : TypeId} {sz : Nat} {a x : Operand} (hv : szOf P t = some sz) (h : o.op = .store t a x)
    (hs : dstep g i (.store sz a x) fr H = some (v, H')) : OpOK P M J H w g i (execOp (Act.eval ⟨tmps, ds⟩) o) v H' := by
  have ha := ev_rep (ds := ds) hF a
  have hx := ev_rep (ds := ds) hF x
  simp only [dstep] at hs
  split at hs
  · rename_i g' i' row off e
    rw [e] at ha
    split at hs
    · rename_i cs hcs
      obtain ⟨hl, hrep⟩ := hx.cs hcs
      split at hs
      · rename_i s rows hg
        split at hs
        · rename_i r hrow
          split at hs
          · rename_i hb'
            simp only [Bool.and_eq_true] at hb'
            obtain ⟨hb1, hb2, hall⟩ := hb'
            have hcl : cs.length = sz := Nat.eq_of_beq_eq_true hb1
            have hfit : off + sz ≤ r.length := Nat.le_of_ble_eq_true hb2
            simp only [Option.some.injEq, Prod.mk.injEq] at hs
            obtain ⟨rfl, rfl⟩ := hs
            generalize hcv : Act.eval ⟨tmps, ds⟩ a = cv at ha
            generalize hxv : Act.eval ⟨tmps, ds⟩ x = xv at hx hl hrep
            cases ha with
            | ptr _ _ _ _ β l hJ hb =>
              obtain ⟨l', h1, h2, h3, h4⟩ := hH.cells hg
              rw [hJ] at h1
              injection h1 with h1
              subst h1
              obtain ⟨ccs, t', h5, h6, h7, h9, h8⟩ := h4 β hb
              have hrl := (List.getElem?_eq_some_iff.1 hrow).1
              have hrle := row_le (sz := s) hrl
              have hlen := h3 row r hrow
              have hone : ∀ y ∈ xv.cells.toList, y.oneCell' = true := fun y hy => by
                obtain ⟨j, hj, rfl⟩ := List.mem_iff_getElem.1 hy
                simp at hj
                have hjc : j < cs.length := by omega
                exact (hrep j cs[j] _ (List.getElem?_eq_getElem hjc) (by simp [hj])).cell1 (List.all_eq_true.1 hall _ (List.getElem_mem hjc))
              have hrun := run_storeCells P β (row * l.sz + off) t' xv.cells.toList w ccs 0 h5 (by simp; rw [h2]; omega) hone
              refine ⟨Go.undef, wset w β (.cells (splice ccs (row * l.sz + off) xv.cells.toList) t' (0, 0)), J, .inr ⟨?_, rfl⟩, .undef _, .refl _ _, fun k => ?_, fun _ _ _ => rfl⟩
              · rw [Nat.add_zero] at hrun
                simp only [execOp, h, Instr.storeAt, hcv, hxv, Instr.sureAddr, storeVar, Sem.run_bind, Sem.run_pure, Result.andThen_ok, run_sizeOf hv, ← hl, hcl, ne_eq, not_true_eq_false, if_false, hrun]
              · refine Step.write k hH hM g' i' l β _ hg rfl hJ hb (.cells (splice ccs (row * l.sz + off) xv.cells.toList) t' (0, 0)) _ (fun _ => ?_) rfl rfl rfl rfl
                have hblt := lt_of_heap h5
                refine ⟨h2, fun q r' hq => ?_, ?_⟩
                · rw [List.getElem?_set] at hq
                  split at hq
                  · injection hq with hq
                    subst hq
                    simp [hlen]
                  · exact h3 q r' hq
                · rw [hb]
                  refine ⟨_, t', heap_wset_same _ _ _ hblt, by simp [h6], by simpa using h7, fun j y hj hy => ?_, fun q r' j c y hq hc hy => ?_⟩
                  · rw [List.length_set] at hj
                    rw [get_splice] at hy
                    split at hy
                    · exact hone y (List.mem_of_getElem? hy)
                    · exact h9 j y hj hy
                  · rw [List.getElem?_set] at hq
                    rw [get_splice] at hy
                    split at hq
                    · rename_i hqe
                      subst hqe
                      injection hq with hq
                      subst hq
                      rw [get_lsplice] at hc
                      have hs2 : (xv.cells.toList).length = cs.length := by simp [hl]
                      have hjr : j < r.length := by
                        split at hc
                        · rename_i hh; exact hh.2.2
                        · exact (List.getElem?_eq_some_iff.1 hc).1
                      by_cases hin : off ≤ j ∧ j < off + cs.length
                      · rw [if_pos ⟨hin.1, hin.2, hjr⟩] at hc
                        rw [if_pos (by rw [h2, hs2]; exact ⟨by omega, by omega, by omega⟩)] at hy
                        rw [show row * s + j - (row * l.sz + off) = j - off by rw [h2]; omega] at hy
                        exact hrep (j - off) c y hc (by simpa using hy)
                      · rw [if_neg (by omega)] at hc
                        rw [if_neg (by rw [h2, hs2]; omega)] at hy
                        exact h8 row r j c y hrow hc hy
                    · rename_i hqe
                      have hqlen := h3 q r' hq
                      have hj' := (List.getElem?_eq_some_iff.1 hc).1
                      have hs2 : (xv.cells.toList).length = cs.length := by simp [hl]
                      rw [if_neg ?_] at hy
                      · exact h8 q r' j c y hq hc hy
                      · rw [h2, hs2]
                        rcases Nat.lt_or_gt_of_ne hqe with hlt | hgt
                        · have := row_le (sz := s) hlt; omega
                        · have := row_le (sz := s) hgt; omega
          · cases hs
        · cases hs
      · cases hs
    · cases hs
  · cases hs

theorem ok_nilCheck (hF : FRep N M J fr tmps) (hH : HRep M J H w.heap) (hM : MRep M w.heap) {x : Operand} (h : o.op = .nilCheck x) (hs : dstep g i (.nilCheck x) fr H = some (v, H')) :
    OpOK P M J H w g i (execOp (Act.eval ⟨tmps, ds⟩) o) v H' := by
  have hx := ev_rep (ds := ds) hF x
  simp only [dstep] at hs
  generalize hcv : Act.eval ⟨tmps, ds⟩ x = cv at hx
  split at hs
  · rename_i e
    rw [e] at hx
    simp only [Option.some.injEq, Prod.mk.injEq] at hs
    obtain ⟨rfl, rfl⟩ := hs
    cases hx with
    | ptr _ _ _ _ β l hJ hb => exact .quiet hH hM (by simp [execOp, h, hcv]) (.ptr _ _ _ _ β l hJ hb)
  · rename_i e
    rw [e] at hx
    simp only [Option.some.injEq, Prod.mk.injEq] at hs
    obtain ⟨rfl, rfl⟩ := hs
    cases hx with
    | cptr _ β off cs e f hMb hle hr => exact .quiet hH hM (by simp [execOp, h, hcv]) (.cptr _ β off cs e f hMb hle hr)
  · cases hs

theorem ok_bin (hF : FRep N M J fr tmps) (hH : HRep M J H w.heap) (hM : MRep M w.heap) {op : BinOp} {t u : TypeId} {x y : Operand} (h : o.op = .binOp op t x y u) (hs : dstep g i (.bin op t x y) fr H = some (v, H')) :
    OpOK P M J H w g i (execOp (Act.eval ⟨tmps, ds⟩) o) v H' := by
  have hx := ev_rep (ds := ds) hF x
  have hy := ev_rep (ds := ds) hF y
  simp only [dstep] at hs
  split at hs
  · rename_i a b ea eb
    rw [ea] at hx
    rw [eb] at hy
    split at hs
    · rename_i r hr
      simp only [Option.some.injEq, Prod.mk.injEq] at hs
      obtain ⟨rfl, rfl⟩ := hs
      refine .quiet hH hM (cv := r) ?_ (.sc r)
      have := Sem.pure?_run hr P w
      simp only [execOp, h, hx.sc_inv, hy.sc_inv, Sem.run_bind] at this ⊢
      rw [this]
      rfl
    · cases hs
  · cases hs

theorem ok_un (hF : FRep N M J fr tmps) (hH : HRep M J H w.heap) (hM : MRep M w.heap) {op : UnOp} {t : TypeId} {x : Operand} (h : o.op = .unOp op t x) (hs : dstep g i (.un op x) fr H = some (v, H')) :
    OpOK P M J H w g i (execOp (Act.eval ⟨tmps, ds⟩) o) v H' := by
  have hx := ev_rep (ds := ds) hF x
  simp only [dstep] at hs
  split at hs
  · rename_i a ea
    rw [ea] at hx
    split at hs
    · rename_i r hr
      simp only [Option.some.injEq, Prod.mk.injEq] at hs
      obtain ⟨rfl, rfl⟩ := hs
      refine .quiet hH hM (cv := r) ?_ (.sc r)
      have := Sem.pure?_run hr P w
      simp only [execOp, h, hx.sc_inv, Sem.run_bind]
      rw [this]
      rfl
    · cases hs
  · cases hs

theorem ok_conv (hF : FRep N M J fr tmps) (hH : HRep M J H w.heap) (hM : MRep M w.heap) {src dst : TypeId} {k k0 : IntKind} {x : Operand} (h1 : P.underlying src = some (.int k0)) (h2 : P.underlying dst = some (.int k)) (h : o.op = .convert src dst x)
    (hs : dstep g i (.conv k x) fr H = some (v, H')) : OpOK P M J H w g i (execOp (Act.eval ⟨tmps, ds⟩) o) v H' := by
  have hx := ev_rep (ds := ds) hF x
  simp only [dstep] at hs
  split at hs
  · rename_i k1 n ea
    rw [ea] at hx
    simp only [Option.some.injEq, Prod.mk.injEq] at hs
    obtain ⟨rfl, rfl⟩ := hs
    refine .quiet hH hM (cv := .int k (k.wrap n)) ?_ (.sc _)
    simp [execOp, h, hx.sc_inv, convert, run_underlying h1, run_underlying h2, Conv.intToInt]
  · cases hs

theorem ok_eqBool (hF : FRep N M J fr tmps) (hH : HRep M J H w.heap) (hM : MRep M w.heap) {neg : Bool} {t u : TypeId} {x y : Operand} (ht : P.underlying t = some .bool)
    (h : o.op = .binOp (if neg then .neq else .eql) t x y u) (hs : dstep g i (.eqBool neg x y) fr H = some (v, H')) : OpOK P M J H w g i (execOp (Act.eval ⟨tmps, ds⟩) o) v H' := by
  have hx := ev_rep (ds := ds) hF x
  have hy := ev_rep (ds := ds) hF y
  simp only [dstep] at hs
  split at hs
  · rename_i a b ea eb
    rw [ea] at hx
    rw [eb] at hy
    have hq0 : ∀ d, (Op.equalIn (d + 1) t (.bool a) (.bool b)).run P w = .ok (a == b) w := fun d => by
      simp [Op.equalIn, run_underlying ht]
    have hq : (Op.equal t (.bool a) (.bool b)).run P w = .ok (a == b) w := hq0 9999
    split at hs
    · simp only [Option.some.injEq, Prod.mk.injEq] at hs
      obtain ⟨rfl, rfl⟩ := hs
      refine .quiet hH hM (cv := .bool (!(a == b))) ?_ (.sc _)
      simp [execOp, h, hx.sc_inv, hy.sc_inv, eqGuard, binOp, hq]
    · simp only [Option.some.injEq, Prod.mk.injEq] at hs
      obtain ⟨rfl, rfl⟩ := hs
      refine .quiet hH hM (cv := .bool (a == b)) ?_ (.sc _)
      simp [execOp, h, hx.sc_inv, hy.sc_inv, eqGuard, binOp, hq]
  · cases hs

theorem bools_eq : ∀ {xs : List AV} {l : List Bool}, bools xs = some l → xs = l.map fun b => AV.sc (.bool b)
  | [], l, h => by simp [bools] at h; subst h; rfl
  | x :: xs, l, h => by
    unfold bools at h
    split at h
    · rename_i e; cases e
    · rename_i b r e
      injection e with e1 e2
      subst e1; subst e2
      split at h
      · rename_i q hq
        injection h with h
        subst h
        rw [List.map_cons, bools_eq hq]
      · cases h
    · cases h

theorem Rep.bools {xs : List AV} {l : List Bool} {cv : Value} (hb : bools xs = some l) (h : Rep M J (.agg xs) cv) : cv = .agg (l.map Value.bool).toArray := by
  have hxs := bools_eq hb
  subst hxs
  cases h with
  | agg _ cvs hl hr =>
    congr 1
    apply Array.ext_getElem?
    intro j
    by_cases hj : j < l.length
    · have h1 : (l.map fun b => AV.sc (.bool b))[j]? = some (.sc (.bool l[j])) := by simp [hj]
      have hjc : j < cvs.size := by rw [List.length_map] at hl; omega
      have h2 : cvs[j]? = some cvs[j] := Array.getElem?_eq_getElem hjc
      have := (hr j _ _ h1 h2).sc_inv
      rw [h2, this]
      simp [hj]
    · rw [Array.getElem?_eq_none (by simp at hl; omega), Array.getElem?_eq_none (by simp; omega)]

theorem all_range_bools : ∀ (xs ys : List Bool), xs.length = ys.length → ((List.range xs.length).all fun i => xs.getD i false == ys.getD i false) = (xs == ys)
  | [], [], _ => rfl
  | x :: xs, y :: ys, h => by
    have ih := all_range_bools xs ys (by simpa using h)
    rw [List.length_cons, List.range_succ_eq_map, List.all_cons, List.all_map]
    simp only [List.getD_cons_zero, Function.comp_def, List.getD_cons_succ, ih]
    simp [List.cons_beq_cons]
  | [], _ :: _, h => by simp at h
  | _ :: _, [], h => by simp at h

theorem run_equalIn_bools (w : World) (d : Nat) (t e : TypeId) (n : Nat) (ht : P.underlying t = some (.array n e)) (he : P.underlying e = some .bool) (hsz : ∀ w, (sizeOf e).run P w = .ok 1 w)
    (xs ys : List Bool) (hx : xs.length = n) (hy : ys.length = n) :
    (Op.equalIn (d + 2) t (.agg (xs.map Value.bool).toArray) (.agg (ys.map Value.bool).toArray)).run P w = .ok (xs == ys) w := by
  rw [← all_range_bools xs ys (hx.trans hy.symm), hx, List.range_eq_range', Op.equalIn]
  simp only [Sem.run_bind, run_underlying ht, Result.andThen_ok, hsz, Std.Legacy.Range.forIn_eq_forIn_range', Std.Legacy.Range.size, Nat.sub_zero, Nat.add_sub_cancel, Nat.div_one]
  have hl : ∀ i ∈ List.range' 0 n 1, i < n := fun i hi => by simpa using (List.mem_range'_1.1 hi).2
  generalize List.range' 0 n 1 = l at hl ⊢
  induction l with
  | nil => simp
  | cons i l ih =>
    have hi : i < n := hl i (by simp)
    have px : (part e (xs.map Value.bool).toArray (i * 1)).run P w = .ok (.bool (xs.getD i false)) w := by
      simp [part, isAgg, run_underlying he, List.getD, List.getElem?_eq_getElem (show i < xs.length by omega)]
    have py : (part e (ys.map Value.bool).toArray (i * 1)).run P w = .ok (.bool (ys.getD i false)) w := by
      simp [part, isAgg, run_underlying he, List.getD, List.getElem?_eq_getElem (show i < ys.length by omega)]
    have pe : (Op.equalIn (d + 1) e (.bool (xs.getD i false)) (.bool (ys.getD i false))).run P w = .ok (xs.getD i false == ys.getD i false) w := by
      simp [Op.equalIn, run_underlying he]
    simp only [List.forIn_cons, Sem.run_bind, px, py, pe, Result.andThen_ok, List.all_cons]
    cases hb : (xs.getD i false == ys.getD i false)
    · simp
    · simp only [Bool.not_true, Bool.false_eq_true, if_false, Sem.run_pure, Result.andThen_ok, Bool.true_and]
      exact ih fun j hj => hl j (by simp [hj])

theorem ok_eqArr (hF : FRep N M J fr tmps) (hH : HRep M J H w.heap) (hM : MRep M w.heap) {neg : Bool} {t u e : TypeId} {n : Nat} {x y : Operand} (ht : P.underlying t = some (.array n e)) (he : P.underlying e = some .bool) (hsz : szOf P e = some 1)
    (hg : P.eqGuardType P.depth t = false) (h : o.op = .binOp (if neg then .neq else .eql) t x y u) (hs : dstep g i (.eqArr neg n x y) fr H = some (v, H')) : OpOK P M J H w g i (execOp (Act.eval ⟨tmps, ds⟩) o) v H' := by
  have hx := ev_rep (ds := ds) hF x
  have hy := ev_rep (ds := ds) hF y
  simp only [dstep] at hs
  split at hs
  · rename_i xs ys ea eb
    rw [ea] at hx
    rw [eb] at hy
    split at hs
    · rename_i a b h1 h2
      have hxe := Rep.bools h1 hx
      have hye := Rep.bools h2 hy
      split at hs
      · rename_i hn
        simp only [Bool.and_eq_true] at hn
        have hna : a.length = n := Nat.eq_of_beq_eq_true hn.1
        have hnb : b.length = n := Nat.eq_of_beq_eq_true hn.2
        have hq := run_equalIn_bools (P := P) w 9998 t e n ht he (run_sizeOf hsz) a b hna hnb
        split at hs
        · simp only [Option.some.injEq, Prod.mk.injEq] at hs
          obtain ⟨rfl, rfl⟩ := hs
          refine .quiet hH hM (cv := .bool (!(a == b))) ?_ (.sc _)
          have hgd := fun x y => run_eqGuard_agg (P := P) w .neq t x y (a.map Value.bool).toArray (b.map Value.bool).toArray hg
          simp only [execOp, h, hxe, hye, if_true, Sem.run_bind, hgd, Result.andThen_ok, run_neq_struct, hq]
          rfl
        · simp only [Option.some.injEq, Prod.mk.injEq] at hs
          obtain ⟨rfl, rfl⟩ := hs
          refine .quiet hH hM (cv := .bool (a == b)) ?_ (.sc _)
          have hgd := fun x y => run_eqGuard_agg (P := P) w .eql t x y (a.map Value.bool).toArray (b.map Value.bool).toArray hg
          simp only [execOp, h, hxe, hye, Bool.false_eq_true, if_false, Sem.run_bind, hgd, Result.andThen_ok, run_eql_struct, hq]
          rfl
      · cases hs
    · cases hs
  · cases hs

theorem ok_eqNil (hF : FRep N M J fr tmps) (hH : HRep M J H w.heap) (hM : MRep M w.heap) {neg : Bool} {t u e : TypeId} {x : Operand} (ht : P.underlying t = some (.pointer e))
    (h : o.op = .binOp (if neg then .neq else .eql) t x (.const (.pointer none)) u) (hs : dstep g i (.eqNil neg x) fr H = some (v, H')) : OpOK P M J H w g i (execOp (Act.eval ⟨tmps, ds⟩) o) v H' := by
  have hx := ev_rep (ds := ds) hF x
  have key : ∀ (p : Option Addr), Act.eval ⟨tmps, ds⟩ x = .pointer p → (execOp (Act.eval ⟨tmps, ds⟩) o).run P w = .ok (.value (.bool (if neg then !p.isNone else p.isNone))) w := by
    intro p hp
    have hq0 : ∀ d, (Op.equalIn (d + 1) t (.pointer p) (.pointer none)).run P w = .ok p.isNone w := fun d => by
      cases p <;> simp [Op.equalIn, run_underlying ht]
    have hq : (Op.equal t (.pointer p) (.pointer none)).run P w = .ok p.isNone w := hq0 9999
    have hc : Act.eval ⟨tmps, ds⟩ (.const (.pointer none)) = .pointer none := rfl
    cases neg <;> simp [execOp, h, hp, hc, eqGuard, binOp, hq]
  simp only [dstep] at hs
  generalize hcv : Act.eval ⟨tmps, ds⟩ x = cv at hx key
  split at hs
  · rename_i ea
    rw [ea] at hx
    simp only [Option.some.injEq, Prod.mk.injEq] at hs
    obtain ⟨rfl, rfl⟩ := hs
    cases hx with
    | ptr _ _ _ _ β l hJ hb =>
      refine .quiet hH hM (key _ rfl) ?_
      cases neg <;> exact .sc _
  · rename_i ea
    rw [ea] at hx
    simp only [Option.some.injEq, Prod.mk.injEq] at hs
    obtain ⟨rfl, rfl⟩ := hs
    cases hx with
    | cptr _ β off cs e f hMb hle hr =>
      refine .quiet hH hM (key _ rfl) ?_
      cases neg <;> exact .sc _
  · rename_i ea
    rw [ea] at hx
    simp only [Option.some.injEq, Prod.mk.injEq] at hs
    obtain ⟨rfl, rfl⟩ := hs
    cases hx
    refine .quiet hH hM (key _ rfl) ?_
    cases neg <;> exact .sc _
  · cases hs

theorem avals_rep (hF : FRep N M J fr tmps) (xs : List Operand) (n : Nat) (h : xs.length = n) (arr : Array Operand) (ha : xs = arr.toList) :
    (avals fr xs).length = (arr.map (Act.eval ⟨tmps, ds⟩)).size ∧ ∀ (j : Nat) c v, (avals fr xs)[j]? = some c → (arr.map (Act.eval ⟨tmps, ds⟩))[j]? = some v → Rep M J c v := by
  subst ha
  refine ⟨by simp [avals], fun j c v hc hv => ?_⟩
  simp only [avals, List.getElem?_map, Array.getElem?_toList, Array.getElem?_map] at hc hv
  cases e : arr[j]? with
  | none => rw [e] at hc; cases hc
  | some x =>
    rw [e] at hc hv
    simp at hc hv
    subst hc; subst hv
    exact ev_rep hF x

theorem ok_makeFunc (hF : FRep N M J fr tmps) (hH : HRep M J H w.heap) (hM : MRep M w.heap) {fn : Fn} {a b : Array Operand} (h : o.op = .makeFunc fn a b)
    (hs : dstep g i (.makeFunc fn a.toList b.toList) fr H = some (v, H')) : OpOK P M J H w g i (execOp (Act.eval ⟨tmps, ds⟩) o) v H' := by
  simp only [dstep, fzl_eq, Option.some.injEq, Prod.mk.injEq] at hs
  obtain ⟨rfl, rfl⟩ := hs
  obtain ⟨h1, h2⟩ := avals_rep (ds := ds) hF a.toList _ rfl a rfl
  obtain ⟨h3, h4⟩ := avals_rep (ds := ds) hF b.toList _ rfl b rfl
  exact .quiet hH hM (cv := .func fn (a.map (Act.eval ⟨tmps, ds⟩)) (b.map (Act.eval ⟨tmps, ds⟩))) (by simp [execOp, h, Instr.makeFunc]) (.clo fn _ _ _ _ h1 h3 h2 h4)

theorem ok_makeMap (hH : HRep M J H w.heap) (hM : MRep M w.heap) (hn : hok H g i) (hJ : J g i = none) {t : TypeId} (h : o.op = .makeMap t none)
    (hs : dstep g i .makeMap fr H = some (v, H')) : OpOK P M J H w g i (execOp (Act.eval ⟨tmps, ds⟩) o) v H' := by
  simp only [dstep, Option.some.injEq, Prod.mk.injEq] at hs
  obtain ⟨rfl, rfl⟩ := hs
  refine .new hH hM hn hJ (w' := { w with heap := w.heap.push (.map #[] 0) }) (.map #[] 0) _ ⟨some w.heap.size, 0, 0⟩ rfl rfl rfl rfl (cv := .map (some w.heap.size)) ?_ rfl ?_ ?_
  · simp [execOp, h, Instr.makeMap]
  · exact ⟨w.heap.size, #[], 0, rfl, get_push _ _, rfl, fun j x y hx => by simp at hx, fun j x y hx => by simp at hx⟩
  · exact .mref g i w.heap.size _ (Inj.set_self _) rfl

theorem ok_fieldAddr (hF : FRep N M J fr tmps) (hH : HRep M J H w.heap) (hM : MRep M w.heap) {t : TypeId} {x : Operand} {f n : Nat} {fs : Array Field} {fd : Field} (h1 : P.underlying t = some (.struct fs)) (h2 : fs[f]? = some fd)
    (h3 : szOf P fd.type = some (n + 1)) (h : o.op = .fieldAddr t x f) (hs : dstep g i (.fieldAddr fd.offset x) fr H = some (v, H')) : OpOK P M J H w g i (execOp (Act.eval ⟨tmps, ds⟩) o) v H' := by
  have hx := ev_rep (ds := ds) hF x
  have key : ∀ (β off : Nat), Act.eval ⟨tmps, ds⟩ x = .pointer (some ⟨β, off, none⟩) → (execOp (Act.eval ⟨tmps, ds⟩) o).run P w = .ok (.value (.pointer (some ⟨β, off + fd.offset, none⟩))) w := by
    intro β off hp
    simp [execOp, h, Instr.fieldAt, run_underlying h1, h2, hp, Instr.sureAddr, fieldPlace, run_sizeOf h3, addr_add]
  simp only [dstep] at hs
  generalize hcv : Act.eval ⟨tmps, ds⟩ x = cv at hx key
  split at hs
  · rename_i cells ea
    rw [ea] at hx
    simp only [Option.some.injEq, Prod.mk.injEq] at hs
    obtain ⟨rfl, rfl⟩ := hs
    cases hx with
    | cptr _ β off cs e f hMb hle hr =>
      refine .quiet hH hM (key _ _ rfl) (.cptr _ β _ cs e f hMb ?_ fun j c y hc hy => ?_)
      · rcases hle with rfl | hle
        · left; simp
        · rcases Nat.lt_or_ge fd.offset cells.length with hlt | hge
          · right; simp; omega
          · left; exact List.drop_eq_nil_of_le hge
      · rw [List.getElem?_drop] at hc
        exact hr _ c y hc (by rw [← Nat.add_assoc]; exact hy)
  · rename_i g' i' row off ea
    rw [ea] at hx
    simp only [Option.some.injEq, Prod.mk.injEq] at hs
    obtain ⟨rfl, rfl⟩ := hs
    cases hx with
    | ptr _ _ _ _ β l hJ hb =>
      have := Rep.ptr (M := M) g' i' row (off + fd.offset) β l hJ hb
      rw [← Nat.add_assoc] at this
      exact .quiet hH hM (key _ _ rfl) this
  · cases hs

theorem ok_extract (hF : FRep N M J fr tmps) (hH : HRep M J H w.heap) (hM : MRep M w.heap) {x : Operand} {ix : Nat} (h : o.op = .extract x ix)
    (hs : dstep g i (.extract x ix) fr H = some (v, H')) : OpOK P M J H w g i (execOp (Act.eval ⟨tmps, ds⟩) o) v H' := by
  have hx := ev_rep (ds := ds) hF x
  simp only [dstep] at hs
  generalize hcv : Act.eval ⟨tmps, ds⟩ x = cv at hx
  split at hs
  · rename_i vs ea
    rw [ea] at hx
    split at hs
    · rename_i v' hv
      simp only [Option.some.injEq, Prod.mk.injEq] at hs
      obtain ⟨rfl, rfl⟩ := hs
      cases hx with
      | tup _ cvs hl hr =>
        have hlt : ix < cvs.size := by rw [← hl]; exact (List.getElem?_eq_some_iff.1 hv).1
        exact .quiet hH hM (cv := cvs[ix]) (by simp [execOp, h, hcv, Instr.extract, hlt]) (hr ix _ _ hv (by simp [hlt]))
    · cases hs
  · cases hs

theorem ok_len (hF : FRep N M J fr tmps) (hH : HRep M J H w.heap) (hM : MRep M w.heap) {x : Operand} {t e : TypeId} {args : Array Operand} {ts : Array TypeId} (ha : args.toList = [x]) (ht : ts.toList = [t]) (hu : P.underlying t = some (.slice e))
    (h : o.op = .call ⟨.builtin .len, args, ts⟩) (hs : dstep g i (.len x) fr H = some (v, H')) : OpOK P M J H w g i (execOp (Act.eval ⟨tmps, ds⟩) o) v H' := by
  have hx := ev_rep (ds := ds) hF x
  have ha' : args = #[x] := by cases args; simp_all
  have ht' : ts = #[t] := by cases ts; simp_all
  subst ha'; subst ht'
  have key : ∀ a n c, Act.eval ⟨tmps, ds⟩ x = .slice a n c → (execOp (Act.eval ⟨tmps, ds⟩) o).run P w = .ok (.value (.int .i64 n)) w := by
    intro a n c hp
    simp [execOp, h, resolve, invoke, builtin, Builtin.len_, run_underlying hu, hp, goInt]
  simp only [dstep] at hs
  generalize hcv : Act.eval ⟨tmps, ds⟩ x = cv at hx key
  split at hs
  · rename_i ea
    rw [ea] at hx
    simp only [Option.some.injEq, Prod.mk.injEq] at hs
    obtain ⟨rfl, rfl⟩ := hs
    cases hx with
    | nilList sz a cap => exact .quiet hH hM (key _ _ _ rfl) (.sc _)
    | list sz rows β off cap n cs e fr hn => obtain ⟨hn, _⟩ := hn; subst hn; exact .quiet hH hM (key _ _ _ rfl) (.sc _)
  · rename_i ea
    rw [ea] at hx
    simp only [Option.some.injEq, Prod.mk.injEq] at hs
    obtain ⟨rfl, rfl⟩ := hs
    cases hx with
    | hsl => exact .quiet hH hM (key _ _ _ rfl) (.sc _)
    | hslNil => exact .quiet hH hM (key _ _ _ rfl) (.sc _)
  · rename_i ea
    rw [ea] at hx
    simp only [Option.some.injEq, Prod.mk.injEq] at hs
    obtain ⟨rfl, rfl⟩ := hs
    cases hx
    exact .quiet hH hM (key _ _ _ rfl) (.sc _)
  · cases hs

end
end Go.Av
