import Derived.Test.YtbpmbofinoinmaaGAv6
namespace Go.Av
section
variable {P : Program} {M : Mem} {J : Inj} {H : Heap} {w : World} {g i : Nat}
variable {N : Nat} {fr : Fr} {tmps : Array Value} {ds : List Deferred} {o : Oper} {v : AV} {H' : Heap}
theorem get_madeCells (z : Array Value) (n k : Nat) (hk : k < n) : (madeCells z n)[k]? = some z[k % z.size]! := by simp [madeCells, hk]
theorem mul_add_mod_lt {q sz j : Nat} (hj : j < sz) : (q * sz + j) % sz = j := by
 rw [Nat.mul_comm, Nat.mul_add_mod, Nat.mod_eq_of_lt hj]
theorem get_madeCells_lt {z : Array Value} {n q sz j : Nat} {x : Value} (hz : z.size = sz) (hj : j < sz) (hk : q * sz + j < n) (h : (madeCells z n)[q * sz + j]? = some x) : z[j]? = some x := by
 rw [get_madeCells z n _ hk, hz, mul_add_mod_lt hj] at h
 have hjz : j < z.size := by omega
 rw [getElem!_pos z j hjz] at h
 rw [Array.getElem?_eq_getElem hjz]
 exact h
theorem zrow_get {z : List (Nat × Value)} {zv : Value} (hun : unrle z = zv.cells.toList) {j : Nat} {c : AV} {x : Value} (hc : (zrow z)[j]? = some c) (hx : zv.cells[j]? = some x) : c = .sc x := by
 rw [zrow_eq, hun, List.getElem?_map, Array.getElem?_toList, hx] at hc
 simp at hc
 exact hc.symm
theorem ok_makeSlice (hF : FRep N M J fr tmps) (hH : HRep M J H w.heap) (hM : MRep M w.heap) (hn : hok H g i) (hJ : J g i = none) {t e : TypeId} {inf : TypeInfo} {z : List (Nat × Value)} {l : Operand}
  (ht : P.underlying t = some (.slice e)) (hi : P.info? e = some inf) (hz : zOf P e = some z) (hsz : 0 < inf.size) (h : o.op = .makeSlice t l l)
  (hs : dstep g i (.makeSlice inf.size inf.bytes z l) fr H = some (v, H')) : OpOK P M J H w g i (execOp (Act.eval ⟨tmps, ds⟩) o) v H' := by
 have hx := ev_rep (ds := ds) hF l
 obtain ⟨inf', zv, hi', hz0, hsize, hone, hun⟩ := zOf_some hz
 rw [hi] at hi'
 injection hi' with hi'
 subst hi'
 simp only [dstep] at hs
 split at hs
 ·rename_i n ea
  rw [ea] at hx
  split at hs
  ·rename_i hb
   simp only [Bool.and_eq_true] at hb
   have hb1 : inf.bytes * n ≤ 70368744177664 := Nat.le_of_ble_eq_true hb.1
   have hb2 : n ≤ 1073741824 := Nat.le_of_ble_eq_true hb.2
   simp only [Option.some.injEq, Prod.mk.injEq] at hs
   obtain ⟨rfl, rfl⟩ := hs
   have hlen : (zrow z).length = inf.size := by rw [zrow_eq, hun]; simp [hsize]
   have hrun := run_make (P := P) w t e inf zv ht hi hz0 .i64 .i64 (.ofNat n) (.ofNat n) (Int.natCast_nonneg n) (Int.le_refl _) (by
    have : ((inf.bytes * n : Nat) : Int) ≤ (70368744177664 : Nat) := Int.ofNat_le.2 hb1
    simp at this ⊢; omega) (by show (n : Int) ≤ _; omega)
   have htn : (Int.ofNat n).toNat = n := rfl
   rw [htn] at hrun
   refine .new hH hM hn hJ (w' := w.alloc (.cells (madeCells zv.cells (n * inf.size)) e)) (.cells (madeCells zv.cells (n * inf.size)) e) _
    ⟨some w.heap.size, inf.size, n * inf.size⟩ rfl rfl rfl rfl (cv := .slice (some ⟨w.heap.size, 0, none⟩) n n) ?_ rfl ?_ ?_
   ·simp only [execOp, h, hx.sc_inv, Sem.run_bind, hrun, Result.andThen_ok, Sem.run_pure]
   ·refine ⟨rfl, fun q r hq => ?_, ?_⟩
    ·rw [List.getElem?_replicate] at hq
     split at hq
     ·injection hq with hq; subst hq; exact hlen
     ·cases hq
    ·refine ⟨_, e, get_push _ _, size_madeCells _ _, by simp, fun j y hj hy => ?_, fun q r j c y hq hc hy => ?_⟩
     ·rw [List.length_replicate] at hj
      have hjm : j % inf.size < inf.size := Nat.mod_lt _ hsz
      rw [get_madeCells _ _ _ hj, hsize, getElem!_pos zv.cells (j % inf.size) (by omega)] at hy
      injection hy with hy
      subst hy
      exact hone _ (Array.getElem_mem _)
     ·rw [List.getElem?_replicate] at hq
      split at hq
      ·rename_i hqn
       injection hq with hq
       subst hq
       have hj : j < inf.size := by rw [← hlen]; exact (List.getElem?_eq_some_iff.1 hc).1
       have := row_le (sz := inf.size) hqn
       have hy' := get_madeCells_lt hsize hj (by omega) hy
       rw [zrow_get hun hc hy']
       exact .sc y
      ·cases hq
   ·have := Rep.hsl (M := M) (J := J.set g i ⟨some w.heap.size, inf.size, n * inf.size⟩) g i 0 n n w.heap.size _ (Inj.set_self _) rfl (by simp) (Nat.le_refl _)
    rwa [Nat.zero_mul] at this
  ·cases hs
 ·cases hs
theorem ok_field (hF : FRep N M J fr tmps) (hH : HRep M J H w.heap) (hM : MRep M w.heap) {t : TypeId} {x : Operand} {f sz : Nat} {agg : Bool} {fs : Array Field} {fd : Field} (h1 : P.underlying t = some (.struct fs)) (h2 : fs[f]? = some fd)
  (h3 : varOf P fd.type = some (sz, agg)) (h : o.op = .field t x f) (hs : dstep g i (.field fd.offset sz agg x) fr H = some (v, H')) : OpOK P M J H w g i (execOp (Act.eval ⟨tmps, ds⟩) o) v H' := by
 have hx := ev_rep (ds := ds) hF x
 obtain ⟨v1, v2, v3⟩ := varOf_some h3
 simp only [dstep] at hs
 generalize hcv : Act.eval ⟨tmps, ds⟩ x = cv at hx
 split at hs
 ·rename_i cells ea
  rw [ea] at hx
  split at hs
  ·rename_i v' hl
   simp only [Option.some.injEq, Prod.mk.injEq] at hs
   obtain ⟨rfl, rfl⟩ := hs
   cases hx with
   | agg _ cvs hlen hr =>
    cases agg with
    | true =>
     obtain ⟨hle, rfl⟩ := ldAV_agg hl
     rw [List.length_drop] at hle
     refine .quiet hH hM (cv := .agg (cvs.extract fd.offset (fd.offset + sz))) ?_ (.agg _ _ (by simp; omega) fun j c y hc hy => ?_)
     ·simp [execOp, h, hcv, Instr.field, run_underlying h1, h2, asAgg, part, run_isAgg v2, run_sizeOf v1]
     ·have hj : j < sz := by
       have := (List.getElem?_eq_some_iff.1 hc).1
       simp at this; omega
      rw [List.getElem?_take, if_pos hj, List.getElem?_drop] at hc
      rw [Array.getElem?_extract] at hy
      split at hy
      ·exact hr _ c y hc hy
      ·cases hy
    | false =>
     have h0 := ldAV_one hl
     rw [List.getElem?_drop] at h0
     have hlt : fd.offset < cvs.size := by have := (List.getElem?_eq_some_iff.1 h0).1; omega
     refine .quiet hH hM (cv := cvs[fd.offset]) ?_ (hr _ _ _ h0 (by simp [hlt]))
     simp [execOp, h, hcv, Instr.field, run_underlying h1, h2, asAgg, part, run_isAgg v2, hlt]
  ·cases hs
 ·cases hs
theorem ok_idxVal (hF : FRep N M J fr tmps) (hH : HRep M J H w.heap) (hM : MRep M w.heap) {t e : TypeId} {x ix : Operand} {n sz : Nat} {agg : Bool} (h1 : P.underlying t = some (.array n e))
  (h3 : varOf P e = some (sz, agg)) (h : o.op = .index t x ix) (hs : dstep g i (.idxVal n sz agg x ix) fr H = some (v, H')) : OpOK P M J H w g i (execOp (Act.eval ⟨tmps, ds⟩) o) v H' := by
 have hx := ev_rep (ds := ds) hF x
 have hix := ev_rep (ds := ds) hF ix
 obtain ⟨v1, v2, v3⟩ := varOf_some h3
 simp only [dstep] at hs
 split at hs
 ·rename_i k q ei
  rw [ei] at hix
  have hixv := hix.sc_inv
  split at hs
  ·rename_i hq
   have hqn : q < n := Nat.le_of_ble_eq_true hq
   have hqi : ((q : Int) < (n : Int)) := by omega
   have h0q : (0 : Int) ≤ Int.ofNat q := Int.natCast_nonneg q
   have hqi' : Int.ofNat q < (n : Int) := hqi
   have hcond : (0 : Int) ≤ Int.ofNat q ∧ Int.ofNat q < (n : Int) := ⟨h0q, hqi'⟩
   have htn : (Int.ofNat q).toNat = q := rfl
   generalize hcv : Act.eval ⟨tmps, ds⟩ x = cv at hx
   split at hs
   ·rename_i cells ea
    rw [ea] at hx
    split at hs
    ·rename_i v' hl
     simp only [Option.some.injEq, Prod.mk.injEq] at hs
     obtain ⟨rfl, rfl⟩ := hs
     cases hx with
     | agg _ cvs hlen hr =>
      have hstep : ∀ r, (part e cvs (q * sz)).run P w = .ok r w → (execOp (Act.eval ⟨tmps, ds⟩) o).run P w = .ok (.value r) w := fun r hr' => by
       simp only [execOp, h, hcv, hixv, Instr.index, asIntOf, Sem.run_bind, Sem.run_pure, Result.andThen_ok, run_underlying h1, hcond, and_self, if_true, run_sizeOf v1, htn, hr']
      cases agg with
      | true =>
       obtain ⟨hle, rfl⟩ := ldAV_agg hl
       rw [List.length_drop] at hle
       refine .quiet hH hM (cv := .agg (cvs.extract (q * sz) (q * sz + sz))) (hstep _ ?_) (.agg _ _ (by simp; omega) fun j c y hc hy => ?_)
       ·simp [part, run_isAgg v2, run_sizeOf v1]
       ·have hj : j < sz := by
         have := (List.getElem?_eq_some_iff.1 hc).1
         simp at this; omega
        rw [List.getElem?_take, if_pos hj, List.getElem?_drop] at hc
        rw [Array.getElem?_extract] at hy
        split at hy
        ·exact hr _ c y hc hy
        ·cases hy
      | false =>
       have h0 := ldAV_one hl
       rw [List.getElem?_drop] at h0
       have hlt : q * sz < cvs.size := by have := (List.getElem?_eq_some_iff.1 h0).1; omega
       refine .quiet hH hM (cv := cvs[q * sz]) (hstep _ ?_) (hr _ _ _ h0 (by simp [hlt]))
       simp [part, run_isAgg v2, hlt]
    ·cases hs
   ·cases hs
  ·cases hs
 ·cases hs
theorem ok_idxSl (hF : FRep N M J fr tmps) (hH : HRep M J H w.heap) (hM : MRep M w.heap) {t e : TypeId} {x ix : Operand} {sz : Nat} (h1 : P.underlying t = some (.slice e)) (hsz : szOf P e = some sz)
  (h : o.op = .indexAddr t x ix) (hs : dstep g i (.idxSl sz x ix) fr H = some (v, H')) : OpOK P M J H w g i (execOp (Act.eval ⟨tmps, ds⟩) o) v H' := by
 have hx := ev_rep (ds := ds) hF x
 have hix := ev_rep (ds := ds) hF ix
 simp only [dstep] at hs
 split at hs
 ·rename_i k n ei
  rw [ei] at hix
  have hixv := hix.sc_inv
  have key : ∀ (β off m c : Nat), Act.eval ⟨tmps, ds⟩ x = .slice (some ⟨β, off, none⟩) m c → 0 ≤ n → n < m → (execOp (Act.eval ⟨tmps, ds⟩) o).run P w = .ok (.value (.pointer (some ⟨β, off + n.toNat * sz, none⟩))) w := by
   intro β off m c hp h0 hlt
   simp [execOp, h, hixv, Instr.indexAt, asIntOf, run_underlying h1, hp, run_sizeOf hsz, h0, hlt, addr_add]
  generalize hcv : Act.eval ⟨tmps, ds⟩ x = cv at hx key
  split at hs
  ·rename_i s rows ea
   rw [ea] at hx
   split at hs
   ·rename_i r hb hrow
    have hss : s = sz := Nat.eq_of_beq_eq_true hb
    subst hss
    obtain ⟨h0, hlt, hr⟩ := rowIx_some hrow
    simp only [Option.some.injEq, Prod.mk.injEq] at hs
    obtain ⟨rfl, rfl⟩ := hs
    cases hx with
    | nilList => simp at hlt; omega
    | list _ _ β off cap m cs e f hn hMb hrl hle _ hrep =>
     obtain ⟨hn, _⟩ := hn
     subst hn
     refine .quiet hH hM (key β off _ cap rfl h0 hlt) (.cptr r β _ cs e f hMb ?_ fun j c y hc hy => ?_)
     ·right
      have := row_le (sz := s) (show n.toNat < rows.length by omega)
      rw [hrl _ r hr]; omega
     ·exact hrep _ r j c y hr hc hy
   ·cases hs
  ·rename_i g' i' start len ea
   rw [ea] at hx
   split at hs
   ·rename_i q
    split at hs
    ·rename_i s rows hg
     split at hs
     ·rename_i hb
      simp only [Bool.and_eq_true] at hb
      have hss : s = sz := Nat.eq_of_beq_eq_true hb.1
      subst hss
      have hql : q < len := Nat.le_of_ble_eq_true hb.2.1
      simp only [Option.some.injEq, Prod.mk.injEq] at hs
      obtain ⟨rfl, rfl⟩ := hs
      cases hx with
      | hsl _ _ _ _ cap β l hJ hbk hc hlc =>
       obtain ⟨l', p1, p2, p3, p4⟩ := hH.cells hg
       rw [hJ] at p1
       injection p1 with p1
       subst p1
       have hrun := key β (start * l.sz) len cap rfl (Int.natCast_nonneg q) (by show (q : Int) < len; omega)
       have hre := Rep.ptr (M := M) g' i' (start + q) 0 β l hJ hbk
       have had : start * l.sz + (Int.ofNat q).toNat * s = (start + q) * l.sz + 0 := by
        show start * l.sz + q * s = _
        rw [← p2, Nat.add_mul]; omega
       rw [had] at hrun
       exact .quiet hH hM hrun hre
      | hslNil => omega
     ·cases hs
    ·cases hs
   ·cases hs
  ·cases hs
 ·cases hs
theorem ok_idxArr (hF : FRep N M J fr tmps) (hH : HRep M J H w.heap) (hM : MRep M w.heap) {t e : TypeId} {x ix : Operand} {n sz : Nat} (h1 : P.underlying t = some (.array n e)) (hsz : szOf P e = some sz)
  (h : o.op = .indexAddr t x ix) (hs : dstep g i (.idxArr n sz x ix) fr H = some (v, H')) : OpOK P M J H w g i (execOp (Act.eval ⟨tmps, ds⟩) o) v H' := by
 have hx := ev_rep (ds := ds) hF x
 have hix := ev_rep (ds := ds) hF ix
 simp only [dstep] at hs
 split at hs
 ·rename_i k q ei
  rw [ei] at hix
  have hixv := hix.sc_inv
  split at hs
  ·rename_i hq
   have hqn : q < n := Nat.le_of_ble_eq_true hq
   have h0q : (0 : Int) ≤ Int.ofNat q := Int.natCast_nonneg q
   have hqi : Int.ofNat q < (n : Int) := by show (q : Int) < n; omega
   have key : ∀ (β off : Nat), Act.eval ⟨tmps, ds⟩ x = .pointer (some ⟨β, off, none⟩) → (execOp (Act.eval ⟨tmps, ds⟩) o).run P w = .ok (.value (.pointer (some ⟨β, off + q * sz, none⟩))) w := by
    intro β off hp
    have hcond : (0 : Int) ≤ Int.ofNat q ∧ Int.ofNat q < (n : Int) := ⟨h0q, hqi⟩
    have htn : (Int.ofNat q).toNat = q := rfl
    simp only [execOp, h, hixv, Instr.indexAt, asIntOf, Sem.run_bind, Sem.run_pure, Result.andThen_ok, run_underlying h1, hp, Instr.sureAddr, run_sizeOf hsz, hcond, and_self, if_true, addr_add, htn]
   generalize hcv : Act.eval ⟨tmps, ds⟩ x = cv at hx key
   split at hs
   ·rename_i cells ea
    rw [ea] at hx
    simp only [Option.some.injEq, Prod.mk.injEq] at hs
    obtain ⟨rfl, rfl⟩ := hs
    cases hx with
    | cptr _ β off cs e f hMb hle hr =>
     refine .quiet hH hM (key _ _ rfl) (.cptr _ β _ cs e f hMb ?_ fun j c y hc hy => ?_)
     ·rcases hle with rfl | hle
      ·left; simp
      ·rcases Nat.lt_or_ge (q * sz) cells.length with hlt | hge
       ·right; simp; omega
       ·left; exact List.drop_eq_nil_of_le hge
     ·rw [List.getElem?_drop] at hc
      exact hr _ c y hc (by rw [← Nat.add_assoc]; exact hy)
   ·rename_i g' i' row off ea
    rw [ea] at hx
    simp only [Option.some.injEq, Prod.mk.injEq] at hs
    obtain ⟨rfl, rfl⟩ := hs
    cases hx with
    | ptr _ _ _ _ β l hJ hb =>
     have := Rep.ptr (M := M) g' i' row (off + q * sz) β l hJ hb
     rw [← Nat.add_assoc] at this
     exact .quiet hH hM (key _ _ rfl) this
   ·cases hs
  ·cases hs
 ·cases hs
theorem scs_rep {xs : List AV} : ∀ {vs : List Value} (_ : scs xs = some vs) (cvs : List Value) (_ : xs.length = cvs.length) (_ : ∀ (j : Nat) c v, xs[j]? = some c → cvs[j]? = some v → Rep M J c v), cvs = vs := by
 induction xs with
 | nil =>
  intro vs h cvs hl _
  simp [scs] at h
  subst h
  cases cvs with | nil => rfl | cons _ _ => simp at hl
 | cons a xs ih =>
  intro vs h cvs hl hr
  cases a with
  | sc u =>
   simp only [scs] at h
   split at h
   ·rename_i q hq
    injection h with h
    subst h
    cases cvs with
    | nil => simp at hl
    | cons c cvs =>
     have h0 := hr 0 _ _ rfl rfl
     rw [h0.sc_inv, ih hq cvs (by simpa using hl) fun j c v a b => hr (j + 1) c v a b]
   ·cases h
  | _ => cases h
theorem ok_max (hF : FRep N M J fr tmps) (hH : HRep M J H w.heap) (hM : MRep M w.heap) {args : Array Operand} {ts : Array TypeId} (h : o.op = .call ⟨.builtin .max, args, ts⟩)
  (hs : dstep g i (.max args.toList) fr H = some (v, H')) : OpOK P M J H w g i (execOp (Act.eval ⟨tmps, ds⟩) o) v H' := by
 obtain ⟨h1, h2⟩ := avals_rep (ds := ds) hF args.toList _ rfl args rfl
 simp only [dstep] at hs
 split at hs
 ·rename_i vs hvs
  split at hs
  ·rename_i r hr
   simp only [Option.some.injEq, Prod.mk.injEq] at hs
   obtain ⟨rfl, rfl⟩ := hs
   have he := scs_rep hvs (args.map (Act.eval ⟨tmps, ds⟩)).toList (by simpa using h1) (fun j c v a b => h2 j c v a (by simpa using b))
   have he' : args.map (Act.eval ⟨tmps, ds⟩) = vs.toArray := by rw [← he]
   have hrun := Sem.pure?_run hr P w
   refine .quiet hH hM (cv := r) ?_ (.sc r)
   have hrun' : (Builtin.max_ ts o.type vs.toArray).run P w = .ok r w := hrun
   simp only [execOp, h, resolve, invoke, builtin, Sem.run_bind, Sem.run_pure, Result.andThen_ok, he', hrun']
  ·cases hs
 ·cases hs
theorem ok_min (hF : FRep N M J fr tmps) (hH : HRep M J H w.heap) (hM : MRep M w.heap) {args : Array Operand} {ts : Array TypeId} (h : o.op = .call ⟨.builtin .min, args, ts⟩)
  (hs : dstep g i (.min args.toList) fr H = some (v, H')) : OpOK P M J H w g i (execOp (Act.eval ⟨tmps, ds⟩) o) v H' := by
 obtain ⟨h1, h2⟩ := avals_rep (ds := ds) hF args.toList _ rfl args rfl
 simp only [dstep] at hs
 split at hs
 ·rename_i vs hvs
  split at hs
  ·rename_i r hr
   simp only [Option.some.injEq, Prod.mk.injEq] at hs
   obtain ⟨rfl, rfl⟩ := hs
   have he := scs_rep hvs (args.map (Act.eval ⟨tmps, ds⟩)).toList (by simpa using h1) (fun j c v a b => h2 j c v a (by simpa using b))
   have he' : args.map (Act.eval ⟨tmps, ds⟩) = vs.toArray := by rw [← he]
   have hrun := Sem.pure?_run hr P w
   refine .quiet hH hM (cv := r) ?_ (.sc r)
   have hrun' : (Builtin.min_ ts o.type vs.toArray).run P w = .ok r w := hrun
   simp only [execOp, h, resolve, invoke, builtin, Sem.run_bind, Sem.run_pure, Result.andThen_ok, he', hrun']
  ·cases hs
 ·cases hs
theorem sbnd_sound {N : Nat} {tmps : Array Value} {fr : Fr} {ds : List Deferred} (hF : FRep N M J fr tmps) {d q : Nat} {x : Operand} (h : sbnd fr d (some x) = some q) : ∃ k, Act.eval ⟨tmps, ds⟩ x = .int k (q : Int) := by
 have hx := ev_rep (ds := ds) hF x
 simp only [sbnd] at h
 split at h
 ·rename_i k q' e
  injection h with h
  subst h
  rw [e] at hx
  exact ⟨k, hx.sc_inv⟩
 ·cases h
theorem sbounds_sound {N : Nat} {tmps : Array Value} {fr : Fr} {ds : List Deferred} (hF : FRep N M J fr tmps) {d cap l hh : Nat} {lo hi mx : Option Operand} (h : sbounds fr d lo hi mx = some (l, hh)) (hd : d ≤ cap) :
  ∃ m, l ≤ hh ∧ hh ≤ m ∧ hh ≤ d ∧ m ≤ cap ∧ (Instr.sliceBounds true d cap (lo.map (Act.eval ⟨tmps, ds⟩)) (hi.map (Act.eval ⟨tmps, ds⟩)) (mx.map (Act.eval ⟨tmps, ds⟩))).run P w = .ok (l, hh, m) w := by
 have hb : ∀ (k : IntKind) (q y : Nat) (c : BoundsCode), q ≤ y → (Instr.sliceBound (.int k (q : Int)) y c).run P w = .ok q w := by
  intro k q y c hq
  have : 0 ≤ (q : Int) ∧ (q : Int) ≤ (y : Int) := by omega
  simp [Instr.sliceBound, asIntOf, this]
 simp only [sbounds] at h
 split at h
 ·rename_i l' h' m' e1 e2 e3
  split at h
  ·rename_i hc
   simp only [Bool.and_eq_true, Bool.or_eq_true] at hc
   have c1 : l' ≤ h' := Nat.le_of_ble_eq_true hc.1.1
   have c2 : h' ≤ m' := Nat.le_of_ble_eq_true hc.1.2.1
   have c3 : m' ≤ d := Nat.le_of_ble_eq_true hc.1.2.2
   have c4 := hc.2
   simp only [Option.some.injEq, Prod.mk.injEq] at h
   obtain ⟨rfl, rfl⟩ := h
   cases mx with
   | none =>
    refine ⟨cap, c1, by omega, by omega, Nat.le_refl _, ?_⟩
    cases hi with
    | none =>
     simp only [sbnd, Option.some.injEq] at e2
     subst e2
     cases lo with
     | none =>
      simp only [sbnd, Option.some.injEq] at e1
      subst e1
      simp [Instr.sliceBounds]
     | some x =>
      obtain ⟨k, hk⟩ := sbnd_sound (ds := ds) hF e1
      simp [Instr.sliceBounds, hk, hb _ _ _ _ c1]
    | some y =>
     obtain ⟨ky, hky⟩ := sbnd_sound (ds := ds) hF e2
     have c5 : h' ≤ cap := by omega
     cases lo with
     | none =>
      simp only [sbnd, Option.some.injEq] at e1
      subst e1
      simp [Instr.sliceBounds, hky, hb _ _ _ _ c5]
     | some x =>
      obtain ⟨k, hk⟩ := sbnd_sound (ds := ds) hF e1
      simp [Instr.sliceBounds, hk, hky, hb _ _ _ _ c1, hb _ _ _ _ c5]
   | some z =>
    obtain ⟨kz, hkz⟩ := sbnd_sound (ds := ds) hF e3
    have c6 : m' ≤ cap := by omega
    refine ⟨m', c1, c2, by omega, c6, ?_⟩
    cases hi with
    | none => simp at c4
    | some y =>
     obtain ⟨ky, hky⟩ := sbnd_sound (ds := ds) hF e2
     cases lo with
     | none =>
      simp only [sbnd, Option.some.injEq] at e1
      subst e1
      simp [Instr.sliceBounds, hky, hkz, hb _ _ _ _ c2, hb _ _ _ _ c6]
     | some x =>
      obtain ⟨k, hk⟩ := sbnd_sound (ds := ds) hF e1
      simp [Instr.sliceBounds, hk, hky, hkz, hb _ _ _ _ c1, hb _ _ _ _ c2, hb _ _ _ _ c6]
  ·cases h
 ·cases h
theorem ok_slice (hF : FRep N M J fr tmps) (hH : HRep M J H w.heap) (hM : MRep M w.heap) {t e : TypeId} {x : Operand} {lo hi mx : Option Operand} {sz : Nat} (h1 : P.underlying t = some (.slice e)) (hsz : szOf P e = some sz)
  (h : o.op = .slice t x lo hi mx) (hs : dstep g i (.slice sz x lo hi mx) fr H = some (v, H')) : OpOK P M J H w g i (execOp (Act.eval ⟨tmps, ds⟩) o) v H' := by
 have hx := ev_rep (ds := ds) hF x
 have key : ∀ (a : Option Addr) (d cap l hh : Nat), Act.eval ⟨tmps, ds⟩ x = .slice a d cap → sbounds fr d lo hi mx = some (l, hh) → d ≤ cap → ∃ m, l ≤ hh ∧ hh ≤ m ∧ hh ≤ d ∧ m ≤ cap ∧
   (execOp (Act.eval ⟨tmps, ds⟩) o).run P w = .ok (.value (.slice (if m = l then a else a.map (·.add (l * sz))) (hh - l) (m - l))) w := by
  intro a d cap l hh hp hb hd
  obtain ⟨m, c1, c2, c3, c4, c5⟩ := sbounds_sound (P := P) (w := w) (ds := ds) hF hb hd
  refine ⟨m, c1, c2, c3, c4, ?_⟩
  simp [execOp, h, Instr.sliceAt, Instr.slice, run_underlying h1, hp, c5, run_sizeOf hsz]
 simp only [dstep] at hs
 generalize hcv : Act.eval ⟨tmps, ds⟩ x = cv at hx key
 split at hs
 ·rename_i s rows ea
  rw [ea] at hx
  split at hs
  ·rename_i hb
   have hss : s = sz := Nat.eq_of_beq_eq_true hb
   subst hss
   split at hs
   ·rename_i l hh hsb
    simp only [Option.some.injEq, Prod.mk.injEq] at hs
    obtain ⟨rfl, rfl⟩ := hs
    cases hx with
    | nilList _ a cap =>
     obtain ⟨m, c1, c2, c3, c4, hrun⟩ := key a 0 cap l hh rfl hsb (Nat.zero_le _)
     have : hh = 0 := by omega
     subst this
     have : l = 0 := by omega
     subst this
     simp only [List.drop_nil, List.take_nil]
     exact .quiet hH hM hrun (.nilList _ _ _)
    | list _ _ β off cap n cs e' f hn hMb hrl hle hone hrep =>
     obtain ⟨hn, hcap⟩ := hn
     subst hn
     obtain ⟨m, c1, c2, c3, c4, hrun⟩ := key _ _ cap l hh rfl hsb hcap
     refine .quiet hH hM hrun ?_
     by_cases hlh : l = hh
     ·subst hlh
      rw [Nat.sub_self, List.take_zero]
      exact .nilList _ _ _
     ·rw [if_neg (by omega)]
      have hlen : ((rows.drop l).take (hh - l)).length = hh - l := by simp; omega
      have hgr : ∀ (q : Nat) (r : List AV), ((rows.drop l).take (hh - l))[q]? = some r → q < hh - l ∧ rows[l + q]? = some r := by
       intro q r hq
       rw [List.getElem?_take] at hq
       split at hq
       ·rw [List.getElem?_drop] at hq; exact ⟨by assumption, hq⟩
       ·cases hq
      have hmul : l * s + (hh - l) * s ≤ rows.length * s := by rw [← Nat.add_mul]; exact Nat.mul_le_mul_right _ (by omega)
      simp only [Option.map_some, addr_add]
      refine .list s _ β (off + l * s) (m - l) (hh - l) cs e' f ⟨hlen.symm, by omega⟩ hMb (fun q r hq => hrl _ r (hgr q r hq).2) (by rw [hlen]; omega) (fun j y hj hy => ?_) (fun q r j c y hq hc hy => ?_)
      ·rw [hlen] at hj
       exact hone (l * s + j) y (by omega) (by rw [← Nat.add_assoc]; exact hy)
      ·exact hrep (l + q) r j c y (hgr q r hq).2 hc (by rw [Nat.add_mul, ← Nat.add_assoc]; exact hy)
   ·cases hs
  ·cases hs
 ·rename_i g' i' start' len ea
  rw [ea] at hx
  split at hs
  ·rename_i s rows hg
   split at hs
   ·rename_i hb
    have hss : s = sz := Nat.eq_of_beq_eq_true hb
    subst hss
    split at hs
    ·rename_i l hh hsb
     have hbk : ∀ β0 (l0 : Loc) (cap : Nat), J g' i' = some l0 → l0.blk = some β0 → (start' + cap) * l0.sz ≤ l0.tot → len ≤ cap → ∀ cv', cv' = Value.slice (some ⟨β0, start' * l0.sz, none⟩) len cap → cv = cv' → l0.sz = s →
       OpOK P M J H w g i (execOp (Act.eval ⟨tmps, ds⟩) o) v H' := by
      intro β0 l0 cap hJ0 hb0 hc0 hlc0 cv' hcv' hcvv hs0
      subst hcv'
      subst hcvv
      obtain ⟨m, c1, c2, c3, c4, hrun⟩ := key _ len cap l hh rfl hsb hlc0
      split at hs
      ·rename_i hl0
       have hl0 := Nat.eq_of_beq_eq_true hl0
       subst hl0
       simp only [Option.some.injEq, Prod.mk.injEq] at hs
       obtain ⟨rfl, rfl⟩ := hs
       refine .quiet hH hM hrun ?_
       have e : (if m = 0 then (some ⟨β0, start' * l0.sz, none⟩ : Option Addr) else Option.map (fun (x : Addr) => x.add (0 * s)) (some ⟨β0, start' * l0.sz, none⟩)) = some ⟨β0, start' * l0.sz, none⟩ := by
        split
        ·rfl
        ·simp only [Option.map_some, addr_add, Nat.zero_mul, Nat.add_zero]
       rw [e, Nat.sub_zero, Nat.sub_zero]
       exact .hsl g' i' start' hh m β0 l0 hJ0 hb0 (Nat.le_trans (Nat.mul_le_mul_right _ (by omega)) hc0) c2
      ·split at hs
       ·rename_i hlh
        have hlh := Nat.eq_of_beq_eq_true hlh
        subst hlh
        simp only [Option.some.injEq, Prod.mk.injEq] at hs
        obtain ⟨rfl, rfl⟩ := hs
        rw [Nat.sub_self] at hrun
        exact .quiet hH hM hrun (.nilList _ _ _)
       ·rename_i hlh
        have hne : l ≠ hh := fun e => by subst e; simp at hlh
        simp only [Option.some.injEq, Prod.mk.injEq] at hs
        obtain ⟨rfl, rfl⟩ := hs
        rw [if_neg (by omega)] at hrun
        simp only [Option.map_some, addr_add] at hrun
        have := Rep.hsl (M := M) g' i' (start' + l) (hh - l) (m - l) β0 l0 hJ0 hb0 (Nat.le_trans (Nat.mul_le_mul_right _ (by omega)) hc0) (by omega)
        rw [Nat.add_mul, hs0] at this
        rw [hs0] at hrun
        exact .quiet hH hM hrun this
     obtain ⟨l', p1, p2, p3, p4⟩ := hH.cells hg
     generalize hcv2 : cv = cv2 at hx
     cases hx with
     | hsl _ _ _ _ cap β l0 hJ hbk' hc hlc =>
      rw [hJ] at p1
      injection p1 with p1
      subst p1
      exact hbk β l0 cap hJ hbk' hc hlc _ rfl hcv2 p2
     | hslNil _ _ a0 l0 hJ hbk' =>
      subst hcv2
      obtain ⟨m, c1, c2, c3, c4, hrun⟩ := key a0 0 0 l hh rfl hsb (Nat.le_refl _)
      have hh0 : hh = 0 := by omega
      subst hh0
      have hl0 : l = 0 := by omega
      subst hl0
      have hm0 : m = 0 := by omega
      subst hm0
      replace hs : some (AV.hsl g' i' 0 0, H) = some (v, H') := hs
      simp only [Option.some.injEq, Prod.mk.injEq] at hs
      obtain ⟨rfl, rfl⟩ := hs
      exact .quiet hH hM hrun (.hslNil _ _ _ l0 hJ hbk')
    ·cases hs
   ·cases hs
  ·cases hs
 ·rename_i ea
  rw [ea] at hx
  split at hs
  ·rename_i p hsb
   obtain ⟨l, hh⟩ := p
   simp only [Option.some.injEq, Prod.mk.injEq] at hs
   obtain ⟨rfl, rfl⟩ := hs
   cases hx
   obtain ⟨m, c1, c2, c3, c4, hrun⟩ := key none 0 0 l hh rfl hsb (Nat.le_refl _)
   have hh0 : hh = 0 := by omega
   subst hh0
   have hl0 : l = 0 := by omega
   subst hl0
   have hm0 : m = 0 := by omega
   subst hm0
   exact .quiet hH hM hrun (.sc _)
  ·cases hs
 ·cases hs
end
end Go.Av
namespace Go.Av
section
variable {P : Program} {M : Mem} {J : Inj} {H : Heap} {w : World} {g i : Nat}
variable {N : Nat} {fr : Fr} {tmps : Array Value} {ds : List Deferred} {o : Oper} {v : AV} {H' : Heap}
theorem run_mapM {α β : Type} (f : α → Sem β) (h : α → β) : ∀ (l : List α), (∀ x ∈ l, (f x).run P w = .ok (h x) w) → (l.mapM f).run P w = .ok (l.map h) w
 | [], _ => by simp
 | x :: l, hf => by
  have h1 := hf x (List.mem_cons_self ..)
  have h2 := run_mapM f h l fun y hy => hf y (List.mem_cons_of_mem _ hy)
  simp [h1, h2]
theorem run_arr_mapM {α β : Type} (f : α → Sem β) (h : α → β) (a : Array α) (hf : ∀ x ∈ a.toList, (f x).run P w = .ok (h x) w) : (a.mapM f).run P w = .ok (a.map h) w := by
 rw [Array.mapM_eq_mapM_toList]
 simp only [Sem.run_map, run_mapM f h a.toList hf, Result.andThen_ok]
 congr 1
 apply Array.ext'
 simp
theorem foldl_splice (l : List Value) : ∀ (cs : Array Value) (off k : Nat), (l.zipIdx k).foldl (fun cs (x : Value × Nat) => cs.setIfInBounds (off + x.2) x.1) cs = splice cs (off + k) l := by
 induction l with
 | nil => intro cs off k; rfl
 | cons v l ih =>
  intro cs off k
  simp only [List.zipIdx_cons, List.foldl_cons, splice]
  rw [ih, Nat.add_assoc]
theorem foldl_splice' (a : Array Value) (cs : Array Value) (off : Nat) : a.zipIdx.foldl (fun cs (x : Value × Nat) => cs.setIfInBounds (off + x.2) x.1) cs = splice cs off a.toList := by
 rw [← Array.foldl_toList, Array.toList_zipIdx, foldl_splice, Nat.add_zero]
def RowRep (M : Mem) (J : Inj) (xs : List AV) (cs : Array Value) : Prop := xs.length = cs.size ∧ ∀ (j : Nat) c v, xs[j]? = some c → cs[j]? = some v → Rep M J c v
theorem RowRep.splice {xs : List AV} {cs : Array Value} (h : RowRep M J xs cs) {ys : List AV} {ws : List Value} (hl : ys.length = ws.length) (hr : ∀ (j : Nat) c v, ys[j]? = some c → ws[j]? = some v → Rep M J c v) (off : Nat) :
  RowRep M J (lsplice xs off ys) (splice cs off ws) := by
 refine ⟨by simp [h.1], fun j c v hc hv => ?_⟩
 rw [get_lsplice] at hc
 rw [get_splice] at hv
 have := h.1
 split at hc
 ·rename_i hh
  rw [if_pos (by omega)] at hv
  exact hr _ c v hc hv
 ·rename_i hh
  rw [if_neg (by omega)] at hv
  exact h.2 j c v hc hv
theorem lay_rep (hF : FRep N M J fr tmps) (fs : Array Field) : ∀ (parts : List (Nat × Operand)) (lp : List (Nat × Nat × Operand)) (xs ys : List AV) (cs : Array Value), partOf P fs parts = some lp →
  lay xs (lp.map fun p => (p.1, p.2.1, ev fr p.2.2)) = some ys → RowRep M J xs cs →
  ∃ cs', Instr.fill ((fs.map fun f => (f.offset, P.cellsOf f.type))[·]?) cs (parts.map fun p => (p.1, Act.eval ⟨tmps, ds⟩ p.2)) = some cs' ∧ RowRep M J ys cs' := by
 intro parts
 induction parts with
 | nil =>
  intro lp xs ys cs hp hl hr
  simp [partOf] at hp
  subst hp
  simp [lay] at hl
  subst hl
  exact ⟨cs, rfl, hr⟩
 | cons p parts ih =>
  obtain ⟨k, x⟩ := p
  intro lp xs ys cs hp hl hr
  simp only [partOf] at hp
  split at hp
  ·rename_i f q hf hq
   split at hp
   ·rename_i n hn
    injection hp with hp
    subst hp
    simp only [List.map_cons, lay] at hl
    split at hl
    ·rename_i c hc
     split at hl
     ·rename_i hb
      simp only [Bool.and_eq_true] at hb
      have hcn : c.length = n := Nat.eq_of_beq_eq_true hb.1
      have hle : f.offset + n ≤ xs.length := Nat.le_of_ble_eq_true hb.2
      obtain ⟨h1, h2⟩ := (ev_rep (ds := ds) hF x).cs hc
      have hsz : P.cellsOf f.type = n := by
       unfold szOf at hn
       unfold Program.cellsOf
       rw [hn]; rfl
      obtain ⟨cs', h3, h4⟩ := ih q _ ys (splice cs f.offset (Act.eval ⟨tmps, ds⟩ x).cells.toList) hq hl (hr.splice (by simpa using h1) (fun j c v a b => h2 j c v a (by simpa using b)) f.offset)
      refine ⟨cs', ?_, h4⟩
      have hr1 := hr.1
      simp only [List.map_cons, Instr.fill, Array.getElem?_map, hf, Option.map_some]
      rw [if_neg (by
       simp only [Bool.or_eq_true, decide_eq_true_eq, not_or]
       rw [hsz]
       omega)]
      rw [foldl_splice']
      simp only [Array.getElem?_map] at h3
      exact h3
     ·cases hl
    ·cases hl
   ·cases hp
  ·cases hp
theorem ok_build (hF : FRep N M J fr tmps) (hH : HRep M J H w.heap) (hM : MRep M w.heap) {t : TypeId} {fs : Array Field} {z : List (Nat × Value)} {parts : Array (Nat × Operand)} {lp : List (Nat × Nat × Operand)}
  (ht : P.underlying t = some (.struct fs)) (hz : zOf P t = some z) (hall : fs.all (fun f => (szOf P f.type).isSome) = true) (hp : partOf P fs parts.toList = some lp) (h : o.op = .build t parts)
  (hs : dstep g i (.build z lp) fr H = some (v, H')) : OpOK P M J H w g i (execOp (Act.eval ⟨tmps, ds⟩) o) v H' := by
 obtain ⟨inf, zv, hi, hz0, hsize, hone, hun⟩ := zOf_some hz
 simp only [dstep] at hs
 split at hs
 ·rename_i ys hl
  simp only [Option.some.injEq, Prod.mk.injEq] at hs
  obtain ⟨rfl, rfl⟩ := hs
  have hz1 : RowRep M J (zrow z) zv.cells := ⟨by rw [zrow_eq, hun]; simp, fun j c v hc hv => by rw [zrow_get hun hc hv]; exact .sc v⟩
  obtain ⟨cs', h1, h2⟩ := lay_rep (P := P) (ds := ds) hF fs parts.toList lp _ ys zv.cells hp hl hz1
  refine .quiet hH hM (cv := .agg cs') ?_ (.agg _ _ h2.1 h2.2)
  have hm : (fs.mapM fun f => (do pure (f.offset, ← sizeOf f.type) : Sem (Nat × Nat))).run P w = .ok (fs.map fun f => (f.offset, P.cellsOf f.type)) w := by
   refine run_arr_mapM _ _ _ fun f hf => ?_
   have hsome : (szOf P f.type).isSome = true := by
    obtain ⟨j, hj, rfl⟩ := List.mem_iff_getElem.1 hf
    rw [Array.all_eq_true] at hall
    simp at hj
    simpa using hall j hj
   rw [Option.isSome_iff_exists] at hsome
   obtain ⟨n, hn⟩ := hsome
   have : P.cellsOf f.type = n := by
    have := hn
    unfold szOf at this
    unfold Program.cellsOf
    rw [this]; rfl
   simp [run_sizeOf hn, this]
  have hfill : Instr.fill ((fs.map fun f => (f.offset, P.cellsOf f.type))[·]?) zv.cells (parts.map fun p => (p.1, Act.eval ⟨tmps, ds⟩ p.2)).toList = some cs' := by
   rw [Array.toList_map]; exact h1
  simp only [execOp, h, Instr.build, Sem.run_bind, run_zeroValue hi hz0, Result.andThen_ok, run_underlying ht, hm, hfill, Sem.run_pure]
 ·cases hs
def RowsRep (M : Mem) (J : Inj) (sz : Nat) (rows : List (List AV)) (cs : Array Value) : Prop :=
 rows.length * sz = cs.size ∧ (∀ (q : Nat) (r : List AV), rows[q]? = some r → r.length = sz) ∧ (∀ (j : Nat) v, cs[j]? = some v → v.oneCell' = true) ∧
  ∀ (q : Nat) (r : List AV) (j : Nat) c v, rows[q]? = some r → r[j]? = some c → cs[q * sz + j]? = some v → Rep M J c v
theorem layRows_rep (hF : FRep N M J fr tmps) (sz : Nat) : ∀ (parts : List (Nat × Operand)) (xs ys : List (List AV)) (cs : Array Value),
  layRows sz xs (parts.map fun p => (p.1, ev fr p.2)) = some ys → RowsRep M J sz xs cs →
  ∃ cs', Instr.fill (fun i => some (i * sz, sz)) cs (parts.map fun p => (p.1, Act.eval ⟨tmps, ds⟩ p.2)) = some cs' ∧ RowsRep M J sz ys cs' ∧ cs'.size = cs.size := by
 intro parts
 induction parts with
 | nil =>
  intro xs ys cs hl hr
  simp [layRows] at hl
  subst hl
  exact ⟨cs, rfl, hr, rfl⟩
 | cons p parts ih =>
  obtain ⟨k, x⟩ := p
  intro xs ys cs hl hr
  simp only [List.map_cons, layRows] at hl
  split at hl
  ·rename_i c hc
   split at hl
   ·rename_i hb
    simp only [Bool.and_eq_true] at hb
    have hcn : c.length = sz := Nat.eq_of_beq_eq_true hb.1
    have hk : k < xs.length := Nat.le_of_ble_eq_true hb.2.1
    obtain ⟨h1, h2⟩ := (ev_rep (ds := ds) hF x).cs hc
    generalize hxv : Act.eval ⟨tmps, ds⟩ x = xv at h1 h2
    obtain ⟨r1, r2, r3, r4⟩ := hr
    have hkle := row_le (sz := sz) hk
    have hone : ∀ y ∈ xv.cells.toList, y.oneCell' = true := fun y hy => by
     obtain ⟨j, hj, rfl⟩ := List.mem_iff_getElem.1 hy
     simp at hj
     have hjc : j < c.length := by omega
     exact (h2 j c[j] _ (List.getElem?_eq_getElem hjc) (by simp [hj])).cell1 (List.all_eq_true.1 hb.2.2 _ (List.getElem_mem hjc))
    have hlen : xv.cells.toList.length = sz := by simp; omega
    have hnew : RowsRep M J sz (xs.set k c) (splice cs (k * sz) xv.cells.toList) := by
     refine ⟨by simp [r1], fun q r hq => ?_, fun j y hy => ?_, fun q r j c' y hq hc' hy => ?_⟩
     ·rw [List.getElem?_set] at hq
      split at hq
      ·rename_i e
       subst e
       injection hq with hq
       subst hq
       exact hcn
      ·exact r2 q r hq
     ·rw [get_splice] at hy
      split at hy
      ·exact hone y (List.mem_of_getElem? hy)
      ·exact r3 j y hy
     ·rw [List.getElem?_set] at hq
      rw [get_splice] at hy
      split at hq
      ·rename_i e
       subst e
       injection hq with hq
       subst hq
       have hj := (List.getElem?_eq_some_iff.1 hc').1
       rw [if_pos (by rw [hlen]; omega)] at hy
       rw [show k * sz + j - k * sz = j by omega] at hy
       exact h2 j c' y hc' (by simpa using hy)
      ·rename_i e
       have hj := (List.getElem?_eq_some_iff.1 hc').1
       rw [r2 q r hq] at hj
       rw [if_neg] at hy
       ·exact r4 q r j c' y hq hc' hy
       ·rw [hlen]
        rcases Nat.lt_or_gt_of_ne e with hlt | hgt
        ·have := row_le (sz := sz) hlt; omega
        ·have := row_le (sz := sz) hgt; omega
    obtain ⟨cs', h3, h4, h5⟩ := ih _ ys _ hl hnew
    refine ⟨cs', ?_, h4, by rw [h5]; simp⟩
    simp only [List.map_cons, Instr.fill, hxv]
    rw [if_neg (by
     simp only [Bool.or_eq_true, decide_eq_true_eq, not_or]
     omega)]
    rw [foldl_splice']
    exact h3
   ·cases hl
  ·cases hl
theorem ok_buildSlice (hF : FRep N M J fr tmps) (hH : HRep M J H w.heap) (hM : MRep M w.heap) (hn : hok H g i) (hJ : J g i = none) {t e : TypeId} {sz n : Nat} {z : List (Nat × Value)} {parts : Array (Nat × Operand)}
  (ht : P.underlying t = some (.slice e)) (hsz : szOf P e = some sz) (hz : zOf P e = some z) (hlim : n * sz ≤ 16777216) (hpos : 0 < sz) (h : o.op = .buildSlice t n parts)
  (hs : dstep g i (.buildSlice sz z n parts.toList) fr H = some (v, H')) : OpOK P M J H w g i (execOp (Act.eval ⟨tmps, ds⟩) o) v H' := by
 obtain ⟨inf, zv, hi, hz0, hsize, hone, hun⟩ := zOf_some hz
 have hszi : inf.size = sz := by
  unfold szOf at hsz
  rw [hi] at hsz
  simpa using hsz
 have hzs : zv.cells.size = sz := by omega
 simp only [dstep] at hs
 split at hs
 ·rename_i ys hl
  simp only [Option.some.injEq, Prod.mk.injEq] at hs
  obtain ⟨rfl, rfl⟩ := hs
  have hzl : (zrow z).length = sz := by rw [zrow_eq, hun]; simp [hzs]
  have h0 : RowsRep M J sz (List.replicate n (zrow z)) (madeCells zv.cells (n * sz)) := by
   refine ⟨by simp [size_madeCells], fun q r hq => ?_, fun j y hy => ?_, fun q r j c y hq hc hy => ?_⟩
   ·rw [List.getElem?_replicate] at hq
    split at hq
    ·injection hq with hq; subst hq; exact hzl
    ·cases hq
   ·have hj : j < n * sz := by have := (Array.getElem?_eq_some_iff.1 hy).1; rwa [size_madeCells] at this
    have hjm : j % sz < sz := Nat.mod_lt _ hpos
    rw [get_madeCells _ _ _ hj, hzs, getElem!_pos zv.cells (j % sz) (by omega)] at hy
    injection hy with hy
    subst hy
    exact hone _ (Array.getElem_mem _)
   ·rw [List.getElem?_replicate] at hq
    split at hq
    ·rename_i hqn
     injection hq with hq
     subst hq
     have hj : j < sz := by rw [← hzl]; exact (List.getElem?_eq_some_iff.1 hc).1
     have := row_le (sz := sz) hqn
     rw [zrow_get hun hc (get_madeCells_lt hzs hj (by omega) hy)]
     exact .sc y
    ·cases hq
  obtain ⟨cs', h1, ⟨r1, r2, r3, r4⟩, h3⟩ := layRows_rep (ds := ds) hF sz parts.toList _ ys _ hl h0
  have hylen : ys.length = n := by
   have : ys.length * sz = n * sz := by rw [r1, h3, size_madeCells]
   exact Nat.eq_of_mul_eq_mul_right hpos this
  refine .new hH hM hn hJ (w' := { w with heap := w.heap.push (.cells cs' e) }) (.cells cs' e) _ ⟨some w.heap.size, sz, n * sz⟩ rfl rfl rfl rfl (cv := .slice (some ⟨w.heap.size, 0, none⟩) n n) ?_ rfl ?_ ?_
  ·have hlim' : ¬ (16777216 < n * sz) := by omega
   have hfill : Instr.fill (fun i => some (i * sz, sz)) ((Array.range (n * sz)).map (zv.cells[· % zv.cells.size]!)) (parts.map fun p => (p.1, Act.eval ⟨tmps, ds⟩ p.2)).toList = some cs' := by
    rw [Array.toList_map]; exact h1
   by_cases h0' : n * sz = 0
   ·have hfill0 : Instr.fill (fun i => some (i * sz, sz)) ((Array.range (n * sz)).map ((#[] : Array Value)[· % (#[] : Array Value).size]!)) (parts.map fun p => (p.1, Act.eval ⟨tmps, ds⟩ p.2)).toList = some cs' := by
     rw [h0'] at hfill ⊢
     rw [show Array.range 0 = #[] from rfl, Array.map_empty] at hfill ⊢
     exact hfill
    simp only [execOp, h, Instr.buildSlice, Sem.run_bind, run_underlying ht, Result.andThen_ok, run_sizeOf hsz, newRow, Sem.run_pure]
    rw [if_neg (by show ¬ (n * sz > 2 ^ 24); omega), if_pos h0']
    simp only [Sem.run_pure, Result.andThen_ok, hfill0, Sem.run_bind, run_newObj]
   ·simp only [execOp, h, Instr.buildSlice, Sem.run_bind, run_underlying ht, Result.andThen_ok, run_sizeOf hsz]
    rw [if_neg (by show ¬ (n * sz > 2 ^ 24); omega), if_neg h0']
    simp only [Sem.run_bind, run_zeroValue hi hz0, Sem.run_pure, Result.andThen_ok, hfill, newRow, run_newObj]
  ·refine ⟨rfl, r2, cs', e, get_push _ _, by rw [h3, size_madeCells], by rw [hylen]; exact Nat.le_refl _, fun j y _ hy => r3 j y hy, r4⟩
  ·have := Rep.hsl (M := M) (J := J.set g i ⟨some w.heap.size, sz, n * sz⟩) g i 0 n n w.heap.size _ (Inj.set_self _) rfl (by simp) (Nat.le_refl _)
   rwa [Nat.zero_mul] at this
 ·cases hs
end
end Go.Av
namespace Go.Av
section
variable {P : Program} {M : Mem} {J : Inj} {H : Heap} {w : World} {g i : Nat}
variable {N : Nat} {fr : Fr} {tmps : Array Value} {ds : List Deferred} {o : Oper} {v : AV} {H' : Heap}
theorem Step.rebind (k : Nat) {M J H w w'} (h : HRep M J H w.heap) (m : MRep M w.heap) (g' i' : Nat) (l : Loc) (β : Nat) (x0 : Blk) (hx0 : hget H g' i' = some x0) (hl0 : x0.live = true) (hJ0 : J g' i' = some l) (hβ : l.blk = some β)
  (g i : Nat) (hn : hok (hset H g' i' .dead) g i) (hJ : J g i = none) (o : Obj) (x : Blk) (hx : BRep M J l w'.heap x) (hw : w'.heap = w.heap.setIfInBounds β o) (hos : w'.os = w.os) (htape : w'.tape = w.tape) (hout : w'.output = w.output) (hpl : x0.plain = true := by rfl) :
  Step k M J H w M (J.set g i l) (hset (hset H g' i' .dead) g i x) w' := by
 have hg1 := fun a b => get_hset H g' i' .dead a b (.inl (by rw [hx0]; rfl))
 have hg2 := fun a b => get_hset (hset H g' i' .dead) g i x a b hn
 have hother : ∀ γ : Nat, γ ≠ β → w'.heap[γ]? = w.heap[γ]? := by
  intro γ hγ
  rw [hw, Array.getElem?_setIfInBounds, if_neg (fun e => hγ e.symm)]
 have hext := Inj.set_ext (g := g) (i := i) l hJ M
 have key : ∀ a b l', liveAt (hset (hset H g' i' .dead) g i x) a b → (J.set g i l) a b = some l' → (a = g ∧ b = i ∧ l' = l) ∨ (¬ (a = g ∧ b = i) ∧ ¬ (a = g' ∧ b = i') ∧ liveAt H a b ∧ J a b = some l') := by
  intro a b l' hc hj
  by_cases e : a = g ∧ b = i
  ·simp only [Inj.set, if_pos e, Option.some.injEq] at hj
   exact .inl ⟨e.1, e.2, hj.symm⟩
  ·obtain ⟨y, hy, hyl⟩ := hc
   rw [hg2, if_neg e, hg1] at hy
   simp only [Inj.set, if_neg e] at hj
   by_cases e' : a = g' ∧ b = i'
   ·rw [if_pos e'] at hy; injection hy with hy; subst hy; cases hyl
   ·rw [if_neg e'] at hy
    exact .inr ⟨e, e', ⟨y, hy, hyl⟩, hj⟩
 refine ⟨fun _ _ h => h, fun a b l' _ h' => hext.j a b l' h', ⟨?_, ?_, ?_, ?_⟩, ?_, hos, htape, hout, by rw [hw]; simp, ?_, fun β o' h => .inl h, ?_, ?_⟩
 ·intro a b y hy hyl
  rw [hg2] at hy
  by_cases e : a = g ∧ b = i
  ·rw [if_pos e] at hy
   injection hy with hy
   subst hy
   exact ⟨l, by simp [Inj.set, e], hx.ext hext fun _ _ => rfl⟩
  ·rw [if_neg e, hg1] at hy
   by_cases e' : a = g' ∧ b = i'
   ·rw [if_pos e'] at hy; injection hy with hy; subst hy; cases hyl
   ·rw [if_neg e'] at hy
    obtain ⟨l', h1, h3⟩ := h.blk a b y hy hyl
    refine ⟨l', by simp only [Inj.set, if_neg e]; exact h1, h3.ext hext fun γ hγ => hother γ ?_⟩
    rintro rfl
    exact e' (h.inj a b g' i' l' l γ ⟨y, hy, hyl⟩ ⟨x0, hx0, hl0⟩ h1 hJ0 hγ hβ)
 ·intro a1 b1 a2 b2 l1 l2 γ h1 h2 h3 h4 h5 h6
  rcases key a1 b1 l1 h1 h3 with ⟨e1, e2, e3⟩ | ⟨e1, e0, e2, e3⟩ <;> rcases key a2 b2 l2 h2 h4 with ⟨f1, f2, f3⟩ | ⟨f1, f0, f2, f3⟩
  ·exact ⟨e1.trans f1.symm, e2.trans f2.symm⟩
  ·subst e3
   exact absurd (h.inj a2 b2 g' i' l2 l1 γ f2 ⟨x0, hx0, hl0⟩ f3 hJ0 h6 h5) f0
  ·subst f3
   exact absurd (h.inj a1 b1 g' i' l1 l2 γ e2 ⟨x0, hx0, hl0⟩ e3 hJ0 h5 h6) e0
  ·exact h.inj a1 b1 a2 b2 l1 l2 γ e2 f2 e3 f3 h5 h6
 ·intro a b l' γ h1 h2 h3
  rcases key a b l' h1 h2 with ⟨e1, e2, e3⟩ | ⟨e1, e0, e2, e3⟩
  ·subst e3
   exact h.out g' i' l' γ ⟨x0, hx0, hl0⟩ hJ0 h3
  ·exact h.out a b l' γ e2 e3 h3
 ·intro a b l' h1
  by_cases e : a = g ∧ b = i
  ·rw [hg2, if_pos e]
   simp only [Inj.set, if_pos e, Option.some.injEq] at h1
   subst h1
   exact ⟨rfl, fun γ hγ => by rw [hw]; simp; exact (h.dom g' i' l hJ0).2 γ hγ⟩
  ·rw [hg2, if_neg e, hg1]
   simp only [Inj.set, if_neg e] at h1
   have := h.dom a b l' h1
   refine ⟨?_, fun γ hγ => by rw [hw]; simp; exact this.2 γ hγ⟩
   split
   ·rfl
   ·exact this.1
 ·intro γ o' hm
  rw [hother]
  ·exact m γ o' hm
  ·rintro rfl
   rw [h.out g' i' l γ ⟨x0, hx0, hl0⟩ hJ0 hβ] at hm
   cases hm
 ·intro γ o' ho hn'
  rw [hother]
  ·exact ho
  ·rintro rfl
   exact hn' g' i' l ⟨x0, hx0, hl0⟩ hJ0 hβ
 ·intro a b l' γ h1 h2 h3
  rcases key a b l' h1 h2 with ⟨e1, e2, e3⟩ | ⟨e1, e0, e2, e3⟩
  ·subst e3
   exact .inl ⟨g', i', l', ⟨x0, hx0, hl0⟩, hJ0, h3⟩
  ·exact .inl ⟨a, b, l', e2, e3, h3⟩
 ·intro γ r hr
  refine ⟨r, (hother γ ?_).trans hr, rfl⟩
  rintro rfl
  obtain ⟨l', e1, e2⟩ := h.blk g' i' x0 hx0 hl0
  rw [hJ0] at e1
  injection e1 with e1
  subst e1
  exact e2.noLoop hl0 hpl hβ r hr
theorem rowsOf_cells (hH : HRep M J H w.heap) (hM : MRep M w.heap) {a : AV} {x : Value} (hr : Rep M J a x) {sz : Nat} {rows : List (List AV)} (h : rowsOf H a = some (sz, rows)) :
  ∃ b m c, x = .slice b m c ∧ m = rows.length ∧ (∀ (q : Nat) (r : List AV), rows[q]? = some r → r.length = sz) ∧
   ∃ news : List Value, news.length = m * sz ∧ (∀ v ∈ news, v.oneCell' = true) ∧ (∀ (q : Nat) (r : List AV) (j : Nat) c v, rows[q]? = some r → r[j]? = some c → news[q * sz + j]? = some v → Rep M J c v) ∧
    ∀ w' : World, w'.heap = w.heap → (Builtin.firstCells sz m x).run P w' = .ok news.toArray w' := by
 have blockCase : ∀ (β off m c : Nat) (cs : Array Value) (e : TypeId) (f : Nat × Nat), w.heap[β]? = some (.cells cs e f) → off + m * sz ≤ cs.size → m = rows.length →
   (∀ (q : Nat) (r : List AV), rows[q]? = some r → r.length = sz) → (∀ (j : Nat) v, j < m * sz → cs[off + j]? = some v → v.oneCell' = true) →
   (∀ (q : Nat) (r : List AV) (j : Nat) c v, rows[q]? = some r → r[j]? = some c → cs[off + (q * sz + j)]? = some v → Rep M J c v) →
   ∃ news : List Value, news.length = m * sz ∧ (∀ v ∈ news, v.oneCell' = true) ∧ (∀ (q : Nat) (r : List AV) (j : Nat) c v, rows[q]? = some r → r[j]? = some c → news[q * sz + j]? = some v → Rep M J c v) ∧
    ∀ w' : World, w'.heap = w.heap → (Builtin.firstCells sz m (.slice (some ⟨β, off, none⟩) m c)).run P w' = .ok news.toArray w' := by
  intro β off m c cs e f hb hle hm hrl hone hrep
  have hget : ∀ j v, (cs.extract off (off + m * sz)).toList[j]? = some v → j < m * sz ∧ cs[off + j]? = some v := by
   intro j v hv
   rw [Array.getElem?_toList, Array.getElem?_extract] at hv
   split at hv
   ·exact ⟨by omega, hv⟩
   ·cases hv
  refine ⟨(cs.extract off (off + m * sz)).toList, by simp; omega, fun y hy => ?_, fun q r j c y hq hc hy => ?_, fun w' hw' => ?_⟩
  ·obtain ⟨j, hj⟩ := List.getElem?_of_mem hy
   have := hget j y hj
   exact hone j y this.1 this.2
  ·exact hrep q r j c y hq hc (hget _ y hy).2
  ·rw [Array.toArray_toList]
   exact run_loadCells_block P (by rw [hw']; exact hb) hle
 cases hr with
 | list s rows' β off cap n cs e f hn hMb hrl hle hone hrep =>
  simp only [rowsOf, Option.some.injEq, Prod.mk.injEq] at h
  obtain ⟨rfl, rfl⟩ := h
  obtain ⟨hn, _⟩ := hn
  exact ⟨_, n, cap, rfl, hn, hrl, blockCase β off n cap cs e f (hM _ _ hMb) (by rw [hn]; exact hle) hn hrl (by rw [hn]; exact hone) (fun q r j c y a b d => hrep q r j c y a b (by rw [Nat.add_assoc]; exact d))⟩
 | nilList s a cap =>
  simp only [rowsOf, Option.some.injEq, Prod.mk.injEq] at h
  obtain ⟨rfl, rfl⟩ := h
  refine ⟨a, 0, cap, rfl, rfl, fun q r hq => by simp at hq, [], by simp, fun v hv => (by cases hv), fun q r j c v hq => by simp at hq, fun w' _ => ?_⟩
  cases a <;> simp [Builtin.firstCells, loadCells, loadCellsFrom]
 | hsl g' i' start len cap β l hJ hb hc hlc =>
  simp only [rowsOf] at h
  split at h
  ·rename_i s rows0 hg
   split at h
   ·rename_i hble
    have hle' : start + len ≤ rows0.length := Nat.le_of_ble_eq_true hble
    simp only [Option.some.injEq, Prod.mk.injEq] at h
    obtain ⟨rfl, rfl⟩ := h
    obtain ⟨l', p1, p2, p3, p4⟩ := hH.cells hg
    rw [hJ] at p1
    injection p1 with p1
    subst p1
    obtain ⟨cs, e, q1, q2, q3, q4, q5⟩ := p4 β hb
    have hm : len = ((rows0.drop start).take len).length := by simp; omega
    have hgr : ∀ (q : Nat) (r : List AV), ((rows0.drop start).take len)[q]? = some r → q < len ∧ rows0[start + q]? = some r := by
     intro q r hq
     rw [List.getElem?_take] at hq
     split at hq
     ·rw [List.getElem?_drop] at hq; exact ⟨by assumption, hq⟩
     ·cases hq
    have hmul : start * s + len * s ≤ rows0.length * s := by rw [← Nat.add_mul]; exact Nat.mul_le_mul_right _ hle'
    refine ⟨_, len, cap, rfl, hm, fun q r hq => p3 _ r (hgr q r hq).2, ?_⟩
    have := blockCase β (start * l.sz) len cap cs e (0, 0) q1 (by rw [p2]; omega) hm (fun q r hq => p3 _ r (hgr q r hq).2) (fun j y hj hy => q4 (start * s + j) y (by omega) (by rw [p2] at hy; exact hy))
     (fun q r j c y hq hc hy => q5 (start + q) r j c y (hgr q r hq).2 hc (by rw [p2] at hy; rw [Nat.add_mul, Nat.add_assoc]; exact hy))
    exact this
   ·cases h
  ·cases h
 | hslNil g' i' a0 l hJ hb =>
  simp only [rowsOf] at h
  split at h
  ·rename_i s rows0 hg
   split at h
   ·simp only [Option.some.injEq, Prod.mk.injEq, List.drop_zero, List.take_zero] at h
    obtain ⟨rfl, rfl⟩ := h
    refine ⟨a0, 0, 0, rfl, rfl, fun q r hq => by simp at hq, [], by simp, fun v hv => (by cases hv), fun q r j c v hq => by simp at hq, fun w' _ => ?_⟩
    cases a0 <;> simp [Builtin.firstCells, loadCells, loadCellsFrom]
   ·cases h
  ·cases h
 | _ => cases h
theorem rowsX_cells (hH : HRep M J H w.heap) (hM : MRep M w.heap) {a : AV} {x : Value} (hr : Rep M J a x) {s0 sz : Nat} {rows : List (List AV)} (h : rowsX s0 H a = some (sz, rows)) :
  ∃ b m c, x = .slice b m c ∧ m = rows.length ∧ (∀ (q : Nat) (r : List AV), rows[q]? = some r → r.length = sz) ∧
   ∃ news : List Value, news.length = m * sz ∧ (∀ v ∈ news, v.oneCell' = true) ∧ (∀ (q : Nat) (r : List AV) (j : Nat) c v, rows[q]? = some r → r[j]? = some c → news[q * sz + j]? = some v → Rep M J c v) ∧
    ∀ w' : World, w'.heap = w.heap → (Builtin.firstCells sz m x).run P w' = .ok news.toArray w' := by
 unfold rowsX at h
 split at h
 ·simp only [Option.some.injEq, Prod.mk.injEq] at h
  obtain ⟨rfl, rfl⟩ := h
  cases hr
  refine ⟨none, 0, 0, rfl, rfl, fun q r hq => by simp at hq, [], by simp, fun v hv => (by cases hv), fun q r j c v hq => by simp at hq, fun w' _ => ?_⟩
  simp [Builtin.firstCells]
 ·exact rowsOf_cells hH hM hr h
theorem length_hset_old (H : Heap) : ∀ (g i : Nat) (x : Blk), (hget H g i).isSome → (hset H g i x).length = H.length := by
 induction H with
 | nil => intro g i x h; simp [hget] at h
 | cons f r ih =>
  intro g i x h
  cases g with
  | zero => simp [hset]
  | succ g => simp [hset, ih g i x h]
theorem BRep.append {l : Loc} {h : Array Obj} {sz β len : Nat} {cs : Array Value} {e : TypeId} {rows1 rows2 : List (List AV)} (hlsz : l.sz = sz) (hb : l.blk = some β) (hh : h[β]? = some (.cells cs e (0, 0))) (htot : cs.size = l.tot)
  (hlen : rows1.length = len) (h1 : ∀ (q : Nat) (r : List AV), rows1[q]? = some r → r.length = sz) (h2 : ∀ (q : Nat) (r : List AV), rows2[q]? = some r → r.length = sz) (hle : (len + rows2.length) * sz ≤ l.tot)
  (hone : ∀ (j : Nat) v, j < (len + rows2.length) * sz → cs[j]? = some v → v.oneCell' = true)
  (hr1 : ∀ (q : Nat) (r : List AV) (j : Nat) c v, rows1[q]? = some r → r[j]? = some c → cs[q * sz + j]? = some v → Rep M J c v)
  (hr2 : ∀ (q : Nat) (r : List AV) (j : Nat) c v, rows2[q]? = some r → r[j]? = some c → cs[len * sz + (q * sz + j)]? = some v → Rep M J c v) : BRep M J l h (.cells sz (rows1 ++ rows2)) := by
 refine ⟨hlsz, fun q r hq => ?_, ?_⟩
 ·rw [List.getElem?_append] at hq
  split at hq
  ·exact h1 q r hq
  ·exact h2 _ r hq
 ·rw [hb]
  refine ⟨cs, e, hh, htot, by rw [List.length_append, hlen]; exact hle, by rw [List.length_append, hlen]; exact hone, fun q r j c v hq hc hv => ?_⟩
  rw [List.getElem?_append] at hq
  split at hq
  ·exact hr1 q r j c v hq hc hv
  ·rename_i hge
   rw [hlen] at hq hge
   refine hr2 _ r j c v hq hc ?_
   rw [← Nat.add_assoc, ← Nat.add_mul, show len + (q - len) = q by omega]
   exact hv
theorem run_app_grow (t ty e : TypeId) (inf : TypeInfo) (zv : Value) (ht : P.underlying t = some (.slice e)) (hi : P.info? e = some inf) (hz : inf.zero = some zv)
  (base : Option Addr) (sLen sCap : Nat) (olds : List Value) (ho : ∀ w' : World, w'.heap = w.heap → (Builtin.firstCells inf.size sLen (.slice base sLen sCap)).run P w' = .ok olds.toArray w')
  (b : Option Addr) (n c : Nat) (news : List Value) (hn : ∀ w' : World, w'.heap = w.heap → (Builtin.firstCells inf.size n (.slice b n c)).run P w' = .ok news.toArray w')
  (hg : sCap < sLen + n) (h63 : ((sLen + n : Nat) : Int) ≤ 9223372036854775807) (hfit : Builtin.nextslicecap (sLen + n) sCap * inf.bytes ≤ 281474976710656) :
  (Builtin.append_ #[t, t] ty #[.slice base sLen sCap, .slice b n c]).run P w =
   .ok (.slice (some ⟨w.heap.size, 0, none⟩) (sLen + n) (grownCap w (sLen + n) sCap e))
    (w.drew.alloc (.cells (olds.toArray ++ news.toArray ++ Builtin.zeroCells zv.cells (grownCap w (sLen + n) sCap e - (sLen + n))) e)) := by
 have hn' : ¬ (sLen + n ≤ sCap) := by omega
 have h63' : ¬ (9223372036854775807 < ((sLen : Int) + (n : Int))) := by omega
 have h48' : ¬ (281474976710656 < Builtin.nextslicecap (sLen + n) sCap * inf.bytes) := by omega
 have hf := hn w.drew rfl
 have hfo := ho w.drew rfl
 simp [Builtin.append_, run_underlying ht, sizeOf, typeInfo, zeroValue, hi, hz, Builtin.lenOf, hn', h63', h48', Question.forced, hf, hfo, newRow, grownCap]
 congr 2
 apply Array.ext'
 simp
theorem ok_append (hF : FRep N M J fr tmps) (hH : HRep M J H w.heap) (hM : MRep M w.heap) (hn : hok H g i) (hJ : J g i = none) {t e : TypeId} {inf : TypeInfo} {z : List (Nat × Value)} {s x : Operand} {args : Array Operand} {ts : Array TypeId}
  (ha : args.toList = [s, x]) (hts : ts.toList = [t, t]) (ht : P.underlying t = some (.slice e)) (hi : P.info? e = some inf) (hz : zOf P e = some z) (_hsz : 0 < inf.size) (h : o.op = .call ⟨.builtin .append, args, ts⟩)
  (hs : dstep g i (.append inf.size inf.bytes s x) fr H = some (v, H')) : OpOK P M J H w g i (execOp (Act.eval ⟨tmps, ds⟩) o) v H' := by
 have hx := ev_rep (ds := ds) hF x
 have hsv := ev_rep (ds := ds) hF s
 have ha' : args = #[s, x] := by cases args; simp_all
 have ht' : ts = #[t, t] := by cases ts; simp_all
 subst ha'; subst ht'
 obtain ⟨inf', zv, hi', hz0, hsize, hone, hun⟩ := zOf_some hz
 rw [hi] at hi'
 injection hi' with hi'
 subst hi'
 simp only [dstep] at hs
 split at hs
 ·rename_i s2 rows2 hrows
  split at hs
  ·rename_i hb2
   have : s2 = inf.size := Nat.eq_of_beq_eq_true hb2
   subst this
   split at hs
   ·rename_i g' i' len ea
    rw [ea] at hsv
    split at hs
    ·rename_i s1 rows1 hg
     split at hs
     ·rename_i hb1
      simp only [Bool.and_eq_true] at hb1
      have hs1 : s1 = inf.size := Nat.eq_of_beq_eq_true hb1.1
      have hlen1 : rows1.length = len := Nat.eq_of_beq_eq_true hb1.2.1
      have hbound : (len + rows2.length) * (inf.bytes + 1) ≤ 70368744177664 := Nat.le_of_ble_eq_true hb1.2.2
      subst hs1
      split at hs
      ·cases hs
      ·rename_i hne
       simp only [Option.some.injEq, Prod.mk.injEq] at hs
       obtain ⟨rfl, rfl⟩ := hs
       have hne' : ¬ (g = g' ∧ i = i') := by
        rintro ⟨rfl, rfl⟩
        simp at hne
       have hn' : hok (hset H g' i' .dead) g i := by
        have hgx := get_hset H g' i' .dead g i (.inl (by rw [hg]; rfl))
        rcases hn with hn | hn
        ·left; rw [hgx, if_neg hne']; exact hn
        ·right
         refine ⟨?_, hn.2⟩
         rw [hn.1]
         exact (length_hset_old H g' i' .dead (by rw [hg]; rfl)).symm
       obtain ⟨b, m, c, hxv, hm, hrl2, news, hnl, hnone, hnrep, hnrun⟩ := rowsX_cells (P := P) hH hM hx hrows
       generalize hcx : Act.eval ⟨tmps, ds⟩ x = xv at hxv hnrun
       generalize hcs : Act.eval ⟨tmps, ds⟩ s = sv at hsv
       subst hxv
       have hbytes : (len + m) * inf.bytes ≤ 70368744177664 := by
        rw [hm]; exact Nat.le_trans (Nat.mul_le_mul_left _ (by omega)) hbound
       have hcount : len + m ≤ 70368744177664 := by
        rw [hm]
        have h1 : (len + rows2.length) * 1 ≤ (len + rows2.length) * (inf.bytes + 1) := Nat.mul_le_mul_left _ (by omega)
        omega
       obtain ⟨l0, p1, p2, p3, p4⟩ := hH.cells hg
       subst hm
       have hsuf : ∀ r w1, (Builtin.append_ #[t, t] o.type #[sv, .slice b rows2.length c]).run P w = .ok r w1 → (execOp (Act.eval ⟨tmps, ds⟩) o).run P w = .ok (.value r) w1 := by
        intro r w1 hr
        simp [execOp, h, resolve, invoke, builtin, hcx, hcs, hr]
       have hgrow : ∀ (base : Option Addr) (sCap : Nat) (olds : List Value), sv = .slice base len sCap → sCap < len + rows2.length → olds.length = len * inf.size → (∀ v ∈ olds, v.oneCell' = true) →
         (∀ w' : World, w'.heap = w.heap → (Builtin.firstCells inf.size len sv).run P w' = .ok olds.toArray w') →
         (∀ (q : Nat) (r : List AV) (j : Nat) c v, rows1[q]? = some r → r[j]? = some c → olds[q * inf.size + j]? = some v → Rep M J c v) →
         OpOK P M J H w g i (execOp (Act.eval ⟨tmps, ds⟩) o) (.hsl g i 0 (len + rows2.length)) (hset (hset H g' i' .dead) g i (.cells inf.size (rows1 ++ rows2))) := by
        intro base sCap olds hsv' hcap hol hoone horun horep
        subst hsv'
        have hrun := run_app_grow (P := P) (w := w) t o.type e inf zv ht hi hz0 base len sCap olds horun b rows2.length c news hnrun hcap (by omega) (growslice_fits hcap (by omega))
        have hge : len + rows2.length ≤ grownCap w (len + rows2.length) sCap e := grownCap_ge w _ _ _
        generalize grownCap w (len + rows2.length) sCap e = cap' at hrun hge
        have hstep0 := fun k => Step.kill k hH hM g' i' (by rw [hg]; rfl)
        have hzl : (Builtin.zeroCells zv.cells (cap' - (len + rows2.length))).size = (cap' - (len + rows2.length)) * inf.size := by rw [size_zeroCells, hsize]
        have hsz3 : (olds.toArray ++ news.toArray ++ Builtin.zeroCells zv.cells (cap' - (len + rows2.length))).size = cap' * inf.size := by
         simp only [Array.size_append, List.size_toArray, hol, hnl, hzl]
         rw [← Nat.add_mul, ← Nat.add_mul]
         congr 1
         omega
        have hmul : (len + rows2.length) * inf.size = len * inf.size + rows2.length * inf.size := Nat.add_mul _ _ _
        have hmul2 : (len + rows2.length) * inf.size ≤ cap' * inf.size := Nat.mul_le_mul_right _ hge
        have hget : ∀ (j : Nat) v, (olds.toArray ++ news.toArray ++ Builtin.zeroCells zv.cells (cap' - (len + rows2.length)))[j]? = some v →
          (j < len * inf.size → olds[j]? = some v) ∧ (len * inf.size ≤ j → j < (len + rows2.length) * inf.size → news[j - len * inf.size]? = some v) := by
         intro j v hv
         refine ⟨fun hj => ?_, fun hj hj' => ?_⟩
         ·rw [Array.getElem?_append_left (by simp; omega), Array.getElem?_append_left (by simp; omega)] at hv
          simpa using hv
         ·rw [Array.getElem?_append_left (by simp; omega), Array.getElem?_append_right (by simp; omega)] at hv
          simpa [hol] using hv
        have hB : BRep M J ⟨some w.heap.size, inf.size, cap' * inf.size⟩ (w.heap.push (.cells (olds.toArray ++ news.toArray ++ Builtin.zeroCells zv.cells (cap' - (len + rows2.length))) e)) (.cells inf.size (rows1 ++ rows2)) := by
         refine BRep.append rfl rfl (get_push _ _) hsz3 hlen1 p3 hrl2 hmul2 (fun j v hj hv => ?_) (fun q r j c v hq hc hv => ?_) (fun q r j c v hq hc hv => ?_)
         ·by_cases hlt : j < len * inf.size
          ·exact hoone _ (List.mem_of_getElem? ((hget j v hv).1 hlt))
          ·exact hnone _ (List.mem_of_getElem? ((hget j v hv).2 (by omega) hj))
         ·have h1 := row_le (sz := inf.size) (List.getElem?_eq_some_iff.1 hq).1
          have h2 := (List.getElem?_eq_some_iff.1 hc).1
          rw [p3 q r hq] at h2
          rw [hlen1] at h1
          exact horep q r j c v hq hc ((hget _ v hv).1 (by omega))
         ·have h1 := row_le (sz := inf.size) (List.getElem?_eq_some_iff.1 hq).1
          have h2 := (List.getElem?_eq_some_iff.1 hc).1
          rw [hrl2 q r hq] at h2
          have h3 := (hget _ v hv).2 (by omega) (by omega)
          rw [show len * inf.size + (q * inf.size + j) - len * inf.size = q * inf.size + j by omega] at h3
          exact hnrep q r j c v hq hc h3
        refine ⟨_, _, J.set g i ⟨some w.heap.size, inf.size, cap' * inf.size⟩, .inl (hsuf _ _ hrun), ?_, Inj.set_ext _ hJ M, fun k => ?_, fun a b hab => by simp only [Inj.set, if_neg hab]⟩
        ·have := Rep.hsl (M := M) (J := J.set g i ⟨some w.heap.size, inf.size, cap' * inf.size⟩) g i 0 (len + rows2.length) cap' w.heap.size _ (Inj.set_self _) rfl (by simp) hge
         rwa [Nat.zero_mul] at this
        ·exact (hstep0 k).trans (Step.alloc k (hstep0 k).hrep (hstep0 k).mrep g i hn' hJ (some (.cells (olds.toArray ++ news.toArray ++ Builtin.zeroCells zv.cells (cap' - (len + rows2.length))) e)) _ _ rfl hB rfl rfl rfl rfl)
       cases hsv with
       | hslNil _ _ a0 l hJ' hb' =>
        rw [hJ'] at p1
        injection p1 with p1
        subst p1
        have hr0 : rows1 = [] := by simpa using hlen1
        subst hr0
        by_cases hm0 : rows2.length = 0
        ·have hr2 : rows2 = [] := by simpa using hm0
         subst hr2
         have hstep0 := fun k => Step.kill k hH hM g' i' (by rw [hg]; rfl)
         have hn0 : news = [] := by simpa using hnl
         subst hn0
         have hrun : (Builtin.append_ #[t, t] o.type #[.slice a0 0 0, .slice b 0 c]).run P w = .ok (.slice a0 0 0) w := by
          have := hnrun w rfl
          simp at this
          cases a0 with
          | none => simp [Builtin.append_, run_underlying ht, sizeOf, typeInfo, hi, Builtin.lenOf, this]
          | some a => simp [Builtin.append_, run_underlying ht, sizeOf, typeInfo, hi, Builtin.lenOf, this, storeCells]
         refine ⟨_, w, J.set g i ⟨none, inf.size, 0⟩, .inl (hsuf _ _ hrun), .hslNil g i _ _ (Inj.set_self _) rfl, Inj.set_ext _ hJ M, fun k => ?_, fun a b hab => by simp only [Inj.set, if_neg hab]⟩
         exact (hstep0 k).trans (Step.alloc k (hstep0 k).hrep (hstep0 k).mrep g i hn' hJ none _ _ rfl ⟨rfl, fun q r hq => by simp at hq, rfl⟩ rfl rfl rfl rfl)
        ·exact hgrow a0 0 [] rfl (by omega) (by simp) (fun v hv => by cases hv) (fun w' _ => by cases a0 <;> simp [Builtin.firstCells, loadCells, loadCellsFrom]) (fun q r j c v hq => by simp at hq)
       | hsl _ _ _ _ cap β l hJ' hb' hc' hlc =>
        rw [hJ'] at p1
        injection p1 with p1
        subst p1
        obtain ⟨cs, e', q1, q2, q3, q4, q5⟩ := p4 β hb'
        rw [Nat.zero_add] at hc'
        rw [Nat.zero_mul] at hgrow hsuf hcs
        rw [p2] at hc'
        by_cases hroom : len + rows2.length ≤ cap
        ·have hmul : (len + rows2.length) * inf.size = len * inf.size + rows2.length * inf.size := Nat.add_mul _ _ _
         have hmul2 : (len + rows2.length) * inf.size ≤ cap * inf.size := Nat.mul_le_mul_right _ hroom
         have hst := run_storeCells P β (len * inf.size) e' news w cs 0 q1 (by rw [hnl]; omega) hnone
         rw [Nat.add_zero] at hst
         have hrun : (Builtin.append_ #[t, t] o.type #[.slice (some ⟨β, 0, none⟩) len cap, .slice b rows2.length c]).run P w = .ok (.slice (some ⟨β, 0, none⟩) (len + rows2.length) cap) (wset w β (.cells (splice cs (len * inf.size) news) e' (0, 0))) := by
          have := hnrun w rfl
          simp [Builtin.append_, run_underlying ht, sizeOf, typeInfo, hi, Builtin.lenOf, hroom, this, addr_add, hst]
         have hblt := lt_of_heap q1
         refine ⟨_, _, J.set g i l, .inl (hsuf _ _ hrun), ?_, Inj.set_ext _ hJ M, fun k => ?_, fun a b hab => by simp only [Inj.set, if_neg hab]⟩
         ·have := Rep.hsl (M := M) (J := J.set g i l) g i 0 (len + rows2.length) cap β _ (Inj.set_self _) hb' (by rw [Nat.zero_add, p2]; exact hc') hroom
          rwa [Nat.zero_mul] at this
         ·refine Step.rebind k hH hM g' i' l β _ hg rfl hJ' hb' g i hn' hJ (.cells (splice cs (len * inf.size) news) e' (0, 0)) _ ?_ rfl rfl rfl rfl
          refine BRep.append p2 hb' (heap_wset_same _ _ _ hblt) (by simp [q2]) hlen1 p3 hrl2 (by omega) (fun j v hj hv => ?_) (fun q r j c v hq hc hv => ?_) (fun q r j c v hq hc hv => ?_)
          ·rw [get_splice] at hv
           split at hv
           ·exact hnone _ (List.mem_of_getElem? hv)
           ·exact q4 j v (by rw [hlen1]; omega) hv
          ·have h1 := row_le (sz := inf.size) (List.getElem?_eq_some_iff.1 hq).1
           have h2 := (List.getElem?_eq_some_iff.1 hc).1
           rw [p3 q r hq] at h2
           rw [hlen1] at h1
           rw [get_splice, if_neg (by omega)] at hv
           exact q5 q r j c v hq hc hv
          ·have h1 := row_le (sz := inf.size) (List.getElem?_eq_some_iff.1 hq).1
           have h2 := (List.getElem?_eq_some_iff.1 hc).1
           rw [hrl2 q r hq] at h2
           rw [get_splice, if_pos (by rw [hnl]; omega)] at hv
           rw [show len * inf.size + (q * inf.size + j) - len * inf.size = q * inf.size + j by omega] at hv
           exact hnrep q r j c v hq hc hv
        ·have hle0 : 0 + len * inf.size ≤ cs.size := by
          have : len * inf.size ≤ cap * inf.size := Nat.mul_le_mul_right _ hlc
          omega
         have hget : ∀ j v, (cs.extract 0 (0 + len * inf.size)).toList[j]? = some v → j < len * inf.size ∧ cs[j]? = some v := by
          intro j v hv
          rw [Array.getElem?_toList, Array.getElem?_extract] at hv
          split at hv
          ·rw [Nat.zero_add] at hv
           exact ⟨by omega, hv⟩
          ·cases hv
         refine hgrow (some ⟨β, 0, none⟩) cap (cs.extract 0 (0 + len * inf.size)).toList rfl (by omega) (by simp; omega) (fun v hv => ?_) (fun w' hw' => ?_) (fun q r j c v hq hc hv => q5 q r j c v hq hc (hget _ v hv).2)
         ·obtain ⟨j, hj⟩ := List.getElem?_of_mem hv
          have := hget j v hj
          exact q4 j v (by rw [hlen1]; exact this.1) this.2
         ·rw [Array.toArray_toList]
          exact run_loadCells_block P (by rw [hw']; exact q1) hle0
     ·cases hs
    ·cases hs
   ·rename_i ea
    rw [ea] at hsv
    split at hs
    ·rename_i hbb
     have hbound : rows2.length * (inf.bytes + 1) ≤ 70368744177664 := Nat.le_of_ble_eq_true hbb
     simp only [Option.some.injEq, Prod.mk.injEq] at hs
     obtain ⟨rfl, rfl⟩ := hs
     obtain ⟨b, m, c, hxv, hm, hrl2, news, hnl, hnone, hnrep, hnrun⟩ := rowsX_cells (P := P) hH hM hx hrows
     generalize hcx : Act.eval ⟨tmps, ds⟩ x = xv at hxv hnrun
     have hcs := hsv.sc_inv
     subst hxv
     have hbytes : m * inf.bytes ≤ 70368744177664 := by
      rw [hm]; exact Nat.le_trans (Nat.mul_le_mul_left _ (by omega)) hbound
     have hcount : m ≤ 70368744177664 := by
      rw [hm]
      have h1 : rows2.length * 1 ≤ rows2.length * (inf.bytes + 1) := Nat.mul_le_mul_left _ (by omega)
      omega
     have hsuf : ∀ r w1, (Builtin.append_ #[t, t] o.type #[.slice none 0 0, .slice b m c]).run P w = .ok r w1 → (execOp (Act.eval ⟨tmps, ds⟩) o).run P w = .ok (.value r) w1 := by
      intro r w1 hr
      simp [execOp, h, resolve, invoke, builtin, hcx, hcs, hr]
     by_cases hm0 : m = 0
     ·have hr2 : rows2 = [] := by
       have : rows2.length = 0 := by omega
       simpa using this
      subst hr2
      subst hm0
      have hn0 : news = [] := by simpa using hnl
      subst hn0
      have hrun : (Builtin.append_ #[t, t] o.type #[.slice none 0 0, .slice b 0 c]).run P w = .ok (.slice none 0 0) w := by
       have := hnrun w rfl
       simp [Builtin.append_, run_underlying ht, sizeOf, typeInfo, hi, Builtin.lenOf, this]
      refine ⟨_, w, J.set g i ⟨none, inf.size, 0⟩, .inl (hsuf _ _ hrun), .hslNil g i _ _ (Inj.set_self _) rfl, Inj.set_ext _ hJ M, fun k => ?_, fun a b hab => by simp only [Inj.set, if_neg hab]⟩
      exact Step.alloc k hH hM g i hn hJ none _ _ rfl ⟨rfl, fun q r hq => by simp at hq, rfl⟩ rfl rfl rfl rfl
     ·have hcap : 0 < 0 + m := by omega
      have hrun := run_app_grow (P := P) (w := w) t o.type e inf zv ht hi hz0 none 0 0 [] (fun w' _ => by simp [Builtin.firstCells]) b m c news hnrun hcap (by omega) (growslice_fits hcap (by rw [Nat.zero_add]; omega))
      rw [Nat.zero_add] at hrun
      have hge : m ≤ grownCap w m 0 e := grownCap_ge w _ _ _
      generalize grownCap w m 0 e = cap' at hrun hge
      have hzl : (Builtin.zeroCells zv.cells (cap' - m)).size = (cap' - m) * inf.size := by rw [size_zeroCells, hsize]
      have hsz3 : ((#[] : Array Value) ++ news.toArray ++ Builtin.zeroCells zv.cells (cap' - m)).size = cap' * inf.size := by
       simp only [Array.size_append, List.size_toArray, hnl, hzl]
       rw [List.length_nil, Nat.zero_add, ← Nat.add_mul]
       congr 1
       omega
      have hmul2 : m * inf.size ≤ cap' * inf.size := Nat.mul_le_mul_right _ hge
      have hget : ∀ (j : Nat) v, ((#[] : Array Value) ++ news.toArray ++ Builtin.zeroCells zv.cells (cap' - m))[j]? = some v → j < m * inf.size → news[j]? = some v := by
       intro j v hv hj
       rw [Array.getElem?_append_left (by simp; omega), Array.getElem?_append_right (by simp)] at hv
       simpa using hv
      have hB : BRep M J ⟨some w.heap.size, inf.size, cap' * inf.size⟩ (w.heap.push (.cells ((#[] : Array Value) ++ news.toArray ++ Builtin.zeroCells zv.cells (cap' - m)) e)) (.cells inf.size rows2) := by
       have := BRep.append (M := M) (J := J) (l := ⟨some w.heap.size, inf.size, cap' * inf.size⟩) (rows1 := []) (rows2 := rows2) (len := 0) rfl rfl (get_push w.heap (.cells ((#[] : Array Value) ++ news.toArray ++ Builtin.zeroCells zv.cells (cap' - m)) e)) hsz3 rfl (fun q r hq => by simp at hq) hrl2 (by rw [Nat.zero_add, ← hm]; exact hmul2)
        (fun j v hj hv => hnone _ (List.mem_of_getElem? (hget j v hv (by rw [hm]; simpa using hj)))) (fun q r j c v hq => by simp at hq) (fun q r j c v hq hc hv => by
         rw [Nat.zero_mul, Nat.zero_add] at hv
         have h1 := row_le (sz := inf.size) (List.getElem?_eq_some_iff.1 hq).1
         have h2 := (List.getElem?_eq_some_iff.1 hc).1
         rw [hrl2 q r hq] at h2
         exact hnrep q r j c v hq hc (hget _ v hv (by rw [hm]; omega)))
       simpa using this
      refine ⟨_, _, J.set g i ⟨some w.heap.size, inf.size, cap' * inf.size⟩, .inl (hsuf _ _ hrun), ?_, Inj.set_ext _ hJ M, fun k => ?_, fun a b hab => by simp only [Inj.set, if_neg hab]⟩
      ·have := Rep.hsl (M := M) (J := J.set g i ⟨some w.heap.size, inf.size, cap' * inf.size⟩) g i 0 m cap' w.heap.size _ (Inj.set_self _) rfl (by simp) hge
       rw [Nat.zero_mul] at this
       rw [← hm]
       exact this
      ·exact Step.alloc k hH hM g i hn hJ (some (.cells ((#[] : Array Value) ++ news.toArray ++ Builtin.zeroCells zv.cells (cap' - m)) e)) _ _ rfl hB rfl rfl rfl rfl
    ·cases hs
   ·cases hs
  ·cases hs
 ·cases hs
end
end Go.Av
