import Derived.Test.YtbpmbofinoinmaaGAv10y
import Derived.Laws.Externs
import Derived.KernelRfl
import Derived.Maps.RangeRun
namespace Go.Av
open Go.MapKept
section
variable {P : Program} {M : Mem} {J : Inj} {H : Heap} {w : World} {g i : Nat}
variable {N : Nat} {fr : Fr} {tmps : Array Value} {ds : List Deferred} {o : Oper} {v : AV} {H' : Heap}
theorem ok_eqAgg (hF : FRep N M J fr tmps) (hH : HRep M J H w.heap) (hM : MRep M w.heap) {t u : TypeId} {ks : List LK} {neg : Bool} {x y : Operand} (ht : flatT P t = some ks) (hg : P.eqGuardType P.depth t = false)
  (h : o.op = .binOp (if neg then .neq else .eql) t x y u) (hs : dstep g i (.xop (.eqAgg neg ks) [x, y]) fr H = some (v, H')) : OpOK P M J H w g i (execOp (Act.eval ⟨tmps, ds⟩) o) v H' := by
 have hx := ev_rep (ds := ds) hF x
 have hy := ev_rep (ds := ds) hF y
 simp only [dstep, avals, List.map_cons, List.map_nil, xstep, xpure] at hs
 split at hs
 ·rename_i v0 hv
  simp only [Option.some.injEq, Prod.mk.injEq] at hs
  obtain ⟨rfl, rfl⟩ := hs
  split at hv
  ·rename_i xs ys ex ey
   split at hv
   ·rename_i r hr
    injection hv with hv
    subst hv
    have hxv := hx.flat ex
    have hyv := hy.flat ey
    have hq : (Op.equalIn 10000 t (.agg xs.toArray) (.agg ys.toArray)).run P w = .ok r w := run_equal_flat w ht (by simpa using hr)
    refine .quiet hH hM (cv := .bool (neg != r)) ?_ (.sc _)
    cases neg with
    | true =>
     have hgd := fun x y => run_eqGuard_agg (P := P) w .neq t x y xs.toArray ys.toArray hg
     simp only [execOp, h, hxv, hyv, if_true, Sem.run_bind, hgd, Result.andThen_ok, run_neq_struct, hq]
     cases r <;> rfl
    | false =>
     have hgd := fun x y => run_eqGuard_agg (P := P) w .eql t x y xs.toArray ys.toArray hg
     simp only [execOp, h, hxv, hyv, Bool.false_eq_true, if_false, Sem.run_bind, hgd, Result.andThen_ok, run_eql_struct, hq]
     cases r <;> rfl
   ·cases hv
  ·cases hv
 ·cases hs
theorem ok_eqFn (hF : FRep N M J fr tmps) (hH : HRep M J H w.heap) (hM : MRep M w.heap) {neg : Bool} {t u : TypeId} {a b : Array TypeId} {c : Bool} {x : Operand} (ht : P.underlying t = some (.func a b c))
  (h : o.op = .binOp (if neg then .neq else .eql) t x (.const .nilFunc) u) (hs : dstep g i (.xop (.eqFn neg) [x]) fr H = some (v, H')) : OpOK P M J H w g i (execOp (Act.eval ⟨tmps, ds⟩) o) v H' := by
 have hx := ev_rep (ds := ds) hF x
 have hc : Act.eval ⟨tmps, ds⟩ (.const .nilFunc) = .nilFunc := rfl
 have key1 : ∀ fn p q, Act.eval ⟨tmps, ds⟩ x = .func fn p q → (execOp (Act.eval ⟨tmps, ds⟩) o).run P w = .ok (.value (.bool neg)) w := by
  intro fn p q hp
  have hq0 : ∀ d, (Op.equalIn (d + 1) t (.func fn p q) .nilFunc).run P w = .ok false w := fun d => by simp [Op.equalIn, run_underlying ht]
  have hq : (Op.equal t (.func fn p q) .nilFunc).run P w = .ok false w := hq0 9999
  cases neg <;> simp [execOp, h, hp, hc, eqGuard, binOp, hq]
 have key2 : Act.eval ⟨tmps, ds⟩ x = .nilFunc → (execOp (Act.eval ⟨tmps, ds⟩) o).run P w = .ok (.value (.bool (!neg))) w := by
  intro hp
  have hq0 : ∀ d, (Op.equalIn (d + 1) t .nilFunc .nilFunc).run P w = .ok true w := fun d => by simp [Op.equalIn, run_underlying ht]
  have hq : (Op.equal t .nilFunc .nilFunc).run P w = .ok true w := hq0 9999
  cases neg <;> simp [execOp, h, hp, hc, eqGuard, binOp, hq]
 simp only [dstep, avals, List.map_cons, List.map_nil] at hs
 generalize hcv : Act.eval ⟨tmps, ds⟩ x = cv at hx key1 key2
 generalize ev fr x = a0 at hx hs
 split at hs
 ·rename_i v0 hv
  simp only [Option.some.injEq, Prod.mk.injEq] at hs
  obtain ⟨rfl, rfl⟩ := hs
  replace hv := (show xpure _ _ = some _ from hv)
  cases hx with
  | clo =>
   simp only [xpure, Option.some.injEq] at hv
   subst hv
   exact .quiet hH hM (key1 _ _ _ rfl) (.sc _)
  | sc =>
   cases cv <;> first | (simp [xpure] at hv; done) | skip
   ·simp only [xpure, Option.some.injEq] at hv
    subst hv
    exact .quiet hH hM (key1 _ _ _ rfl) (.sc _)
   ·simp only [xpure, Option.some.injEq] at hv
    subst hv
    exact .quiet hH hM (key2 rfl) (.sc _)
  | _ => simp [xpure] at hv
 ·cases hs
theorem ok_i2f (hF : FRep N M J fr tmps) (hH : HRep M J H w.heap) (hM : MRep M w.heap) {src dst : TypeId} {k0 : IntKind} {k : FloatKind} {x : Operand} (h1 : P.underlying src = some (.int k0)) (h2 : P.underlying dst = some (.float k)) (h : o.op = .convert src dst x)
  (hs : dstep g i (.xop (.i2f k) [x]) fr H = some (v, H')) : OpOK P M J H w g i (execOp (Act.eval ⟨tmps, ds⟩) o) v H' := by
 have hx := ev_rep (ds := ds) hF x
 simp only [dstep, avals, List.map_cons, List.map_nil] at hs
 split at hs
 ·rename_i v0 hv
  simp only [Option.some.injEq, Prod.mk.injEq] at hs
  obtain ⟨rfl, rfl⟩ := hs
  replace hv := (show xpure _ _ = some _ from hv)
  unfold xpure at hv
  split at hv <;> first | (cases hv; done) | skip
  all_goals (rename_i e1 e2; first | (cases e1; done) | skip)
  rename_i k1 k2 n
  cases e1
  injection e2 with e2 _
  rw [e2] at hx
  injection hv with hv
  subst hv
  refine .quiet hH hM (cv := .float k (k.nearest n)) ?_ (.sc _)
  simp [execOp, h, hx.sc_inv, convert, run_underlying h1, run_underlying h2, Conv.intToFloat]
 ·cases hs
theorem ok_idxStr (hF : FRep N M J fr tmps) (hH : HRep M J H w.heap) (hM : MRep M w.heap) {t : TypeId} {x ix : Operand} (h1 : P.underlying t = some .string) (h : o.op = .index t x ix)
  (hs : dstep g i (.xop .idxStr [x, ix]) fr H = some (v, H')) : OpOK P M J H w g i (execOp (Act.eval ⟨tmps, ds⟩) o) v H' := by
 have hx := ev_rep (ds := ds) hF x
 have hix := ev_rep (ds := ds) hF ix
 simp only [dstep, avals, List.map_cons, List.map_nil] at hs
 split at hs
 ·rename_i v0 hv
  simp only [Option.some.injEq, Prod.mk.injEq] at hs
  obtain ⟨rfl, rfl⟩ := hs
  replace hv := (show xpure _ _ = some _ from hv)
  unfold xpure at hv
  split at hv <;> first | (cases hv; done) | skip
  all_goals (rename_i e1 e2; first | (cases e1; done) | skip)
  rename_i s k n
  injection e2 with e2 e3
  injection e3 with e3 _
  rw [e2] at hx
  rw [e3] at hix
  split at hv
  ·rename_i b hb
   injection hv with hv
   subst hv
   refine .quiet hH hM (cv := .int .u8 b.toNat) ?_ (.sc _)
   have h0 : (0 : Int) ≤ Int.ofNat n := Int.natCast_nonneg n
   have htn : (Int.ofNat n).toNat = n := rfl
   simp only [execOp, h, hx.sc_inv, hix.sc_inv, Instr.index, asIntOf, Sem.run_bind, Sem.run_pure, Result.andThen_ok, run_underlying h1, h0, if_true, htn, hb]
  ·cases hv
 ·cases hs
theorem ok_lenStr (hF : FRep N M J fr tmps) (hH : HRep M J H w.heap) (hM : MRep M w.heap) {x : Operand} {t : TypeId} {args : Array Operand} {ts : Array TypeId} (ha : args.toList = [x]) (ht : ts.toList = [t]) (hu : P.underlying t = some .string)
  (h : o.op = .call ⟨.builtin .len, args, ts⟩) (hs : dstep g i (.xop .lenStr [x]) fr H = some (v, H')) : OpOK P M J H w g i (execOp (Act.eval ⟨tmps, ds⟩) o) v H' := by
 have hx := ev_rep (ds := ds) hF x
 have ha' : args = #[x] := by cases args; simp_all
 have ht' : ts = #[t] := by cases ts; simp_all
 subst ha'; subst ht'
 simp only [dstep, avals, List.map_cons, List.map_nil] at hs
 split at hs
 ·rename_i v0 hv
  simp only [Option.some.injEq, Prod.mk.injEq] at hs
  obtain ⟨rfl, rfl⟩ := hs
  replace hv := (show xpure _ _ = some _ from hv)
  unfold xpure at hv
  split at hv <;> first | (cases hv; done) | skip
  all_goals (rename_i e1 e2; first | (cases e1; done) | skip)
  rename_i s
  injection e2 with e2 _
  rw [e2] at hx
  injection hv with hv
  subst hv
  refine .quiet hH hM (cv := .int .i64 s.size) ?_ (.sc _)
  simp [execOp, h, resolve, invoke, builtin, Builtin.len_, run_underlying hu, hx.sc_inv, goInt]
 ·cases hs
def extK (P : Program) (f : FuncId) : Option XOp :=
 match P.funcs[f]? with
 | some fn => match fn.body.isNone && (Extern.findNext fn).isNone with
  | true => match fn.name == "math/bits.Add64" with
   | true => some .add64
   | false => match fn.name == "math.Float64bits" with
    | true => some .f64bits
    | false => match fn.name == "math.Float64frombits" with
     | true => some .f64from
     | false => none
  | false => none
 | none => none
theorem find_of {fn : Func} {n : String} {e : Array Value → Sem Value} (h : fn.name = n) (h1 : Extern.allGenericRows.lookup n = none) (h2 : Extern.allTypedRows.lookup n = none) (h3 : Extern.allRows.lookup n = some e) : Extern.find fn = some e := by
 simp [Extern.find, h, h1, h2, h3]
theorem find_add64 {fn : Func} (h : fn.name = "math/bits.Add64") : Extern.find fn = some add64Entry := find_of h (by kernel_rfl) (by kernel_rfl) (by kernel_rfl)
theorem find_f64bits {fn : Func} (h : fn.name = "math.Float64bits") : Extern.find fn = some Extern.MathFloatBits.float64bits := find_of h (by kernel_rfl) (by kernel_rfl) (by kernel_rfl)
theorem find_f64from {fn : Func} (h : fn.name = "math.Float64frombits") : Extern.find fn = some Extern.MathFloatBits.float64frombits := find_of h (by kernel_rfl) (by kernel_rfl) (by kernel_rfl)
theorem ok_ext (hF : FRep N M J fr tmps) (hH : HRep M J H w.heap) (hM : MRep M w.heap) {f : FuncId} {args : Array Operand} {ts : Array TypeId} {e : XOp} (hf : extK P f = some e) (h : o.op = .call ⟨.value (.func f), args, ts⟩)
  (hs : dstep g i (.xop e args.toList) fr H = some (v, H')) : OpOK P M J H w g i (execOp (Act.eval ⟨tmps, ds⟩) o) v H' := by
 obtain ⟨h1, h2⟩ := avals_rep (ds := ds) hF args.toList _ rfl args rfl
 unfold extK at hf
 split at hf
 ·rename_i fn hfn
  split at hf
  ·rename_i hb
   simp only [Bool.and_eq_true] at hb
   have hn : Extern.findNext fn = none := by simpa using hb.2
   have hexec : ∀ r, (callFunc f (args.map (Act.eval ⟨tmps, ds⟩))).run P w = r → (execOp (Act.eval ⟨tmps, ds⟩) o).run P w = r := by
    intro r hr
    have he : Act.eval ⟨tmps, ds⟩ (.func f) = .func (.func f) #[] #[] := rfl
    simp only [execOp, h, resolve, he, Deferred.ofValue, Sem.run_bind, Sem.run_pure, Result.andThen_ok, invoke]
    rw [show #[] ++ args.map (Act.eval ⟨tmps, ds⟩) ++ #[] = args.map (Act.eval ⟨tmps, ds⟩) by simp]
    exact hr
   simp only [dstep] at hs
   split at hs
   ·rename_i v0 hv
    simp only [Option.some.injEq, Prod.mk.injEq] at hs
    obtain ⟨rfl, rfl⟩ := hs
    generalize hcargs : args.map (Act.eval ⟨tmps, ds⟩) = cargs at h1 h2 hexec
    generalize avals fr args.toList = as at h1 h2 hv
    split at hf
    ·rename_i hname
     have hname : fn.name = "math/bits.Add64" := by simpa using hname
     injection hf with hf
     subst hf
     replace hv := (show xpure _ _ = some _ from hv)
     unfold xpure at hv
     split at hv <;> first | (cases hv; done) | skip
     all_goals (rename_i e1; first | (cases e1; done) | skip)
     rename_i x y c
     split at hv
     ·rename_i hc
      injection hv with hv
      subst hv
      obtain ⟨l⟩ := cargs
      match l, h1, h2, hexec with
      | [a1, a2, a3], h1, h2, hexec =>
       have q1 := (h2 0 _ _ rfl rfl).sc_inv
       have q2 := (h2 1 _ _ rfl rfl).sc_inv
       have q3 := (h2 2 _ _ rfl rfl).sc_inv
       subst q1; subst q2; subst q3
       refine .quiet hH hM (cv := .tuple #[.int .u64 (Int.ofNat ((x + y + c) % 18446744073709551616)), .int .u64 (Int.ofNat ((x + y + c) / 18446744073709551616))]) (hexec _ ?_) ?_
       ·rw [run_callFunc_extern hfn (by rw [hname]; rfl) hb.1 hn (find_add64 hname)]
        have := run_add64 (P := P) (Int.ofNat x) (Int.ofNat y) (Int.ofNat c) (Int.natCast_nonneg _) (Int.natCast_nonneg _) (Int.natCast_nonneg _) (by have := Nat.le_of_ble_eq_true hc; simp; omega) w
        rw [this]
        simp only [Result.andThen]
        congr 3
       ·refine .tup _ _ rfl fun j c y hc hy => ?_
        cases j with
        | zero => simp at hc hy; subst hc; subst hy; exact .sc _
        | succ j =>
         cases j with
         | zero => simp at hc hy; subst hc; subst hy; exact .sc _
         | succ j => simp at hc
     ·cases hv
    ·split at hf
     ·rename_i hname
      have hname : fn.name = "math.Float64bits" := by simpa using hname
      injection hf with hf
      subst hf
      replace hv := (show xpure _ _ = some _ from hv)
      unfold xpure at hv
      split at hv <;> first | (cases hv; done) | skip
      all_goals (rename_i e1; first | (cases e1; done) | skip)
      rename_i b
      injection hv with hv
      subst hv
      obtain ⟨l⟩ := cargs
      match l, h1, h2, hexec with
      | [a1], h1, h2, hexec =>
       have q1 := (h2 0 _ _ rfl rfl).sc_inv
       subst q1
       refine .quiet hH hM (cv := .int .u64 b) (hexec _ ?_) (.sc _)
       rw [run_callFunc_extern hfn (by rw [hname]; rfl) hb.1 hn (find_f64bits hname)]
       rfl
     ·split at hf
      ·rename_i hname
       have hname : fn.name = "math.Float64frombits" := by simpa using hname
       injection hf with hf
       subst hf
       replace hv := (show xpure _ _ = some _ from hv)
       unfold xpure at hv
       split at hv <;> first | (cases hv; done) | skip
       all_goals (rename_i e1; first | (cases e1; done) | skip)
       rename_i n
       injection hv with hv
       subst hv
       obtain ⟨l⟩ := cargs
       match l, h1, h2, hexec with
       | [a1], h1, h2, hexec =>
        have q1 := (h2 0 _ _ rfl rfl).sc_inv
        subst q1
        refine .quiet hH hM (cv := .float .f64 n.toNat) (hexec _ ?_) (.sc _)
        rw [run_callFunc_extern hfn (by rw [hname]; rfl) hb.1 hn (find_f64from hname)]
        rfl
      ·cases hf
   ·cases hs
  ·cases hf
 ·cases hf
theorem ok_lookF (hF : FRep N M J fr tmps) (hH : HRep M J H w.heap) (hM : MRep M w.heap) {t kt e : TypeId} {z : AV} {ks : List LK} {x ix : Operand} {ok : Bool} (ht : P.underlying t = some (.map kt e)) (hkt : flatT P kt = some ks)
  (hz : zvOf P e = some z) (h : o.op = .lookup t x ix ok) (hs : dstep g i (.xop (.lookF ks z ok) [x, ix]) fr H = some (v, H')) : OpOK P M J H w g i (execOp (Act.eval ⟨tmps, ds⟩) o) v H' := by
 have hx := ev_rep (ds := ds) hF x
 have hix := ev_rep (ds := ds) hF ix
 obtain ⟨zv, hzrun, hzrep⟩ := zvOf_rep (M := M) (J := J) hz w
 simp only [dstep, avals, List.map_cons, List.map_nil, xstep] at hs
 cases ek : flatOf (ev fr ix) with
 | none => rw [ek] at hs; cases hs
 | some k =>
  simp only [ek] at hs
  have hixv := hix.flat ek
  cases eself : cellsEq ks k k with
  | none => simp only [eself] at hs; cases hs
  | some r0 =>
   simp only [eself] at hs
   generalize hcv : Act.eval ⟨tmps, ds⟩ x = cv at hx
   -- what the search finds, and that the operation gives it
   have key : ∀ (res : Option AV), (∃ (ces : Array MapEntry) (found : Option (Nat × Value)), ((cv = .map none ∧ ces = #[]) ∨ ∃ r clock, cv = .map (some r) ∧ w.heap[r]? = some (.map ces clock)) ∧
      (Instr.findAsking kt (.agg k.toArray) ces.toList 0).run P w = .ok found w ∧
      (match res, found with | none, none => True | some y, some (_, u) => Rep M J y u | _, _ => False)) →
     lres z ok H (some res) = some (v, H') → OpOK P M J H w g i (execOp (Act.eval ⟨tmps, ds⟩) o) v H' := by
    rintro res ⟨ces, found, h1, h2, h3⟩ hs
    have hck : ∀ b, (Instr.checkKey b 10000 kt (.agg k.toArray)).run P w = .ok () w := fun b => run_checkKey_flat w b hkt (A := k.toArray) (B := k.toArray) (by simpa using eself)
    have hfk := run_findKey_flat w hkt k h2
    have pair : ∀ (a : AV) (u : Value) (b : Bool), Rep M J a u → Rep M J (.tup [a, .sc (.bool b)]) (.tuple #[u, .bool b]) := by
     intro a u b hr
     refine .tup _ _ rfl fun j c y hc hy => ?_
     cases j with
     | zero => simp at hc hy; subst hc; subst hy; exact hr
     | succ j =>
      cases j with
      | zero => simp at hc hy; subst hc; subst hy; exact .sc _
      | succ j => simp at hc
    have hexec : ∀ u b, (match found with | some (_, v) => u = v ∧ b = true | none => u = zv ∧ b = false) →
      (execOp (Act.eval ⟨tmps, ds⟩) o).run P w = .ok (.value (if ok then .tuple #[u, .bool b] else u)) w := by
     intro u b hub
     rcases h1 with ⟨rfl, rfl⟩ | ⟨r, clock, rfl, hr⟩
     ·simp only [execOp, h, hixv, hcv, Instr.lookup, Sem.run_bind, run_underlying ht, Result.andThen_ok, Sem.run_pure, hck, hfk]
      cases found with
      | none => obtain ⟨rfl, rfl⟩ := hub; simp [hzrun]
      | some p => obtain ⟨rfl, rfl⟩ := hub; simp
     ·simp only [execOp, h, hixv, hcv, Instr.lookup, Sem.run_bind, run_underlying ht, Result.andThen_ok, Sem.run_pure, MapKept.run_getObj_map hr, hck, hfk]
      cases found with
      | none => obtain ⟨rfl, rfl⟩ := hub; simp [hzrun]
      | some p => obtain ⟨rfl, rfl⟩ := hub; simp
    cases res with
    | none =>
     cases found with
     | some p => exact h3.elim
     | none =>
      have hr := hexec zv false ⟨rfl, rfl⟩
      cases ok with
      | true =>
       simp only [lres, Option.some.injEq, Prod.mk.injEq] at hs
       obtain ⟨rfl, rfl⟩ := hs
       exact .quiet hH hM hr (pair z zv false hzrep)
      | false =>
       simp only [lres, Option.some.injEq, Prod.mk.injEq] at hs
       obtain ⟨rfl, rfl⟩ := hs
       exact .quiet hH hM hr hzrep
    | some y =>
     cases found with
     | none => exact h3.elim
     | some p =>
      have hr := hexec p.2 true ⟨rfl, rfl⟩
      cases ok with
      | true =>
       simp only [lres, Option.some.injEq, Prod.mk.injEq] at hs
       obtain ⟨rfl, rfl⟩ := hs
       exact .quiet hH hM hr (pair y p.2 true h3)
      | false =>
       simp only [lres, Option.some.injEq, Prod.mk.injEq] at hs
       obtain ⟨rfl, rfl⟩ := hs
       exact .quiet hH hM hr h3
   have found : ∀ (es : List (Value × AV)) (ces : Array MapEntry) (res : Option AV), es.length = ces.size → (∀ (j : Nat) x y, es[j]? = some x → ces[j]? = some y → x.1 = y.key) →
     (∀ (j : Nat) x y, es[j]? = some x → ces[j]? = some y → Rep M J x.2 y.val) → mfindF ks k es = some res →
     ∃ found, (Instr.findAsking kt (.agg k.toArray) ces.toList 0).run P w = .ok found w ∧ (match res, found with | none, none => True | some y, some (_, u) => Rep M J y u | _, _ => False) := by
    intro es ces res h1 h2 h3 h4
    rcases mfindF_spec w hkt k es ces.toList res 0 (by simpa using h1) (fun j x y a b => h2 j x y a (by simpa using b)) h4 with ⟨e1, e2⟩ | ⟨y, j, c, k', e1, e2, e3, e4, _, e5, _⟩
    ·subst e1; exact ⟨none, e2, trivial⟩
    ·subst e1
     exact ⟨_, e5, h3 j _ c e2 (by simpa using e3)⟩
   cases hfd : mlookF H ks k (ev fr x) with
   | none => simp only [hfd] at hs; cases hs
   | some res =>
    rw [hfd] at hs
    have hs : lres z ok H (some res) = some (v, H') := by
     cases res <;> cases ok <;> exact hs
    refine key res ?_ hs
    unfold mlookF at hfd
    split at hfd
    ·rename_i es ea
     rw [ea] at hx
     cases hx with
     | tmap _ β clock ces hMb _ hl hk' hr =>
      obtain ⟨f, hf1, hf2⟩ := found es ces res hl hk' hr hfd
      exact ⟨ces, f, .inr ⟨_, _, rfl, hM _ _ hMb⟩, hf1, hf2⟩
    ·rename_i g' i' ea
     rw [ea] at hx
     split at hfd
     ·rename_i es hg
      cases hx with
      | mref _ _ β l hJ hb =>
       obtain ⟨l', β', ces, clock, p1, p2, p3, p4, p5, p6, _⟩ := hH.maps hg
       rw [hJ] at p1
       injection p1 with p1
       subst p1
       rw [hb] at p2
       injection p2 with p2
       subst p2
       obtain ⟨f, hf1, hf2⟩ := found es ces res p4 p5 p6 hfd
       exact ⟨ces, f, .inr ⟨_, _, rfl, p3⟩, hf1, hf2⟩
     ·rename_i n es hg
      split at hfd
      ·rename_i c hu
       split at hfd
       ·rename_i hn
        injection hfd with hfd
        cases hx with
        | mref _ _ β l hJ hb =>
         obtain ⟨l', β', ces, clock, es', p1, p2, p3, p4, p5, p6, p7, p8, p9⟩ := hH.umaps hg
         rw [hJ] at p1
         injection p1 with p1
         subst p1
         rw [hb] at p2
         injection p2 with p2
         subst p2
         have hkc := ukey_eq hu
         have hmf : mfindF ks k (es'.map fun p => (ukeyV p.1, p.2)) = some res := by
          have := mfindF_u (ks := ks) (c := c) (r := r0) (by rw [← hkc]; exact eself) (es := es') fun x hx => by rw [Nat.eq_of_beq_eq_true hn]; exact p6 x (p4.mem_iff.1 hx)
          rw [← hkc, ufind_perm p4 p5, hfd] at this
          exact this
         obtain ⟨f, hf1, hf2⟩ := found (es'.map fun p => (ukeyV p.1, p.2)) ces res (by simpa using p7) (fun j x y a b => by
          rw [List.getElem?_map, Option.map_eq_some_iff] at a
          obtain ⟨x', a, rfl⟩ := a
          exact p8 j x' y a b) (fun j x y a b => by
          rw [List.getElem?_map, Option.map_eq_some_iff] at a
          obtain ⟨x', a, rfl⟩ := a
          exact p9 j x' y a b) hmf
         exact ⟨ces, f, .inr ⟨_, _, rfl, p3⟩, hf1, hf2⟩
       ·cases hfd
      ·cases hfd
     ·cases hfd
    ·rename_i ea
     rw [ea] at hx
     cases hx
     injection hfd with hfd
     subst hfd
     exact ⟨#[], none, .inl ⟨rfl, rfl⟩, by simp [Instr.findAsking], trivial⟩
    ·cases hfd
theorem run_push (w : World) : ∀ (l : List Value) (bs : List UInt8) (s : ByteArray), (∀ (j : Nat) v, l[j]? = some v → ∃ n, v = .int .u8 n ∧ bs[j]? = some (UInt8.ofNat n.toNat)) → l.length = bs.length →
  (do
   let mut s := s
   for c in l do
    let .int .u8 n := c | stuck "bytesToString: byte expected"
    s := s.push (UInt8.ofNat n.toNat)
   pure (Value.string s) : Sem Value).run P w = .ok (.string (pushAll s bs)) w
 | [], [], s, _, _ => by simp [pushAll]
 | [], _ :: _, _, _, h => by simp at h
 | _ :: _, [], _, _, h => by simp at h
 | v :: l, b :: bs, s, h, hl => by
  obtain ⟨n, rfl, hb⟩ := h 0 v rfl
  simp only [List.getElem?_cons_zero, Option.some.injEq] at hb
  subst hb
  have ih := run_push w l bs (s.push (UInt8.ofNat n.toNat)) (fun j v hv => h (j + 1) v (by simpa using hv)) (by simpa using hl)
  simp only [List.forIn_cons, pushAll, Sem.run_bind, Sem.run_pure, Result.andThen_ok] at ih ⊢
  exact ih
theorem bytesOf_spec : ∀ {rows : List (List AV)} {bs : List UInt8}, bytesOf rows = some bs → rows.length = bs.length ∧ ∀ (j : Nat) r, rows[j]? = some r → ∃ n, r = [.sc (.int .u8 n)] ∧ bs[j]? = some (UInt8.ofNat n.toNat)
 | [], bs, h => by
  injection h with h
  subst h
  exact ⟨rfl, fun j r hr => by simp at hr⟩
 | r :: rows, bs, h => by
  unfold bytesOf at h
  split at h
  ·rename_i e
   cases e
  ·rename_i n r' e
   injection e with e1 e2
   subst e1; subst e2
   split at h
   ·rename_i l hl
    injection h with h
    subst h
    obtain ⟨h1, h2⟩ := bytesOf_spec hl
    refine ⟨by simp [h1], fun j r hr => ?_⟩
    cases j with
    | zero => simp at hr; subst hr; exact ⟨n, rfl, rfl⟩
    | succ j => simpa using h2 j r (by simpa using hr)
   ·cases h
  ·cases h
theorem ok_bstr (hF : FRep N M J fr tmps) (hH : HRep M J H w.heap) (hM : MRep M w.heap) {src dst e : TypeId} {x : Operand} (h1 : P.underlying src = some (.slice e)) (h2 : P.underlying dst = some .string) (h3 : P.underlying e = some (.int .u8)) (h : o.op = .convert src dst x)
  (hs : dstep g i (.xop .bstr [x]) fr H = some (v, H')) : OpOK P M J H w g i (execOp (Act.eval ⟨tmps, ds⟩) o) v H' := by
 have hx := ev_rep (ds := ds) hF x
 simp only [dstep, avals, List.map_cons, List.map_nil] at hs
 split at hs
 ·rename_i v0 hv
  simp only [Option.some.injEq, Prod.mk.injEq] at hs
  obtain ⟨rfl, rfl⟩ := hs
  simp only [xstep] at hv
  split at hv
  ·rename_i rows hrows
   split at hv
   ·rename_i bs hbs
    injection hv with hv
    subst hv
    refine .quiet hH hM (cv := .string (pushAll .empty bs)) ?_ (.sc _)
    generalize hcv : Act.eval ⟨tmps, ds⟩ x = cv at hx
    have hexec : (Conv.bytesToString cv).run P w = .ok (.string (pushAll .empty bs)) w → (∃ a m c, cv = .slice a m c) → (execOp (Act.eval ⟨tmps, ds⟩) o).run P w = .ok (.value (.string (pushAll .empty bs))) w := by
     rintro hr ⟨a, m, c, rfl⟩
     cases a <;> simp [execOp, h, hcv, convert, run_underlying h1, run_underlying h2, run_underlying h3, hr]
    obtain ⟨hl, hb⟩ := bytesOf_spec hbs
    unfold rowsX at hrows
    split at hrows
    ·rename_i ea
     injection hrows with hrows
     injection hrows with _ hrows
     subst hrows
     rw [ea] at hx
     cases hx
     have : bs = [] := List.eq_nil_of_length_eq_zero hl.symm
     subst this
     exact hexec (by simp [Conv.bytesToString, pushAll]) ⟨_, _, _, rfl⟩
    ·obtain ⟨b, m, c, rfl, hm, hrl, news, hnl, _, hrep, hrun⟩ := rowsOf_cells (P := P) hH hM hx hrows
     refine hexec ?_ ⟨_, _, _, rfl⟩
     have hrun := hrun w rfl
     have hall : ∀ (j : Nat) v, news[j]? = some v → ∃ n, v = .int .u8 n ∧ bs[j]? = some (UInt8.ofNat n.toNat) := by
      intro j v hv
      have hj : j < rows.length := by have := (List.getElem?_eq_some_iff.1 hv).1; omega
      obtain ⟨n, hr, hbj⟩ := hb j _ (List.getElem?_eq_getElem hj)
      have := hrep j _ 0 (.sc (.int .u8 n)) v (List.getElem?_eq_getElem hj) (by rw [hr]; rfl) (by simpa using hv)
      exact ⟨n, this.sc_inv, hbj⟩
     cases b with
     | none =>
      simp only [Builtin.firstCells, Sem.run_pure, Result.ok.injEq, and_true] at hrun
      have hn : news = [] := by simpa using hrun.symm
      subst hn
      have : bs = [] := List.eq_nil_of_length_eq_zero (by rw [← hl, ← hm]; simpa using hnl.symm)
      subst this
      simp [Conv.bytesToString, pushAll]
     | some a =>
      simp only [Builtin.firstCells, Nat.mul_one] at hrun
      have := run_push (P := P) w news bs .empty hall (by omega)
      simp only [Conv.bytesToString, Sem.run_bind, hrun, Result.andThen_ok]
      rw [← Array.forIn_toList]
      have t := this
      simp at t ⊢
      exact t
   ·cases hv
  ·cases hv
 ·cases hs
end
end Go.Av
namespace Go.Av
open Go.MapKept
section
variable {P : Program} {M : Mem} {J : Inj} {H : Heap} {w : World} {g i : Nat}
variable {N : Nat} {fr : Fr} {tmps : Array Value} {ds : List Deferred} {o : Oper} {v : AV} {H' : Heap}
theorem ok_range (hF : FRep N M J fr tmps) (hH : HRep M J H w.heap) (hM : MRep M w.heap) (hn : hok H g i) (hJ : J g i = none) {t kt e : TypeId} {x : Operand} (ht : P.underlying t = some (.map kt e))
  (h : o.op = .range t x) (hs : dstep g i (.mop .range [x]) fr H = some (v, H')) : OpOK P M J H w g i (execOp (Act.eval ⟨tmps, ds⟩) o) v H' := by
 have hx := ev_rep (ds := ds) hF x
 simp only [dstep, avals, List.map_cons, List.map_nil, mstep] at hs
 generalize hcv : Act.eval ⟨tmps, ds⟩ x = cv at hx
 split at hs
 ·rename_i es ea
  injection ea with ea _
  rw [ea] at hx
  simp only [Option.some.injEq, Prod.mk.injEq] at hs
  obtain ⟨rfl, rfl⟩ := hs
  cases hx with
  | tmap _ β clock ces hMb hw hl hk hr =>
   have hb := hM _ _ hMb
   refine .new hH hM hn hJ (w' := { w with heap := w.heap.push (.mapIter (some β) clock #[] clock) }) (.mapIter (some β) clock #[] clock) _ ⟨some w.heap.size, 0, 0⟩ rfl rfl rfl rfl (cv := .pointer (some ⟨w.heap.size, 0, none⟩)) ?_ rfl ?_ ?_
   ·simp [execOp, h, hcv, Instr.range, run_underlying ht, MapKept.run_getObj_map hb]
   ·have e1 : (ces.toList.filter fun e => !(#[] : Array Nat).contains e.born) = ces.toList := List.filter_eq_self.2 fun x _ => by simp
    refine ⟨w.heap.size, _, rfl, get_push _ _, .inr ⟨β, clock, #[], ces, rfl, hMb, hw, by rw [e1]; simpa using hl, fun j x y a b => ?_, fun x hx => by cases hx⟩⟩
    rw [e1] at b
    have b : ces[j]? = some y := by simpa using b
    exact ⟨hk j x y a b, hr j x y a b⟩
   ·have := Rep.ptr (M := M) (J := J.set g i ⟨some w.heap.size, 0, 0⟩) g i 0 0 w.heap.size _ (Inj.set_self _) rfl
    rwa [Nat.zero_mul] at this
 ·rename_i ea
  injection ea with ea _
  rw [ea] at hx
  simp only [Option.some.injEq, Prod.mk.injEq] at hs
  obtain ⟨rfl, rfl⟩ := hs
  cases hx
  refine .new hH hM hn hJ (w' := { w with heap := w.heap.push (.mapIter none 0 #[] 0) }) (.mapIter none 0 #[] 0) _ ⟨some w.heap.size, 0, 0⟩ rfl rfl rfl rfl (cv := .pointer (some ⟨w.heap.size, 0, none⟩)) ?_ rfl ?_ ?_
  ·simp [execOp, h, hcv, Instr.range, run_underlying ht]
  ·exact ⟨w.heap.size, _, rfl, get_push _ _, .inl ⟨rfl, rfl, _, _, _, rfl⟩⟩
  ·have := Rep.ptr (M := M) (J := J.set g i ⟨some w.heap.size, 0, 0⟩) g i 0 0 w.heap.size _ (Inj.set_self _) rfl
   rwa [Nat.zero_mul] at this
 ·cases hs
theorem HRep.its {H : Heap} {h : Array Obj} (hH : HRep M J H h) {g i : Nat} {cur : Option (Value × AV)} {es : List (Value × AV)} (hg : hget H g i = some (.it cur es)) {l : Loc} (hJ : J g i = some l) {β : Nat} (hb : l.blk = some β) :
  ∃ o, h[β]? = some o ∧ ItRep M J o cur es := by
 obtain ⟨l', h1, β', o, h2, h3, h4⟩ := hH.blk g i _ hg rfl
 rw [hJ] at h1
 injection h1 with h1
 subst h1
 rw [hb] at h2
 injection h2 with h2
 subst h2
 exact ⟨o, h3, h4⟩
theorem leftOf_list (ces : Array MapEntry) (seen : Array Nat) : (leftOf ces seen).toList = ces.toList.filter fun e => !seen.contains e.born := by
 unfold leftOf
 rw [Array.toList_filter]
theorem next_it (hM : MRep M w.heap) {β : Nat} {ob : Obj} (hb : w.heap[β]? = some ob) {cur : Option (Value × AV)} {es : List (Value × AV)} (hi : ItRep M J ob cur es) (ty : TypeId) :
  (es = [] ∧ (Instr.next (.pointer (some ⟨β, 0, none⟩)) false ty).run P w = .ok (.tuple #[.bool false]) w) ∨
  ∃ (l1 l2 : List (Value × AV)) (x : Value × AV) (e : MapEntry) (w1 : World) (ob' : Obj), es = l1 ++ x :: l2 ∧ (w1 = w ∨ w1 = w.drew) ∧
   (Instr.next (.pointer (some ⟨β, 0, none⟩)) false ty).run P w = .ok (.tuple #[.bool true, e.key, e.val]) (ChangeMaps.setBlock w1 β ob') ∧ x.1 = e.key ∧ Rep M J x.2 e.val ∧ (∃ a b c d, ob' = .mapIter a b c d) ∧ ItRep M J ob' (some x) (l1 ++ l2) := by
 rcases hi with ⟨rfl, rfl, a, b, c, rfl⟩ | ⟨μ, since, seen, ces, rfl, h2, h3, h4, h5, _⟩
 ·left
  refine ⟨rfl, ?_⟩
  simp [Instr.next, getObj, Sem.run, hb]
 ·have hμ := hM _ _ h2
  rcases run_next_at (P := P) w ty β μ since since seen ces since hb hμ h3.lt (Nat.le_refl _) with ⟨e0, hrun⟩ | ⟨e, he, w1, hw1, hrun⟩
  ·left
   refine ⟨?_, hrun⟩
   have e1 : (leftOf ces seen).toList.length = 0 := by simpa using e0
   rw [leftOf_list] at e1
   rw [e1] at h4
   exact List.eq_nil_of_length_eq_zero h4
  ·right
   rw [leftOf_list] at he
   have hmem := he
   rw [List.mem_filter] at hmem
   obtain ⟨j, hj, hje⟩ := List.getElem_of_mem he
   have hj2 : j < es.length := by omega
   have hes : es = es.take j ++ es[j] :: es.drop (j + 1) := by
    rw [← List.drop_eq_getElem_cons hj2, List.take_append_drop]
   obtain ⟨q1, q2⟩ := h5 j es[j] e (List.getElem?_eq_getElem hj2) (by rw [List.getElem?_eq_getElem hj, hje])
   refine ⟨es.take j, es.drop (j + 1), es[j], e, w1, _, hes, hw1, hrun, q1, q2, ⟨_, _, _, _, rfl⟩, .inr ⟨μ, since, seen.push e.born, ces, rfl, h2, h3, ?_⟩⟩
   -- what is left now
   have hleft : (ces.toList.filter fun x => !(seen.push e.born).contains x.born) = (ces.toList.filter fun x => !seen.contains x.born).take j ++ (ces.toList.filter fun x => !seen.contains x.born).drop (j + 1) := by
    have e1 : (ces.toList.filter fun x => !(seen.push e.born).contains x.born) = (ces.toList.filter fun x => !seen.contains x.born).filter fun x => decide (x.born ≠ e.born) := by
     rw [List.filter_filter]
     refine List.filter_congr fun x _ => ?_
     rw [Array.contains_push]
     rw [Bool.eq_iff_iff]
     simp
     constructor
     ·rintro ⟨a, b⟩; exact ⟨b, a⟩
     ·rintro ⟨a, b⟩; exact ⟨b, a⟩
    have nd : (ces.toList.filter fun x => !seen.contains x.born).Pairwise fun a b => a.born ≠ b.born := h3.nd.sublist List.filter_sublist
    rw [e1]
    generalize (ces.toList.filter fun x => !seen.contains x.born) = L at hj hje nd ⊢
    have hL : L = L.take j ++ e :: L.drop (j + 1) := by
     rw [← hje, ← List.drop_eq_getElem_cons hj, List.take_append_drop]
    generalize hA : L.take j = A at *
    generalize hB : L.drop (j + 1) = B at *
    rw [hL] at nd ⊢
    obtain ⟨_, n2, n3⟩ := List.pairwise_append.1 nd
    obtain ⟨n4, _⟩ := List.pairwise_cons.1 n2
    have f1 : A.filter (fun x => decide (x.born ≠ e.born)) = A := List.filter_eq_self.2 fun x hx => decide_eq_true (n3 x hx e (List.mem_cons_self ..))
    have f2 : B.filter (fun x => decide (x.born ≠ e.born)) = B := List.filter_eq_self.2 fun x hx => decide_eq_true (fun h => n4 x hx h.symm)
    rw [List.filter_append, List.filter_cons, if_neg (by simp), f1, f2]
   rw [hleft]
   refine ⟨by rw [List.length_append, List.length_append, List.length_take, List.length_take, List.length_drop, List.length_drop, h4], fun q x y a b => ?_, fun x hx => ?_⟩
   ·have ht : (es.take j).length = j := by rw [List.length_take]; omega
    have ht2 : ((ces.toList.filter fun x => !seen.contains x.born).take j).length = j := by rw [List.length_take]; omega
    rw [List.getElem?_append] at a b
    rw [ht] at a
    rw [ht2] at b
    split at a
    ·rename_i hq
     rw [if_pos hq] at b
     rw [List.getElem?_take_of_lt hq] at a b
     exact h5 q x y a b
    ·rename_i hq
     rw [if_neg hq] at b
     rw [List.getElem?_drop] at a b
     exact h5 _ x y a b
   ·injection hx with hx
    subst hx
    exact ⟨e, hmem.1, by simp, q1, q2⟩
theorem ok_next (hF : FRep N M J fr tmps) (hH : HRep M J H w.heap) (hM : MRep M w.heap) {x : Operand} (h : o.op = .next x false) (hs : dstep g i (.mop .next [x]) fr H = some (v, H')) : OpOK P M J H w g i (execOp (Act.eval ⟨tmps, ds⟩) o) v H' := by
 have hx := ev_rep (ds := ds) hF x
 simp only [dstep, avals, List.map_cons, List.map_nil, mstep] at hs
 generalize hcv : Act.eval ⟨tmps, ds⟩ x = cv at hx
 split at hs
 ·rename_i g' i' ea
  injection ea with ea _
  rw [ea] at hx
  split at hs
  ·rename_i cur hg
   simp only [Option.some.injEq, Prod.mk.injEq] at hs
   obtain ⟨rfl, rfl⟩ := hs
   cases hx with
   | ptr _ _ _ _ β l hJ hb =>
    rw [Nat.zero_mul] at hcv
    obtain ⟨ob, h1, h2⟩ := hH.its hg hJ hb
    rcases next_it (P := P) hM h1 h2 o.type with ⟨_, hrun⟩ | ⟨l1, l2, x, e, _, _, h3, _⟩
    ·refine .quiet hH hM (cv := .tuple #[.bool false]) ?_ (.tup _ _ rfl fun j c v a b => ?_)
     ·simp [execOp, h, hcv, hrun]
     ·cases j with
      | zero => simp at a b; subst a; subst b; exact .sc _
      | succ j => simp at a
    ·cases l1 <;> cases h3
  ·cases hs
 ·cases hs
theorem ok_entry (hF : FRep N M J fr tmps) (hH : HRep M J H w.heap) (hM : MRep M w.heap) {x : Operand} (h : o.op = .entry x) (hs : dstep g i (.mop .entry [x]) fr H = some (v, H')) : OpOK P M J H w g i (execOp (Act.eval ⟨tmps, ds⟩) o) v H' := by
 have hx := ev_rep (ds := ds) hF x
 simp only [dstep, avals, List.map_cons, List.map_nil, mstep] at hs
 generalize hcv : Act.eval ⟨tmps, ds⟩ x = cv at hx
 split at hs
 ·rename_i g' i' ea
  injection ea with ea _
  rw [ea] at hx
  split at hs
  ·rename_i y es hg
   simp only [Option.some.injEq, Prod.mk.injEq] at hs
   obtain ⟨rfl, rfl⟩ := hs
   cases hx with
   | ptr _ _ _ _ β l hJ hb =>
    rw [Nat.zero_mul] at hcv
    obtain ⟨ob, h1, h2⟩ := hH.its hg hJ hb
    rcases h2 with ⟨_, h2, _⟩ | ⟨μ, since, seen, ces, rfl, h2, h3, _, _, h6⟩
    ·cases h2
    ·obtain ⟨e, a1, a2, a3, a4⟩ := h6 y rfl
     have hf : ces.find? (·.born == e.born) = some e := by rw [← Array.find?_toList]; exact find_born e ces.toList (List.pairwise_map.2 h3.nd) a1
     have hrun : (Instr.entry (.pointer (some ⟨β, 0, none⟩))).run P w = .ok (.tuple #[e.key, e.val]) w := by
      simp only [Instr.entry, getObj, Sem.run_bind, Sem.run, h1, hM _ _ h2, Result.andThen, a2, bne_self_eq_false, Bool.false_eq_true, if_false, hf]
      rfl
     refine .quiet hH hM (cv := .tuple #[e.key, e.val]) ?_ (.tup _ _ rfl fun j c v a b => ?_)
     ·simp [execOp, h, hcv, hrun]
     ·cases j with
      | zero => simp at a b; subst a; subst b; rw [a3]; exact .sc _
      | succ j => cases j with
       | zero => simp at a b; subst a; subst b; exact a4
       | succ j => simp at a
  ·cases hs
 ·cases hs
theorem mdrop_spec (k k0 : IntKind) (n : Int) : ∀ (es : List (Value × AV)) (cl : List MapEntry) (res : Option AV) (q : Nat), es.length = cl.length → (∀ (j : Nat) x y, es[j]? = some x → cl[j]? = some y → x.1 = y.key) →
  mfind k n es = some res →
  (Instr.findNow (.int k0) (.int k n) cl q = some none ∧ mdrop n es = es) ∨
  ∃ j v, j < cl.length ∧ Instr.findNow (.int k0) (.int k n) cl q = some (some (q + j, v)) ∧ mdrop n es = es.eraseIdx j
 | [], cl, res, q, hl, _, h => by
  cases cl with
  | nil => exact .inl ⟨rfl, rfl⟩
  | cons _ _ => simp at hl
 | (key, x) :: es, cl, res, q, hl, hk, h => by
  cases cl with
  | nil => simp at hl
  | cons c cl =>
   have hkey : key = c.key := hk 0 _ _ rfl rfl
   cases key with
   | int k' m =>
    simp only [mfind] at h
    split at h
    ·rename_i e1
     have e1 : k = k' := of_decide_eq_true e1
     subst e1
     split at h
     ·rename_i e2
      have e2 : n = m := of_decide_eq_true e2
      subst e2
      exact .inr ⟨0, c.val, by simp, by simp [Instr.findNow, ← hkey, Instr.sameNow], by simp [mdrop]⟩
     ·rename_i e2
      have e2 : ¬ n = m := of_decide_eq_false e2
      have hs : Instr.sameNow (.int k0) (.int k n) c.key = some false := by
       rw [← hkey]
       simp [Instr.sameNow, e2]
      rcases mdrop_spec k k0 n es cl res (q + 1) (by simpa using hl) (fun j x y a b => hk (j + 1) x y a b) h with ⟨h1, h2⟩ | ⟨j, v, h1, h2, h3⟩
      ·exact .inl ⟨by simp [Instr.findNow, hs, h1], by simp [mdrop, e2, h2]⟩
      ·exact .inr ⟨j + 1, v, by simpa using h1, by simp [Instr.findNow, hs, h2]; omega, by simp [mdrop, e2, h3]⟩
    ·cases h
   | _ => simp [mfind] at h
theorem MWF.sub {ces ces' : Array MapEntry} {c : Nat} (h : MWF ces c) (e : ces'.toList.Sublist ces.toList) : MWF ces' c := ⟨fun x hx => h.lt x (e.subset hx), h.nd.sublist e⟩
theorem ok_del (hF : FRep N M J fr tmps) (hH : HRep M J H w.heap) (hM : MRep M w.heap) {t kt e : TypeId} {k : IntKind} {m ix : Operand} {args : Array Operand} {ts : Array TypeId} {tr : List TypeId} (ha : args.toList = [m, ix]) (hts : ts.toList = t :: tr) (ht : P.underlying t = some (.map kt e)) (hkt : P.underlying kt = some (.int k))
  (h : o.op = .call ⟨.builtin .delete, args, ts⟩) (hs : dstep g i (.mop (.del k) [m, ix]) fr H = some (v, H')) : OpOK P M J H w g i (execOp (Act.eval ⟨tmps, ds⟩) o) v H' := by
 have hm := ev_rep (ds := ds) hF m
 have hix := ev_rep (ds := ds) hF ix
 have ha' : args = #[m, ix] := by cases args; simp_all
 have ht' : ts[0]? = some t := by cases ts; simp_all
 subst ha'
 simp only [dstep, avals, List.map_cons, List.map_nil, mstep] at hs
 split at hs
 ·rename_i g' i' k' n ea
  injection ea with em ea
  injection ea with ei _
  rw [ei] at hix
  rw [em] at hm
  have hixv := hix.sc_inv
  split at hs
  ·rename_i hk
   have hk : k = k' := of_decide_eq_true hk
   subst hk
   have hkey : IsKey (.int k) (.int k n) := rfl
   generalize hcv : Act.eval ⟨tmps, ds⟩ m = cv at hm
   split at hs
   ·rename_i es hg
    split at hs
    ·rename_i res hmf
     simp only [Option.some.injEq, Prod.mk.injEq] at hs
     obtain ⟨rfl, rfl⟩ := hs
     obtain ⟨l', β, ces, clock, p1, p2, p3, p4, p5, p6, p7⟩ := hH.maps hg
     cases hm with
     | mref _ _ β' l hJ hb =>
      rw [hJ] at p1
      injection p1 with p1
      subst p1
      rw [hb] at p2
      injection p2 with p2
      subst p2
      have hck : ∀ b, (Instr.checkKey b 10000 kt (.int k n)).run P w = .ok () w := fun b => run_checkKey hkt hkey b 9999
      have hblt := lt_of_heap p3
      have fin : ∀ (es' : List (Value × AV)) (ces' : Array MapEntry), (execOp (Act.eval ⟨tmps, ds⟩) o).run P w = .ok (.value (.tuple #[])) { w with heap := w.heap.setIfInBounds β' (.map ces' clock) } →
        es'.length = ces'.size → (∀ (j : Nat) x y, es'[j]? = some x → ces'[j]? = some y → x.1 = y.key) → (∀ (j : Nat) x y, es'[j]? = some x → ces'[j]? = some y → Rep M J x.2 y.val) → MWF ces' clock →
        OpOK P M J H w g i (execOp (Act.eval ⟨tmps, ds⟩) o) (.tup []) (hset H g' i' (.map es')) := by
       intro es' ces' hrun q1 q2 q3 q4
       refine ⟨_, _, J, .inl hrun, .tup _ _ rfl fun j c v a b => by simp at a, .refl _ _, fun k => ?_, fun _ _ _ => rfl⟩
       exact Step.write k hH hM g' i' l β' _ hg rfl hJ hb (.map ces' clock) _ (fun _ => ⟨β', ces', clock, hb, by simp [hblt], q1, q2, q3, q4⟩) rfl rfl rfl rfl
      have hexec : ∀ r, (Builtin.delete_ ts o.type #[.map (some β'), .int k n]).run P w = .ok (.tuple #[]) r → (execOp (Act.eval ⟨tmps, ds⟩) o).run P w = .ok (.value (.tuple #[])) r := by
       intro r hr
       simp [execOp, h, resolve, invoke, builtin, hcv, hixv, hr]
      rcases mdrop_spec k k n es ces.toList res 0 (by simpa using p4) (fun j x y a b => p5 j x y a (by simpa using b)) hmf with ⟨e1, e2⟩ | ⟨j, u, e0, e1, e2⟩
      ·rw [e2]
       have hfk := run_findKey (P := P) (w := w) hkt e1
       refine fin es ces (hexec _ ?_) p4 p5 p6 p7
       simp only [Builtin.delete_, ht', List.getElem?_toArray, List.getElem?_cons_zero, List.getElem?_cons_succ, Sem.run_bind, run_underlying ht, Result.andThen_ok, MapKept.run_getObj_map p3, hck, hfk, MapKept.run_setObj_map _ p3, Sem.run_pure]
      ·rw [e2]
       rw [Nat.zero_add] at e1
       have hfk := run_findKey (P := P) (w := w) hkt e1
       have hsz : j < ces.size := by simpa using e0
       have hel : ∀ q : Nat, (ces.eraseIdxIfInBounds j)[q]? = (ces.toList.eraseIdx j)[q]? := fun q => by
        rw [← Array.getElem?_toList]
        congr 1
        rw [Array.eraseIdxIfInBounds_eq, dif_pos hsz]
        simp
       have hel2 : (ces.eraseIdxIfInBounds j).toList = ces.toList.eraseIdx j := by
        rw [Array.eraseIdxIfInBounds_eq, dif_pos hsz]
        simp
       have hget : ∀ (q : Nat) (x : Value × AV) (y : MapEntry), (es.eraseIdx j)[q]? = some x → (ces.eraseIdxIfInBounds j)[q]? = some y → ∃ q' : Nat, es[q']? = some x ∧ ces[q']? = some y := by
        intro q x y a b
        rw [hel] at b
        rw [List.getElem?_eraseIdx] at a b
        split at a
        ·rename_i hq
         rw [if_pos hq] at b
         exact ⟨q, a, by simpa using b⟩
        ·rename_i hq
         rw [if_neg hq] at b
         exact ⟨q + 1, a, by simpa using b⟩
       refine fin _ (ces.eraseIdxIfInBounds j) (hexec _ ?_) ?_ (fun q x y a b => ?_) (fun q x y a b => ?_) (p7.sub (by rw [hel2]; exact List.eraseIdx_sublist _ _))
       ·simp only [Builtin.delete_, ht', List.getElem?_toArray, List.getElem?_cons_zero, List.getElem?_cons_succ, Sem.run_bind, run_underlying ht, Result.andThen_ok, MapKept.run_getObj_map p3, hck, hfk, MapKept.run_setObj_map _ p3, Sem.run_pure]
       ·rw [← Array.length_toList, hel2, List.length_eraseIdx, List.length_eraseIdx, if_pos (by omega), if_pos e0, p4, Array.length_toList]
       ·obtain ⟨q', a', b'⟩ := hget q x y a b
        exact p5 q' x y a' b'
       ·obtain ⟨q', a', b'⟩ := hget q x y a b
        exact p6 q' x y a' b'
    ·cases hs
   ·cases hs
  ·cases hs
 ·cases hs
theorem ok_slice0 (hF : FRep N M J fr tmps) (hH : HRep M J H w.heap) (hM : MRep M w.heap) (hn : hok H g i) (hJ : J g i = none) {t e : TypeId} {x : Operand} {sz : Nat} (ht : P.underlying t = some (.slice e)) (hsz : szOf P e = some sz)
  (h : o.op = .slice t x none (some (.const (.int .i64 0))) (some (.const (.int .i64 0)))) (hs : dstep g i (.mop (.slice0 sz) [x]) fr H = some (v, H')) : OpOK P M J H w g i (execOp (Act.eval ⟨tmps, ds⟩) o) v H' := by
 have hx := ev_rep (ds := ds) hF x
 have key : ∀ (a : Option Addr) (d cap : Nat), Act.eval ⟨tmps, ds⟩ x = .slice a d cap → OpOK P M J H w g i (execOp (Act.eval ⟨tmps, ds⟩) o) (.hsl g i 0 0) (hset H g i (.cells sz [])) := by
  intro a d cap hcv
  have hc : Act.eval ⟨tmps, ds⟩ (.const (.int .i64 0)) = .int .i64 0 := rfl
  have hrun : (execOp (Act.eval ⟨tmps, ds⟩) o).run P w = .ok (.value (.slice a 0 0)) w := by
   simp [execOp, h, Instr.sliceAt, Instr.slice, run_underlying ht, hcv, run_sizeOf hsz, Instr.sliceBounds, Instr.sliceBound, hc, asIntOf]
  refine ⟨_, w, J.set g i ⟨none, sz, 0⟩, .inl hrun, .hslNil g i _ _ (Inj.set_self _) rfl, Inj.set_ext _ hJ M, fun k => ?_, fun a b hab => by simp only [Inj.set, if_neg hab]⟩
  exact Step.alloc k hH hM g i hn hJ none _ _ rfl ⟨rfl, fun q r hq => by simp at hq, rfl⟩ rfl rfl rfl rfl
 simp only [dstep, avals, List.map_cons, List.map_nil, mstep] at hs
 split at hs
 ·rename_i a b ea
  injection ea with ea _
  rw [ea] at hx
  simp only [Option.some.injEq, Prod.mk.injEq] at hs
  obtain ⟨rfl, rfl⟩ := hs
  generalize hcv : Act.eval ⟨tmps, ds⟩ x = cv at hx
  cases hx with
  | nilList => exact key _ _ _ hcv
  | list => exact key _ _ _ hcv
 ·rename_i a b c d ea
  injection ea with ea _
  rw [ea] at hx
  simp only [Option.some.injEq, Prod.mk.injEq] at hs
  obtain ⟨rfl, rfl⟩ := hs
  generalize hcv : Act.eval ⟨tmps, ds⟩ x = cv at hx
  cases hx with
  | hsl => exact key _ _ _ hcv
  | hslNil => exact key _ _ _ hcv
 ·rename_i ea
  injection ea with ea _
  rw [ea] at hx
  simp only [Option.some.injEq, Prod.mk.injEq] at hs
  obtain ⟨rfl, rfl⟩ := hs
  exact key _ _ _ hx.sc_inv
 ·cases hs
theorem ok_cap (hF : FRep N M J fr tmps) (hH : HRep M J H w.heap) (hM : MRep M w.heap) {t e : TypeId} {x : Operand} {args : Array Operand} {ts : Array TypeId} (ha : args.toList = [x]) (hts : ts.toList = [t]) (ht : P.underlying t = some (.slice e))
  (h : o.op = .call ⟨.builtin .cap, args, ts⟩) (hs : dstep g i (.mop .cap [x]) fr H = some (v, H')) : OpOK P M J H w g i (execOp (Act.eval ⟨tmps, ds⟩) o) v H' := by
 have hx := ev_rep (ds := ds) hF x
 have ha' : args = #[x] := by cases args; simp_all
 have ht' : ts[0]? = some t := by cases ts; simp_all
 subst ha'
 simp only [dstep, avals, List.map_cons, List.map_nil, mstep] at hs
 split at hs
 ·rename_i ea
  injection ea with ea _
  rw [ea] at hx
  simp only [Option.some.injEq, Prod.mk.injEq] at hs
  obtain ⟨rfl, rfl⟩ := hs
  have hcv := hx.sc_inv
  exact .quiet hH hM (cv := .int .i64 (0 : Nat)) (by simp [execOp, h, resolve, invoke, builtin, Builtin.cap_, hcv, ht', run_underlying ht, goInt]) (.sc _)
 ·cases hs
theorem rowsX_take {a : AV} {x : Value} (hr : Rep M J a x) {s0 sz : Nat} {rows : List (List AV)} (h : rowsX s0 H a = some (sz, rows)) {n : Nat} (hn : n ≤ rows.length) :
  ∃ a' x', Rep M J a' x' ∧ rowsX s0 H a' = some (sz, rows.take n) ∧ ∀ k, Builtin.firstCells sz k x' = Builtin.firstCells sz k x := by
 unfold rowsX at h
 split at h
 ·injection h with h
  injection h with h1 h2
  subst h1; subst h2
  refine ⟨_, x, hr, ?_, fun _ => rfl⟩
  simp [rowsX]
 ·cases hr with
  | nilList s a cap =>
   simp only [rowsOf, Option.some.injEq, Prod.mk.injEq] at h
   obtain ⟨rfl, rfl⟩ := h
   exact ⟨.list s [], _, .nilList s a cap, by simp [rowsX, rowsOf], fun _ => rfl⟩
  | list s rows' β off cap m cs e f hm hMb hrl hle hone hrep =>
   simp only [rowsOf, Option.some.injEq, Prod.mk.injEq] at h
   obtain ⟨rfl, rfl⟩ := h
   have hg : ∀ (q : Nat) (r : List AV), (rows'.take n)[q]? = some r → rows'[q]? = some r := fun q r hq => by
    rw [List.getElem?_take] at hq
    split at hq
    ·exact hq
    ·cases hq
   have hlen : (rows'.take n).length = n := by rw [List.length_take]; omega
   have hmul : n * s ≤ rows'.length * s := Nat.mul_le_mul_right _ hn
   refine ⟨.list s (rows'.take n), .slice (some ⟨β, off, none⟩) n cap, .list s _ β off cap n cs e f ⟨hlen.symm, by omega⟩ hMb (fun q r hq => hrl q r (hg q r hq)) (by rw [hlen]; omega) (fun j v hj => hone j v (by rw [hlen] at hj; omega)) (fun q r j c v hq => hrep q r j c v (hg q r hq)), by simp [rowsX, rowsOf], fun _ => rfl⟩
  | hsl g' i' st len cap β l hJ hb hc hlc =>
   simp only [rowsOf] at h
   split at h
   ·rename_i s rows0 hg
    split at h
    ·rename_i hb2
     simp only [Option.some.injEq, Prod.mk.injEq] at h
     obtain ⟨rfl, rfl⟩ := h
     have hle := Nat.le_of_ble_eq_true hb2
     have hnl : n ≤ len := by rw [List.length_take] at hn; omega
     refine ⟨.hsl g' i' st n, _, .hsl g' i' st n cap β l hJ hb hc (by omega), ?_, fun _ => rfl⟩
     have e1 : Nat.ble (st + n) rows0.length = true := Nat.ble_eq_true_of_le (by omega)
     simp only [rowsX, rowsOf, hg, e1]
     rw [List.take_take, Nat.min_eq_left hnl]
    ·cases h
   ·cases h
  | hslNil g' i' a0 l hJ hb =>
   simp only [rowsOf] at h
   split at h
   ·rename_i s rows0 hg
    split at h
    ·rename_i hb2
     simp only [Option.some.injEq, Prod.mk.injEq] at h
     obtain ⟨rfl, rfl⟩ := h
     refine ⟨.hsl g' i' 0 0, _, .hslNil g' i' a0 l hJ hb, ?_, fun _ => rfl⟩
     simp only [rowsX, rowsOf, hg, hb2]
     simp
    ·cases h
   ·cases h
  | _ => cases h
theorem copyRows_get {rows1 rows2 : List (List AV)} {st n q : Nat} (h1 : st + n ≤ rows1.length) (h2 : n ≤ rows2.length) : (rows1.take st ++ (rows2.take n ++ rows1.drop (st + n)))[q]? = if q < st then rows1[q]? else if q < st + n then rows2[q - st]? else rows1[q]? := by
 have e1 : (rows1.take st).length = st := by rw [List.length_take]; omega
 have e2 : (rows2.take n).length = n := by rw [List.length_take]; omega
 rw [List.getElem?_append, e1]
 split
 ·rename_i h
  rw [List.getElem?_take_of_lt h]
 ·rw [List.getElem?_append, e2]
  split
  ·rename_i h
   rw [if_pos (by omega), List.getElem?_take_of_lt h]
  ·rw [if_neg (by omega), List.getElem?_drop]
   congr 1
   omega
theorem run_lenOf {b : Option Addr} {m c : Nat} (w : World) : (Builtin.lenOf (.slice b m c)).run P w = .ok m w := by simp [Builtin.lenOf]
theorem ok_copy (hF : FRep N M J fr tmps) (hH : HRep M J H w.heap) (hM : MRep M w.heap) {t e : TypeId} {sz : Nat} {d x : Operand} {args : Array Operand} {ts : Array TypeId} {tr : List TypeId} (ha : args.toList = [d, x]) (hts : ts.toList = t :: tr) (ht : P.underlying t = some (.slice e)) (hsz : szOf P e = some sz)
  (h : o.op = .call ⟨.builtin .copy, args, ts⟩) (hs : dstep g i (.mop (.copy sz) [d, x]) fr H = some (v, H')) : OpOK P M J H w g i (execOp (Act.eval ⟨tmps, ds⟩) o) v H' := by
 have hx := ev_rep (ds := ds) hF x
 have hd := ev_rep (ds := ds) hF d
 have ha' : args = #[d, x] := by cases args; simp_all
 have ht' : ts[0]? = some t := by cases ts; simp_all
 subst ha'
 simp only [dstep, avals, List.map_cons, List.map_nil, mstep] at hs
 split at hs
 ·rename_i g' i' st len s ea
  injection ea with ed ea
  injection ea with ex _
  subst ex
  rw [ed] at hd
  split at hs
  ·rename_i s2 rows2 hr
   split at hs
   ·rename_i s1 rows1 hg
    split at hs
    ·rename_i hb
     simp only [Bool.and_eq_true] at hb
     obtain ⟨⟨hb1, hb2⟩, hb3⟩ := hb
     have hb1 := Nat.eq_of_beq_eq_true hb1
     have hb2 := Nat.eq_of_beq_eq_true hb2
     have hb3 := Nat.le_of_ble_eq_true hb3
     subst hb1; subst hb2
     simp only [Option.some.injEq, Prod.mk.injEq] at hs
     obtain ⟨rfl, rfl⟩ := hs
     obtain ⟨l', p1, p2, p3, p4⟩ := hH.cells hg
     generalize hcd : Act.eval ⟨tmps, ds⟩ d = dv at hd
     generalize hcx : Act.eval ⟨tmps, ds⟩ x = xv at hx
     cases hd with
     | hsl _ _ _ _ cap β l hJ hbk hc hlc =>
      rw [hJ] at p1
      injection p1 with p1
      subst p1
      obtain ⟨cs, e', q1, q2, q3, q4, q5⟩ := p4 β hbk
      rw [p2] at hcd hc
      have hn1 : min rows2.length (len + 1) ≤ rows2.length := Nat.min_le_left _ _
      have hn2 : min rows2.length (len + 1) ≤ len + 1 := Nat.min_le_right _ _
      obtain ⟨b0, m0, c0, hxv, hm0, hrl2, _⟩ := rowsX_cells (P := P) hH hM hx hr
      subst hm0
      obtain ⟨a', x', r1, r2, r3⟩ := rowsX_take hx hr hn1
      obtain ⟨b, m, c, hx'v, hm, hrl, news, hnl, hnone, hnrep, hnrun⟩ := rowsX_cells (P := P) hH hM r1 r2
      rw [r3] at hnrun
      subst hxv
      have hml : m = min rows2.length (len + 1) := by rw [hm, List.length_take]; omega
      subst hml
      generalize hnn : min rows2.length (len + 1) = n at *
      have hmul : (st + n) * s2 = st * s2 + n * s2 := Nat.add_mul _ _ _
      have hmul2 : (st + n) * s2 ≤ rows1.length * s2 := Nat.mul_le_mul_right _ (by omega)
      have hst := run_storeCells P β (st * s2) e' news w cs 0 q1 (by rw [hnl]; omega) hnone
      rw [Nat.add_zero] at hst
      have hrun : (Builtin.copy_ ts o.type #[.slice (some ⟨β, st * s2, none⟩) len.succ cap, .slice b0 rows2.length c0]).run P w = .ok (.int .i64 (n : Nat)) (wset w β (.cells (splice cs (st * s2) news) e' (0, 0))) := by
       have := hnrun w rfl
       have hmin : Nat.min rows2.length len.succ = n := hnn
       simp [Builtin.copy_, ht', run_underlying ht, run_sizeOf hsz, run_lenOf, hmin, this, hst, goInt]
      have hexec : (execOp (Act.eval ⟨tmps, ds⟩) o).run P w = .ok (.value (.int .i64 (n : Nat))) (wset w β (.cells (splice cs (st * s2) news) e' (0, 0))) := by
       simp [execOp, h, resolve, invoke, builtin, hcd, hcx, hrun]
      have hblt := lt_of_heap q1
      refine ⟨_, _, J, .inl hexec, .sc _, .refl _ _, fun k => ?_, fun _ _ _ => rfl⟩
      have hlen' : (rows1.take st ++ (rows2.take n ++ rows1.drop (st + n))).length = rows1.length := by
       rw [List.length_append, List.length_append, List.length_take, List.length_take, List.length_drop]; omega
      refine Step.write k hH hM g' i' l β _ hg rfl hJ hbk (.cells (splice cs (st * s2) news) e' (0, 0)) _ (fun _ => ⟨p2, fun q r hq => ?_, ?_⟩) rfl rfl rfl rfl
      ·rw [copyRows_get (by omega) hn1] at hq
       split at hq
       ·exact p3 q r hq
       ·split at hq
        ·exact hrl2 _ r hq
        ·exact p3 q r hq
      ·rw [hbk]
       refine ⟨_, e', heap_wset_same _ _ _ hblt, by rw [← q2]; simp, by rw [hlen']; exact q3, fun j v hj hv => ?_, fun q r j c v hq hc' hv => ?_⟩
       ·rw [get_splice] at hv
        split at hv
        ·exact hnone _ (List.mem_of_getElem? hv)
        ·exact q4 j v (by rw [hlen'] at hj; exact hj) hv
       ·rw [copyRows_get (by omega) hn1] at hq
        rw [get_splice, hnl] at hv
        have hjl : j < s2 → q * s2 + j < (q + 1) * s2 := fun h => by rw [Nat.add_mul]; omega
        split at hq
        ·rename_i hlt
         have hj := (List.getElem?_eq_some_iff.1 hc').1
         rw [p3 q r hq] at hj
         have h1 := row_le (sz := s2) hlt
         rw [if_neg (by omega)] at hv
         exact q5 q r j c v hq hc' hv
        ·rename_i hge
         split at hq
         ·rename_i hlt
          have hj := (List.getElem?_eq_some_iff.1 hc').1
          rw [hrl2 _ r hq] at hj
          obtain ⟨p, rfl⟩ : ∃ p, q = st + p := ⟨q - st, by omega⟩
          have h1 := row_le (sz := s2) (show p < n by omega)
          have h2 : (st + p) * s2 = st * s2 + p * s2 := Nat.add_mul _ _ _
          rw [if_pos (by omega)] at hv
          rw [show (st + p) * s2 + j - st * s2 = p * s2 + j by omega] at hv
          rw [show st + p - st = p by omega] at hq
          exact hnrep p r j c v (by rw [List.getElem?_take_of_lt (by omega)]; exact hq) hc' hv
         ·rename_i hge2
          have h2 : (st + n) * s2 ≤ q * s2 := Nat.mul_le_mul_right _ (by omega)
          rw [if_neg (by omega)] at hv
          exact q5 q r j c v hq hc' hv
    ·cases hs
   ·cases hs
  ·cases hs
 ·cases hs
theorem get_zeroCells (z : Array Value) (n j : Nat) (h : j < n * z.size) : (Builtin.zeroCells z n)[j]? = some z[j % z.size]! := by
 unfold Builtin.zeroCells
 simp [h]
theorem run_app_zeros (t u ty e : TypeId) (k k' : IntKind) (inf : TypeInfo) (zv : Value) (ht : P.underlying t = some (.slice e)) (hu : P.underlying u = some (.int k)) (hi : P.info? e = some inf) (hz : inf.zero = some zv) (hs : 0 < inf.size)
  (n : Nat) (hn : 0 < n) (h63 : (n : Int) ≤ 9223372036854775807) (hb : (n : Int) * inf.bytes ≤ 281474976710656) (hfit : Builtin.nextslicecap n 0 * inf.bytes ≤ 281474976710656) :
  (Builtin.append_ #[t, u] ty #[.slice none 0 0, .int k' (n : Int)]).run P w =
   .ok (.slice (some ⟨w.heap.size, 0, none⟩) n (grownCap w n 0 e))
    (w.drew.alloc (.cells (Builtin.zeroCells zv.cells n ++ Builtin.zeroCells zv.cells (grownCap w n 0 e - n)) e)) := by
 have hw : IntKind.i64.wrap (n : Int) = n := by rw [IntKind.wrap_i64]; omega
 have h0 : ¬ ((n : Int) < 0) := by omega
 have hb' : ¬ (281474976710656 < (n : Int) * inf.bytes) := by omega
 have hn' : ¬ n = 0 := by omega
 have hs' : ¬ inf.size = 0 := by omega
 have h63' : ¬ (9223372036854775807 < (n : Int)) := by omega
 have h48' : ¬ (281474976710656 < Builtin.nextslicecap n 0 * inf.bytes) := by omega
 simp [Builtin.append_, run_underlying ht, run_underlying hu, sizeOf, typeInfo, zeroValue, hi, hz, asInt, asIntOf, hw, h0, hb', hn', h63', h48', Question.forced, newRow, grownCap, Builtin.firstCells]
 intro h
 exact absurd h (Nat.mul_ne_zero hn' hs')
theorem ok_appN (hF : FRep N M J fr tmps) (hH : HRep M J H w.heap) (hM : MRep M w.heap) (hn : hok H g i) (hJ : J g i = none) {t u e : TypeId} {k : IntKind} {inf : TypeInfo} {z : List (Nat × Value)} {s x : Operand} {args : Array Operand} {ts : Array TypeId}
  (ha : args.toList = [s, x]) (hts : ts.toList = [t, u]) (ht : P.underlying t = some (.slice e)) (hu : P.underlying u = some (.int k)) (hi : P.info? e = some inf) (hz : zOf P e = some z) (hsz : 0 < inf.size) (h : o.op = .call ⟨.builtin .append, args, ts⟩)
  (hs : dstep g i (.mop (.appN inf.bytes z) [s, x]) fr H = some (v, H')) : OpOK P M J H w g i (execOp (Act.eval ⟨tmps, ds⟩) o) v H' := by
 have hx := ev_rep (ds := ds) hF x
 have hsv := ev_rep (ds := ds) hF s
 have ha' : args = #[s, x] := by cases args; simp_all
 have ht' : ts = #[t, u] := by cases ts; simp_all
 subst ha'; subst ht'
 obtain ⟨inf', zv, hi', hz0, hsize, hone, hun⟩ := zOf_some hz
 rw [hi] at hi'
 injection hi' with hi'
 subst hi'
 simp only [dstep, avals, List.map_cons, List.map_nil, mstep] at hs
 split at hs
 ·rename_i n ea
  injection ea with es ea
  injection ea with ex _
  rw [es] at hsv
  rw [ex] at hx
  split at hs
  ·rename_i hb
   have hbound : (n + 1) * (inf.bytes + 1) ≤ 70368744177664 := Nat.le_of_ble_eq_true hb
   simp only [Option.some.injEq, Prod.mk.injEq] at hs
   obtain ⟨rfl, rfl⟩ := hs
   have hlen : (zrow z).length = inf.size := by rw [zrow_eq, hun]; simp [hsize]
   rw [hlen]
   have hm1 : (n + 1) * (inf.bytes + 1) = (n + 1) * inf.bytes + (n + 1) := Nat.mul_succ _ _
   have hcap0 : Builtin.nextslicecap (n + 1) 0 = n + 1 := by
    unfold Builtin.nextslicecap
    rw [if_pos (by omega)]
   have hrun := run_app_zeros (P := P) (w := w) t u o.type e k .i64 inf zv ht hu hi hz0 hsz (n + 1) (by omega) (by omega) (by rw [← Int.natCast_mul]; omega) (by rw [hcap0]; omega)
   have hexec : (execOp (Act.eval ⟨tmps, ds⟩) o).run P w = .ok (.value (.slice (some ⟨w.heap.size, 0, none⟩) (n + 1) (grownCap w (n + 1) 0 e))) (w.drew.alloc (.cells (Builtin.zeroCells zv.cells (n + 1) ++ Builtin.zeroCells zv.cells (grownCap w (n + 1) 0 e - (n + 1))) e)) := by
    have hsuf : ∀ (xv : Value) r w1, Act.eval ⟨tmps, ds⟩ x = xv → (Builtin.append_ #[t, u] o.type #[.slice none 0 0, xv]).run P w = .ok r w1 → (execOp (Act.eval ⟨tmps, ds⟩) o).run P w = .ok (.value r) w1 := by
     intro xv r w1 e1 hr
     simp [execOp, h, resolve, invoke, builtin, e1, hsv.sc_inv, hr]
    exact hsuf _ _ _ hx.sc_inv hrun
   have hge : n + 1 ≤ grownCap w (n + 1) 0 e := grownCap_ge w _ _ _
   generalize grownCap w (n + 1) 0 e = cap' at hexec hge
   have hsz3 : (Builtin.zeroCells zv.cells (n + 1) ++ Builtin.zeroCells zv.cells (cap' - (n + 1))).size = cap' * inf.size := by
    rw [Array.size_append, size_zeroCells, size_zeroCells, hsize, ← Nat.add_mul]
    congr 1
    omega
   have hget : ∀ (j : Nat) y, j < (n + 1) * inf.size → (Builtin.zeroCells zv.cells (n + 1) ++ Builtin.zeroCells zv.cells (cap' - (n + 1)))[j]? = some y → y = zv.cells[j % inf.size]! := by
    intro j y hj hy
    rw [Array.getElem?_append_left (by rw [size_zeroCells, hsize]; exact hj), get_zeroCells _ _ _ (by rw [hsize]; exact hj), hsize] at hy
    injection hy with hy
    exact hy.symm
   refine ⟨_, _, J.set g i ⟨some w.heap.size, inf.size, cap' * inf.size⟩, .inl hexec, ?_, Inj.set_ext _ hJ M, fun k => ?_, fun a b hab => by simp only [Inj.set, if_neg hab]⟩
   ·have := Rep.hsl (M := M) (J := J.set g i ⟨some w.heap.size, inf.size, cap' * inf.size⟩) g i 0 (n + 1) cap' w.heap.size _ (Inj.set_self _) rfl (by simp) hge
    rwa [Nat.zero_mul] at this
   ·have hmul : (n + 1) * inf.size ≤ cap' * inf.size := Nat.mul_le_mul_right _ hge
    refine Step.alloc k hH hM g i hn hJ (some (.cells (Builtin.zeroCells zv.cells (n + 1) ++ Builtin.zeroCells zv.cells (cap' - (n + 1))) e)) _ _ rfl ⟨rfl, fun q r hq => ?_, _, e, get_push _ _, hsz3, by rw [List.length_replicate]; exact hmul, fun j y hj hy => ?_, fun q r j c y hq hc hy => ?_⟩ rfl rfl rfl rfl
    ·rw [List.getElem?_replicate] at hq
     split at hq
     ·injection hq with hq; subst hq; exact hlen
     ·cases hq
    ·rw [List.length_replicate] at hj
     have hjm : j % inf.size < inf.size := Nat.mod_lt _ hsz
     rw [hget j y hj hy, getElem!_pos zv.cells (j % inf.size) (by omega)]
     exact hone _ (Array.getElem_mem _)
    ·rw [List.getElem?_replicate] at hq
     split at hq
     ·rename_i hqn
      injection hq with hq
      subst hq
      have hj : j < inf.size := by rw [← hlen]; exact (List.getElem?_eq_some_iff.1 hc).1
      have := row_le (sz := inf.size) hqn
      have hy' := hget _ y (by omega) hy
      rw [show (q * inf.size + j) % inf.size = j by rw [Nat.mul_comm, Nat.mul_add_mod, Nat.mod_eq_of_lt hj], getElem!_pos zv.cells j (by omega)] at hy'
      have hy2 : zv.cells[j]? = some y := by rw [Array.getElem?_eq_getElem (by omega), hy']
      rw [zrow_get hun hc hy2]
      exact .sc _
     ·cases hq
  ·cases hs
 ·cases hs
def copM (P : Program) : Op → Option IOp
 | .range t x => match P.underlying t with | some (.map _ _) => some (.mop .range [x]) | _ => none
 | .next x false => some (.mop .next [x])
 | .entry x => some (.mop .entry [x])
 | .call ⟨.builtin .delete, args, ts⟩ => match args.toList, ts.toList with
  | [m, x], t :: _ => match P.underlying t with
   | some (.map kt _) => match P.underlying kt with
    | some (.int k) => some (.mop (.del k) [m, x])
    | _ => none
   | _ => none
  | _, _ => none
 | .slice t x none (some (.const (.int .i64 0))) (some (.const (.int .i64 0))) => match P.underlying t with
  | some (.slice e) => (szOf P e).map fun n => .mop (.slice0 n) [x]
  | _ => none
 | .call ⟨.builtin .cap, args, ts⟩ => match args.toList, ts.toList with
  | [x], [t] => match P.underlying t with
   | some (.slice _) => some (.mop .cap [x])
   | _ => none
  | _, _ => none
 | .call ⟨.builtin .copy, args, ts⟩ => match args.toList, ts.toList with
  | [d, x], t :: _ => match P.underlying t with
   | some (.slice e) => (szOf P e).map fun n => .mop (.copy n) [d, x]
   | _ => none
  | _, _ => none
 | .call ⟨.builtin .append, args, ts⟩ => match args.toList, ts.toList with
  | [s, x], [t, u] => match P.underlying t, P.underlying u with
   | some (.slice e), some (.int _) => match P.info? e, zOf P e with
    | some i, some z => match Nat.blt 0 i.size with
     | true => some (.mop (.appN i.bytes z) [s, x])
     | false => none
    | _, _ => none
   | _, _ => none
  | _, _ => none
 | .panic _ => some (.mop .stop [])
 | .makeInterface _ _ => some (.mop .stop [])
 | .typeAssert _ _ _ _ => some (.mop .stop [])
 | _ => none
theorem copM_sound {io : IOp} (hc : copM P o.op = some io) (hF : FRep N M J fr tmps) (hH : HRep M J H w.heap) (hM : MRep M w.heap) (hn : hok H g i) (hJ : J g i = none)
  (hs : dstep g i io fr H = some (v, H')) : OpOK P M J H w g i (execOp (Act.eval ⟨tmps, ds⟩) o) v H' := by
 unfold copM at hc
 split at hc
 ·rename_i t x h
  split at hc
  ·rename_i h1
   injection hc with hc; subst hc
   exact ok_range hF hH hM hn hJ h1 h hs
  ·cases hc
 ·rename_i x h
  injection hc with hc; subst hc
  exact ok_next hF hH hM h hs
 ·rename_i x h
  injection hc with hc; subst hc
  exact ok_entry hF hH hM h hs
 ·rename_i args ts h
  split at hc
  ·rename_i m x t tr ha ht
   split at hc
   ·rename_i h1
    split at hc
    ·rename_i h2
     injection hc with hc; subst hc
     exact ok_del hF hH hM ha ht h1 h2 h hs
    ·cases hc
   ·cases hc
  ·cases hc
 ·rename_i t x h
  split at hc
  ·rename_i h1
   simp only [Option.map_eq_some_iff] at hc
   obtain ⟨n, h2, rfl⟩ := hc
   exact ok_slice0 hF hH hM hn hJ h1 h2 h hs
  ·cases hc
 ·rename_i args ts h
  split at hc
  ·rename_i x t ha ht
   split at hc
   ·rename_i h1
    injection hc with hc; subst hc
    exact ok_cap hF hH hM ha ht h1 h hs
   ·cases hc
  ·cases hc
 ·rename_i args ts h
  split at hc
  ·rename_i d x t tr ha ht
   split at hc
   ·rename_i h1
    simp only [Option.map_eq_some_iff] at hc
    obtain ⟨n, h2, rfl⟩ := hc
    exact ok_copy hF hH hM ha ht h1 h2 h hs
   ·cases hc
  ·cases hc
 ·rename_i args ts h
  split at hc
  ·rename_i s x t u ha ht
   split at hc
   ·rename_i e k h1 h2
    split at hc
    ·rename_i inf z h3 h4
     split at hc
     ·rename_i h5
      injection hc with hc; subst hc
      exact ok_appN hF hH hM hn hJ ha ht h1 h2 h3 h4 (Nat.le_of_ble_eq_true h5) h hs
     ·cases hc
    ·cases hc
   ·cases hc
  ·cases hc
 ·injection hc with hc; subst hc; cases hs
 ·injection hc with hc; subst hc; cases hs
 ·injection hc with hc; subst hc; cases hs
 ·cases hc
end
end Go.Av
