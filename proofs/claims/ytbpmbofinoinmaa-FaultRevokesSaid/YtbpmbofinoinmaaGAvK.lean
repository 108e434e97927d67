import Derived.Test.YtbpmbofinoinmaaGAv23
namespace Go.Av
theorem Ghost.push (H : Heap) (sz : Nat) : Ghost H (H ++ [[.cells sz []]]) := by
 refine ⟨fun g i x' hx hl => ?_, fun g i h => ?_⟩
 ·rw [hget_append] at hx
  split at hx
  ·rename_i e
   subst e
   right
   refine ⟨by simp [hget], sz, ?_⟩
   cases i with
   | zero => simpa using hx.symm
   | succ i => simp at hx
  ·exact .inl ⟨x', hx, .refl _⟩
 ·rw [hget_append]
  split
  ·rename_i e
   subst e
   simp [hget] at h
  ·exact h
theorem GhT.push (H : Heap) (sz : Nat) : GhT H (H ++ [[.cells sz []]]) (.sc (.slice none 0 0)) (.hsl H.length 0 0 0) :=
 .mk H.length 0 sz (by simp [hget]) (by rw [hget_append, if_pos rfl]; rfl)
def CongAll (T : AV → AV → Prop) (fr : Fr) : Fr → Prop
 | [] => True
 | x :: r => Cong T (fr.get x.1) x.2 ∧ CongAll T fr r
theorem CongAll.mem {T fr} : ∀ {fr' : Fr}, CongAll T fr fr' → ∀ x ∈ fr', Cong T (fr.get x.1) x.2
 | [], _, x, h => by cases h
 | _ :: _, ⟨h1, h2⟩, x, h => by
  cases h with
  | head => exact h1
  | tail _ h => exact CongAll.mem h2 x h
theorem Sub.nilBlk {k N : Nat} {fr fr' : Fr} {H : Heap} (sz : Nat) (h : CongAll (GhT H (H ++ [[.cells sz []]])) fr fr') : Sub k N fr H fr' (H ++ [[.cells sz []]]) := Sub.ghost (Ghost.push H sz) h.mem
def allS (_ _ : Nat) : Bool := true
def deadH (H : Heap) : Heap := H.map fun f => f.map fun _ => .dead
theorem hget_dead {H : Heap} {g i : Nat} : (hget (deadH H) g i).isSome = (hget H g i).isSome ∧ ∀ x, hget (deadH H) g i = some x → x = .dead := by
 unfold hget deadH
 rw [List.getElem?_map]
 cases H[g]? with
 | none => exact ⟨rfl, fun x h => by cases h⟩
 | some f =>
  simp only [Option.map_some, List.getElem?_map]
  cases f[i]? with
  | none => exact ⟨rfl, fun x h => by cases h⟩
  | some y => exact ⟨rfl, fun x h => by simpa using h.symm⟩
theorem Frozen.all (H : Heap) : Frozen H allS (deadH H) := by
 refine ⟨fun g i x' hx hl => ?_, fun g i h => by rw [hget_dead.1]; exact h⟩
 have := hget_dead.2 x' hx
 subst this
 cases hl
def FzA (H : Heap) : AV → AV → Prop := Cong (FzT H allS)
def FzAll (H : Heap) (fr : Fr) : Fr → Prop
 | [] => True
 | x :: r => (FzA H (fr.get x.1) x.2 ∧ Pure x.2) ∧ FzAll H fr r
theorem FzAll.mem {H fr} : ∀ {fr' : Fr}, FzAll H fr fr' → ∀ x ∈ fr', FzA H (fr.get x.1) x.2 ∧ Pure x.2
 | [], _, x, h => by cases h
 | _ :: _, ⟨h1, h2⟩, x, h => by
  cases h with
  | head => exact h1
  | tail _ h => exact FzAll.mem h2 x h
theorem pure_get {fr : Fr} (h : ∀ y ∈ fr, Pure y.2) (t : Nat) : Pure (fr.get t) := by
 induction fr with
 | nil => exact .undef
 | cons p l ih =>
  obtain ⟨d, v⟩ := p
  show Pure (match Nat.beq d t with | true => v | false => Fr.get l t)
  split
  ·exact h (d, v) (List.mem_cons_self ..)
  ·exact ih fun y hy => h y (List.mem_cons_of_mem _ hy)
theorem Sub.frzAll {N : Nat} {fr fr' : Fr} {H : Heap} (h : FzAll H fr fr') : Sub 0 N fr H fr' [] := by
 intro M J tmps w hF hH hM
 obtain ⟨h1, h2, h3⟩ := Step.frz (k := 0) hH hM (Frozen.all H)
 have hF' := hF.cong h2 h3 fun x hx => (h.mem x hx).1
 refine ⟨_, _, h1.ren (ρ := rho []) (H'' := []) (Numb.list rfl rfl rfl trivial), hF'.1, fun t => (hF'.2 t).anyJ (pure_get (fun y hy => (h.mem y hy).2) t) _⟩
theorem SubV.frzAll {H : Heap} {a b : AV} (h : FzA H a b) (hp : Pure b) : SubV 0 H a [] b :=
 (SubV.frz allS (Frozen.all H) h).trans (SubV.ren (rho []) (Numb.list rfl rfl rfl trivial) (.pure hp))
theorem fin_frz {e : Exit} (he : e = .normal ∨ e = .ret) {rs : List IRes} {fr : Fr} {H : Heap} {res res' : AV} {R : AV → Heap → Prop} (hres : resOf fr H rs = some res) (hz : FzA H res res') (hp : Pure res') (hR : R res' []) :
  (e = .normal ∨ e = .ret) ∧ ∃ res res' H2, resOf fr H rs = some res ∧ SubV 0 H res H2 res' ∧ R res' H2 := ⟨he, res, res', [], hres, .frzAll hz hp, hR⟩
theorem FzA.hsl {H : Heap} {g i start len sz : Nat} {rows rows' : List (List AV)} (h : hget H g i = some (.cells sz rows)) (hl : start + len ≤ rows.length) (e : (rows.drop start).take len = rows') : FzA H (.hsl g i start len) (.list sz rows') := by
 subst e
 exact .base (.hsl g i start len sz rows rfl h hl)
theorem FzA.all {H : Heap} {g i len sz : Nat} {rows : List (List AV)} (h : hget H g i = some (.cells sz rows)) (hl : rows.length = len) : FzA H (.hsl g i 0 len) (.list sz rows) :=
 .hsl h (by omega) (by rw [List.drop_zero, List.take_of_length_le (by omega)])
theorem FzA.ptr {H : Heap} {g i row sz : Nat} {rows : List (List AV)} {r : List AV} (h : hget H g i = some (.cells sz rows)) (hr : rows[row]? = some r) : FzA H (.ptr g i row 0) (.cptr r) :=
 .base (.ptr g i row 0 sz rows r rfl h hr)
theorem FzA.mref {H : Heap} {g i : Nat} {es : List (Value × AV)} (h : hget H g i = some (.map es)) : FzA H (.mref g i) (.tmap es) := .base (.mref g i es rfl h)
theorem FzA.refl (H : Heap) (a : AV) : FzA H a a := Cong.refl a
def CongL (T : AV → AV → Prop) : List AV → List AV → Prop
 | [], [] => True
 | a :: l, b :: m => Cong T a b ∧ CongL T l m
 | _, _ => False
theorem CongL.spec {T} : ∀ {l m : List AV}, CongL T l m → l.length = m.length ∧ ∀ (j : Nat) a b, l[j]? = some a → m[j]? = some b → Cong T a b
 | [], [], _ => ⟨rfl, fun j a b h => by simp at h⟩
 | [], _ :: _, h => h.elim
 | _ :: _, [], h => h.elim
 | x :: l, y :: m, ⟨h1, h2⟩ => by
  obtain ⟨h3, h4⟩ := CongL.spec h2
  refine ⟨by simp [h3], fun j a b ha hb => ?_⟩
  cases j with
  | zero => simp at ha hb; subst ha; subst hb; exact h1
  | succ j => exact h4 j a b (by simpa using ha) (by simpa using hb)
theorem Cong.tupL {T} {l m : List AV} (h : CongL T l m) : Cong T (.tup l) (.tup m) := .tup l m h.spec.1 h.spec.2
theorem Cong.aggL {T} {l m : List AV} (h : CongL T l m) : Cong T (.agg l) (.agg m) := .agg l m h.spec.1 h.spec.2
theorem dstep_app {g i : Nat} {fr : Fr} {H : Heap} {sz bytes : Nat} {s x : Operand} {g' i' len : Nat} {rows1 rows2 : List (List AV)} (hs : ev fr s = .hsl g' i' 0 len) (hx : rowsX sz H (ev fr x) = some (sz, rows2)) (hh : hget H g' i' = some (.cells sz rows1))
  (hl : rows1.length = len) (hb : (len + rows2.length) * (bytes + 1) ≤ 70368744177664) (e3 : (Nat.beq g g' && Nat.beq i i') = false) :
  dstep g i (.append sz bytes s x) fr H = some (.hsl g i 0 (len + rows2.length), hset (hset H g' i' .dead) g i (.cells sz (rows1 ++ rows2))) := by
 have e2 : Nat.ble ((len + rows2.length) * (bytes + 1)) 70368744177664 = true := by simpa using hb
 simp only [dstep, hx, hs, hh]
 have e4 : Nat.beq sz sz = true := by simp
 have e5 : Nat.beq rows1.length len = true := by simp [hl]
 simp only [e4, e5, e2, e3, Bool.and_self]
theorem Reg.join {P : Program} {N k : Nat} {xs : List IOper} {fr : Fr} {H : Heap} {c : ICode} {Q : Exit → Fr → Heap → Prop} (F' : Fr) (H' : Heap) (h1 : Reg P N k xs fr H fun fr2 H2 => Sub k N fr2 H2 F' H') (h2 : AWP P N k c Q F' H') :
  Reg P N k xs fr H (AWP P N k c Q) := h1.mono fun _ _ hs => AWP.sub hs h2
theorem AWP.join {P : Program} {N k : Nat} {a b : ICode} {fr : Fr} {H : Heap} {Q : Exit → Fr → Heap → Prop} (F' : Fr) (H' : Heap) (h1 : AWP P N k a (thenQ (fun fr2 H2 => Sub k N fr2 H2 F' H') Q) fr H) (h2 : AWP P N k b Q F' H') : AWP P N k (.seq a b) Q fr H :=
 AWP.seq (AWP.mono h1 fun e fr H h => by
  cases e <;> first | exact AWP.sub h h2 | exact h)
end Go.Av
namespace Go.Av
theorem dstep_idxArr {g i : Nat} {fr : Fr} {H : Heap} {n sz : Nat} {x ix : Operand} {k : IntKind} {m : Int} {q g' i' row o : Nat} (hx : ev fr x = .ptr g' i' row o) (hi : ev fr ix = .sc (.int k m)) (hm : m = (q : Int)) (hq : q < n) :
  dstep g i (.idxArr n sz x ix) fr H = some (.ptr g' i' row (o + q * sz), H) := by
 subst hm
 have e1 : Nat.blt q n = true := by simpa [Nat.blt_eq] using hq
 simp only [dstep, hi, hx]
 show (match Nat.blt q n with
  | true => some (AV.ptr g' i' row (o + q * sz), H)
  | false => none) = _
 rw [e1]
theorem dstep_idxArrC {g i : Nat} {fr : Fr} {H : Heap} {n sz : Nat} {x ix : Operand} {k : IntKind} {m : Int} {q : Nat} {cells : List AV} (hx : ev fr x = .cptr cells) (hi : ev fr ix = .sc (.int k m)) (hm : m = (q : Int)) (hq : q < n) :
  dstep g i (.idxArr n sz x ix) fr H = some (.cptr (cells.drop (q * sz)), H) := by
 subst hm
 have e1 : Nat.blt q n = true := by simpa [Nat.blt_eq] using hq
 simp only [dstep, hi, hx]
 show (match Nat.blt q n with
  | true => some (AV.cptr (cells.drop (q * sz)), H)
  | false => none) = _
 rw [e1]
theorem dstep_idxVal {g i : Nat} {fr : Fr} {H : Heap} {n : Nat} {x ix : Operand} {k : IntKind} {m : Int} {q : Nat} {cells : List AV} {c : AV} (hx : ev fr x = .agg cells) (hi : ev fr ix = .sc (.int k m)) (hm : m = (q : Int)) (hq : q < n) (hc : cells[q]? = some c) :
  dstep g i (.idxVal n 1 false x ix) fr H = some (c, H) := by
 subst hm
 have e1 : Nat.blt q n = true := by simpa [Nat.blt_eq] using hq
 have e2 : ldAV 1 false (cells.drop (q * 1)) = some c := by
  rw [Nat.mul_one]
  obtain ⟨hl, he⟩ := List.getElem?_eq_some_iff.1 hc
  rw [List.drop_eq_getElem_cons hl, he]
  rfl
 simp only [dstep, hi, hx]
 show (match Nat.blt q n with
  | true => match ldAV 1 false (cells.drop (q * 1)) with
   | some v => some (v, H)
   | none => none
  | false => none) = _
 rw [e1, e2]
theorem dstep_ld1 {g i : Nat} {fr : Fr} {H : Heap} {a : Operand} {g' i' row off s : Nat} {rows : List (List AV)} {r : List AV} {c : AV} (ha : ev fr a = .ptr g' i' row off) (hh : hget H g' i' = some (.cells s rows)) (hr : rows[row]? = some r) (hc : r[off]? = some c) :
  dstep g i (.load 1 false a) fr H = some (c, H) := by
 have e2 : ldAV 1 false (r.drop off) = some c := by
  obtain ⟨hl, he⟩ := List.getElem?_eq_some_iff.1 hc
  rw [List.drop_eq_getElem_cons hl, he]
  rfl
 simp only [dstep, ha, hh, hr, e2]
theorem dstep_ld1C {g i : Nat} {fr : Fr} {H : Heap} {a : Operand} {cells : List AV} {c : AV} {rest : List AV} (ha : ev fr a = .cptr cells) (hc : cells = c :: rest) :
  dstep g i (.load 1 false a) fr H = some (c, H) := by
 subst hc
 simp only [dstep, ha, ldAV]
theorem dstep_ldN {g i : Nat} {fr : Fr} {H : Heap} {a : Operand} {sz g' i' row off s : Nat} {rows : List (List AV)} {r cs : List AV} (ha : ev fr a = .ptr g' i' row off) (hh : hget H g' i' = some (.cells s rows)) (hr : rows[row]? = some r) (hl : off + sz ≤ r.length) (hc : (r.drop off).take sz = cs) :
  dstep g i (.load sz true a) fr H = some (.agg cs, H) := by
 have e2 : ldAV sz true (r.drop off) = some (.agg cs) := by
  have : Nat.ble sz (r.drop off).length = true := by simp; omega
  simp only [ldAV, this, hc]
 simp only [dstep, ha, hh, hr, e2]
theorem dstep_ldNC {g i : Nat} {fr : Fr} {H : Heap} {a : Operand} {sz : Nat} {cells cs : List AV} (ha : ev fr a = .cptr cells) (hl : sz ≤ cells.length) (hc : cells.take sz = cs) :
  dstep g i (.load sz true a) fr H = some (.agg cs, H) := by
 have e2 : ldAV sz true cells = some (.agg cs) := by
  have : Nat.ble sz cells.length = true := by simpa using hl
  simp only [ldAV, this, hc]
 simp only [dstep, ha, e2]
theorem dstep_stN {g i : Nat} {fr : Fr} {H : Heap} {a x : Operand} {sz g' i' row off s : Nat} {rows : List (List AV)} {r cs : List AV} (ha : ev fr a = .ptr g' i' row off) (hx : (ev fr x).cs = some cs) (hh : hget H g' i' = some (.cells s rows)) (hr : rows[row]? = some r)
  (hs : cs.length = sz) (hl : off + sz ≤ r.length) (h1 : cs.all AV.cell1 = true) :
  dstep g i (.store sz a x) fr H = some (.undef, hset H g' i' (.cells s (rows.set row (lsplice r off cs)))) := by
 have e1 : Nat.beq cs.length sz = true := by simp [hs]
 have e2 : Nat.ble (off + sz) r.length = true := by simpa using hl
 simp only [dstep, ha, hx, hh, hr, e1, e2, h1, Bool.and_self]
theorem dstep_eqArr {g i : Nat} {fr : Fr} {H : Heap} {neg : Bool} {n : Nat} {x y : Operand} {a b : List Bool} (hx : ev fr x = .agg (a.map fun b => .sc (.bool b))) (hy : ev fr y = .agg (b.map fun b => .sc (.bool b))) (ha : a.length = n) (hb : b.length = n) :
  dstep g i (.eqArr neg n x y) fr H = some (.sc (.bool (neg != (a == b))), H) := by
 have hbools : ∀ l : List Bool, bools (l.map fun b => AV.sc (.bool b)) = some l := by
  intro l
  induction l with
  | nil => rfl
  | cons c l ih => simp [bools, ih]
 have e1 : Nat.beq a.length n = true := by simp [ha]
 have e2 : Nat.beq b.length n = true := by simp [hb]
 simp only [dstep, hx, hy, hbools, e1, e2, Bool.and_self]
 cases neg <;> cases (a == b) <;> rfl
theorem lsplice_one {α : Type} (l : List α) : ∀ (k : Nat) (v : α), lsplice l k [v] = l.set k v := by
 induction l with
 | nil => intro k v; rfl
 | cons x l ih =>
  intro k v
  cases k with
  | zero => simp [lsplice, lsplice_nil]
  | succ k => simp [lsplice, ih]
theorem lsplice_all {α : Type} : ∀ (l vs : List α), vs.length = l.length → lsplice l 0 vs = vs
 | [], [], _ => rfl
 | [], _ :: _, h => by simp at h
 | _ :: _, [], h => by simp at h
 | x :: l, v :: vs, h => by
  show v :: lsplice l 0 vs = v :: vs
  rw [lsplice_all l vs (by simpa using h)]
theorem take_drop0 {α : Type} {l : List α} {n : Nat} (h : l.length = n) : List.take n (List.drop 0 l) = l := by
 rw [List.drop_zero, List.take_of_length_le (by omega)]
def bset (n : Nat) (s : Nat → Bool) : List AV := (List.range n).map fun i => .sc (.bool (s i))
theorem bset_len (n : Nat) (s : Nat → Bool) : (bset n s).length = n := by simp [bset]
theorem bset_get {n : Nat} {s : Nat → Bool} {q : Nat} (h : q < n) : (bset n s)[q]? = some (.sc (.bool (s q))) := by simp [bset, h]
theorem bset_set (n : Nat) (s : Nat → Bool) (q : Nat) (b : Bool) : (bset n s).set q (.sc (.bool b)) = bset n fun i => if i = q then b else s i := by
 apply List.ext_getElem?
 intro j
 rw [List.getElem?_set]
 by_cases hj : j < n
 ·by_cases e : q = j
  ·subst e
   simp [bset, hj]
  ·rw [if_neg e, bset_get hj, bset_get hj, if_neg (fun h => e h.symm)]
 ·have h1 : ∀ s, (bset n s)[j]? = none := fun s => List.getElem?_eq_none (by rw [bset_len]; omega)
  rw [h1, h1]
  split
  ·rw [bset_len, if_neg (by omega)]
  ·rfl
theorem bset_splice (n : Nat) (s : Nat → Bool) (q : Nat) (b : Bool) : lsplice (bset n s) q [.sc (.bool b)] = bset n fun i => if i = q then b else s i := by rw [lsplice_one, bset_set]
theorem pure_bset (n : Nat) (s : Nat → Bool) : ∀ c ∈ bset n s, Pure c := fun c hc => by
 obtain ⟨a, _, rfl⟩ := List.mem_map.1 hc
 exact .sc _
theorem bset_cell1 (n : Nat) (s : Nat → Bool) : (bset n s).all AV.cell1 = true := by
 rw [List.all_eq_true]
 intro c hc
 obtain ⟨a, _, rfl⟩ := List.mem_map.1 hc
 rfl
theorem bset_congr {n : Nat} {s t : Nat → Bool} (h : ∀ i, i < n → s i = t i) : bset n s = bset n t := List.map_congr_left fun i hi => by rw [h i (List.mem_range.1 hi)]
theorem bset_bools (n : Nat) (s : Nat → Bool) : bset n s = ((List.range n).map s).map fun b => .sc (.bool b) := by simp [bset]
theorem RenB.row {ρ : Nat → Nat → Option (Nat × Nat)} {sz : Nat} {r r' : List AV} (e : r = r') (h : ∀ c ∈ r', Pure c) : RenB ρ (.cells sz [r]) (.cells sz [r']) := by
 subst e
 exact .pure sz [r] (allPure_cons' h)
where
 allPure_cons' {r : List AV} (h : ∀ c ∈ r, Pure c) : ∀ x ∈ [r], ∀ c ∈ x, Pure c := fun x hx => by
  have : x = r := by simpa using hx
  subst this
  exact h
theorem RenB.rows {ρ : Nat → Nat → Option (Nat × Nat)} {sz : Nat} {rows rows' : List (List AV)} (e : rows = rows') (h : ∀ r ∈ rows', ∀ c ∈ r, Pure c) : RenB ρ (.cells sz rows) (.cells sz rows') := by
 subst e
 exact .pure sz rows h
end Go.Av
namespace Go.Av
inductive FT where
 | leaf
 | node (v : AV) (l r : FT)
def FT.get : FT → Nat → AV
 | .leaf, _ => .undef
 | .node v l r, n => match n with
  | 0 => v
  | m + 1 => match Nat.beq (Nat.mod m 2) 0 with
   | true => l.get (Nat.div m 2)
   | false => r.get (Nat.div m 2)
def FT.put : FT → Nat → AV → Option FT
 | .leaf, _, _ => none
 | .node v l r, n, x => match n with
  | 0 => some (.node x l r)
  | m + 1 => match Nat.beq (Nat.mod m 2) 0 with
   | true => match l.put (Nat.div m 2) x with
    | some l' => some (.node v l' r)
    | none => none
   | false => match r.put (Nat.div m 2) x with
    | some r' => some (.node v l r')
    | none => none
def FT.full : Nat → FT
 | 0 => .leaf
 | d + 1 => .node .undef (FT.full d) (FT.full d)
theorem FT.get_put : ∀ (T T' : FT) (d : Nat) (v : AV), T.put d v = some T' → ∀ t, T'.get t = match Nat.beq d t with | true => v | false => T.get t := by
 intro T
 induction T with
 | leaf => intro T' d v h; cases h
 | node u l r ihl ihr =>
  intro T' d v h t
  cases d with
  | zero =>
   simp only [FT.put, Option.some.injEq] at h
   subst h
   cases t with
   | zero => rfl
   | succ t => rfl
  | succ m =>
   simp only [FT.put] at h
   split at h
   ·rename_i e
    split at h
    ·rename_i l' hl
     injection h with h
     subst h
     cases t with
     | zero => rfl
     | succ t =>
      have := ihl l' _ _ hl
      simp only [FT.get]
      split
      ·rename_i e'
       rw [this]
       have e1 : m % 2 = 0 := Nat.eq_of_beq_eq_true e
       have e2 : t % 2 = 0 := Nat.eq_of_beq_eq_true e'
       have : Nat.beq (Nat.div m 2) (Nat.div t 2) = Nat.beq (m + 1) (t + 1) := by
        rw [Bool.eq_iff_iff]
        simp only [Nat.beq_eq]
        show m / 2 = t / 2 ↔ m + 1 = t + 1
        omega
       rw [this]
      ·rename_i e'
       have e1 : m % 2 = 0 := Nat.eq_of_beq_eq_true e
       have e2 : ¬ t % 2 = 0 := fun h => by
        have : Nat.beq (Nat.mod t 2) 0 = true := by
         show Nat.beq (t % 2) 0 = true
         rw [h]; rfl
        rw [this] at e'; cases e'
       have : Nat.beq (m + 1) (t + 1) = false := by
        rw [Bool.eq_false_iff]
        simp only [ne_eq, Nat.beq_eq]
        omega
       rw [this]
    ·cases h
   ·rename_i e
    split at h
    ·rename_i l' hl
     injection h with h
     subst h
     cases t with
     | zero => rfl
     | succ t =>
      have := ihr l' _ _ hl
      have e1 : ¬ m % 2 = 0 := fun h => by
       have : Nat.beq (Nat.mod m 2) 0 = true := by
        show Nat.beq (m % 2) 0 = true
        rw [h]; rfl
       rw [this] at e; cases e
      simp only [FT.get]
      split
      ·rename_i e'
       have e2 : t % 2 = 0 := Nat.eq_of_beq_eq_true e'
       have : Nat.beq (m + 1) (t + 1) = false := by
        rw [Bool.eq_false_iff]
        simp only [ne_eq, Nat.beq_eq]
        omega
       rw [this]
      ·rename_i e'
       rw [this]
       have e2 : ¬ t % 2 = 0 := fun h => by
        have : Nat.beq (Nat.mod t 2) 0 = true := by
         show Nat.beq (t % 2) 0 = true
         rw [h]; rfl
        rw [this] at e'; cases e'
       have : Nat.beq (Nat.div m 2) (Nat.div t 2) = Nat.beq (m + 1) (t + 1) := by
        rw [Bool.eq_iff_iff]
        simp only [Nat.beq_eq]
        show m / 2 = t / 2 ↔ m + 1 = t + 1
        omega
       rw [this]
    ·cases h
def FT.putO (T : FT) (d : Option Nat) (v : AV) : Option FT :=
 match d with
 | some d => T.put d v
 | none => some T
def AgT (fr : Fr) (T : FT) : Prop := ∀ t, fr.get t = T.get t
theorem AgT.put {fr : Fr} {T T' : FT} {d : Option Nat} {v : AV} (h : AgT fr T) (hp : T.putO d v = some T') : AgT (fr.put d v) T' := by
 cases d with
 | none => injection hp with hp; subst hp; exact h
 | some d =>
  intro t
  rw [FT.get_put _ _ _ _ hp t]
  show (match Nat.beq d t with | true => v | false => Fr.get fr t) = _
  rw [h t]
def FT.ev (T : FT) : Operand → AV
 | .tmp t => T.get t
 | .const v => .sc v
 | .global g => .sc (.pointer (some ⟨g, 0, none⟩))
 | .func f => .sc (.func (.func f) #[] #[])
theorem AgT.ev {fr : Fr} {T : FT} (h : AgT fr T) : Av.ev fr = T.ev := by
 funext x
 cases x with
 | tmp t => exact h t
 | _ => rfl
theorem AgT.avals {fr : Fr} {T : FT} (h : AgT fr T) (l : List Operand) : Av.avals fr l = l.map T.ev := by unfold Av.avals; rw [h.ev]
def sbndE (e : Operand → AV) (d : Nat) : Option Operand → Option Nat
 | none => some d
 | some x => match e x with
  | .sc (.int _ (.ofNat q)) => some q
  | _ => none
def sboundsE (e : Operand → AV) (d : Nat) (lo hi mx : Option Operand) : Option (Nat × Nat) :=
 match sbndE e 0 lo, sbndE e d hi, sbndE e d mx with
 | some l, some h, some m => match Nat.ble l h && (Nat.ble h m && Nat.ble m d) && (mx.isNone || hi.isSome) with
  | true => some (l, h)
  | false => none
 | _, _, _ => none
def dstepE (e : Operand → AV) (g i : Nat) (o : IOp) (H : Heap) : Option (AV × Heap) :=
 match o with
 | .move x => fz (e x) H
 | .pick c a b => match e c with
  | .sc (.bool true) => fz (e a) H
  | .sc (.bool false) => fz (e b) H
  | _ => none
 | .alloc z => some (.ptr g i 0 0, hset H g i (.cells (zrow z).length [zrow z]))
 | .box x => match (e x).cs with
  | some cs => match cs.all AV.cell1 with
   | true => some (.ptr g i 0 0, hset H g i (.cells cs.length [cs]))
   | false => none
  | none => none
 | .build z parts => match lay (zrow z) (parts.map fun p => (p.1, p.2.1, e p.2.2)) with
  | some cs => some (.agg cs, H)
  | none => none
 | .buildSlice sz z n parts => match layRows sz (List.replicate n (zrow z)) (parts.map fun p => (p.1, e p.2)) with
  | some rows => some (.hsl g i 0 n, hset H g i (.cells sz rows))
  | none => none
 | .load sz agg a => match e a with
  | .cptr cells => match ldAV sz agg cells with
   | some v => some (v, H)
   | none => none
  | .ptr g' i' row off => match hget H g' i' with
   | some (.cells _ rows) => match rows[row]? with
    | some r => match ldAV sz agg (r.drop off) with
     | some v => some (v, H)
     | none => none
    | none => none
   | _ => none
  | _ => none
 | .store sz a x => match e a with
  | .ptr g' i' row off => match (e x).cs with
   | some cs => match hget H g' i' with
    | some (.cells s rows) => match rows[row]? with
     | some r => match Nat.beq cs.length sz && (Nat.ble (off + sz) r.length && cs.all AV.cell1) with
      | true => some (.undef, hset H g' i' (.cells s (rows.set row (lsplice r off cs))))
      | false => none
     | none => none
    | _ => none
   | none => none
  | _ => none
 | .nilCheck x => match e x with
  | .ptr g' i' row off => some (.ptr g' i' row off, H)
  | .cptr cells => some (.cptr cells, H)
  | _ => none
 | .bin op t x y => match e x, e y with
  | .sc a, .sc b => match Sem.pure? (do eqGuard op t x y a b; binOp op t a b) with
   | some v => some (.sc v, H)
   | none => none
  | _, _ => none
 | .eqBool neg x y => match e x, e y with
  | .sc (.bool a), .sc (.bool b) => match neg with
   | true => some (.sc (.bool (!(a == b))), H)
   | false => some (.sc (.bool (a == b)), H)
  | _, _ => none
 | .eqNil neg x => match e x with
  | .ptr _ _ _ _ => some (.sc (.bool neg), H)
  | .cptr _ => some (.sc (.bool neg), H)
  | .sc (.pointer none) => some (.sc (.bool (!neg)), H)
  | _ => none
 | .eqNilM neg x => match e x with
  | .mref _ _ => some (.sc (.bool neg), H)
  | .tmap _ => some (.sc (.bool neg), H)
  | .sc (.map none) => some (.sc (.bool (!neg)), H)
  | _ => none
 | .eqNilS neg x => match e x with
  | .list _ (_ :: _) => some (.sc (.bool neg), H)
  | .hsl g' i' _ len => match len with
   | _ + 1 => some (.sc (.bool neg), H)
   | 0 => match hget H g' i' with
    | some (.cells _ (_ :: _)) => some (.sc (.bool neg), H)
    | _ => none
  | .sc (.slice none 0 0) => some (.sc (.bool (!neg)), H)
  | _ => none
 | .eqArr neg n x y => match e x, e y with
  | .agg xs, .agg ys => match bools xs, bools ys with
   | some a, some b => match Nat.beq a.length n && Nat.beq b.length n with
    | true => match neg with
     | true => some (.sc (.bool (!(a == b))), H)
     | false => some (.sc (.bool (a == b)), H)
    | false => none
   | _, _ => none
  | _, _ => none
 | .un op x => match e x with
  | .sc a => match Sem.pure? (Op.unary op a) with
   | some v => some (.sc v, H)
   | none => none
  | _ => none
 | .conv k x => match e x with
  | .sc (.int _ n) => some (.sc (.int k (k.wrap n)), H)
  | _ => none
 | .makeFunc fn first captured => match fzl (first.map e), fzl (captured.map e) with
  | some a, some b => some (.clo fn a b, H)
  | _, _ => none
 | .makeMap => some (.mref g i, hset H g i (.map []))
 | .makeSlice sz bytes z l => match e l with
  | .sc (.int .i64 (.ofNat n)) => match Nat.ble (bytes * n) 70368744177664 && Nat.ble n 1073741824 with
   | true => some (.hsl g i 0 n, hset H g i (.cells sz (List.replicate n (zrow z))))
   | false => none
  | _ => none
 | .slice sz x lo hi mx => match e x with
  | .list s rows => match Nat.beq s sz with
   | true => match sboundsE e rows.length lo hi mx with
    | some (l, h) => some (.list sz ((rows.drop l).take (h - l)), H)
    | none => none
   | false => none
  | .hsl g' i' start len => match hget H g' i' with
   | some (.cells s _) => match Nat.beq s sz with
    | true => match sboundsE e len lo hi mx with
     | some (l, h) => match Nat.beq l 0 with
      | true => some (.hsl g' i' start h, H)
      | false => match Nat.beq l h with
       | true => some (.list sz [], H)
       | false => some (.hsl g' i' (start + l) (h - l), H)
     | none => none
    | false => none
   | _ => none
  | .sc (.slice none 0 0) => match sboundsE e 0 lo hi mx with
   | some _ => some (.sc (.slice none 0 0), H)
   | none => none
  | _ => none
 | .fieldAddr off x => match e x with
  | .cptr cells => some (.cptr (cells.drop off), H)
  | .ptr g' i' row o => some (.ptr g' i' row (o + off), H)
  | _ => none
 | .field off sz agg x => match (e x) with
  | .agg cells => match ldAV sz agg (cells.drop off) with
   | some v => some (v, H)
   | none => none
  | _ => none
 | .idxSl sz x ix => match e ix with
  | .sc (.int _ n) => match e x with
   | .list s rows => match Nat.beq s sz, rowIx rows n with
    | true, some r => some (.cptr r, H)
    | _, _ => none
   | .hsl g' i' start len => match n with
    | .ofNat q => match hget H g' i' with
     | some (.cells s rows) => match Nat.beq s sz && (Nat.blt q len && Nat.ble (start + len) rows.length) with
      | true => some (.ptr g' i' (start + q) 0, H)
      | false => none
     | _ => none
    | .negSucc _ => none
   | _ => none
  | _ => none
 | .idxArr n sz x ix => match e ix with
  | .sc (.int _ (.ofNat q)) => match Nat.blt q n with
   | true => match e x with
    | .cptr cells => some (.cptr (cells.drop (q * sz)), H)
    | .ptr g' i' row o => some (.ptr g' i' row (o + q * sz), H)
    | _ => none
   | false => none
  | _ => none
 | .idxVal n sz agg x ix => match e ix with
  | .sc (.int _ (.ofNat q)) => match Nat.blt q n with
   | true => match e x with
    | .agg cells => match ldAV sz agg (cells.drop (q * sz)) with
     | some v => some (v, H)
     | none => none
    | _ => none
   | false => none
  | _ => none
 | .lookup z k x ix ok => match e ix with
  | .sc (.int k' n) => match decide (k = k') with
   | true => lres z ok H (mlook H k n (e x))
   | false => none
  | _ => none
 | .mapUpdate k m ix x => match e m, e ix with
  | .mref g' i', .sc (.int k' n) => match decide (k = k') with
   | true => match hget H g' i' with
    | some (.map es) => match mfind k n es with
     | some none => some (.undef, hset H g' i' (.map (es ++ [(.int k n, e x)])))
     | some (some _) => some (.undef, hset H g' i' (.map (mput n (e x) es)))
     | none => none
    | _ => none
   | false => none
  | _, _ => none
 | .extract x ix => match e x with
  | .tup vs => match vs[ix]? with
   | some v => some (v, H)
   | none => none
  | _ => none
 | .len x => match e x with
  | .list _ rows => some (.sc (.int .i64 rows.length), H)
  | .hsl _ _ _ len => some (.sc (.int .i64 len), H)
  | .sc (.slice none 0 0) => some (.sc (.int .i64 (0 : Nat)), H)
  | _ => none
 | .lenM x => match e x with
  | .tmap es => some (.sc (.int .i64 es.length), H)
  | .mref g' i' => match hget H g' i' with
   | some (.map es) => some (.sc (.int .i64 es.length), H)
   | _ => none
  | .sc (.map none) => some (.sc (.int .i64 (0 : Nat)), H)
  | _ => none
 | .append sz bytes s x => match rowsX sz H (e x) with
  | some (s2, rows2) => match Nat.beq s2 sz with
   | true => match e s with
    | .hsl g' i' 0 len => match hget H g' i' with
     | some (.cells s1 rows1) => match Nat.beq s1 sz && (Nat.beq rows1.length len && Nat.ble ((len + rows2.length) * (bytes + 1)) 70368744177664) with
      | true => match Nat.beq g g' && Nat.beq i i' with
       | true => none
       | false => some (.hsl g i 0 (len + rows2.length), hset (hset H g' i' .dead) g i (.cells sz (rows1 ++ rows2)))
      | false => none
     | _ => none
    | .sc (.slice none 0 0) => match Nat.ble (rows2.length * (bytes + 1)) 70368744177664 with
     | true => some (.hsl g i 0 rows2.length, hset H g i (.cells sz rows2))
     | false => none
    | _ => none
   | false => none
  | none => none
 | .max args => match scs (args.map e) with
  | some vs => match Sem.pure? (Builtin.max_ #[] 0 vs.toArray) with
   | some v => some (.sc v, H)
   | none => none
  | none => none
 | .min args => match scs (args.map e) with
  | some vs => match Sem.pure? (Builtin.min_ #[] 0 vs.toArray) with
   | some v => some (.sc v, H)
   | none => none
  | none => none
 | .xop o xs => match xstep H o (xs.map e) with
  | some v => some (v, H)
  | none => none
 | .insF ks m ix x => match e m, flatOf (e ix) with
  | .mref g' i', some k => match cellsEq ks k k with
   | some _ => match hget H g' i' with
    | some (.map []) => match ukey k with
     | some c => some (.undef, hset H g' i' (.umap c.length [(c, e x)]))
     | none => none
    | some (.umap n es) => match ukey k with
     | some c => match Nat.beq c.length n, ufind c es with
      | true, none => some (.undef, hset H g' i' (.umap n (uins c (e x) es)))
      | _, _ => none
     | none => none
    | _ => none
   | none => none
  | _, _ => none
 | .mop o xs => mstep g i H o (xs.map e)
theorem sbounds_eq (fr : Fr) (d : Nat) (lo hi mx : Option Operand) : sbounds fr d lo hi mx = sboundsE (ev fr) d lo hi mx := by
 cases lo <;> cases hi <;> cases mx <;> rfl
theorem dstepE_eq (g i : Nat) (o : IOp) (fr : Fr) (H : Heap) : dstep g i o fr H = dstepE (ev fr) g i o H := by
 cases o <;> first | rfl | (simp only [dstep, dstepE, sbounds_eq]; rfl)
def drdE (e : Operand → AV) : IOp → List (Nat × Nat)
 | .load _ _ a => refs (e a)
 | .store _ a _ => refs (e a)
 | .idxSl _ x _ => refs (e x)
 | .slice _ x _ _ _ => refs (e x)
 | .lenM x => refs (e x)
 | .eqNilS _ x => refs (e x)
 | .lookup _ _ x _ _ => refs (e x)
 | .mapUpdate _ m _ _ => refs (e m)
 | .append _ _ s x => refs (e s) ++ refs (e x)
 | .xop _ xs => (xs.map e).flatMap refs
 | .insF _ m _ _ => refs (e m)
 | .mop _ xs => (xs.map e).flatMap refs
 | _ => []
def dwrE (e : Operand → AV) (g i : Nat) : IOp → List (Nat × Nat)
 | .alloc _ => [(g, i)]
 | .box _ => [(g, i)]
 | .buildSlice _ _ _ _ => [(g, i)]
 | .makeMap => [(g, i)]
 | .makeSlice _ _ _ _ => [(g, i)]
 | .store _ a _ => refs (e a)
 | .mapUpdate _ m _ _ => refs (e m)
 | .insF _ m _ _ => refs (e m)
 | .append _ _ s _ => (g, i) :: refs (e s)
 | .mop o xs => mwr g i o (xs.map e)
 | _ => []
theorem drdE_eq (fr : Fr) (o : IOp) : drd fr o = drdE (ev fr) o := by cases o <;> rfl
theorem dwrE_eq (fr : Fr) (g i : Nat) (o : IOp) : dwr g i fr o = dwrE (ev fr) g i o := by cases o <;> rfl
abbrev Caller := FuncId → List AV → Heap → Option (AV × Heap)
mutual

def lowV (k : Nat) : AV → Bool
 | .undef => true
 | .sc _ => true
 | .agg c => lowL k c
 | .tup c => lowL k c
 | .list _ r => lowR k r
 | .cptr c => lowL k c
 | .tmap e => lowM k e
 | .ptr g _ _ _ => Nat.blt g k
 | .hsl g _ _ _ => Nat.blt g k
 | .mref g _ => Nat.blt g k
 | .clo _ a b => lowL k a && lowL k b
 | .yld g _ => Nat.blt g k
def lowL (k : Nat) : List AV → Bool
 | [] => true
 | a :: l => lowV k a && lowL k l
def lowR (k : Nat) : List (List AV) → Bool
 | [] => true
 | a :: l => lowL k a && lowR k l
def lowM (k : Nat) : List (Value × AV) → Bool
 | [] => true
 | (_, a) :: l => lowV k a && lowM k l
end
def lowB' (k : Nat) : Blk → Bool
 | .dead => true
 | .cells _ rows => lowR k rows
 | .map es => lowM k es
 | .lp .. => false
 | .umap .. => false
 | .it .. => false
def lowF (k : Nat) : List Blk → Bool
 | [] => true
 | x :: l => lowB' k x && lowF k l
def lowH (k : Nat) : Nat → Heap → Bool
 | 0, _ => true
 | _ + 1, [] => true
 | n + 1, f :: r => lowF k f && lowH k n r
mutual

def fzV (H : Heap) : AV → Option AV
 | .hsl g i s l => match hget H g i with
  | some (.cells sz rows) => match Nat.ble (s + l) rows.length with
   | true => some (.list sz ((rows.drop s).take l))
   | false => none
  | _ => none
 | .ptr g i row 0 => match hget H g i with
  | some (.cells _ rows) => match rows[row]? with
   | some r => some (.cptr r)
   | none => none
  | _ => none
 | .mref g i => match hget H g i with
  | some (.map es) => some (.tmap es)
  | _ => none
 | .tup vs => match fzVs H vs with
  | some us => some (.tup us)
  | none => none
 | .agg vs => match fzVs H vs with
  | some us => some (.agg us)
  | none => none
 | a => some a
def fzVs (H : Heap) : List AV → Option (List AV)
 | [] => some []
 | a :: l => match fzV H a, fzVs H l with
  | some b, some q => some (b :: q)
  | _, _ => none
end
inductive RR where
 | stuck
 | out (T : FT) (H : Heap)
inductive DR where
 | stuck
 | out (R : List RRec) (T : FT) (H : Heap)
def DR.cons (r : RRec) : DR → DR
 | .stuck => .stuck
 | .out R T H => .out (r :: R) T H
inductive XR where
 | stuck
 | out (e : Exit) (T : FT) (H : Heap)
def XR.block (id : Nat) : XR → XR
 | .out (.exit id') T H => match Nat.beq id' id with
  | true => .out .normal T H
  | false => .out (.exit id') T H
 | r => r
def RR.x : RR → XR
 | .stuck => .stuck
 | .out T H => .out .normal T H
def tabL : List (Nat × IFun) → FuncId → Option IFun
 | [], _ => none
 | (n, F) :: l, f => match Nat.beq n f with
  | true => some F
  | false => tabL l f
end Go.Av
namespace Go.Av
section
variable {α : Type}
noncomputable def lgetK (l : List α) : Nat → Option α :=
 List.rec (motive := fun _ => Nat → Option α) (fun _ => none) (fun a _ ih n => Nat.rec (motive := fun _ => Option α) (some a) (fun m _ => ih m) n) l
theorem lgetK_eq (l : List α) : ∀ n, lgetK l n = l[n]? := by
 induction l with
 | nil => intro n; rfl
 | cons a l ih =>
  intro n
  cases n with
  | zero => rfl
  | succ n => exact ih n
noncomputable def dropK (l : List α) : Nat → List α :=
 List.rec (motive := fun _ => Nat → List α) (fun _ => []) (fun a t ih n => Nat.rec (motive := fun _ => List α) (a :: t) (fun m _ => ih m) n) l
theorem dropK_eq (l : List α) : ∀ n, dropK l n = l.drop n := by
 induction l with
 | nil => intro n; cases n <;> rfl
 | cons a l ih =>
  intro n
  cases n with
  | zero => rfl
  | succ n => exact ih n
def consO (a : α) : Option (List α) → Option (List α)
 | some l => some (a :: l)
 | none => none
noncomputable def takeK (n : Nat) : List α → Option (List α) :=
 Nat.rec (motive := fun _ => List α → Option (List α)) (fun _ => some []) (fun _ ih l => List.rec (motive := fun _ => Option (List α)) none (fun a t _ => consO a (ih t)) l) n
theorem takeK_eq : ∀ (n : Nat) (l q : List α), takeK n l = some q → n ≤ l.length ∧ l.take n = q := by
 intro n
 induction n with
 | zero => intro l q h; injection h with h; subst h; exact ⟨Nat.zero_le _, rfl⟩
 | succ n ih =>
  intro l q h
  cases l with
  | nil => cases h
  | cons a t =>
   replace h : consO a (takeK n t) = some q := h
   cases e : takeK n t with
   | none => rw [e] at h; cases h
   | some q' =>
    rw [e] at h
    injection h with h
    subst h
    obtain ⟨h1, h2⟩ := ih t q' e
    exact ⟨by simp; omega, by simp [h2]⟩
noncomputable def setK (l : List α) : Nat → α → Option (List α) :=
 List.rec (motive := fun _ => Nat → α → Option (List α)) (fun _ _ => none) (fun a t ih n x => Nat.rec (motive := fun _ => Option (List α)) (some (x :: t)) (fun m _ => consO a (ih m x)) n) l
theorem setK_eq (l : List α) : ∀ n x q, setK l n x = some q → n < l.length ∧ l.set n x = q := by
 induction l with
 | nil => intro n x q h; cases h
 | cons a t ih =>
  intro n x q h
  cases n with
  | zero => injection h with h; subst h; exact ⟨by simp, rfl⟩
  | succ n =>
   replace h : consO a (setK t n x) = some q := h
   cases e : setK t n x with
   | none => rw [e] at h; cases h
   | some q' =>
    rw [e] at h
    injection h with h
    subst h
    obtain ⟨h1, h2⟩ := ih n x q' e
    exact ⟨by simp; omega, by simp [h2]⟩
noncomputable def replK (vs : List α) : List α → Option (List α) :=
 List.rec (motive := fun _ => List α → Option (List α)) (fun l => some l) (fun v _ ih l => List.rec (motive := fun _ => Option (List α)) none (fun _ t _ => consO v (ih t)) l) vs
theorem replK_eq (vs : List α) : ∀ l q, replK vs l = some q → vs.length ≤ l.length ∧ lsplice l 0 vs = q := by
 induction vs with
 | nil => intro l q h; injection h with h; subst h; exact ⟨Nat.zero_le _, lsplice_nil l 0⟩
 | cons v vs ih =>
  intro l q h
  cases l with
  | nil => cases h
  | cons a t =>
   replace h : consO v (replK vs t) = some q := h
   cases e : replK vs t with
   | none => rw [e] at h; cases h
   | some q' =>
    rw [e] at h
    injection h with h
    subst h
    obtain ⟨h1, h2⟩ := ih t q' e
    exact ⟨by simp; omega, by simp [lsplice, h2]⟩
noncomputable def spliceK (l : List α) (vs : List α) : Nat → Option (List α) :=
 List.rec (motive := fun _ => Nat → Option (List α)) (fun n => Nat.rec (motive := fun _ => Option (List α)) (replK vs []) (fun _ _ => none) n) (fun a t ih n => Nat.rec (motive := fun _ => Option (List α)) (replK vs (a :: t)) (fun m _ => consO a (ih m)) n) l
theorem spliceK_eq (l vs : List α) : ∀ n q, spliceK l vs n = some q → n + vs.length ≤ l.length ∧ lsplice l n vs = q := by
 induction l with
 | nil =>
  intro n q h
  cases n with
  | zero =>
   have := replK_eq vs [] q h
   exact ⟨by have := this.1; simp at this; simp [this], this.2⟩
  | succ n => cases h
 | cons a t ih =>
  intro n q h
  cases n with
  | zero => have := replK_eq vs (a :: t) q h; exact ⟨by omega, this.2⟩
  | succ n =>
   replace h : consO a (spliceK t vs n) = some q := h
   cases e : spliceK t vs n with
   | none => rw [e] at h; cases h
   | some q' =>
    rw [e] at h
    injection h with h
    subst h
    obtain ⟨h1, h2⟩ := ih n q' e
    exact ⟨by simp; omega, by cases vs <;> simp [lsplice, h2]⟩
end
noncomputable def hgetK (H : Heap) (g i : Nat) : Option Blk :=
 match lgetK H g with
 | some f => lgetK f i
 | none => none
theorem hgetK_eq (H : Heap) (g i : Nat) : hgetK H g i = hget H g i := by
 unfold hgetK hget
 rw [lgetK_eq]
 cases H[g]? with
 | none => rfl
 | some f => exact lgetK_eq f i
noncomputable def lenK {α : Type} (l : List α) : Nat := List.rec (motive := fun _ => Nat) 0 (fun _ _ ih => Nat.succ ih) l
theorem lenK_eq {α : Type} (l : List α) : lenK l = l.length := by
 induction l with
 | nil => rfl
 | cons a l ih => show Nat.succ (lenK l) = _; rw [ih]; rfl
noncomputable def setH (f : List Blk) (r : Heap) (i : Nat) (x : Blk) : Option Heap :=
 match setK f i x with
 | some f' => some (f' :: r)
 | none => none
noncomputable def consH (f : List Blk) : Option Heap → Option Heap
 | some r => some (f :: r)
 | none => none
noncomputable def hsetK (H : Heap) : Nat → Nat → Blk → Option Heap :=
 List.rec (motive := fun _ => Nat → Nat → Blk → Option Heap) (fun g i x => Nat.rec (motive := fun _ => Option Heap) (Nat.rec (motive := fun _ => Option Heap) (some [[x]]) (fun _ _ => none) i) (fun _ _ => none) g)
  (fun f r ih g i x => Nat.rec (motive := fun _ => Option Heap) (setH f r i x) (fun m _ => consH f (ih m i x)) g) H
theorem hsetK_eq (H : Heap) : ∀ g i x H', hsetK H g i x = some H' → hset H g i x = H' := by
 induction H with
 | nil =>
  intro g i x H' h
  cases g with
  | zero => cases i with
   | zero => injection h
   | succ i => cases h
  | succ g => cases h
 | cons f r ih =>
  intro g i x H' h
  cases g with
  | zero =>
   replace h : setH f r i x = some H' := h
   unfold setH at h
   split at h
   ·rename_i f' e
    injection h with h
    subst h
    have := (setK_eq f i x f' e).2
    simp [hset, this]
   ·cases h
  | succ g =>
   replace h : consH f (hsetK r g i x) = some H' := h
   cases e : hsetK r g i x with
   | none => rw [e] at h; cases h
   | some r' =>
    rw [e] at h
    injection h with h
    subst h
    simp [hset, ih g i x r' e]
inductive SR where
 | no
 | yes (v : AV) (H : Heap)
def SR.of : Option (AV × Heap) → SR
 | some (v, H) => .yes v H
 | none => .no
noncomputable def kSet (v : AV) (H : Heap) (g i : Nat) (x : Blk) : SR :=
 match hsetK H g i x with
 | some H' => .yes v H'
 | none => .no
def kFz (a : AV) (H : Heap) : SR :=
 match a with
 | .undef => .yes .undef H
 | .sc v => .yes (.sc v) H
 | .agg c => .yes (.agg c) H
 | .tup c => .yes (.tup c) H
 | .list s r => .yes (.list s r) H
 | .cptr c => .yes (.cptr c) H
 | .tmap e => .yes (.tmap e) H
 | .ptr g i r o => .yes (.ptr g i r o) H
 | .hsl g i s l => .yes (.hsl g i s l) H
 | .mref g i => .yes (.mref g i) H
 | .clo f a b => .yes (.clo f a b) H
 | .yld g i => .yes (.yld g i) H
def kPick (c a b : AV) (H : Heap) : SR :=
 match c with
 | .sc (.bool true) => kFz a H
 | .sc (.bool false) => kFz b H
 | _ => .no
def wrapK (n : Int) : Int :=
 match n with
 | .ofNat m => match Nat.blt m 9223372036854775808 with
  | true => .ofNat m
  | false => IntKind.i64.wrap (.ofNat m)
 | .negSucc m => match Nat.blt m 9223372036854775808 with
  | true => .negSucc m
  | false => IntKind.i64.wrap (.negSucc m)
theorem wrapK_eq (n : Int) : wrapK n = IntKind.i64.wrap n := by
 cases n with
 | ofNat m =>
  simp only [wrapK]
  split
  ·rename_i h
   have : m + 1 ≤ 9223372036854775808 := Nat.le_of_ble_eq_true h
   rw [wrap_small (by show _ ≤ (m : Int); omega) (by show (m : Int) ≤ _; omega)]
  ·rfl
 | negSucc m =>
  simp only [wrapK]
  split
  ·rename_i h
   have : m + 1 ≤ 9223372036854775808 := Nat.le_of_ble_eq_true h
   rw [wrap_small (by omega) (by omega)]
  ·rfl
def ltK (a b : Int) : Bool :=
 match a with
 | .ofNat m => match b with
  | .ofNat n => Nat.blt m n
  | .negSucc _ => false
 | .negSucc m => match b with
  | .ofNat _ => true
  | .negSucc n => Nat.blt n m
theorem ltK_eq (a b : Int) : ltK a b = decide (a < b) := by
 cases a <;> cases b <;> simp only [ltK] <;> rw [Bool.eq_iff_iff] <;> simp [Nat.blt_eq] <;> omega
def eqK (a b : Int) : Bool :=
 match a with
 | .ofNat m => match b with
  | .ofNat n => Nat.beq m n
  | .negSucc _ => false
 | .negSucc m => match b with
  | .ofNat _ => false
  | .negSucc n => Nat.beq m n
theorem eqK_eq (a b : Int) : eqK a b = (a == b) := by
 cases a <;> cases b <;> simp only [eqK] <;> rw [Bool.eq_iff_iff] <;> simp [Nat.beq_eq]
 all_goals (try omega)
def kInt (n : Int) (H : Heap) : SR :=
 match n with
 | .ofNat m => .yes (.sc (.int .i64 (.ofNat m))) H
 | .negSucc m => .yes (.sc (.int .i64 (.negSucc m))) H
theorem kInt_eq (n : Int) (H : Heap) : kInt n H = .yes (.sc (.int .i64 n)) H := by cases n <;> rfl
def kBool (b : Bool) (H : Heap) : SR :=
 match b with
 | true => .yes (.sc (.bool true)) H
 | false => .yes (.sc (.bool false)) H
theorem kBool_eq (b : Bool) (H : Heap) : kBool b H = .yes (.sc (.bool b)) H := by cases b <;> rfl
def kBin64 (op : BinOp) : Int → Int → Heap → SR :=
 match op with
 | .add => fun a b H => kInt (wrapK (a + b)) H
 | .sub => fun a b H => kInt (wrapK (a - b)) H
 | .mul => fun a b H => kInt (wrapK (a * b)) H
 | .eql => fun a b H => kBool (eqK a b) H
 | .neq => fun a b H => kBool (!(eqK a b)) H
 | .lss => fun a b H => kBool (ltK a b) H
 | .leq => fun a b H => kBool (!(ltK b a)) H
 | .gtr => fun a b H => kBool (ltK b a) H
 | .geq => fun a b H => kBool (!(ltK a b)) H
 | _ => fun _ _ _ => .no
def kBinGen (op : BinOp) (t : TypeId) (x y : Operand) (a b : Value) (H : Heap) : SR :=
 match Sem.pure? (do eqGuard op t x y a b; binOp op t a b) with
 | some v => .yes (.sc v) H
 | none => .no
def SR.or : SR → SR → SR
 | .no => fun s => s
 | .yes v H => fun _ => .yes v H
def kBinV (op : BinOp) (t : TypeId) (x y : Operand) (a b : Value) (H : Heap) : SR :=
 match a with
 | .int .i64 m => match b with
  | .int .i64 n => (kBin64 op m n H).or (kBinGen op t x y (.int .i64 m) (.int .i64 n) H)
  | b => kBinGen op t x y (.int .i64 m) b H
 | a => kBinGen op t x y a b H
def kBin (op : BinOp) (t : TypeId) (x y : Operand) (a b : AV) (H : Heap) : SR :=
 match a with
 | .sc u => match b with
  | .sc v => kBinV op t x y u v H
  | _ => .no
 | _ => .no
noncomputable def kLd (sz : Nat) (agg : Bool) (r : List AV) (off : Nat) (H : Heap) : SR :=
 match agg with
 | false => match lgetK r off with
  | some c => .yes c H
  | none => .no
 | true => match takeK sz (dropK r off) with
  | some cs => .yes (.agg cs) H
  | none => .no
noncomputable def kLoad (sz : Nat) (agg : Bool) (a : AV) (H : Heap) : SR :=
 match a with
 | .cptr cells => kLd sz agg cells 0 H
 | .ptr g i row off => match hgetK H g i with
  | some (.cells _ rows) => match lgetK rows row with
   | some r => kLd sz agg r off H
   | none => .no
  | _ => .no
 | _ => .no
noncomputable def kStoreAt (g i row s : Nat) (rows : List (List AV)) (H : Heap) : Option (List AV) → SR
 | some r' => match setK rows row r' with
  | some rows' => kSet .undef H g i (.cells s rows')
  | none => .no
 | none => .no
noncomputable def kStore (sz : Nat) (a x : AV) (H : Heap) : SR :=
 match a with
 | .ptr g i row off => match x.cs with
  | some cs => match hgetK H g i with
   | some (.cells s rows) => match lgetK rows row with
    | some r => match Nat.beq (lenK cs) sz with
     | true => match cs.all AV.cell1 with
      | true => kStoreAt g i row s rows H (spliceK r cs off)
      | false => .no
     | false => .no
    | none => .no
   | _ => .no
  | none => .no
 | _ => .no
noncomputable def kIdxSl (sz : Nat) (x ix : AV) (H : Heap) : SR :=
 match ix with
 | .sc (.int _ (.ofNat q)) => match x with
  | .list s rows => match Nat.beq s sz with
   | true => match lgetK rows q with
    | some r => .yes (.cptr r) H
    | none => .no
   | false => .no
  | .hsl g i start len => match hgetK H g i with
   | some (.cells s rows) => match Nat.beq s sz with
    | true => match Nat.blt q len with
     | true => match Nat.ble (Nat.add start len) (lenK rows) with
      | true => .yes (.ptr g i (Nat.add start q) 0) H
      | false => .no
     | false => .no
    | false => .no
   | _ => .no
  | _ => .no
 | _ => .no
noncomputable def kIdxArr (n sz : Nat) (x ix : AV) (H : Heap) : SR :=
 match ix with
 | .sc (.int _ (.ofNat q)) => match Nat.blt q n with
  | true => match x with
   | .cptr cells => .yes (.cptr (dropK cells (Nat.mul q sz))) H
   | .ptr g i row o => .yes (.ptr g i row (Nat.add o (Nat.mul q sz))) H
   | _ => .no
  | false => .no
 | _ => .no
noncomputable def kIdxVal (n sz : Nat) (agg : Bool) (x ix : AV) (H : Heap) : SR :=
 match ix with
 | .sc (.int _ (.ofNat q)) => match Nat.blt q n with
  | true => match x with
   | .agg cells => kLd sz agg cells (Nat.mul q sz) H
   | _ => .no
  | false => .no
 | _ => .no
noncomputable def kFieldAddr (off : Nat) (x : AV) (H : Heap) : SR :=
 match x with
 | .cptr cells => .yes (.cptr (dropK cells off)) H
 | .ptr g i row o => .yes (.ptr g i row (Nat.add o off)) H
 | _ => .no
noncomputable def kField (off sz : Nat) (agg : Bool) (x : AV) (H : Heap) : SR :=
 match x with
 | .agg cells => kLd sz agg cells off H
 | _ => .no
noncomputable def kLen (x : AV) (H : Heap) : SR :=
 match x with
 | .list _ rows => .yes (.sc (.int .i64 (.ofNat (lenK rows)))) H
 | .hsl _ _ _ len => .yes (.sc (.int .i64 (.ofNat len))) H
 | .sc (.slice none 0 0) => .yes (.sc (.int .i64 (.ofNat 0))) H
 | _ => .no
noncomputable def kExtract (x : AV) (i : Nat) (H : Heap) : SR :=
 match x with
 | .tup vs => match lgetK vs i with
  | some v => kFz v H
  | none => .no
 | _ => .no
noncomputable def kAlloc (z : List (Nat × Value)) (g i : Nat) (H : Heap) : SR :=
 kSet (.ptr g i 0 0) H g i (.cells (lenK (zrow z)) [zrow z])
noncomputable def kBox (a : AV) (g i : Nat) (H : Heap) : SR :=
 match a.cs with
 | some cs => match cs.all AV.cell1 with
  | true => kSet (.ptr g i 0 0) H g i (.cells (lenK cs) [cs])
  | false => .no
 | none => .no
def kNot (a : AV) (H : Heap) : SR :=
 match a with
 | .sc (.bool true) => .yes (.sc (.bool false)) H
 | .sc (.bool false) => .yes (.sc (.bool true)) H
 | _ => .no
def kUn (op : UnOp) (a : AV) (H : Heap) : SR :=
 match op with
 | .not => kNot a H
 | op => match a with
  | .sc v => match Sem.pure? (Op.unary op v) with
   | some u => .yes (.sc u) H
   | none => .no
  | _ => .no
noncomputable def dstepK (o : IOp) : (Operand → AV) → Nat → Nat → Heap → SR :=
 match o with
 | .move x => fun e _ _ H => kFz (e x) H
 | .pick c a b => fun e _ _ H => kPick (e c) (e a) (e b) H
 | .alloc z => fun _ g i H => kAlloc z g i H
 | .box x => fun e g i H => kBox (e x) g i H
 | .load sz agg a => fun e _ _ H => kLoad sz agg (e a) H
 | .store sz a x => fun e _ _ H => kStore sz (e a) (e x) H
 | .bin op t x y => fun e _ _ H => kBin op t x y (e x) (e y) H
 | .un op x => fun e _ _ H => kUn op (e x) H
 | .idxSl sz x ix => fun e _ _ H => kIdxSl sz (e x) (e ix) H
 | .idxArr n sz x ix => fun e _ _ H => kIdxArr n sz (e x) (e ix) H
 | .idxVal n sz agg x ix => fun e _ _ H => kIdxVal n sz agg (e x) (e ix) H
 | .fieldAddr off x => fun e _ _ H => kFieldAddr off (e x) H
 | .field off sz agg x => fun e _ _ H => kField off sz agg (e x) H
 | .len x => fun e _ _ H => kLen (e x) H
 | .extract x i => fun e _ _ H => kExtract (e x) i H
 | o => fun e g i H => SR.of (dstepE e g i o H)
theorem SR.of_yes {r : Option (AV × Heap)} {v : AV} {H : Heap} (h : SR.of r = .yes v H) : r = some (v, H) := by
 cases r with
 | none => cases h
 | some p => obtain ⟨a, b⟩ := p; injection h with h1 h2; subst h1; subst h2; rfl
theorem kFz_eq {a v : AV} {H H' : Heap} (h : kFz a H = .yes v H') : a = v ∧ H = H' := by
 cases a <;> injection h with h1 h2 <;> exact ⟨h1, h2⟩
theorem kSet_eq {v u : AV} {H H' : Heap} {g i : Nat} {x : Blk} (h : kSet v H g i x = .yes u H') : v = u ∧ hset H g i x = H' := by
 unfold kSet at h
 split at h
 ·rename_i H1 e
  injection h with h1 h2
  subst h1; subst h2
  exact ⟨rfl, hsetK_eq _ _ _ _ _ e⟩
 ·cases h
theorem kLd_eq {sz : Nat} {agg : Bool} {r : List AV} {off : Nat} {H H' : Heap} {v : AV} (h : kLd sz agg r off H = .yes v H') : ldAV sz agg (r.drop off) = some v ∧ H = H' := by
 unfold kLd at h
 split at h
 ·split at h
  ·rename_i c e
   injection h with h1 h2
   subst h1
   rw [lgetK_eq] at e
   obtain ⟨hl, he⟩ := List.getElem?_eq_some_iff.1 e
   refine ⟨?_, h2⟩
   rw [List.drop_eq_getElem_cons hl, he]
   rfl
  ·cases h
 ·split at h
  ·rename_i cs e
   injection h with h1 h2
   subst h1
   rw [dropK_eq] at e
   obtain ⟨e1, e2⟩ := takeK_eq _ _ _ e
   have : Nat.ble sz (r.drop off).length = true := by simpa using e1
   refine ⟨?_, h2⟩
   simp only [ldAV, this, e2]
  ·cases h
theorem kBin64_eq {op : BinOp} {t : TypeId} {x y : Operand} {a b : Int} {H H' : Heap} {v : AV} (h : kBin64 op a b H = .yes v H') :
  ∃ u, Sem.pure? (do eqGuard op t x y (.int .i64 a) (.int .i64 b); binOp op t (.int .i64 a) (.int .i64 b)) = some u ∧ v = .sc u ∧ H = H' := by
 cases op <;> simp only [kBin64, kInt_eq, kBool_eq, wrapK_eq, eqK_eq, ltK_eq] at h
 all_goals first
  | (cases h; done)
  | (injection h with h1 h2
     subst h1
     first
      | exact ⟨_, rfl, rfl, h2⟩
      | (refine ⟨.bool _, ?_, rfl, h2⟩
         simp only [eqGuard, binOp, Op.intCmp]
         first
          | rfl
          | (show some _ = some _; congr 2; rw [Bool.eq_iff_iff]; simp)))
theorem kBinGen_eq {op : BinOp} {t : TypeId} {x y : Operand} {a b : Value} {H H' : Heap} {v : AV} (h : kBinGen op t x y a b H = .yes v H') :
  ∃ u, Sem.pure? (do eqGuard op t x y a b; binOp op t a b) = some u ∧ v = .sc u ∧ H = H' := by
 unfold kBinGen at h
 split at h
 ·rename_i u e
  injection h with h1 h2
  exact ⟨u, e, h1.symm, h2⟩
 ·cases h
theorem SR.or_eq {a b : SR} {v : AV} {H : Heap} (h : a.or b = .yes v H) : a = .yes v H ∨ b = .yes v H := by
 cases a with
 | no => exact .inr h
 | yes u H' => exact .inl h
theorem kBinV_eq {op : BinOp} {t : TypeId} {x y : Operand} {a b : Value} {H H' : Heap} {v : AV} (h : kBinV op t x y a b H = .yes v H') :
  ∃ u, Sem.pure? (do eqGuard op t x y a b; binOp op t a b) = some u ∧ v = .sc u ∧ H = H' := by
 unfold kBinV at h
 split at h
 ·split at h
  ·rcases SR.or_eq h with h | h
   ·exact kBin64_eq h
   ·exact kBinGen_eq h
  ·exact kBinGen_eq h
 ·exact kBinGen_eq h
theorem dstepK_sound {o : IOp} {fr : Fr} {g i : Nat} {H H' : Heap} {v : AV} (h : dstepK o (ev fr) g i H = .yes v H') : dstep g i o fr H = some (v, H') := by
 cases o with
 | move x =>
  obtain ⟨h1, h2⟩ := kFz_eq h
  subst h1; subst h2
  simp only [dstep, fz_eq]
 | pick c a b =>
  simp only [dstepK, kPick] at h
  simp only [dstep]
  split at h
  ·rename_i e
   obtain ⟨h1, h2⟩ := kFz_eq h
   subst h1; subst h2
   rw [e]
   simp only [fz_eq]
  ·rename_i e
   obtain ⟨h1, h2⟩ := kFz_eq h
   subst h1; subst h2
   rw [e]
   simp only [fz_eq]
  ·cases h
 | alloc z =>
  simp only [dstepK, kAlloc] at h
  obtain ⟨h1, h2⟩ := kSet_eq h
  subst h1; subst h2
  simp only [dstep, lenK_eq]
 | box x =>
  simp only [dstepK, kBox] at h
  simp only [dstep]
  split at h
  ·rename_i cs e
   split at h
   ·rename_i e2
    obtain ⟨h1, h2⟩ := kSet_eq h
    subst h1; subst h2
    simp only [e, e2, lenK_eq]
   ·cases h
  ·cases h
 | load sz agg a =>
  simp only [dstepK, kLoad] at h
  simp only [dstep]
  split at h
  ·rename_i cells e
   obtain ⟨h1, h2⟩ := kLd_eq h
   subst h2
   rw [List.drop_zero] at h1
   simp only [e, h1]
  ·rename_i g' i' row off e
   rw [hgetK_eq] at h
   split at h
   ·rename_i s rows e2
    rw [lgetK_eq] at h
    split at h
    ·rename_i r e3
     obtain ⟨h1, h2⟩ := kLd_eq h
     subst h2
     simp only [e, e2, e3, h1]
    ·cases h
   ·cases h
  ·cases h
 | store sz a x =>
  simp only [dstepK, kStore] at h
  simp only [dstep]
  split at h
  ·rename_i g' i' row off e
   split at h
   ·rename_i cs e1
    rw [hgetK_eq] at h
    split at h
    ·rename_i s rows e2
     rw [lgetK_eq] at h
     split at h
     ·rename_i r e3
      rw [lenK_eq] at h
      split at h
      ·rename_i e4
       split at h
       ·rename_i e5
        unfold kStoreAt at h
        split at h
        ·rename_i r' e6
         split at h
         ·rename_i rows' e7
          obtain ⟨h1, h2⟩ := kSet_eq h
          subst h1; subst h2
          obtain ⟨q1, q2⟩ := spliceK_eq _ _ _ _ e6
          obtain ⟨q3, q4⟩ := setK_eq _ _ _ _ e7
          have e8 : cs.length = sz := Nat.eq_of_beq_eq_true e4
          have e9 : Nat.ble (off + sz) r.length = true := by rw [← e8]; simpa using q1
          simp only [e, e1, e2, e3, e4, e5, e9, Bool.and_self, q2, q4]
         ·cases h
        ·cases h
       ·cases h
      ·cases h
     ·cases h
    ·cases h
   ·cases h
  ·cases h
 | bin op t x y =>
  simp only [dstepK, kBin] at h
  simp only [dstep]
  split at h
  ·rename_i u e1
   split at h
   ·rename_i v' e2
    obtain ⟨r, h1, h2, h3⟩ := kBinV_eq h
    subst h2; subst h3
    simp only [e1, e2, h1]
   ·cases h
  ·cases h
 | un op x =>
  simp only [dstepK, kUn] at h
  simp only [dstep]
  split at h
  ·unfold kNot at h
   split at h
   ·rename_i e
    injection h with h1 h2
    subst h1; subst h2
    simp only [e]
    rfl
   ·rename_i e
    injection h with h1 h2
    subst h1; subst h2
    simp only [e]
    rfl
   ·cases h
  ·split at h
   ·rename_i e
    split at h
    ·rename_i u e2
     injection h with h1 h2
     subst h1; subst h2
     simp only [e, e2]
    ·cases h
   ·cases h
 | idxSl sz x ix =>
  simp only [dstepK, kIdxSl] at h
  simp only [dstep]
  split at h
  ·rename_i k q e
   split at h
   ·rename_i s rows e1
    split at h
    ·rename_i e2
     rw [lgetK_eq] at h
     split at h
     ·rename_i r e3
      injection h with h1 h2
      subst h1; subst h2
      have : rowIx rows (Int.ofNat q) = some r := e3
      simp only [e, e1, e2, this]
     ·cases h
    ·cases h
   ·rename_i g' i' start len e1
    rw [hgetK_eq] at h
    split at h
    ·rename_i s rows e2
     split at h
     ·rename_i e3
      split at h
      ·rename_i e4
       rw [lenK_eq] at h
       split at h
       ·rename_i e5
        injection h with h1 h2
        subst h1; subst h2
        have e5' : Nat.ble (start + len) rows.length = true := e5
        simp only [e, e1, e2, e3, e4, e5', Bool.and_self]
        rfl
       ·cases h
      ·cases h
     ·cases h
    ·cases h
   ·cases h
  ·cases h
 | idxArr n sz x ix =>
  simp only [dstepK, kIdxArr] at h
  simp only [dstep]
  split at h
  ·rename_i k q e
   split at h
   ·rename_i e1
    split at h
    ·rename_i cells e2
     injection h with h1 h2
     subst h1; subst h2
     rw [dropK_eq]
     simp only [e, e1, e2]
     rfl
    ·rename_i e2
     injection h with h1 h2
     subst h1; subst h2
     simp only [e, e1, e2]
     rfl
    ·cases h
   ·cases h
  ·cases h
 | idxVal n sz agg x ix =>
  simp only [dstepK, kIdxVal] at h
  simp only [dstep]
  split at h
  ·rename_i k q e
   split at h
   ·rename_i e1
    split at h
    ·rename_i cells e2
     obtain ⟨h1, h2⟩ := kLd_eq h
     subst h2
     have h1' : ldAV sz agg (List.drop (q * sz) cells) = some v := h1
     simp only [e, e1, e2, h1']
    ·cases h
   ·cases h
  ·cases h
 | fieldAddr off x =>
  simp only [dstepK, kFieldAddr] at h
  simp only [dstep]
  split at h
  ·rename_i cells e
   injection h with h1 h2
   subst h1; subst h2
   rw [dropK_eq]
   simp only [e]
  ·rename_i e
   injection h with h1 h2
   subst h1; subst h2
   simp only [e]
   rfl
  ·cases h
 | field off sz agg x =>
  simp only [dstepK, kField] at h
  simp only [dstep]
  split at h
  ·rename_i cells e
   obtain ⟨h1, h2⟩ := kLd_eq h
   subst h2
   simp only [e, h1]
  ·cases h
 | len x =>
  simp only [dstepK, kLen] at h
  simp only [dstep]
  split at h
  ·rename_i e
   injection h with h1 h2
   subst h1; subst h2
   rw [lenK_eq]
   simp only [e]
   rfl
  ·rename_i e
   injection h with h1 h2
   subst h1; subst h2
   simp only [e]
   rfl
  ·rename_i e
   injection h with h1 h2
   subst h1; subst h2
   simp only [e]
   rfl
  ·cases h
 | extract x ix =>
  simp only [dstepK, kExtract] at h
  simp only [dstep]
  split at h
  ·rename_i vs e
   rw [lgetK_eq] at h
   split at h
   ·rename_i u e1
    obtain ⟨h1, h2⟩ := kFz_eq h
    subst h1; subst h2
    simp only [e, e1]
   ·cases h
  ·cases h
 | _ =>
  rw [dstepE_eq]
  exact SR.of_yes h
end Go.Av
