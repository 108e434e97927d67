import Derived.Test.YtbpmbofinoinmaaAvK3
import Derived.Below
import Derived.ChangeSame
import Derived.ProofKit
namespace Go.Av
open Go.RowKit Go.WideShapes Go.ChangeShapes Go.ChangeAt

/-! From a statement's world to the layer: all that lies there is frozen. -/

inductive Sh where
  | int (k : IntKind)
  | bool
  | str
  | float (k : FloatKind)
  | slice (row : List Sh)

/-- A value of a shape. -/
inductive Fit : Sh → AV → Prop
  | int (k : IntKind) (n : Int) (h : (Lit.int k n).wf = true) : Fit (.int k) (.sc (.int k n))
  | bool (b : Bool) : Fit .bool (.sc (.bool b))
  | str (s : ByteArray) (h : s.size ≤ maxLen) : Fit .str (.sc (.string s))
  | float (k : FloatKind) (b : Nat) (h : (Lit.float k b).wf = true) : Fit (.float k) (.sc (.float k b))
  | slice (row : List Sh) (rows : List (List AV)) (hl : rows.length ≤ maxLen) (hr : ∀ r ∈ rows, r.length = row.length) (h : ∀ r ∈ rows, ∀ (j : Nat) s c, row[j]? = some s → r[j]? = some c → Fit s c) : Fit (.slice row) (.list row.length rows)

theorem Fit.pure {s : Sh} {a : AV} (h : Fit s a) : Pure a := by
  induction h with
  | int => exact .sc _
  | bool => exact .sc _
  | str => exact .sc _
  | float => exact .sc _
  | slice row rows hl hr _ ih =>
    refine .list _ _ fun r hrm c hc => ?_
    obtain ⟨j, hj⟩ := List.getElem?_of_mem hc
    have hlt := (List.getElem?_eq_some_iff.1 hj).1
    have : j < row.length := by rw [← hr r hrm]; exact hlt
    exact ih r hrm j row[j] c (List.getElem?_eq_getElem this) hj

mutual
/-- The shapes of a type's cells. -/
def shp (P : Program) : Nat → TypeId → Option (List Sh)
  | 0, _ => none
  | d + 1, t => match P.underlying t with
    | some .bool => some [.bool]
    | some (.int k) => some [.int k]
    | some .string => some [.str]
    | some (.float k) => some [.float k]
    | some (.slice e) => match shp P d e with
      | some (s :: r) => match Nat.beq (P.cellsOf e) (s :: r).length with
        | true => some [.slice (s :: r)]
        | false => none
      | _ => none
    | some (.struct fs) => match shpF P d 0 fs.toList with
      | some r => match Nat.beq (P.cellsOf t) r.length with
        | true => some r
        | false => none
      | none => none
    | _ => none
def shpF (P : Program) : Nat → Nat → List Field → Option (List Sh)
  | 0, _, _ => none
  | _ + 1, _, [] => some []
  | d + 1, off, f :: fs => match shp P d f.type, shpF P d (off + P.cellsOf f.type) fs with
    | some r, some q => match Nat.beq f.offset off && Nat.beq (P.cellsOf f.type) r.length with
      | true => some (r ++ q)
      | false => none
    | _, _ => none
end

/-- All of a world's memory, frozen. -/
def memOf (w : World) : Mem := fun β => w.heap[β]?
def noJ : Inj := fun _ _ => none

theorem memOf_rep (w : World) : MRep (memOf w) w.heap := fun _ _ h => h
theorem noJ_rep (M : Mem) (h : Array Obj) : HRep M noJ [] h :=
  ⟨fun g i x hx => (by simp [hget] at hx), fun g i g' i' l l' β _ _ hJ => (by cases hJ), fun g i l β _ hJ => (by cases hJ), fun g i l hJ => (by cases hJ)⟩

theorem exists_list {α : Type} (p : Nat → α → Prop) : ∀ (n : Nat), (∀ i, i < n → ∃ a, p i a) → ∃ l : List α, l.length = n ∧ ∀ (i : Nat) a, l[i]? = some a → p i a
  | 0, _ => ⟨[], rfl, fun i a h => by simp at h⟩
  | n + 1, h => by
    obtain ⟨l, h1, h2⟩ := exists_list p n fun i hi => h i (by omega)
    obtain ⟨a, ha⟩ := h n (by omega)
    refine ⟨l ++ [a], by simp [h1], fun i b hb => ?_⟩
    rw [List.getElem?_append] at hb
    split at hb
    · exact h2 i b hb
    · have : i = n := by
        have := (List.getElem?_eq_some_iff.1 hb).1
        simp at this
        omega
      subst this
      rw [h1, Nat.sub_self] at hb
      simp at hb
      subst hb
      exact ha

section
variable {H : Type} {enc : TypeId × Value → H} {P : Program} {w : World}

/-- Cells that read as data of these shapes. -/
def CellsOK (w : World) (row : List Sh) (cs : List Value) : Prop :=
  cs.length = row.length ∧ ∃ avs : List AV, avs.length = row.length ∧ (∀ (j : Nat) s c, row[j]? = some s → avs[j]? = some c → Fit s c) ∧ ∀ (j : Nat) c v, avs[j]? = some c → cs[j]? = some v → Rep (memOf w) noJ c v ∧ v.oneCell' = true

theorem CellsOK.one {s : Sh} {v : Value} {a : AV} (hf : Fit s a) (hr : Rep (memOf w) noJ a v) (h1 : v.oneCell' = true) : CellsOK w [s] [v] := by
  refine ⟨rfl, [a], rfl, fun j s' c h h' => ?_, fun j c u h h' => ?_⟩
  · cases j with
    | zero => simp at h h'; subst h; subst h'; exact hf
    | succ j => simp at h
  · cases j with
    | zero => simp at h h'; subst h; subst h'; exact ⟨hr, h1⟩
    | succ j => simp at h

theorem CellsOK.append {r q : List Sh} {a b : List Value} (h1 : CellsOK w r a) (h2 : CellsOK w q b) : CellsOK w (r ++ q) (a ++ b) := by
  obtain ⟨l1, x, e1, f1, g1⟩ := h1
  obtain ⟨l2, y, e2, f2, g2⟩ := h2
  refine ⟨by simp [l1, l2], x ++ y, by simp [e1, e2], fun j s c h h' => ?_, fun j c v h h' => ?_⟩
  · rw [List.getElem?_append] at h h'
    rw [e1] at h'
    split at h
    · rename_i hj; rw [if_pos hj] at h'; exact f1 j s c h h'
    · rename_i hj; rw [if_neg hj] at h'; exact f2 _ s c h h'
  · rw [List.getElem?_append] at h h'
    rw [e1, ← l1] at h
    split at h
    · rename_i hj; rw [if_pos hj] at h'; exact g1 j c v h h'
    · rename_i hj; rw [if_neg hj] at h'; exact g2 _ c v h h'

theorem cell_of_block {a : Addr} {v : Value} (h : w.cell? a = some v) : ∃ cs e fr, w.heap[a.block]? = some (.cells cs e fr) ∧ a.spot = none ∧ cs[a.off]? = some v := by
  unfold World.cell? at h
  split at h
  · rename_i c e fr hb
    split at h
    · cases h
    · rename_i hs
      exact ⟨c, e, fr, hb, by simpa using hs, h⟩
  · cases h

mutual
theorem trod_ok : ∀ (d fuel : Nat) (t : TypeId) (cs : List Value) (x : DataW H × List MemPlace) (row : List Sh), DataW.trod enc P w 0 (fun _ => true) true fuel t cs = some x → shp P d t = some row → CellsOK w row cs
  | 0, _, _, _, _, _, _, hs => by simp [shp] at hs
  | d + 1, fuel, t, cs, x, row, h, hs => by
    simp only [shp] at hs
    split at hs
    · rename_i ht
      injection hs with hs; subst hs
      obtain ⟨b, rfl, _⟩ := DataW.trod_bool ht h
      exact .one (.bool b) (.sc _) rfl
    · rename_i k ht
      injection hs with hs; subst hs
      obtain ⟨n, rfl, _, hw⟩ := DataW.trod_int ht h
      exact .one (.int k n hw) (.sc _) rfl
    · rename_i ht
      injection hs with hs; subst hs
      obtain ⟨s, rfl, _, hw⟩ := DataW.trod_string ht h
      exact .one (.str s hw) (.sc _) rfl
    · rename_i k ht
      injection hs with hs; subst hs
      cases fuel with
      | zero => simp [DataW.trod] at h
      | succ n =>
        unfold DataW.trod at h
        rw [ht] at h
        split at h <;> simp_all
        exact .one (.float _ _ h.1.2) (.sc _) rfl
    · rename_i e ht
      split at hs
      · rename_i s r he
        split at hs
        · rename_i hce
          have hsz : P.cellsOf e = (s :: r).length := Nat.eq_of_beq_eq_true hce
          injection hs with hs; subst hs
          rcases DataW.trod_slice ht h with ⟨rfl, _⟩ | ⟨a, len, cap, elems, rest, n, _, rfl, _, _, hlc, hcm, hel, hread, _, _⟩
          · exact .one (.slice (s :: r) [] (by simp) (fun q hq => by cases hq) (fun q hq => by cases hq)) (.nilList _ _ _) rfl
          · have each : ∀ i, i < len → ∃ avs : List AV, avs.length = (s :: r).length ∧ (∀ (j : Nat) s' c, (s :: r)[j]? = some s' → avs[j]? = some c → Fit s' c) ∧
                ∀ (j : Nat) c, avs[j]? = some c → ∃ v, w.cell? ((a.add (i * (s :: r).length)).add j) = some v ∧ Rep (memOf w) noJ c v ∧ v.oneCell' = true := by
              intro i hi
              have h1 := hread i hi
              rw [List.getElem?_eq_getElem (by omega), Option.bind_eq_some_iff] at h1
              obtain ⟨cells, hc, hy⟩ := h1
              obtain ⟨_, hcl, hcell⟩ := World.cells?_some hc
              obtain ⟨hl, avs, e1, e2, e3⟩ := trod_ok d n e cells _ _ hy he
              refine ⟨avs, e1, e2, fun j c hj => ?_⟩
              have hjl := (List.getElem?_eq_some_iff.1 hj).1
              have hv : cells[j]? = some (cells[j]'(by omega)) := List.getElem?_eq_getElem (by omega)
              refine ⟨cells[j]'(by omega), ?_, e3 j c _ hj hv⟩
              rw [← hsz, hcell j (by omega), hv]
            obtain ⟨rows, hrl, hrows⟩ := exists_list _ len each
            have hfit : Fit (.slice (s :: r)) (.list (s :: r).length rows) := by
              refine .slice _ _ (by rw [hrl]; omega) (fun q hq => ?_) (fun q hq => ?_)
              · obtain ⟨i, hi⟩ := List.getElem?_of_mem hq
                exact (hrows i q hi).1
              · obtain ⟨i, hi⟩ := List.getElem?_of_mem hq
                exact (hrows i q hi).2.1
            by_cases hlen : len = 0
            · subst hlen
              have : rows = [] := by simpa using hrl
              subst this
              exact .one hfit (.nilList _ _ _) rfl
            · have getR : ∀ i, i < len → ∃ q, rows[i]? = some q := fun i hi => ⟨rows[i], List.getElem?_eq_getElem (by omega)⟩
              have cellAt : ∀ i j, i < len → j < (s :: r).length → ∃ c v, (∃ q, rows[i]? = some q ∧ q[j]? = some c) ∧ w.cell? ((a.add (i * (s :: r).length)).add j) = some v ∧ Rep (memOf w) noJ c v ∧ v.oneCell' = true := by
                intro i j hi hj
                obtain ⟨q, hq⟩ := getR i hi
                obtain ⟨h1, _, h3⟩ := hrows i q hq
                have hqj : q[j]? = some (q[j]'(by omega)) := List.getElem?_eq_getElem (by omega)
                obtain ⟨v, hv1, hv2⟩ := h3 j _ hqj
                exact ⟨_, v, ⟨q, hq, hqj⟩, hv1, hv2⟩
              obtain ⟨c0, v0, _, hv0, _, _⟩ := cellAt 0 0 (by omega) (by simp)
              have ha0 : (a.add (0 * (s :: r).length)).add 0 = a := by simp [Addr.add]
              rw [ha0] at hv0
              obtain ⟨csb, eb, frb, hb, hsp, _⟩ := cell_of_block hv0
              have ha : a = ⟨a.block, a.off, none⟩ := by cases a; simp_all
              have hadd : ∀ k j, (a.add k).add j = ⟨a.block, a.off + (k + j), none⟩ := by
                intro k j
                rw [ha, addr_add, addr_add, Nat.add_assoc]
              have hcell : ∀ i j, i < len → j < (s :: r).length → ∃ c v, (∃ q, rows[i]? = some q ∧ q[j]? = some c) ∧ csb[a.off + (i * (s :: r).length + j)]? = some v ∧ Rep (memOf w) noJ c v ∧ v.oneCell' = true := by
                intro i j hi hj
                obtain ⟨c, v, h1, h2, h3⟩ := cellAt i j hi hj
                rw [hadd] at h2
                refine ⟨c, v, h1, ?_, h3⟩
                rw [cell_block hb] at h2
                exact h2
              have hsz0 : 0 < (s :: r).length := by simp
              rw [ha]
              refine .one hfit (.list (s :: r).length rows a.block a.off cap len csb eb frb ⟨hrl.symm, hlc⟩ hb (fun i q hq => (hrows i q hq).1) ?_ (fun j v hj hv => ?_) (fun i q j c v hq hc hv => ?_)) rfl
              · obtain ⟨_, v, _, hv, _⟩ := hcell (len - 1) ((s :: r).length - 1) (by omega) (by omega)
                have := (Array.getElem?_eq_some_iff.1 hv).1
                have e1 : (len - 1) * (s :: r).length + (s :: r).length = len * (s :: r).length := by
                  rw [← Nat.succ_mul]; congr 1; omega
                rw [hrl]
                omega
              · rw [hrl] at hj
                have hi : j / (s :: r).length < len := (Nat.div_lt_iff_lt_mul hsz0).2 hj
                have hm : j % (s :: r).length < (s :: r).length := Nat.mod_lt _ hsz0
                obtain ⟨c, v', _, h2, _, h4⟩ := hcell _ _ hi hm
                have e1 : j / (s :: r).length * (s :: r).length + j % (s :: r).length = j := by rw [Nat.mul_comm]; exact Nat.div_add_mod _ _
                rw [e1, hv] at h2
                injection h2 with h2
                subst h2
                exact h4
              · have hi := (List.getElem?_eq_some_iff.1 hq).1
                have hj := (List.getElem?_eq_some_iff.1 hc).1
                rw [(hrows i q hq).1] at hj
                obtain ⟨c', v', ⟨q', h1, h1'⟩, h2, h3, _⟩ := hcell i j (by omega) hj
                rw [hq] at h1
                injection h1 with h1
                subst h1
                rw [hc] at h1'
                injection h1' with h1'
                subst h1'
                rw [← Nat.add_assoc, hv] at h2
                injection h2 with h2
                subst h2
                exact h3
        · cases hs
      · cases hs
    · rename_i fs ht
      split at hs
      · rename_i q hq
        split at hs
        · rename_i hce
          have hsz : P.cellsOf t = q.length := Nat.eq_of_beq_eq_true hce
          injection hs with hs; subst hs
          obtain ⟨xs, n, _, _, hl, hlen, hf⟩ := DataW.trod_struct ht h
          have := trod_okF d n fs.toList 0 cs q hq (by omega) (fun i f hi => by
            have h1 := hf i f (by simpa using hi)
            have hi' := (Array.getElem?_eq_some_iff.1 (show fs[i]? = some f by simpa using hi)).1
            have : xs[i]? = some (xs[i]'(by omega)) := List.getElem?_eq_getElem (by omega)
            exact ⟨_, h1.trans this⟩)
          rwa [List.drop_zero] at this
        · cases hs
      · cases hs
    · cases hs
theorem trod_okF : ∀ (d n : Nat) (fs : List Field) (off : Nat) (cs : List Value) (q : List Sh), shpF P d off fs = some q → cs.length = off + q.length →
    (∀ (i : Nat) f, fs[i]? = some f → ∃ y, DataW.trod enc P w 0 (fun _ => true) true n f.type ((cs.drop f.offset).take (P.cellsOf f.type)) = some y) → CellsOK w q (cs.drop off)
  | 0, _, _, _, _, _, hs, _, _ => by simp [shpF] at hs
  | d + 1, n, [], off, cs, q, hs, hl, _ => by
    simp only [shpF, Option.some.injEq] at hs
    subst hs
    refine ⟨by simp at hl ⊢; omega, [], rfl, fun j s c h => by simp at h, fun j c v h => by simp at h⟩
  | d + 1, n, f :: fs, off, cs, q, hs, hl, hf => by
    simp only [shpF] at hs
    split at hs
    · rename_i r q' h1 h2
      split at hs
      · rename_i hb
        simp only [Bool.and_eq_true] at hb
        have e1 : f.offset = off := Nat.eq_of_beq_eq_true hb.1
        have e2 : P.cellsOf f.type = r.length := Nat.eq_of_beq_eq_true hb.2
        injection hs with hs; subst hs
        obtain ⟨y, hy⟩ := hf 0 f rfl
        rw [e1] at hy
        have k1 := trod_ok d n f.type _ y r hy h1
        have k2 := trod_okF d n fs (off + P.cellsOf f.type) cs q' h2 (by rw [e2]; simp at hl; omega) (fun i g hi => hf (i + 1) g (by simpa using hi))
        have := k1.append k2
        have e3 : (cs.drop off).take (P.cellsOf f.type) ++ cs.drop (off + P.cellsOf f.type) = cs.drop off := by
          rw [← List.drop_drop, List.take_append_drop]
        rwa [e3] at this
      · cases hs
    · cases hs
end

/-- The arguments' shapes: each fills one cell. -/
def shpArgs (P : Program) (d : Nat) : List TypeId → Option (List Sh)
  | [] => some []
  | t :: ts => match shp P d t, shpArgs P d ts with
    | some [s], some r => match P.underlying t with
      | some (.struct _) => none
      | _ => some (s :: r)
    | _, _ => none

theorem trodAll_ok {d : Nat} : ∀ (ts : List TypeId) (row : List Sh) (vs : List Value) (ds : List (DataW H)) (ps : List MemPlace), DataW.TrodAll enc P w 0 (fun _ => true) true ts vs ds ps → shpArgs P d ts = some row →
    (∀ v ∈ vs, v.cells.toList = [v]) → CellsOK w row vs
  | [], row, [], _, _, _, hs, _ => by
    simp only [shpArgs, Option.some.injEq] at hs
    subst hs
    exact ⟨rfl, [], rfl, fun j s c h => by simp at h, fun j c v h => by simp at h⟩
  | t :: ts, row, v :: vs, d0 :: ds, ps, h, hs, hc => by
    obtain ⟨p, q, ⟨fuel, h1⟩, h2, _⟩ := h
    simp only [shpArgs] at hs
    split at hs
    · rename_i s r e1 e2
      split at hs
      · cases hs
      · injection hs with hs; subst hs
        have k1 := trod_ok d fuel t _ _ _ h1 e1
        rw [hc v (List.mem_cons_self ..)] at k1
        have k2 := trodAll_ok ts r vs ds q h2 e2 fun u hu => hc u (List.mem_cons_of_mem _ hu)
        exact CellsOK.append k1 k2
    · cases hs

theorem Below.same {W W' : World} (h : ∀ (β : Nat) o, W.heap[β]? = some o → W'.heap[β]? = some o) (ho : W'.os = W.os) (ht : W'.tape = W.tape) (hu : W'.output = W.output) (hz : W.heap.size ≤ W'.heap.size) : Below W.heap.size W W' :=
  ⟨ho, ht, hu, hz, fun k hk => by rw [Array.getElem?_eq_getElem hk]; exact h k _ (Array.getElem?_eq_getElem hk)⟩

end
end Go.Av
