import Derived.Test.YtpkpfgpfkajkpaaGAvK3
import Derived.Below
import Derived.ChangeSame
import Derived.ProofKit
import Derived.OpenShut
import Derived.ReadAgain
import Derived.JoinedOf
import Derived.ChangeCalls
import Derived.Test.YtpkpfgpfkajkpaaGAvK
namespace Go.Av
open Go.RowKit Go.WideShapes Go.ChangeShapes Go.ChangeAt
inductive Sh where
  | int (k : IntKind)
  | bool
  | str
  | float (k : FloatKind)
  | slice (row : List Sh)
inductive Fit : Sh → AV → Prop
  | int (k : IntKind) (n : Int) (h : (Lit.int k n).wf = true) : Fit (.int k) (.sc (.int k n))
  | bool (b : Bool) : Fit .bool (.sc (.bool b))
  | str (s : ByteArray) (h : s.size ≤ maxLen) : Fit .str (.sc (.string s))
  | float (k : FloatKind) (b : Nat) (h : (Lit.float k b).wf = true) : Fit (.float k) (.sc (.float k b))
  | slice (row : List Sh) (rows : List (List AV)) (hl : rows.length ≤ maxLen) (hr : ∀ r ∈ rows, r.length = row.length) (h : ∀ r ∈ rows, ∀ (j : Nat) s c, row[j]? = some s → r[j]? = some c → Fit s c) : Fit (.slice row) (.list row.length rows)
theorem Fit.pure {s : Sh} {a : AV} (h : Fit s a) : Pure a := by
  induction h with
  | int => exact .sc _
  | bool => exact .sc _
  | str => exact .sc _
  | float => exact .sc _
  | slice row rows hl hr _ ih =>
    refine .list _ _ fun r hrm c hc => ?_
    obtain ⟨j, hj⟩ := List.getElem?_of_mem hc
    have hlt := (List.getElem?_eq_some_iff.1 hj).1
    have : j < row.length := by rw [← hr r hrm]; exact hlt
    exact ih r hrm j row[j] c (List.getElem?_eq_getElem this) hj
def repL (r : List Sh) : Nat → List Sh
  | 0 => []
  | n + 1 => r ++ repL r n
mutual

def shp (P : Program) : Nat → TypeId → Option (List Sh)
  | 0, _ => none
  | d + 1, t => match P.underlying t with
    | some .bool => some [.bool]
    | some (.int k) => some [.int k]
    | some .string => some [.str]
    | some (.float k) => some [.float k]
    | some (.slice e) => match shp P d e with
      | some (s :: r) => match Nat.beq (P.cellsOf e) (s :: r).length with
        | true => some [.slice (s :: r)]
        | false => none
      | _ => none
    | some (.struct fs) => match shpF P d 0 fs.toList with
      | some r => match Nat.beq (P.cellsOf t) r.length with
        | true => some r
        | false => none
      | none => none
    | some (.array n e) => match shp P d e with
      | some r => match Nat.beq (P.cellsOf e) r.length && Nat.beq (P.cellsOf t) (n * r.length) with
        | true => some (repL r n)
        | false => none
      | none => none
    | _ => none
def shpF (P : Program) : Nat → Nat → List Field → Option (List Sh)
  | 0, _, _ => none
  | _ + 1, _, [] => some []
  | d + 1, off, f :: fs => match shp P d f.type, shpF P d (off + P.cellsOf f.type) fs with
    | some r, some q => match Nat.beq f.offset off && Nat.beq (P.cellsOf f.type) r.length with
      | true => some (r ++ q)
      | false => none
    | _, _ => none
end
def memOf (w : World) : Mem := fun β => w.heap[β]?
def noJ : Inj := fun _ _ => none
theorem memOf_rep (w : World) : MRep (memOf w) w.heap := fun _ _ h => h
theorem noJ_rep (M : Mem) (h : Array Obj) : HRep M noJ [] h :=
  ⟨fun g i x hx => (by simp [hget] at hx), fun g i g' i' l l' β _ _ hJ => (by cases hJ), fun g i l β _ hJ => (by cases hJ), fun g i l hJ => (by cases hJ)⟩
theorem exists_list {α : Type} (p : Nat → α → Prop) : ∀ (n : Nat), (∀ i, i < n → ∃ a, p i a) → ∃ l : List α, l.length = n ∧ ∀ (i : Nat) a, l[i]? = some a → p i a
  | 0, _ => ⟨[], rfl, fun i a h => by simp at h⟩
  | n + 1, h => by
    obtain ⟨l, h1, h2⟩ := exists_list p n fun i hi => h i (by omega)
    obtain ⟨a, ha⟩ := h n (by omega)
    refine ⟨l ++ [a], by simp [h1], fun i b hb => ?_⟩
    rw [List.getElem?_append] at hb
    split at hb
    · exact h2 i b hb
    · have : i = n := by
        have := (List.getElem?_eq_some_iff.1 hb).1
        simp at this
        omega
      subst this
      rw [h1, Nat.sub_self] at hb
      simp at hb
      subst hb
      exact ha
section
variable {H : Type} {enc : TypeId × Value → H} {P : Program} {w : World}
def CellsOK (w : World) (row : List Sh) (cs : List Value) : Prop :=
  cs.length = row.length ∧ ∃ avs : List AV, avs.length = row.length ∧ (∀ (j : Nat) s c, row[j]? = some s → avs[j]? = some c → Fit s c) ∧ ∀ (j : Nat) c v, avs[j]? = some c → cs[j]? = some v → Rep (memOf w) noJ c v ∧ v.oneCell' = true
theorem CellsOK.one {s : Sh} {v : Value} {a : AV} (hf : Fit s a) (hr : Rep (memOf w) noJ a v) (h1 : v.oneCell' = true) : CellsOK w [s] [v] := by
  refine ⟨rfl, [a], rfl, fun j s' c h h' => ?_, fun j c u h h' => ?_⟩
  · cases j with
    | zero => simp at h h'; subst h; subst h'; exact hf
    | succ j => simp at h
  · cases j with
    | zero => simp at h h'; subst h; subst h'; exact ⟨hr, h1⟩
    | succ j => simp at h
theorem CellsOK.append {r q : List Sh} {a b : List Value} (h1 : CellsOK w r a) (h2 : CellsOK w q b) : CellsOK w (r ++ q) (a ++ b) := by
  obtain ⟨l1, x, e1, f1, g1⟩ := h1
  obtain ⟨l2, y, e2, f2, g2⟩ := h2
  refine ⟨by simp [l1, l2], x ++ y, by simp [e1, e2], fun j s c h h' => ?_, fun j c v h h' => ?_⟩
  · rw [List.getElem?_append] at h h'
    rw [e1] at h'
    split at h
    · rename_i hj; rw [if_pos hj] at h'; exact f1 j s c h h'
    · rename_i hj; rw [if_neg hj] at h'; exact f2 _ s c h h'
  · rw [List.getElem?_append] at h h'
    rw [e1, ← l1] at h
    split at h
    · rename_i hj; rw [if_pos hj] at h'; exact g1 j c v h h'
    · rename_i hj; rw [if_neg hj] at h'; exact g2 _ c v h h'
theorem cell_of_block {a : Addr} {v : Value} (h : w.cell? a = some v) : ∃ cs e fr, w.heap[a.block]? = some (.cells cs e fr) ∧ a.spot = none ∧ cs[a.off]? = some v := by
  unfold World.cell? at h
  split at h
  · rename_i c e fr hb
    split at h
    · cases h
    · rename_i hs
      exact ⟨c, e, fr, hb, by simpa using hs, h⟩
  · cases h
theorem trod_arr {base : Nat} {spare : Nat → Bool} {held : Bool} {fuel : Nat} {t : TypeId} {cs : List Value} {x : DataW H × List MemPlace} {n : Nat} {e : TypeId} (ht : P.underlying t = some (.array n e)) (h : DataW.trod enc P w base spare held fuel t cs = some x) :
    ∃ (m : Nat), cs.length = P.cellsOf t ∧ ∀ (i : Nat), i < n → ∃ y, DataW.trod enc P w base spare held m e ((cs.drop (i * P.cellsOf e)).take (P.cellsOf e)) = some y := by
  obtain ⟨xs, m, _, _, hl, hlen, hel⟩ := DataW.trod_array ht h
  refine ⟨m, hl, fun i hi => ?_⟩
  rw [hel i hi, List.getElem?_eq_getElem (by omega)]
  exact ⟨_, rfl⟩
theorem CellsOK.rep {r : List Sh} : ∀ (n off : Nat) (cs : List Value), cs.length = off + n * r.length → (∀ i, i < n → CellsOK w r ((cs.drop (off + i * r.length)).take r.length)) → CellsOK w (repL r n) (cs.drop off)
  | 0, off, cs, hl, _ => ⟨by simp at hl ⊢; simp [repL]; omega, [], rfl, fun j s c h => by simp [repL] at h, fun j c v h => by simp at h⟩
  | n + 1, off, cs, hl, h => by
    have h0 := h 0 (by omega)
    rw [Nat.zero_mul, Nat.add_zero] at h0
    have h1 := CellsOK.rep (r := r) n (off + r.length) cs (by rw [hl, Nat.succ_mul]; omega) fun i hi => by
      have := h (i + 1) (by omega)
      rwa [Nat.succ_mul, Nat.add_comm (i * r.length) r.length, ← Nat.add_assoc] at this
    have := h0.append h1
    rw [← List.drop_drop, List.take_append_drop] at this
    exact this
mutual
theorem trod_ok : ∀ (d fuel : Nat) (t : TypeId) (cs : List Value) (x : DataW H × List MemPlace) (row : List Sh), DataW.trod enc P w 0 (fun _ => true) true fuel t cs = some x → shp P d t = some row → CellsOK w row cs
  | 0, _, _, _, _, _, _, hs => by simp [shp] at hs
  | d + 1, fuel, t, cs, x, row, h, hs => by
    simp only [shp] at hs
    split at hs
    · rename_i ht
      injection hs with hs; subst hs
      obtain ⟨b, rfl, _⟩ := DataW.trod_bool ht h
      exact .one (.bool b) (.sc _) rfl
    · rename_i k ht
      injection hs with hs; subst hs
      obtain ⟨n, rfl, _, hw⟩ := DataW.trod_int ht h
      exact .one (.int k n hw) (.sc _) rfl
    · rename_i ht
      injection hs with hs; subst hs
      obtain ⟨s, rfl, _, hw⟩ := DataW.trod_string ht h
      exact .one (.str s hw) (.sc _) rfl
    · rename_i k ht
      injection hs with hs; subst hs
      cases fuel with
      | zero => simp [DataW.trod] at h
      | succ n =>
        unfold DataW.trod at h
        rw [ht] at h
        split at h <;> simp_all
        exact .one (.float _ _ h.1.2) (.sc _) rfl
    · rename_i e ht
      split at hs
      · rename_i s r he
        split at hs
        · rename_i hce
          have hsz : P.cellsOf e = (s :: r).length := Nat.eq_of_beq_eq_true hce
          injection hs with hs; subst hs
          rcases DataW.trod_slice ht h with ⟨rfl, _⟩ | ⟨a, len, cap, elems, rest, n, _, rfl, _, _, hlc, hcm, hel, hread, _, _⟩
          · exact .one (.slice (s :: r) [] (by simp) (fun q hq => by cases hq) (fun q hq => by cases hq)) (.nilList _ _ _) rfl
          · have each : ∀ i, i < len → ∃ avs : List AV, avs.length = (s :: r).length ∧ (∀ (j : Nat) s' c, (s :: r)[j]? = some s' → avs[j]? = some c → Fit s' c) ∧
                ∀ (j : Nat) c, avs[j]? = some c → ∃ v, w.cell? ((a.add (i * (s :: r).length)).add j) = some v ∧ Rep (memOf w) noJ c v ∧ v.oneCell' = true := by
              intro i hi
              have h1 := hread i hi
              rw [List.getElem?_eq_getElem (by omega), Option.bind_eq_some_iff] at h1
              obtain ⟨cells, hc, hy⟩ := h1
              obtain ⟨_, hcl, hcell⟩ := World.cells?_some hc
              obtain ⟨hl, avs, e1, e2, e3⟩ := trod_ok d n e cells _ _ hy he
              refine ⟨avs, e1, e2, fun j c hj => ?_⟩
              have hjl := (List.getElem?_eq_some_iff.1 hj).1
              have hv : cells[j]? = some (cells[j]'(by omega)) := List.getElem?_eq_getElem (by omega)
              refine ⟨cells[j]'(by omega), ?_, e3 j c _ hj hv⟩
              rw [← hsz, hcell j (by omega), hv]
            obtain ⟨rows, hrl, hrows⟩ := exists_list _ len each
            have hfit : Fit (.slice (s :: r)) (.list (s :: r).length rows) := by
              refine .slice _ _ (by rw [hrl]; omega) (fun q hq => ?_) (fun q hq => ?_)
              · obtain ⟨i, hi⟩ := List.getElem?_of_mem hq
                exact (hrows i q hi).1
              · obtain ⟨i, hi⟩ := List.getElem?_of_mem hq
                exact (hrows i q hi).2.1
            by_cases hlen : len = 0
            · subst hlen
              have : rows = [] := by simpa using hrl
              subst this
              exact .one hfit (.nilList _ _ _) rfl
            · have getR : ∀ i, i < len → ∃ q, rows[i]? = some q := fun i hi => ⟨rows[i], List.getElem?_eq_getElem (by omega)⟩
              have cellAt : ∀ i j, i < len → j < (s :: r).length → ∃ c v, (∃ q, rows[i]? = some q ∧ q[j]? = some c) ∧ w.cell? ((a.add (i * (s :: r).length)).add j) = some v ∧ Rep (memOf w) noJ c v ∧ v.oneCell' = true := by
                intro i j hi hj
                obtain ⟨q, hq⟩ := getR i hi
                obtain ⟨h1, _, h3⟩ := hrows i q hq
                have hqj : q[j]? = some (q[j]'(by omega)) := List.getElem?_eq_getElem (by omega)
                obtain ⟨v, hv1, hv2⟩ := h3 j _ hqj
                exact ⟨_, v, ⟨q, hq, hqj⟩, hv1, hv2⟩
              obtain ⟨c0, v0, _, hv0, _, _⟩ := cellAt 0 0 (by omega) (by simp)
              have ha0 : (a.add (0 * (s :: r).length)).add 0 = a := by simp [Addr.add]
              rw [ha0] at hv0
              obtain ⟨csb, eb, frb, hb, hsp, _⟩ := cell_of_block hv0
              have ha : a = ⟨a.block, a.off, none⟩ := by cases a; simp_all
              have hadd : ∀ k j, (a.add k).add j = ⟨a.block, a.off + (k + j), none⟩ := by
                intro k j
                rw [ha, addr_add, addr_add, Nat.add_assoc]
              have hcell : ∀ i j, i < len → j < (s :: r).length → ∃ c v, (∃ q, rows[i]? = some q ∧ q[j]? = some c) ∧ csb[a.off + (i * (s :: r).length + j)]? = some v ∧ Rep (memOf w) noJ c v ∧ v.oneCell' = true := by
                intro i j hi hj
                obtain ⟨c, v, h1, h2, h3⟩ := cellAt i j hi hj
                rw [hadd] at h2
                refine ⟨c, v, h1, ?_, h3⟩
                rw [cell_block hb] at h2
                exact h2
              have hsz0 : 0 < (s :: r).length := by simp
              rw [ha]
              refine .one hfit (.list (s :: r).length rows a.block a.off cap len csb eb frb ⟨hrl.symm, hlc⟩ hb (fun i q hq => (hrows i q hq).1) ?_ (fun j v hj hv => ?_) (fun i q j c v hq hc hv => ?_)) rfl
              · obtain ⟨_, v, _, hv, _⟩ := hcell (len - 1) ((s :: r).length - 1) (by omega) (by omega)
                have := (Array.getElem?_eq_some_iff.1 hv).1
                have e1 : (len - 1) * (s :: r).length + (s :: r).length = len * (s :: r).length := by
                  rw [← Nat.succ_mul]; congr 1; omega
                rw [hrl]
                omega
              · rw [hrl] at hj
                have hi : j / (s :: r).length < len := (Nat.div_lt_iff_lt_mul hsz0).2 hj
                have hm : j % (s :: r).length < (s :: r).length := Nat.mod_lt _ hsz0
                obtain ⟨c, v', _, h2, _, h4⟩ := hcell _ _ hi hm
                have e1 : j / (s :: r).length * (s :: r).length + j % (s :: r).length = j := by rw [Nat.mul_comm]; exact Nat.div_add_mod _ _
                rw [e1, hv] at h2
                injection h2 with h2
                subst h2
                exact h4
              · have hi := (List.getElem?_eq_some_iff.1 hq).1
                have hj := (List.getElem?_eq_some_iff.1 hc).1
                rw [(hrows i q hq).1] at hj
                obtain ⟨c', v', ⟨q', h1, h1'⟩, h2, h3, _⟩ := hcell i j (by omega) hj
                rw [hq] at h1
                injection h1 with h1
                subst h1
                rw [hc] at h1'
                injection h1' with h1'
                subst h1'
                rw [← Nat.add_assoc, hv] at h2
                injection h2 with h2
                subst h2
                exact h3
        · cases hs
      · cases hs
    · rename_i fs ht
      split at hs
      · rename_i q hq
        split at hs
        · rename_i hce
          have hsz : P.cellsOf t = q.length := Nat.eq_of_beq_eq_true hce
          injection hs with hs; subst hs
          obtain ⟨xs, n, _, _, hl, hlen, hf⟩ := DataW.trod_struct ht h
          have := trod_okF d n fs.toList 0 cs q hq (by omega) (fun i f hi => by
            have h1 := hf i f (by simpa using hi)
            have hi' := (Array.getElem?_eq_some_iff.1 (show fs[i]? = some f by simpa using hi)).1
            have : xs[i]? = some (xs[i]'(by omega)) := List.getElem?_eq_getElem (by omega)
            exact ⟨_, h1.trans this⟩)
          rwa [List.drop_zero] at this
        · cases hs
      · cases hs
    · rename_i n e ht
      split at hs
      · rename_i r hr
        split at hs
        · rename_i hce
          simp only [Bool.and_eq_true] at hce
          have hsz : P.cellsOf e = r.length := Nat.eq_of_beq_eq_true hce.1
          have hst : P.cellsOf t = n * r.length := Nat.eq_of_beq_eq_true hce.2
          injection hs with hs; subst hs
          obtain ⟨m, hl, hel⟩ := trod_arr ht h
          have := CellsOK.rep (w := w) (r := r) n 0 cs (by rw [hl, hst, Nat.zero_add]) fun i hi => by
            obtain ⟨y, hy⟩ := hel i hi
            rw [Nat.zero_add, ← hsz]
            exact trod_ok d m e _ y r hy hr
          rwa [List.drop_zero] at this
        · cases hs
      · cases hs
    · cases hs
theorem trod_okF : ∀ (d n : Nat) (fs : List Field) (off : Nat) (cs : List Value) (q : List Sh), shpF P d off fs = some q → cs.length = off + q.length →
    (∀ (i : Nat) f, fs[i]? = some f → ∃ y, DataW.trod enc P w 0 (fun _ => true) true n f.type ((cs.drop f.offset).take (P.cellsOf f.type)) = some y) → CellsOK w q (cs.drop off)
  | 0, _, _, _, _, _, hs, _, _ => by simp [shpF] at hs
  | d + 1, n, [], off, cs, q, hs, hl, _ => by
    simp only [shpF, Option.some.injEq] at hs
    subst hs
    refine ⟨by simp at hl ⊢; omega, [], rfl, fun j s c h => by simp at h, fun j c v h => by simp at h⟩
  | d + 1, n, f :: fs, off, cs, q, hs, hl, hf => by
    simp only [shpF] at hs
    split at hs
    · rename_i r q' h1 h2
      split at hs
      · rename_i hb
        simp only [Bool.and_eq_true] at hb
        have e1 : f.offset = off := Nat.eq_of_beq_eq_true hb.1
        have e2 : P.cellsOf f.type = r.length := Nat.eq_of_beq_eq_true hb.2
        injection hs with hs; subst hs
        obtain ⟨y, hy⟩ := hf 0 f rfl
        rw [e1] at hy
        have k1 := trod_ok d n f.type _ y r hy h1
        have k2 := trod_okF d n fs (off + P.cellsOf f.type) cs q' h2 (by rw [e2]; simp at hl; omega) (fun i g hi => hf (i + 1) g (by simpa using hi))
        have := k1.append k2
        have e3 : (cs.drop off).take (P.cellsOf f.type) ++ cs.drop (off + P.cellsOf f.type) = cs.drop off := by
          rw [← List.drop_drop, List.take_append_drop]
        rwa [e3] at this
      · cases hs
    · cases hs
end
def shpArgs (P : Program) (d : Nat) : List TypeId → Option (List Sh)
  | [] => some []
  | t :: ts => match shp P d t, shpArgs P d ts with
    | some [s], some r => match P.underlying t with
      | some (.struct _) => none
      | some (.array _ _) => none
      | _ => some (s :: r)
    | _, _ => none
theorem trodAll_ok {d : Nat} : ∀ (ts : List TypeId) (row : List Sh) (vs : List Value) (ds : List (DataW H)) (ps : List MemPlace), DataW.TrodAll enc P w 0 (fun _ => true) true ts vs ds ps → shpArgs P d ts = some row →
    (∀ v ∈ vs, v.cells.toList = [v]) → CellsOK w row vs
  | [], row, [], _, _, _, hs, _ => by
    simp only [shpArgs, Option.some.injEq] at hs
    subst hs
    exact ⟨rfl, [], rfl, fun j s c h => by simp at h, fun j c v h => by simp at h⟩
  | t :: ts, row, v :: vs, d0 :: ds, ps, h, hs, hc => by
    obtain ⟨p, q, ⟨fuel, h1⟩, h2, _⟩ := h
    simp only [shpArgs] at hs
    split at hs
    · rename_i s r e1 e2
      split at hs
      · cases hs
      · cases hs
      · injection hs with hs; subst hs
        have k1 := trod_ok d fuel t _ _ _ h1 e1
        rw [hc v (List.mem_cons_self ..)] at k1
        have k2 := trodAll_ok ts r vs ds q h2 e2 fun u hu => hc u (List.mem_cons_of_mem _ hu)
        exact CellsOK.append k1 k2
    · cases hs
theorem Below.same {W W' : World} (h : ∀ (β : Nat) o, W.heap[β]? = some o → W'.heap[β]? = some o) (ho : W'.os = W.os) (ht : W'.tape = W.tape) (hu : W'.output = W.output) (hz : W.heap.size ≤ W'.heap.size) : Below W.heap.size W W' :=
  ⟨ho, ht, hu, hz, fun k hk => by rw [Array.getElem?_eq_getElem hk]; exact h k _ (Array.getElem?_eq_getElem hk)⟩
end
end Go.Av
namespace Go.Av
open Go.RowKit Go.WideShapes Go.ChangeShapes Go.ChangeAt
section
variable {H : Type} {enc : TypeId × Value → H} {P : Program}
theorem arg_one {w : World} {base : Nat} {t : TypeId} {v : Value} {d : Nat} {s : Sh} (hs : shp P d t = some [s]) (hn : ∀ fs, P.underlying t ≠ some (.struct fs)) (hn2 : ∀ n e, P.underlying t ≠ some (.array n e)) (h : Value.okWide P w .any base t v) : v.cells.toList = [v] := by
  cases v with
  | agg cs =>
    exfalso
    cases d with
    | zero => simp [shp] at hs
    | succ d =>
      simp only [shp] at hs
      split at hs
      · rename_i ht; simp [Value.okWide, ht, Cell.okWide, Cell.ok] at h
      · rename_i k ht; simp [Value.okWide, ht, Cell.okWide, Cell.ok] at h
      · rename_i ht; simp [Value.okWide, ht, Cell.okWide, Cell.ok] at h
      · rename_i k ht; simp [Value.okWide, ht, Cell.okWide, Cell.ok] at h
      · rename_i e ht; simp [Value.okWide, ht, Cell.okWide, Cell.ok] at h
      · rename_i fs ht; exact hn fs ht
      · rename_i n e ht; exact hn2 n e ht
      · cases hs
  | _ => rfl
theorem args_one {w : World} {base d : Nat} : ∀ (ts : List TypeId) (row : List Sh) (vs : List Value), shpArgs P d ts = some row → (∀ (j : Nat) t v, ts[j]? = some t → vs[j]? = some v → Value.okWide P w .any base t v) → vs.length ≤ ts.length → ∀ v ∈ vs, v.cells.toList = [v]
  | [], _, [], _, _, _, v, hv => by cases hv
  | [], _, _ :: _, _, _, hl, _, _ => by simp at hl
  | t :: ts, row, [], _, _, _, v, hv => by cases hv
  | t :: ts, row, u :: vs, hs, h, hl, v, hv => by
    simp only [shpArgs] at hs
    split at hs
    · rename_i s r e1 e2
      split at hs
      · cases hs
      · cases hs
      · rename_i hne hne2
        rcases List.mem_cons.1 hv with e | e
        · subst e
          exact arg_one e1 (fun fs hf => hne fs hf) (fun n e hf => hne2 n e hf) (h 0 t v rfl rfl)
        · exact args_one ts r vs e2 (fun j t v a b => h (j + 1) t v (by simpa using a) (by simpa using b)) (by simpa using hl) v e
    · cases hs
theorem trodAll_carry {w w' : World} : ∀ {ts : List TypeId} {vs : List Value} {ds : List (DataW H)} {ps : List MemPlace}, DataW.TrodAll enc P w 0 (fun _ => true) true ts vs ds ps → (∀ p ∈ ps, w.sameAt w' p) → DataW.TrodAll enc P w' 0 (fun _ => true) true ts vs ds ps
  | [], [], [], _, h, _ => h
  | t :: ts, v :: vs, d :: ds, ps, ⟨p, q, ⟨fuel, h1⟩, h2, e⟩, hs => by
    subst e
    exact ⟨p, q, ⟨fuel, DataW.trod_carry fuel t _ _ h1 fun x hx => hs x (List.mem_append_left _ hx)⟩, trodAll_carry h2 fun x hx => hs x (List.mem_append_right _ hx), rfl⟩
theorem post_of_grown {f : Func} {s : ChangeSpec} {W W' : World} {args : Array Value} {ds gs : List (DataW H)} {before : List MemPlace} {tb : TypeId}
    (hW : DataW.Whole enc P f.params.toList s.vars false W args.toList ds gs before) (hvars : s.vars = [])
    (hl : laidOutB P = true) (hm : mapsRowed P = true) (hz : ∀ t e, t < P.types.size → P.underlying t = some (.slice e) → 0 < P.cellsOf e) (hts : ∀ t ∈ f.params.toList, t < P.types.size)
    (hr : f.resultTypes = #[tb]) (htb : P.underlying tb = some .bool) (hres : (s.fn H (ds ++ gs)).results = [.lit (.bool true)]) (hargs : (s.fn H (ds ++ gs)).args = ds) (hv : (s.fn H (ds ++ gs)).vars = []) (hb : Below W.heap.size W W') :
    s.post enc P f false true false false W args (.bool true) W' := by
  have hlt : ∀ p ∈ before, p.block < W.heap.size := fun p hp => hW.lt p hp
  have hold : ∀ p ∈ before, (fun b => decide (b < W.heap.size)) p.block = true := fun p hp => by simpa using hlt p hp
  obtain ⟨p, q, h1, h2, e, hzf, hn⟩ := hW
  have hq : gs = [] ∧ q = [] := by
    rw [hvars] at h2
    cases gs with
    | nil => exact ⟨rfl, h2⟩
    | cons => exact h2.elim
  obtain ⟨rfl, rfl⟩ := hq
  rw [List.append_nil] at e
  subst e
  have hsame : ∀ p ∈ before, W.sameAt W' p := fun p hp => by
    cases p with
    | cell b off => exact hb.cell (p := ⟨b, off, none⟩) (hlt _ hp)
    | map b => exact hb.block b (hlt _ hp)
  have hc := trodAll_carry h1 hsame
  have hcs : ∀ sp : Nat → Bool, (∀ p ∈ before, sp p.block = true) → DataW.TrodAll enc P W' 0 sp true f.params.toList args.toList (s.fn H (ds ++ [])).args before := fun sp hsp => by
    rw [hargs]
    exact DataW.TrodAll.respare (kids_rows hl hm) hz hts hc hsp
  have hvs : ∀ sp : Nat → Bool, DataW.TrodVars enc P W' sp s.vars (s.fn H (ds ++ [])).vars [] := fun sp => by
    rw [hvars, hv]
    rfl
  have hrs : ∀ (b : Nat) (sp : Nat → Bool) (hd : Bool), DataW.TrodAll enc P W' b sp hd f.resultTypes.toList ((Value.bool true).resultList f.resultTypes.size) (s.fn H (ds ++ [])).results [] := fun b sp hd => by
    rw [hres, hr]
    exact trodAll_mk1 (shut_bool htb true)
  refine ⟨ds, [], before, [], before, [], ⟨before, [], h1, h2, by simp, hzf, hn⟩, hrs _ _ _, hcs _ hold, hvs _, World.keptBut_mono (fun p hp => ⟨hp, .inr (.inl hp)⟩) (hb.frame (· ∈ before)), fun _ => ?_⟩
  refine ⟨ok_one hr rfl (okWide_bool_mk htb true), _, _, ([] ++ before) ++ [], ⟨[] ++ before, [], trodAll_append (hcs _ (fun _ _ => rfl)) (hrs _ _ _), hvs _, rfl, ?_, ?_⟩, ?_⟩
  · intro b off hp
    have hin : MemPlace.cell b off ∈ before := by simpa using hp
    rw [hb.frozen (hlt _ hin)]
    exact hzf b off hin
  · intro ha
    cases ha
  · intro p hp _
    simpa using hp
theorem law_calls {f : FuncId} {fn : Func} {s : ChangeSpec} {row : List Sh} {d : Nat} {tb : TypeId} (hs : shpArgs P d fn.params.toList = some row) (hvars : s.vars = [])
    (hl : laidOutB P = true) (hm : mapsRowed P = true) (hz : ∀ t e, t < P.types.size → P.underlying t = some (.slice e) → 0 < P.cellsOf e) (hts : ∀ t ∈ fn.params.toList, t < P.types.size)
    (hr : fn.resultTypes = #[tb]) (htb : P.underlying tb = some .bool)
    (hspec : ∀ ds : List (DataW H), ds.length = fn.params.size → (s.fn H ds).results = [.lit (.bool true)] ∧ (s.fn H ds).args = ds ∧ (s.fn H ds).vars = [])
    (hc : ∀ avs : List AV, avs.length = row.length → (∀ (j : Nat) t c, row[j]? = some t → avs[j]? = some c → Fit t c) → CallOK P f avs [] fun res _ => res = .sc (.bool true))
    {W : World} {base : Nat} {args : Array Value} {ds gs : List (DataW H)} {before : List MemPlace}
    (hval : ∀ (j : Nat) t v, fn.params[j]? = some t → args[j]? = some v → Value.okWide P W .any base t v) (hW : DataW.Whole enc P fn.params.toList s.vars false W args.toList ds gs before) :
    Calls P f args W fun e W' => ∃ v, e = .returned v ∧ s.post enc P fn false true false false W args v W' := by
  have hW0 := hW
  obtain ⟨p, q, h1, h2, e, hzf, hn⟩ := hW
  obtain ⟨l1, l2⟩ := trodAll_length h1
  have hgs : gs = [] := by
    rw [hvars] at h2
    cases gs with
    | nil => rfl
    | cons => exact h2.elim
  subst hgs
  have hone := args_one fn.params.toList row args.toList hs (fun j t v a b => hval j t v (by simpa using a) (by simpa using b)) (by omega)
  obtain ⟨hlen, avs, e1, e2, e3⟩ := trodAll_ok fn.params.toList row args.toList ds p h1 hs hone
  refine ((hc avs e1 e2).2 (memOf W) noJ W args (by simp at hlen; omega) (fun j c v a b => (e3 j c v a (by simpa using b)).1) (noJ_rep _ _) (memOf_rep W)).mono ?_
  rintro e W' ⟨v, M', J', res, H', rfl, hst, hrep, rfl⟩
  cases hrep
  obtain ⟨r1, r2, r3⟩ := hspec ds (by simp at l1 l2 ⊢; omega)
  refine ⟨.bool true, rfl, post_of_grown hW0 hvars hl hm hz hts hr htb (by rw [List.append_nil]; exact r1) (by rw [List.append_nil]; exact r2) (by rw [List.append_nil]; exact r3) ?_⟩
  exact Below.same (fun β o h => hst.mrep β o (hst.m β o h)) hst.os hst.tape hst.output hst.size
end
end Go.Av
namespace Go.Av
theorem open_i64 {a : AV} (h : Fit (.int .i64) a) : ∃ n : Int, a = .sc (.int .i64 n) ∧ -9223372036854775808 ≤ n ∧ n ≤ 9223372036854775807 := by
  cases h with
  | int k n h =>
    have e1 : IntKind.i64.min = -9223372036854775808 := rfl
    have e2 : IntKind.i64.max = 9223372036854775807 := rfl
    simp only [Lit.wf, Bool.and_eq_true, decide_eq_true_eq, e1, e2] at h
    exact ⟨n, rfl, h.1, h.2⟩
theorem open_bool' {a : AV} (h : Fit .bool a) : ∃ b : Bool, a = .sc (.bool b) := by
  cases h with
  | bool b => exact ⟨b, rfl⟩
theorem open_rows {α : Type} {row : List Sh} {a : AV} (h : Fit (.slice row) a) (f : α → List AV) (ok : α → Prop) (each : ∀ r : List AV, r.length = row.length → (∀ (j : Nat) s c, row[j]? = some s → r[j]? = some c → Fit s c) → ∃ x, r = f x ∧ ok x) :
    ∃ l : List α, a = .list row.length (l.map f) ∧ l.length ≤ maxLen ∧ ∀ x ∈ l, ok x := by
  cases h with
  | slice _ rows hl hr h =>
    have key : ∀ rows : List (List AV), (∀ r ∈ rows, r.length = row.length) → (∀ r ∈ rows, ∀ (j : Nat) s c, row[j]? = some s → r[j]? = some c → Fit s c) → ∃ l : List α, rows = l.map f ∧ ∀ x ∈ l, ok x := by
      intro rows
      induction rows with
      | nil => exact fun _ _ => ⟨[], rfl, fun x hx => by cases hx⟩
      | cons r rows ih =>
        intro hr h
        obtain ⟨x, hx, hok⟩ := each r (hr r (List.mem_cons_self ..)) (h r (List.mem_cons_self ..))
        obtain ⟨l, hl, hoks⟩ := ih (fun q hq => hr q (List.mem_cons_of_mem _ hq)) (fun q hq => h q (List.mem_cons_of_mem _ hq))
        refine ⟨x :: l, by rw [hx, hl]; rfl, fun y hy => ?_⟩
        rcases List.mem_cons.1 hy with e | e
        · subst e; exact hok
        · exact hoks y e
    obtain ⟨l, e, hok⟩ := key rows hr h
    subst e
    exact ⟨l, rfl, by simpa using hl, hok⟩
theorem open_ints' {a : AV} (h : Fit (.slice [.int .i64]) a) : ∃ l : List Int, a = .list 1 (l.map fun n => [.sc (.int .i64 n)]) ∧ l.length ≤ maxLen ∧ ∀ n ∈ l, -9223372036854775808 ≤ n ∧ n ≤ 9223372036854775807 :=
  open_rows h (fun n => [.sc (.int .i64 n)]) (fun n => -9223372036854775808 ≤ n ∧ n ≤ 9223372036854775807) fun r hl hf => by
    match r, hl with
    | [x], _ =>
      obtain ⟨n, rfl, hn⟩ := open_i64 (hf 0 _ x rfl rfl)
      exact ⟨n, rfl, hn⟩
end Go.Av
namespace Go.Av
def lowS (k g i : Nat) : Option (Nat × Nat) := match Nat.blt g k && Nat.beq i 0 with
  | true => some (g, i)
  | false => none
def LoB (k : Nat) (x : Blk) : Prop := x.live = true ∧ RenB (lowS k) x x
theorem LoB.pure {k : Nat} {x : Blk} (h : PureB x) : LoB k x := ⟨h.live, h.ren⟩
end Go.Av
namespace Go.Av
theorem Ren.weaken {ρ ρ' : Nat → Nat → Option (Nat × Nat)} {a b : AV} (h : Ren ρ a b) (hw : ∀ g i p, ρ g i = some p → ρ' g i = some p) : Ren ρ' a b := by
  induction h with
  | undef a => exact .undef a
  | sc v => exact .sc v
  | agg xs ys hl _ ih => exact .agg xs ys hl ih
  | tup xs ys hl _ ih => exact .tup xs ys hl ih
  | list sz rows rows' hl hr _ ih => exact .list sz rows rows' hl hr ih
  | cptr xs ys hl _ ih => exact .cptr xs ys hl ih
  | tmap es es' hl hk _ ih => exact .tmap es es' hl hk ih
  | ptr g i g' i' row off h => exact .ptr g i g' i' row off (hw _ _ _ h)
  | hsl g i g' i' start len h => exact .hsl g i g' i' start len (hw _ _ _ h)
  | mref g i g' i' h => exact .mref g i g' i' (hw _ _ _ h)
  | clo fn fs cs fs' cs' h1 h2 _ _ ih1 ih2 => exact .clo fn fs cs fs' cs' h1 h2 ih1 ih2
  | yld g i g' i' h => exact .yld g i g' i' (hw _ _ _ h)
theorem RenB.weaken {ρ ρ' : Nat → Nat → Option (Nat × Nat)} {x y : Blk} (h : RenB ρ x y) (hw : ∀ g i p, ρ g i = some p → ρ' g i = some p) : RenB ρ' x y := by
  cases h with
  | dead => exact .dead _
  | cells sz rows rows' hl hr h => exact .cells sz rows rows' hl hr fun i r r' j x y a b c d => (h i r r' j x y a b c d).weaken hw
  | map es es' hl hk h => exact .map es es' hl hk fun j x y a b => (h j x y a b).weaken hw
  | lp L caps caps' st pe h => exact .lp L caps caps' st pe fun x hx => (h x hx).weaken hw
  | it cur es h hc => exact .it cur es h hc
theorem DK.gs {P : Program} {base j : Nat} {xs : List IOper} {fr : Fr} {H : Heap} {acc : List RRec} {K : List RRec → Fr → Heap → Prop} {c : Bool} (h1 : c = true → DK P base j xs fr H acc K) (h2 : c = false → DK P base j xs fr H acc K) : DK P base j xs fr H acc K := by
  cases c with
  | true => exact h1 rfl
  | false => exact h2 rfl
theorem dstep_mk {g i : Nat} {fr : Fr} {H : Heap} {sz bytes : Nat} {z : List (Nat × Value)} {x : Operand} {n : Nat} (hx : ev fr x = .sc (.int .i64 (n : Int))) (h1 : bytes * n ≤ 70368744177664) (h2 : n ≤ 1073741824) :
    dstep g i (.makeSlice sz bytes z x) fr H = some (.hsl g i 0 n, hset H g i (.cells sz (List.replicate n (zrow z)))) := by
  have e1 : Nat.ble (bytes * n) 70368744177664 = true := by simpa using h1
  have e2 : Nat.ble n 1073741824 = true := by simpa using h2
  simp only [dstep, hx]
  show (match Nat.ble (bytes * n) 70368744177664 && Nat.ble n 1073741824 with
    | true => some (AV.hsl g i 0 n, hset H g i (.cells sz (List.replicate n (zrow z))))
    | false => none) = _
  rw [e1, e2]
  rfl
theorem Reg.cv {P : Program} {N k : Nat} {xs : List IOper} {fr : Fr} {H : Heap} {K : Fr → Heap → Prop} {d : Nat} {gd : Option (Nat × Bool)} {f : Operand} {args : List Operand} {g : FuncId} {fs cs : List AV} (hk : k ≤ H.length) (hg : gok fr gd = some true) (hf : ev fr f = .clo (.func g) fs cs)
    (h : CallOK P g (fs ++ avals fr args ++ cs) H fun res H' => Reg P N k xs ((d, res) :: fr) H' K) : Reg P N k (⟨some d, gd, .callV f args⟩ :: xs) fr H K :=
  Reg.callV (x := ⟨some d, gd, .callV f args⟩) hk hg rfl hf h
def row1 (n : Nat) (f : Nat → AV) : List (List AV) := (List.range n).map fun k => [f k]
theorem row1_get {n k : Nat} {f : Nat → AV} (h : k < n) : (row1 n f)[k]? = some [f k] := by simp [row1, h]
theorem row1_len (n : Nat) (f : Nat → AV) : (row1 n f).length = n := by simp [row1]
theorem row1_some {n k : Nat} {f : Nat → AV} {r : List AV} (h : (row1 n f)[k]? = some r) : k < n ∧ r = [f k] := by
  have hk := (List.getElem?_eq_some_iff.1 h).1
  rw [row1_len] at hk
  rw [row1_get hk] at h
  exact ⟨hk, by injection h with h; exact h.symm⟩
theorem RenB.row1 {ρ : Nat → Nat → Option (Nat × Nat)} {n : Nat} {f f' : Nat → AV} (h : ∀ k, k < n → Ren ρ (f k) (f' k)) : RenB ρ (.cells 1 (row1 n f)) (.cells 1 (row1 n f')) := by
  refine .cells 1 _ _ (by rw [row1_len, row1_len]) (fun i r r' a b => ?_) fun i r r' j x y a b c d => ?_
  · obtain ⟨_, rfl⟩ := row1_some a
    obtain ⟨_, rfl⟩ := row1_some b
    rfl
  · obtain ⟨h1, rfl⟩ := row1_some a
    obtain ⟨_, rfl⟩ := row1_some b
    cases j with
    | zero => simp at c d; subst c; subst d; exact h i h1
    | succ j => simp at c
theorem CongB.row1 {T : AV → AV → Prop} {n : Nat} {f f' : Nat → AV} (h : ∀ k, k < n → Cong T (f k) (f' k)) : CongB T (.cells 1 (row1 n f)) (.cells 1 (row1 n f')) := by
  refine .cells 1 _ _ (by rw [row1_len, row1_len]) (fun i r r' a b => ?_) fun i r r' j x y a b c d => ?_
  · obtain ⟨_, rfl⟩ := row1_some a
    obtain ⟨_, rfl⟩ := row1_some b
    rfl
  · obtain ⟨h1, rfl⟩ := row1_some a
    obtain ⟨_, rfl⟩ := row1_some b
    cases j with
    | zero => simp at c d; subst c; subst d; exact h i h1
    | succ j => simp at c
end Go.Av
namespace Go.Av
def s3 (g _ : Nat) : Bool := Nat.ble 3 g
theorem RenB.one {ρ : Nat → Nat → Option (Nat × Nat)} {sz : Nat} {xs ys : List AV} (h : RenArgs ρ xs ys) : RenB ρ (.cells sz [xs]) (.cells sz [ys]) := by
  obtain ⟨h1, h2⟩ := h.spec
  refine .cells sz _ _ rfl (fun i r r' a b => ?_) fun i r r' j x y a b c d => ?_
  · have e1 : r = xs := List.mem_singleton.1 (List.mem_of_getElem? a)
    have e2 : r' = ys := List.mem_singleton.1 (List.mem_of_getElem? b)
    subst e1; subst e2
    exact h1
  · have e1 : r = xs := List.mem_singleton.1 (List.mem_of_getElem? a)
    have e2 : r' = ys := List.mem_singleton.1 (List.mem_of_getElem? b)
    subst e1; subst e2
    exact h2 j x y c d
end Go.Av
