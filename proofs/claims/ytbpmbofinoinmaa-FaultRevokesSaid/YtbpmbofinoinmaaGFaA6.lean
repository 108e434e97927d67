import Derived.Test.YtbpmbofinoinmaaGFaNews
import Derived.Test.YtbpmbofinoinmaaGAvU
import Derived.Test.YtbpmbofinoinmaaGFaX42
import Derived.Test.YtbpmbofinoinmaaGFaC
import Derived.Test.YtbpmbofinoinmaaGAvR
namespace Go.Proofs.Ytbpmbofinoinmaa
open Go.Av Go.Proofs
theorem pigeon : ∀ (v : Nat) (L : List Nat) (f : Nat → Nat), (∀ u, u < v → f u ∈ L) → (∀ a b, a < v → b < v → f a = f b → a = b) → v ≤ L.length
 | 0, _, _, _, _ => Nat.zero_le _
 | v + 1, L, f, h1, h2 => by
  have hm := h1 v (Nat.lt_succ_self v)
  have ih := pigeon v (L.erase (f v)) f (fun u hu => (List.mem_erase_of_ne (fun e => by have := h2 u v (by omega) (by omega) e; omega)).2 (h1 u (by omega))) (fun a b ha hb => h2 a b (by omega) (by omega))
  have hl := List.length_erase_of_mem hm
  have hp := List.length_pos_of_mem hm
  omega
structure NInv (l : List C) (n src : Nat) (r : Int) (out : List Int) : Prop where
 len : out.length = n
 lt : ∀ v ∈ out, v < r
 chain : ∀ (j : Nat) v, out[j]? = some v → 0 < v → ∃ k : Nat, out[k]? = some (v - 1)
 spread : ∀ (k : Nat) v, out[k]? = some v → 0 ≤ v → v < r - 1 → findC l k = none → ∀ j : Nat, j < n → findC l j = none → ∃ w, out[j]? = some w ∧ 0 ≤ w ∧ w ≤ v + 1
 src0 : out[src]? = some 0
 zero : ∀ j : Nat, out[j]? = some 0 → j = src
theorem refStep_get {l : List C} {r : Int} {out : List Int} {j : Nat} {v : Int} (hj : out[j]? = some v) : (refStep l r out)[j]? = some (if rNext l r out out.length j = true then r else v) := by
 have hlt := (List.getElem?_eq_some_iff.1 hj).1
 unfold refStep nextL
 rw [List.getElem?_map, List.getElem?_range hlt]
 show some (if _ then r else (out[j]?).getD 0) = _
 rw [hj]
 rfl
theorem refStep_keep {l : List C} {r : Int} {out : List Int} {j : Nat} {v : Int} (hj : out[j]? = some v) (hv : 0 ≤ v) : (refStep l r out)[j]? = some v := by
 rw [refStep_get hj, if_neg]
 intro h
 have := (rNext_imp h).1
 rw [hj] at this
 exact absurd this (by simp; omega)
theorem refStep_back {l : List C} {r : Int} {out : List Int} {j : Nat} {v : Int} (hj : (refStep l r out)[j]? = some v) : out[j]? = some v ∨ (v = r ∧ rNext l r out out.length j = true) := by
 have hlt := (List.getElem?_eq_some_iff.1 hj).1
 rw [refStep_len] at hlt
 rw [refStep_get (List.getElem?_eq_getElem hlt)] at hj
 split at hj
 ·rename_i h
  injection hj with hj
  exact .inr ⟨hj.symm, h⟩
 ·injection hj with hj
  left
  rw [← hj, List.getElem?_eq_getElem hlt]
theorem rNext_send {l : List C} {r : Int} {out : List Int} {j : Nat} (h : rNext l r out out.length j = true) : ∃ q : Nat, out[q]? = some (r - 1) := by
 unfold rNext at h
 rw [List.any_eq_true] at h
 obtain ⟨q, hq, h⟩ := h
 have hq := List.mem_range.1 hq
 unfold rHear at h
 simp only [Bool.and_eq_true] at h
 have h1 := h.1
 unfold rSend at h1
 simp only [Bool.and_eq_true] at h1
 have h2 := of_decide_eq_true h1.1
 refine ⟨q, ?_⟩
 rw [List.getElem?_eq_getElem hq] at h2 ⊢
 rw [← h2]
 rfl
theorem lives_none {l : List C} {i : Int} (h : findC l i = none) (r : Int) : livesS l i r = true := by unfold livesS; rw [h]
theorem reachB_none {l : List C} {i j : Nat} (h : findC l i = none) (r : Int) : reachB l i j r = true := by unfold reachB; rw [h]
theorem rNext_of {l : List C} {r : Int} {out : List Int} {k j : Nat} {v : Int} (hk : out[k]? = some (r - 1)) (hr : 1 ≤ r) (sk : findC l k = none) (hj : out[j]? = some v) (hv : v < 0) (sj : findC l j = none) : rNext l r out out.length j = true := by
 have hkl := (List.getElem?_eq_some_iff.1 hk).1
 have hne : ¬ j = k := by
  intro e
  subst e
  rw [hk] at hj
  injection hj with hj
  omega
 unfold rNext
 rw [List.any_eq_true]
 refine ⟨k, List.mem_range.2 hkl, ?_⟩
 unfold rHear rSend
 rw [hk, hj, lives_none sk, lives_none sj, reachB_none sk]
 simp [hne, hv]
theorem NInv.step {l : List C} {n src : Nat} {r : Int} {out : List Int} (hr : 1 ≤ r) (h : NInv l n src r out) : NInv l n src (r + 1) (refStep l r out) := by
 refine ⟨by rw [refStep_len, h.len], fun v hv => ?_, fun j v hj hv => ?_, fun k v hk h0 h1 sk j hj sj => ?_, refStep_keep h.src0 (Int.le_refl _), fun j hj => ?_⟩
 ·obtain ⟨j, hj⟩ := List.mem_iff_getElem?.1 hv
  rcases refStep_back hj with h1 | ⟨h1, _⟩
  ·have := h.lt v (List.mem_of_getElem? h1); omega
  ·omega
 ·rcases refStep_back hj with h1 | ⟨h1, h2⟩
  ·obtain ⟨k, hk⟩ := h.chain j v h1 hv
   exact ⟨k, refStep_keep hk (by omega)⟩
  ·obtain ⟨q, hq⟩ := rNext_send h2
   subst h1
   exact ⟨q, refStep_keep hq (by omega)⟩
 ·rcases refStep_back hk with h2 | ⟨h2, h3⟩
  ·by_cases e : v < r - 1
   ·obtain ⟨w, hw, w0, w1⟩ := h.spread k v h2 h0 e sk j hj sj
    exact ⟨w, refStep_keep hw w0, w0, w1⟩
   ·have e : v = r - 1 := by omega
    subst e
    have hjo : j < out.length := by rw [h.len]; exact hj
    have hg := List.getElem?_eq_getElem hjo
    by_cases hn : out[j] < 0
    ·refine ⟨r, ?_, by omega, by omega⟩
     rw [refStep_get hg, if_pos (rNext_of h2 hr sk hg hn sj)]
    ·have := h.lt out[j] (List.getElem_mem hjo)
     exact ⟨out[j], refStep_keep hg (by omega), by omega, by omega⟩
  ·omega
 ·rcases refStep_back hj with h1 | ⟨h1, _⟩
  ·exact h.zero j h1
  ·omega
theorem NInv.init (l : List C) {n src : Nat} (h : src < n) : NInv l n src 1 (news0 n src) := by
 have hg : ∀ j : Nat, (news0 n src)[j]? = if j < n then some (if j = src then 0 else -1) else none := by
  intro j
  unfold news0
  rw [List.getElem?_set]
  by_cases e : src = j
  ·subst e; simp [h]
  ·have e' : ¬ j = src := fun h => e h.symm
   rw [if_neg e]
   simp [List.getElem?_replicate, e']
 refine ⟨by simp [news0], fun v hv => ?_, fun j v hj hv => ?_, fun k v hk h0 h1 => (by omega), by rw [hg, if_pos h, if_pos rfl], fun j hj => ?_⟩
 ·rcases List.mem_or_eq_of_mem_set hv with h | h
  ·have := (List.mem_replicate.1 h).2; omega
  ·omega
 ·rw [hg] at hj
  split at hj
  ·injection hj with hj
   split at hj <;> omega
  ·cases hj
 ·rw [hg] at hj
  split at hj
  ·injection hj with hj
   split at hj
   ·assumption
   ·omega
  ·cases hj
structure NEnd (l : List C) (n src : Nat) (out : List Int) : Prop where
 len : out.length = n
 chain : ∀ (j : Nat) v, out[j]? = some v → 0 < v → ∃ k : Nat, out[k]? = some (v - 1)
 spread : ∀ (k : Nat) v, out[k]? = some v → 0 ≤ v → findC l k = none → ∀ j : Nat, j < n → findC l j = none → ∃ w, out[j]? = some w ∧ 0 ≤ w ∧ w ≤ v + 1
 src0 : out[src]? = some 0
 zero : ∀ j : Nat, out[j]? = some 0 → j = src
theorem NInv.fin {l : List C} {n src : Nat} {r : Int} {out : List Int} (h : NInv l n src r out) (hs : sentN n l r out = false) : NEnd l n src out := by
 refine ⟨h.len, h.chain, fun k v hk h0 sk => ?_, h.src0, h.zero⟩
 refine h.spread k v hk h0 ?_ sk
 have h1 := h.lt v (List.mem_of_getElem? hk)
 have hkl := (List.getElem?_eq_some_iff.1 hk).1
 have hne : v ≠ r - 1 := by
  intro e
  subst e
  rw [← h.len, any_eq] at hs
  unfold rAny at hs
  rw [List.any_eq_false] at hs
  refine hs k (List.mem_range.2 hkl) ?_
  unfold rSend
  rw [hk, lives_none sk]
  simp
 omega
theorem newsGo_end {l : List C} {n src : Nat} : ∀ (f : Nat) (r : Int) (out : List Int), 1 ≤ r → cnt out + flg r out + 1 ≤ f → NInv l n src r out → NEnd l n src (newsGo n l f r out).1
 | 0, _, _, _, h, _ => by omega
 | f + 1, r, out, hr, hc, h => by
  cases e : sentN n l r out with
  | false =>
   unfold newsGo
   rw [e, if_neg (by decide)]
   exact h.fin e
  | true =>
   obtain ⟨h1, _⟩ := next_less (n := n) (l := l) hr h.lt
   have h3 := flg_of_sent e
   have h4 := h.step hr
   rw [← step_eq, h.len] at h4
   unfold newsGo
   rw [e, if_pos rfl]
   exact newsGo_end f (r + 1) _ (by omega) (by omega) h4
theorem newsEnd (n src : Nat) (l : List C) (h : src < n) : NEnd l n src (newsGo n l (n + 2) 1 (news0 n src)).1 := by
 refine newsGo_end _ _ _ (by omega) ?_ (.init l h)
 have h1 : cnt (news0 n src) ≤ n := by
  unfold cnt
  exact Nat.le_trans (List.length_filter_le _ _) (by simp [news0])
 have h2 : flg 1 (news0 n src) ≤ 1 := by unfold flg; split <;> omega
 omega
theorem NEnd.all {l : List C} {n src : Nat} {out : List Int} (h : NEnd l n src out) : ∀ (v : Nat) (j : Nat), out[j]? = some (v : Int) → ∀ u : Nat, u ≤ v → ∃ k : Nat, out[k]? = some (u : Int)
 | 0, j, hj, u, hu => ⟨j, by rw [hj, show u = 0 by omega]⟩
 | v + 1, j, hj, u, hu => by
  by_cases e : u = v + 1
  ·subst e; exact ⟨j, hj⟩
  ·obtain ⟨k, hk⟩ := h.chain j _ hj (by omega)
   rw [show ((v + 1 : Nat) : Int) - 1 = (v : Int) by omega] at hk
   exact h.all v k hk u (by omega)
theorem NEnd.early {l : List C} {n src : Nat} {out : List Int} (h : NEnd l n src out) : ∀ (N v : Nat) (k : Nat), v ≤ N → out[k]? = some (v : Int) → findC l k = none → ∃ (m w : Nat), out[m]? = some (w : Int) ∧ findC l m = none ∧ w ≤ l.length
 | 0, v, k, hv, hk, sk => ⟨k, v, hk, sk, by omega⟩
 | N + 1, v, k, hv, hk, sk => by
  by_cases e : ∃ (m w : Nat), w < v ∧ out[m]? = some (w : Int) ∧ findC l m = none
  ·obtain ⟨m, w, h1, h2, h3⟩ := e
   exact h.early N w m (by omega) h2 h3
  ·refine ⟨k, v, hk, sk, ?_⟩
   have hf : ∃ f : Nat → Nat, ∀ u, u < v → out[f u]? = some (u : Int) := by
    refine ⟨fun u => if hu : u < v then (h.all v k hk u (by omega)).choose else 0, fun u hu => ?_⟩
    simp only [dif_pos hu]
    exact (h.all v k hk u (by omega)).choose_spec
   obtain ⟨f, hf⟩ := hf
   have := pigeon v (l.map fun c => c.rank.toNat) f (fun u hu => ?_) (fun a b ha hb hab => ?_)
   ·simpa using this
   ·cases e2 : findC l (f u) with
    | none => exact absurd ⟨f u, u, hu, hf u hu, e2⟩ e
    | some c =>
     obtain ⟨h1, h2⟩ := findC_mem e2
     exact List.mem_map.2 ⟨c, h1, by rw [h2]; rfl⟩
   ·have h1 := hf a ha
    rw [hab, hf b hb] at h1
    injection h1 with h1
    omega
theorem NEnd.bound {l : List C} {n src : Nat} {out : List Int} (h : NEnd l n src out) {k : Nat} {v : Int} (hk : out[k]? = some v) (hv : 0 ≤ v) (sk : findC l k = none) (j : Nat) (hj : j < n) (sj : findC l j = none) : ∃ w, out[j]? = some w ∧ 0 ≤ w ∧ w ≤ l.length + 1 := by
 obtain ⟨v, rfl⟩ : ∃ m : Nat, v = m := ⟨v.toNat, by omega⟩
 obtain ⟨m, w, h1, h2, h3⟩ := h.early v v k (Nat.le_refl _) hk sk
 obtain ⟨x, hx, x0, x1⟩ := h.spread m w h1 (by omega) h2 j hj sj
 exact ⟨x, hx, x0, by omega⟩
def goneB (l : List C) (k : Nat) : Bool := (findC l k).isSome
def goneR (n : Nat) (l : List C) : List (List AV) := row1 n fun k => .sc (.bool (goneB l k))
def firstN (l : List C) : Nat := (l.filter fun c => decide (c.round = 0)).length
def crashedV (n : Nat) (l : List C) : AV := .tup [.list 1 (goneR n l), .sc (.int .i64 (firstN l))]
theorem pure_row1 {n : Nat} {f : Nat → AV} (h : ∀ k, Pure (f k)) : ∀ r ∈ row1 n f, ∀ c ∈ r, Pure c := by
 intro r hr c hc
 obtain ⟨k, _, rfl⟩ := List.mem_map.1 hr
 rw [List.mem_singleton.1 hc]
 exact h k
theorem pure_goneR (n : Nat) (l : List C) : ∀ r ∈ goneR n l, ∀ c ∈ r, Pure c := pure_row1 fun _ => .sc _
theorem pure_crashed (n : Nat) (l : List C) : Pure (crashedV n l) := .tup _ (allPure_cons (.list _ _ (pure_goneR n l)) (allPure_cons (.sc _) allPure_nil))
theorem good_len {n : Nat} {l : List C} (h : checkS n l = 0) : l.length ≤ 64 := by
 obtain ⟨⟨h1, h2⟩, hg, hd⟩ := check_zero h
 have := pigeon l.length (List.range n) (fun k => ((l[k]?).map fun c => c.rank.toNat).getD 0) (fun u hu => ?_) (fun a b ha hb hab => ?_)
 ·rw [List.length_range] at this; omega
 ·have h3 := hg l[u] (List.getElem_mem hu)
  have h4 := h3.r0
  have h5 := h3.r1
  rw [List.getElem?_eq_getElem hu]
  exact List.mem_range.2 (by show l[u].rank.toNat < n; omega)
 ·rw [List.getElem?_eq_getElem ha, List.getElem?_eq_getElem hb] at hab
  have hab : l[a].rank.toNat = l[b].rank.toNat := hab
  have ra := (hg l[a] (List.getElem_mem ha)).r0
  have rb := (hg l[b] (List.getElem_mem hb)).r0
  have key : ∀ x y : Nat, (hx : x < l.length) → (hy : y < l.length) → l[x].rank = l[y].rank → ¬ x < y := by
   intro x y hx hy e hlt
   have h6 := hd y l[y] (List.getElem?_eq_getElem hy)
   unfold findC at h6
   rw [List.find?_eq_none] at h6
   refine h6 l[x] (List.mem_iff_getElem?.2 ⟨x, ?_⟩) (by simp [e])
   rw [List.getElem?_take, if_pos hlt, List.getElem?_eq_getElem hx]
  have e : l[a].rank = l[b].rank := by omega
  have k1 := key a b ha hb e
  have k2 := key b a hb ha e.symm
  omega
def sv (l : List C) (j : Nat) : Bool := !goneB l j
structure Pr where
 w : Nat → Bool
 h : Nat → Bool
 dec : Int
 done : Bool
structure Msg where
 w : Nat → Bool
 fin : Bool
def prRow (p : Pr) : List AV := bset 64 p.w ++ (bset 64 p.h ++ [.sc (.int .i64 p.dec), .sc (.bool p.done)])
def procsB (ps : List Pr) : Blk := .cells 130 (ps.map prRow)
def msgRow (m : Msg) : List AV := bset 64 m.w ++ [.sc (.bool m.fin)]
theorem pr_len (p : Pr) : (prRow p).length = 130 := by simp [prRow, bset_len]
theorem pure_prRow (p : Pr) : ∀ c ∈ prRow p, Pure c := by
 intro c hc
 unfold prRow at hc
 rcases List.mem_append.1 hc with h | h
 ·exact pure_bset _ _ c h
 ·rcases List.mem_append.1 h with h | h
  ·exact pure_bset _ _ c h
  ·exact allPure_cons (.sc _) (allPure_cons (.sc _) allPure_nil) c h
theorem pure_procs (ps : List Pr) : ∀ r ∈ ps.map prRow, ∀ c ∈ r, Pure c := allPure_map pure_prRow ps
theorem msg_len (m : Msg) : (msgRow m).length = 65 := by simp [msgRow, bset_len]
theorem pure_msgRow (m : Msg) : ∀ c ∈ msgRow m, Pure c := by
 intro c hc
 unfold msgRow at hc
 rcases List.mem_append.1 hc with h | h
 ·exact pure_bset _ _ c h
 ·exact allPure_cons (.sc _) allPure_nil c h
theorem splice_left {α : Type} : ∀ (l vs m : List α), vs.length = l.length → lsplice (l ++ m) 0 vs = vs ++ m
 | [], [], m, _ => by cases m <;> rfl
 | [], _ :: _, _, h => by simp at h
 | _ :: _, [], _, h => by simp at h
 | x :: l, v :: vs, m, h => by
  show v :: lsplice (l ++ m) 0 vs = _
  rw [splice_left l vs m (by simpa using h)]
  rfl
theorem splice_right {α : Type} : ∀ (l m vs : List α) (k : Nat), lsplice (l ++ m) (l.length + k) vs = l ++ lsplice m k vs
 | [], m, vs, k => by simp
 | x :: l, m, vs, k => by
  rw [show (x :: l).length + k = (l.length + k) + 1 by simp; omega]
  show x :: lsplice (l ++ m) (l.length + k) vs = _
  rw [splice_right l m vs k]
  rfl
theorem pr_setw (p : Pr) (s : Nat → Bool) : lsplice (prRow p) 0 (bset 64 s) = prRow { p with w := s } := splice_left _ _ _ (by simp [bset_len])
theorem pr_seth (p : Pr) (s : Nat → Bool) : lsplice (prRow p) 64 (bset 64 s) = prRow { p with h := s } := by
 have h := splice_right (bset 64 p.w) (bset 64 p.h ++ [.sc (.int .i64 p.dec), .sc (.bool p.done)]) (bset 64 s) 0
 rw [bset_len] at h
 exact h.trans (congrArg (bset 64 p.w ++ ·) (splice_left _ _ _ (by simp [bset_len])))
theorem pr_setd (p : Pr) (v : Int) : lsplice (prRow p) 128 [.sc (.int .i64 v)] = prRow { p with dec := v } := by
 have h := splice_right (bset 64 p.w) (bset 64 p.h ++ [.sc (.int .i64 p.dec), .sc (.bool p.done)]) [.sc (.int .i64 v)] 64
 have h2 := splice_right (bset 64 p.h) [.sc (.int .i64 p.dec), .sc (.bool p.done)] [.sc (.int .i64 v)] 0
 rw [bset_len] at h h2
 exact h.trans (congrArg (bset 64 p.w ++ ·) h2)
theorem pr_setf (p : Pr) (v : Bool) : lsplice (prRow p) 129 [.sc (.bool v)] = prRow { p with done := v } := by
 have h := splice_right (bset 64 p.w) (bset 64 p.h ++ [.sc (.int .i64 p.dec), .sc (.bool p.done)]) [.sc (.bool v)] 65
 have h2 := splice_right (bset 64 p.h) [.sc (.int .i64 p.dec), .sc (.bool p.done)] [.sc (.bool v)] 1
 rw [bset_len] at h h2
 exact h.trans (congrArg (bset 64 p.w ++ ·) h2)
theorem pr_w (p : Pr) : ((prRow p).drop 0).take 64 = bset 64 p.w := by
 rw [List.drop_zero]
 unfold prRow
 rw [List.take_append_of_le_length (by simp [bset_len]), List.take_of_length_le (by simp [bset_len])]
theorem pr_h (p : Pr) : ((prRow p).drop 64).take 64 = bset 64 p.h := by
 unfold prRow
 rw [List.drop_append_of_le_length (by simp [bset_len]), List.drop_of_length_le (by simp [bset_len]), List.nil_append, List.take_append_of_le_length (by simp [bset_len]), List.take_of_length_le (by simp [bset_len])]
theorem pr_wget (p : Pr) {q : Nat} (hq : q < 64) : (prRow p)[q]? = some (.sc (.bool (p.w q))) := by
 unfold prRow
 rw [List.getElem?_append_left (by rw [bset_len]; exact hq), bset_get hq]
theorem pr_d (p : Pr) : (prRow p)[128]? = some (.sc (.int .i64 p.dec)) := by
 unfold prRow
 rw [List.getElem?_append_right (by simp [bset_len]), List.getElem?_append_right (by simp [bset_len])]
 simp [bset_len]
theorem pr_f (p : Pr) : (prRow p)[129]? = some (.sc (.bool p.done)) := by
 unfold prRow
 rw [List.getElem?_append_right (by simp [bset_len]), List.getElem?_append_right (by simp [bset_len])]
 simp [bset_len]
theorem msg_w (m : Msg) : ((msgRow m).drop 0).take 64 = bset 64 m.w := by
 rw [List.drop_zero]
 unfold msgRow
 rw [List.take_append_of_le_length (by simp [bset_len]), List.take_of_length_le (by simp [bset_len])]
theorem msg_cell1 (m : Msg) : (msgRow m).all AV.cell1 = true := by
 unfold msgRow
 rw [List.all_append, bset_cell1]
 rfl
theorem procs_get {ps : List Pr} {i : Nat} {p : Pr} (h : ps[i]? = some p) : (ps.map prRow)[i]? = some (prRow p) := by rw [List.getElem?_map, h]; rfl
theorem procs_set (ps : List Pr) (i : Nat) (p : Pr) : (ps.map prRow).set i (prRow p) = (ps.set i p).map prRow := by rw [List.map_set]
def eqB (s t : Nat → Bool) : Bool := (List.range 64).map s == (List.range 64).map t
def addS (s : Nat → Bool) (k : Nat) (i : Nat) : Bool := if i = k then true else s i
def takeGo (p : Pr) (r : Int) : (Nat → Bool) → (Nat → Bool) → List (Nat × Msg) → Pr
 | R, w, [] => { p with w := w, dec := if eqB R p.h = true then r else p.dec, h := R }
 | R, w, x :: rest => if x.2.fin = true then { p with w := x.2.w, dec := r } else takeGo p r (addS R x.1) (orS w x.2.w) rest
def takeS (p : Pr) (i : Nat) (r : Int) (G : List (Nat × Msg)) : Pr := if p.dec > 0 then { p with done := true } else takeGo p r (addS (fun _ => false) i) p.w G
def gInts (G : List (Nat × Msg)) : List (List AV) := G.map fun x => [.sc (.int .i64 (x.1 : Int))]
def gMsgs (G : List (Nat × Msg)) : List (List AV) := G.map fun x => msgRow x.2
theorem pure_gInts (G : List (Nat × Msg)) : Pure (.list 1 (gInts G)) := .list _ _ (allPure_map (fun _ => allPure_cons (.sc _) allPure_nil) G)
theorem pure_gMsgs (G : List (Nat × Msg)) : Pure (.list 65 (gMsgs G)) := .list _ _ (allPure_map (f := fun x : Nat × Msg => msgRow x.2) (fun x => pure_msgRow x.2) G)
theorem fin_procs {e : Exit} (he : e = .normal ∨ e = .ret) {rs : List IRes} {fr : Fr} {rows : List (List AV)} {X : Heap} {qs : List Pr} (hres : resOf fr ([.cells 130 rows] :: X) rs = some (.tup [])) (hr : rows = qs.map prRow) :
  (e = .normal ∨ e = .ret) ∧ ∃ res res' H2, resOf fr ([.cells 130 rows] :: X) rs = some res ∧ SubV 1 ([.cells 130 rows] :: X) res H2 res' ∧ (Pure res' ∧ H2 = [[procsB qs]]) :=
 ⟨he, .tup [], .tup [], [[procsB qs]], hres, SubV.ren (rho [[(0, 0)]]) (Numb.list rfl rfl rfl ⟨⟨⟨_, rfl, RenB.rows hr (pure_procs qs)⟩, trivial⟩, trivial⟩) (.pure (.tup _ allPure_nil)), .tup _ allPure_nil, rfl⟩
set_option maxHeartbeats 2000000 in
theorem take1_ok (ps : List Pr) (i : Nat) (p : Pr) (hp : ps[i]? = some p) (hi : i < 64) (r : Int) (G : List (Nat × Msg)) (hG : ∀ x ∈ G, x.1 < 64) (hl : G.length ≤ 1000) :
  CallOK Try.prog 45 [.ptr 0 0 i 0, .sc (.int .i64 i), .sc (.int .i64 r), .list 1 (gInts G), .list 65 (gMsgs G)] [[procsB ps]] (fun res H' => Pure res ∧ H' = [[procsB (ps.set i (takeS p i r G))]]) := by
 have hrow := procs_get hp
 have hlen := pr_len p
 have hil : i < ps.length := (List.getElem?_eq_some_iff.1 hp).1
 refine CallOK.of cF45 ?_ (by simp [F45])
 refine walkO ?_
 refine Reg.o rfl (dstep_ld1 rfl rfl hrow (pr_d p)) ?_
 refine walkO ?_
 refine AWP.cond rfl (fun hd => ?_) (fun hd => ?_)
 ·have hd' : p.dec > 0 := by simpa using hd
  have e : takeS p i r G = { p with done := true } := by unfold takeS; rw [if_pos hd']
  refine walkO ?_
  refine Reg.on rfl (dstep_stN rfl rfl rfl hrow rfl (by rw [hlen]; omega) rfl) ?_
  refine walkO ?_
  exact fin_procs (.inr rfl) rfl (by rw [e, ← procs_set, Nat.zero_add, pr_setf])
 have hd' : ¬ p.dec > 0 := by simpa using hd
 have e : takeS p i r G = takeGo p r (addS (fun _ => false) i) p.w G := by unfold takeS; rw [if_neg hd']
 rw [e]
 refine walkO ?_
 refine Reg.o rfl (dstep_idxArr (q := i) rfl rfl rfl hi) ?_
 refine Reg.on rfl (dstep_stN rfl rfl rfl rfl rfl (by show 0 + i * 1 + 1 ≤ 64; omega) rfl) ?_
 refine walkO ?_
 refine Reg.o rfl (dstep_ldN rfl rfl hrow (by rw [hlen]; omega) (pr_w p)) ?_
 refine walkO ?_
 refine AWP.loop (σ := Nat × (Nat → Bool) × (Nat → Bool)) (fun s => [(0, .ptr 0 0 i 0), (2, .sc (.int .i64 r)), (3, .list 1 (gInts G)), (10, .ptr 1 0 0 0), (11, .ptr 2 0 0 0), (28, .list 65 (gMsgs G)), (29, .sc (.int .i64 G.length)), (30, .sc (.int .i64 s.1))]) (fun s => [[procsB ps], [.cells 64 [bset 64 s.2.1]], [.cells 64 [bset 64 s.2.2]]])
  (fun s => s.1 ≤ G.length ∧ takeGo p r (addS (fun _ => false) i) p.w G = takeGo p r s.2.1 s.2.2 (G.drop s.1)) (fun s => G.length - s.1) (0, addS (fun _ => false) i, p.w) ⟨Nat.zero_le _, rfl⟩ ?_ ?_
 ·refine Sub.re [[(0, 0)], [(1, 0)], [(2, 0)]] rfl rfl rfl ⟨⟨⟨_, rfl, RenB.rows (rows := ps.map prRow) rfl (pure_procs ps)⟩, trivial⟩, ⟨⟨_, rfl, RenB.row ?_ (pure_bset _ _)⟩, trivial⟩, ⟨⟨_, rfl, RenB.row ?_ (pure_bset _ _)⟩, trivial⟩, trivial⟩ ⟨.ptr _ _ _ _ _ _ rfl, .int rfl, .pure (pure_gInts G), .ptr _ _ _ _ _ _ rfl, .ptr _ _ _ _ _ _ rfl, .pure (pure_gMsgs G), .int (by simp [gMsgs]), .int rfl, trivial⟩
  ·show lsplice (bset 64 fun _ => false) _ _ = _
   rw [Nat.mul_one, Nat.zero_add]
   exact bset_splice 64 _ i true
  ·exact lsplice_all _ _ (by rw [bset_len]; rfl)
 rintro ⟨k, R, w⟩ ⟨hk, hgo⟩
 simp only at hk hgo
 have hk1 : IntKind.i64.wrap ((k : Int) + 1) = ((k + 1 : Nat) : Int) := by rw [wrap_small (by omega) (by omega)]; omega
 refine walkO ?_
 refine AWP.cond rfl (fun h => ?_) (fun h => ?_)
 ·have hkl : k < G.length := by simpa using h
  have hx1 : rowIx (gMsgs G) (k : Int) = some (msgRow G[k].2) := rowIx_map _ G k hkl
  have hx2 : rowIx (gInts G) (k : Int) = some [.sc (.int .i64 (G[k].1 : Int))] := rowIx_map _ G k hkl
  have hx3 := hG G[k] (List.getElem_mem hkl)
  have hdrop : G.drop k = G[k] :: G.drop (k + 1) := List.drop_eq_getElem_cons hkl
  generalize G[k] = x at hx1 hx2 hx3 hdrop
  rw [hdrop] at hgo
  have hml := msg_len x.2
  have eW : List.take 64 (List.drop (0 + 0) (lsplice (zrow [(65, .bool false)]) 0 (msgRow x.2))) = bset 64 x.2.w := by
   rw [lsplice_all _ _ (by rw [hml]; rfl)]
   exact msg_w x.2
  refine walkO ?_
  refine Reg.o rfl (dstep_idxSl rfl rfl hx1) ?_
  refine Reg.o rfl (dstep_ldNC (cs := msgRow x.2) rfl (by rw [hml]; exact Nat.le_refl _) (List.take_of_length_le (by rw [hml]; exact Nat.le_refl _))) ?_
  refine walkO ?_
  refine AWP.cond rfl (fun hf => ?_) (fun hf => ?_)
  ·have e2 : takeGo p r R w (x :: G.drop (k + 1)) = { p with w := x.2.w, dec := r } := if_pos hf
   rw [hgo, e2]
   refine walkO ?_
   rw [eW]
   refine Reg.on rfl (dstep_stN rfl rfl rfl hrow (bset_len _ _) (by rw [hlen]; omega) (bset_cell1 _ _)) ?_
   have e3 : (ps.map prRow).set i (lsplice (prRow p) (0 + 0) (bset 64 x.2.w)) = (ps.set i { p with w := x.2.w }).map prRow := by rw [← procs_set, Nat.zero_add, pr_setw]
   rw [e3]
   have hrow3 : ((ps.set i { p with w := x.2.w }).map prRow)[i]? = some (prRow { p with w := x.2.w }) := procs_get (List.getElem?_set_self hil)
   refine walkO ?_
   refine Reg.on rfl (dstep_stN rfl rfl rfl hrow3 rfl (by rw [pr_len]; omega) rfl) ?_
   refine walkO ?_
   refine fin_procs (qs := ps.set i { p with w := x.2.w, dec := r }) (.inr rfl) rfl ?_
   rw [Nat.zero_add, pr_setd, procs_set, List.set_set]
  ·have e2 : takeGo p r R w (x :: G.drop (k + 1)) = takeGo p r (addS R x.1) (orS w x.2.w) (G.drop (k + 1)) := if_neg (by rw [hf]; decide)
   refine walkO ?_
   refine Reg.o rfl (dstep_idxSl rfl rfl hx2) ?_
   refine walkO ?_
   refine Reg.o rfl (dstep_idxArr (q := x.1) rfl rfl rfl hx3) ?_
   refine Reg.on rfl (dstep_stN rfl rfl rfl rfl rfl (by show 0 + x.1 * 1 + 1 ≤ (bset 64 R).length; rw [bset_len]; omega) rfl) ?_
   refine walkO ?_
   rw [eW]
   refine Reg.c (show 1 ≤ 4 by omega) rfl ((join_at (s := w) (t := x.2.w) rfl).mono ?_)
   rintro res H' ⟨rfl, rfl⟩
   refine walkO ?_
   refine ⟨(k + 1, addS R x.1, orS w x.2.w), ⟨by simp only; omega, by rw [hgo, e2]⟩, by simp only; omega, ?_⟩
   refine Sub.re [[(0, 0)], [(1, 0)], [(2, 0)]] rfl rfl rfl ⟨⟨⟨_, rfl, RenB.rows (rows := ps.map prRow) rfl (pure_procs ps)⟩, trivial⟩, ⟨⟨_, rfl, RenB.row ?_ (pure_bset _ _)⟩, trivial⟩, ⟨⟨_, rfl, RenB.row rfl (pure_bset _ _)⟩, trivial⟩, trivial⟩ ⟨.ptr _ _ _ _ _ _ rfl, .int rfl, .pure (pure_gInts G), .ptr _ _ _ _ _ _ rfl, .ptr _ _ _ _ _ _ rfl, .pure (pure_gMsgs G), .int rfl, .int hk1, trivial⟩
   show lsplice (bset 64 R) _ _ = _
   rw [Nat.mul_one, Nat.zero_add]
   exact bset_splice 64 R x.1 true
 ·have hkl : k = G.length := by
   have : ¬ k < G.length := by simpa using h
   omega
  have hgo' : takeGo p r (addS (fun _ => false) i) p.w G = { p with w := w, dec := if eqB R p.h = true then r else p.dec, h := R } := by
   rw [hgo, hkl, List.drop_length]
   rfl
  rw [hgo']
  refine walkO ?_
  have hwt : List.take 64 (List.drop 0 (bset 64 w)) = bset 64 w := take_drop0 (bset_len _ _)
  have hRt : List.take 64 (List.drop 0 (bset 64 R)) = bset 64 R := take_drop0 (bset_len _ _)
  refine Reg.on rfl (dstep_stN (cs := bset 64 w) rfl (by exact congrArg some hwt) rfl hrow (bset_len _ _) (by rw [hlen]; omega) (bset_cell1 _ _)) ?_
  have e3 : (ps.map prRow).set i (lsplice (prRow p) (0 + 0) (bset 64 w)) = (ps.set i { p with w := w }).map prRow := by rw [← procs_set, Nat.zero_add, pr_setw]
  rw [e3]
  have hrow3 : ((ps.set i { p with w := w }).map prRow)[i]? = some (prRow { p with w := w }) := procs_get (List.getElem?_set_self hil)
  refine walkO ?_
  refine DK.o rfl (dstep_ldN rfl rfl hrow3 (by rw [pr_len]; omega) (pr_h _)) ?_
  refine DK.o rfl (dstep_eqArr (a := (List.range 64).map R) (b := (List.range 64).map p.h) (by exact congrArg AV.agg (hRt.trans (bset_bools 64 R))) (by exact congrArg AV.agg (bset_bools 64 p.h)) (by simp) (by simp)) ?_
  refine DK.nil ⟨by kernel_rfl, ?_⟩
  refine AWP.cond rfl (fun he => ?_) (fun he => ?_)
  ·have he' : eqB R p.h = true := by unfold eqB; simpa using he
   rw [if_pos he']
   refine walkO ?_
   refine Reg.on rfl (dstep_stN rfl rfl rfl hrow3 rfl (by rw [pr_len]; omega) rfl) ?_
   have e4 : ((ps.set i { p with w := w }).map prRow).set i (lsplice (prRow { p with w := w }) (0 + 128) [.sc (.int .i64 r)]) = (ps.set i { p with w := w, dec := r }).map prRow := by rw [Nat.zero_add, pr_setd, procs_set, List.set_set]
   rw [e4]
   have hrow4 : ((ps.set i { p with w := w, dec := r }).map prRow)[i]? = some (prRow { p with w := w, dec := r }) := procs_get (List.getElem?_set_self hil)
   refine walkO ?_
   refine Reg.on rfl (dstep_stN (cs := bset 64 R) rfl (by exact congrArg some hRt) rfl hrow4 (bset_len _ _) (by rw [pr_len]; omega) (bset_cell1 _ _)) ?_
   refine walkO ?_
   refine fin_procs (qs := ps.set i { p with w := w, dec := r, h := R }) (.inl rfl) rfl ?_
   rw [Nat.zero_add, pr_seth, procs_set, List.set_set]
  ·have he' : ¬ eqB R p.h = true := by unfold eqB; simpa using he
   rw [if_neg he']
   refine walkO ?_
   refine Reg.on rfl (dstep_stN (cs := bset 64 R) rfl (by exact congrArg some hRt) rfl hrow3 (bset_len _ _) (by rw [pr_len]; omega) (bset_cell1 _ _)) ?_
   refine walkO ?_
   refine fin_procs (qs := ps.set i { p with w := w, h := R }) (.inl rfl) rfl ?_
   rw [Nat.zero_add, pr_seth, procs_set, List.set_set]
theorem lo_procs (ps : List Pr) : LoB 3 (procsB ps) := lo_rows (pure_procs ps)
theorem pureB_procs (ps : List Pr) : PureB (procsB ps) := pure_procs ps
theorem lay_cons {cells c : List AV} {off sz : Nat} {v : AV} {rest : List (Nat × Nat × AV)} (hv : v.cs = some c) (hl : c.length = sz) (hb : off + sz ≤ cells.length) : lay cells ((off, sz, v) :: rest) = lay (lsplice cells off c) rest := by
 have e1 : Nat.beq c.length sz = true := by simp [hl]
 have e2 : Nat.ble (off + sz) cells.length = true := by simpa using hb
 simp only [lay, hv, e1, e2, Bool.and_self]
theorem dstep_build {g i : Nat} {fr : Fr} {H : Heap} {z : List (Nat × Value)} {parts : List (Nat × Nat × Operand)} {cs : List AV} (h : lay (zrow z) (parts.map fun p => (p.1, p.2.1, ev fr p.2.2)) = some cs) : dstep g i (.build z parts) fr H = some (.agg cs, H) := by
 simp only [dstep, h]
theorem lay_msg (w : Nat → Bool) (b : Bool) : lay (zrow [(65, .bool false)]) [(0, 64, .agg (bset 64 w)), (64, 1, .sc (.bool b))] = some (msgRow ⟨w, b⟩) := by
 have e0 : zrow [(65, .bool false)] = (bset 64 fun _ => false) ++ [AV.sc (.bool false)] := rfl
 have e1 : lsplice ((bset 64 fun _ => false) ++ [AV.sc (.bool false)]) 0 (bset 64 w) = bset 64 w ++ [AV.sc (.bool false)] := splice_left _ _ _ (by simp [bset_len])
 have e2 : lsplice (bset 64 w ++ [AV.sc (.bool false)]) 64 [AV.sc (.bool b)] = bset 64 w ++ [AV.sc (.bool b)] := by
  have h := splice_right (bset 64 w) [AV.sc (.bool false)] [AV.sc (.bool b)] 0
  rw [bset_len] at h
  exact h
 rw [e0, lay_cons rfl (bset_len _ _) (by simp [bset_len]), e1, lay_cons (c := [AV.sc (.bool b)]) (sz := 1) rfl rfl (by simp [bset_len]), e2]
 rfl
def sendS (p : Pr) : Option (List AV) := if p.done = true then none else some (msgRow ⟨p.w, decide (p.dec > 0)⟩)
theorem sendA_ok (ps : List Pr) (r : Int) (i : Nat) (p : Pr) (hp : ps[i]? = some p) :
  CallOK Try.prog 43 [.sc (.int .i64 i), .ptr 0 0 0 0] [[boxB ps.length], [procsB ps], [oneB (.int .i64 r)]] (fun res H' => H' = [[boxB ps.length], [procsB ps], [oneB (.int .i64 r)]] ∧ res = X42.mP (sendS p)) := by
 have hrow := procs_get hp
 have hil : i < ps.length := (List.getElem?_eq_some_iff.1 hp).1
 have hrow0 : (ps.map prRow)[0 + i]? = some (prRow p) := by rw [Nat.zero_add]; exact hrow
 refine CallOK.of cF43 ?_ (by simp [F43])
 refine walkO ?_
 refine Reg.o rfl (dstep_idxH (q := i) rfl rfl rfl hil (by simp)) ?_
 refine walkO ?_
 refine Reg.o rfl (dstep_ld1 rfl rfl hrow0 (by exact pr_f p)) ?_
 refine walkO ?_
 refine AWP.cond rfl (fun hd => ?_) (fun hd => ?_)
 ·have e : sendS p = none := if_pos hd
  refine walkO ?_
  exact fin3 (.inr rfl) rfl (.sc _) (lo_box _) (lo_procs _) (lo_one _) ⟨rfl, by rw [e]; rfl⟩
 ·have e : sendS p = some (msgRow ⟨p.w, decide (p.dec > 0)⟩) := if_neg (by rw [hd]; decide)
  refine walkO ?_
  refine DK.o rfl (dstep_idxH (q := i) rfl rfl rfl hil (by simp)) ?_
  refine walkO ?_
  refine DK.o rfl (dstep_ldN rfl rfl hrow0 (by rw [pr_len]; omega) (by exact pr_w p)) ?_
  refine walkO ?_
  refine DK.o rfl (dstep_idxH (q := i) rfl rfl rfl hil (by simp)) ?_
  refine walkO ?_
  refine DK.o rfl (dstep_ld1 rfl rfl hrow0 (by exact pr_d p)) ?_
  refine DK.o rfl rfl ?_
  refine DK.o rfl (dstep_build (cs := msgRow ⟨p.w, decide (p.dec > 0)⟩) (lay_msg p.w (decide (p.dec > 0)))) ?_
  refine DK.o rfl (dstep_box (cs := msgRow ⟨p.w, decide (p.dec > 0)⟩) (n := 65) rfl (msg_cell1 _) (msg_len _)) ?_
  refine walkO ?_
  refine DK.nil ⟨by kernel_rfl, ?_⟩
  refine walkO ?_
  exact fin3z (.inr rfl) rfl (.base (.ptr 3 12 0 0 65 [msgRow ⟨p.w, decide (p.dec > 0)⟩] (msgRow ⟨p.w, decide (p.dec > 0)⟩) rfl rfl rfl)) (.cptr _ (pure_msgRow _)) (lo_box _) (lo_procs _) (lo_one _) ⟨rfl, by rw [e]; rfl⟩
theorem takeA_ok (ps : List Pr) (r : Int) (i : Nat) (p : Pr) (hp : ps[i]? = some p) (hi : i < 64) (G : List (Nat × Msg)) (hG : ∀ x ∈ G, x.1 < 64) (hl : G.length ≤ 1000) :
  CallOK Try.prog 44 [.sc (.int .i64 i), .list 1 (gInts G), .list 65 (gMsgs G), .ptr 0 0 0 0, .ptr 2 0 0 0] [[boxB ps.length], [procsB ps], [oneB (.int .i64 r)]]
   (fun res H' => Pure res ∧ H' = [[boxB ps.length], [procsB (ps.set i (takeS p i r G))], [oneB (.int .i64 r)]]) := by
 have hil : i < ps.length := (List.getElem?_eq_some_iff.1 hp).1
 refine CallOK.of cF44 ?_ (by simp [F44])
 refine AWP.dkl rfl mixed ?_
 refine walkO ?_
 refine DK.o rfl (dstep_idxH (q := i) rfl rfl rfl hil (by simp)) ?_
 refine walkO ?_
 refine DK.nil ⟨by kernel_rfl, ?_⟩
 rw [Nat.zero_add]
 refine Reg.c (show 3 ≤ 4 by omega) rfl ((CallOK.via1 (args' := [.ptr 0 0 i 0, .sc (.int .i64 i), .sc (.int .i64 r), .list 1 (gInts G), .list 65 (gMsgs G)]) (R := fun _ y => y = procsB (ps.set i (takeS p i r G))) 1 0 ((take1_ok ps i p hp hi r G hG hl).mono ?_) rfl (pureB_procs ps) ?_).mono ?_)
 ·rintro res H' ⟨h1, rfl⟩
  exact ⟨_, rfl, h1, pureB_procs _, rfl⟩
 ·exact ⟨.ptr _ _ _ _ _ _ rfl, .sc _, .sc _, .pure (pure_gInts G), .pure (pure_gMsgs G), trivial⟩
 ·rintro res H' ⟨y, rfl, rfl⟩
  refine walkO ?_
  exact fin3 (.inl rfl) rfl (.tup _ allPure_nil) (lo_box _) (lo_procs _) (lo_one _) ⟨.tup _ allPure_nil, rfl⟩
def partI (f : Nat → Pr → Pr) (ps : List Pr) (i : Nat) : List Pr := ps.mapIdx fun j p => if j < i then f j p else p
theorem partI_len (f : Nat → Pr → Pr) (ps : List Pr) (i : Nat) : (partI f ps i).length = ps.length := by simp [partI]
theorem partI_zero (f : Nat → Pr → Pr) (ps : List Pr) : partI f ps 0 = ps := by
 apply List.ext_getElem? fun j => ?_
 unfold partI
 rw [List.getElem?_mapIdx]
 cases ps[j]? <;> simp
theorem partI_get {f : Nat → Pr → Pr} {ps : List Pr} {i : Nat} {p : Pr} (h : ps[i]? = some p) (k : Nat) : (partI f ps k)[i]? = some (if i < k then f i p else p) := by
 unfold partI
 rw [List.getElem?_mapIdx, h]
 rfl
theorem partI_set {f : Nat → Pr → Pr} {ps : List Pr} {i : Nat} {p : Pr} (h : ps[i]? = some p) : (partI f ps i).set i (f i p) = partI f ps (i + 1) := by
 have hl := (List.getElem?_eq_some_iff.1 h).1
 apply List.ext_getElem? fun j => ?_
 rw [List.getElem?_set]
 by_cases e : i = j
 ·subst e
  rw [if_pos rfl, if_pos (by rw [partI_len]; exact hl), partI_get h, if_pos (by omega)]
 ·rw [if_neg e]
  unfold partI
  rw [List.getElem?_mapIdx, List.getElem?_mapIdx]
  have : (j < i + 1) ↔ (j < i) := by omega
  simp only [this]
theorem partI_skip {f : Nat → Pr → Pr} {ps : List Pr} {i : Nat} (h : ∀ p, f i p = p) : partI f ps (i + 1) = partI f ps i := by
 apply List.ext_getElem? fun j => ?_
 unfold partI
 rw [List.getElem?_mapIdx, List.getElem?_mapIdx]
 by_cases e : j = i
 ·subst e
  cases ps[j]? <;> simp [h]
 ·have : (j < i + 1) ↔ (j < i) := by omega
  simp only [this]
def mOf (p : Pr) : Msg := ⟨p.w, decide (p.dec > 0)⟩
def noPr : Pr := ⟨fun _ => false, fun _ => false, 0, false⟩
def prAt (ps : List Pr) (q : Nat) : Pr := (ps[q]?).getD noPr
def SA (ps : List Pr) (q : Nat) : Option (List AV) := (ps[q]?).bind sendS
def hearA (n : Nat) (l : List C) (r : Int) (ps : List Pr) (j : Nat) : List (Nat × Msg) := (X42.from' n l r (SA ps) n j).map fun q => (q, mOf (prAt ps q))
def stepF (n : Nat) (l : List C) (r : Int) (ps : List Pr) (j : Nat) (p : Pr) : Pr := if livesS l j r = true then takeS p j r (hearA n l r ps j) else p
def stepA (n : Nat) (l : List C) (r : Int) (ps : List Pr) : List Pr := partI (stepF n l r ps) ps n
def sentA (n : Nat) (l : List C) (r : Int) (ps : List Pr) : Bool := X42.sent l r (SA ps) n
theorem from_lt {n : Nat} {l : List C} {r : Int} {S : Nat → Option (List AV)} {i k q : Nat} (h : q ∈ X42.from' n l r S i k) : q < i ∧ X42.hears n l r S q k = true := by
 unfold X42.from' at h
 obtain ⟨h1, h2⟩ := List.mem_filter.1 h
 exact ⟨List.mem_range.1 h1, h2⟩
theorem gInts_hear (n : Nat) (l : List C) (r : Int) (ps : List Pr) (j : Nat) : gInts (hearA n l r ps j) = X42.ints (X42.from' n l r (SA ps) n j) := by
 unfold gInts hearA X42.ints
 rw [List.map_map]
 rfl
theorem gMsgs_hear (n : Nat) (l : List C) (r : Int) (ps : List Pr) (j : Nat) : gMsgs (hearA n l r ps j) = X42.msgs (SA ps) (X42.from' n l r (SA ps) n j) := by
 unfold gMsgs hearA X42.msgs
 rw [List.map_map]
 refine List.map_congr_left fun q hq => ?_
 have h1 := (from_lt hq).2
 unfold X42.hears at h1
 simp only [Bool.and_eq_true] at h1
 have h2 := h1.1
 show msgRow (mOf (prAt ps q)) = ((ps[q]?).bind sendS).getD []
 unfold SA at h2
 unfold prAt
 cases e : ps[q]? with
 | none => rw [e] at h2; cases h2
 | some p =>
  rw [e] at h2
  have h2 : (sendS p).isSome = true := h2
  show msgRow (mOf p) = (sendS p).getD []
  unfold sendS at h2 ⊢
  split at h2
  ·cases h2
  ·rename_i hd
   rw [if_neg hd]
   rfl
theorem msgA (ps : List Pr) : X42.MsgOK (SA ps) := by
 intro j m h
 unfold SA at h
 cases e : ps[j]? with
 | none => rw [e] at h; cases h
 | some p =>
  rw [e] at h
  have h : sendS p = some m := h
  unfold sendS at h
  split at h
  ·cases h
  ·injection h with h
   subst h
   exact ⟨msg_len _, pure_msgRow _, msg_cell1 _⟩
theorem clo_loS (f : FuncId) : Ren (lowS 3) (.clo (.func f) [] [.ptr 0 0 0 0]) (.clo (.func f) [] [.ptr 0 0 0 0]) := by
 refine .clo _ _ _ _ _ rfl rfl (fun j x y h => (by simp at h)) fun j x y hx hy => ?_
 cases eq_of_get hx hy
 match j, hx with
 | 0, hx => simp at hx; subst hx; exact .ptr 0 0 0 0 0 0 (lowS_lt (by omega))
 | j + 1, hx => simp at hx
theorem clo_loT (f : FuncId) : Ren (lowS 3) (.clo (.func f) [] [.ptr 0 0 0 0, .ptr 2 0 0 0]) (.clo (.func f) [] [.ptr 0 0 0 0, .ptr 2 0 0 0]) := by
 refine .clo _ _ _ _ _ rfl rfl (fun j x y h => (by simp at h)) fun j x y hx hy => ?_
 cases eq_of_get hx hy
 match j, hx with
 | 0, hx => simp at hx; subst hx; exact .ptr 0 0 0 0 0 0 (lowS_lt (by omega))
 | 1, hx => simp at hx; subst hx; exact .ptr 2 0 2 0 0 0 (lowS_lt (by omega))
 | j + 2, hx => simp at hx
theorem roundA_ok {l : List C} {r : Int} {ps : List Pr} {n : Nat} (hn1 : 1 ≤ n) (hn : n ≤ 64) (hr : 1 ≤ r ∧ r ≤ 1000) (hre : ∀ i : Nat, i < n → -1000 ≤ reachS n l i r ∧ reachS n l i r ≤ 1000) (hlen : ps.length = n) {X : Heap} :
  CallOK Try.prog 42 [schV n l, .sc (.int .i64 r), .clo (.func 43) [] [.ptr 0 0 0 0], .clo (.func 44) [] [.ptr 0 0 0 0, .ptr 2 0 0 0]] ([boxB n] :: [procsB ps] :: [oneB (.int .i64 r)] :: X)
   (fun res H' => res = .sc (.bool (sentA n l r ps)) ∧ H' = [boxB n] :: [procsB (stepA n l r ps)] :: [oneB (.int .i64 r)] :: X) := by
 have h := X42.exchange_ok (n := n) (l := l) (r := r) (S := SA ps) (fs := 43) (ft := 44) (cs := [.ptr 0 0 0 0]) (ct := [.ptr 0 0 0 0, .ptr 2 0 0 0]) (A := boxB n) (B := procsB ps) (D := oneB (.int .i64 r)) hn1 hn hr (msgA ps) hre
  (Inv := fun i a b d => a = boxB n ∧ b = procsB (partI (stepF n l r ps) ps i) ∧ d = oneB (.int .i64 r)) ⟨rfl, by rw [partI_zero], rfl⟩
  (fun i a b d hi hlv h => ⟨h.1, by rw [h.2.1, partI_skip fun p => by unfold stepF; rw [hlv]; rfl], h.2.2⟩)
  (fun i a b d hi hlv _ _ _ h => by
   obtain ⟨rfl, rfl, rfl⟩ := h
   obtain ⟨p, hp⟩ : ∃ p, ps[i]? = some p := ⟨_, List.getElem?_eq_getElem (by omega)⟩
   have hp2 : (partI (stepF n l r ps) ps i)[i]? = some p := by rw [partI_get hp, if_neg (Nat.lt_irrefl i)]
   have ht := takeA_ok (partI (stepF n l r ps) ps i) r i p hp2 (by omega) (hearA n l r ps i) (fun x hx => by
    obtain ⟨q, hq, rfl⟩ := List.mem_map.1 hx
    have := (from_lt hq).1
    show q < 64
    omega) (by
    unfold hearA
    rw [List.length_map]
    have := X42.from_len n l r (SA ps) n i
    omega)
   rw [partI_len, hlen, gInts_hear, gMsgs_hear] at ht
   refine ht.mono ?_
   rintro res H' ⟨hpu, rfl⟩
   refine ⟨_, _, _, rfl, hpu, lo_box _, lo_procs _, lo_one _, rfl, ?_, rfl⟩
   rw [← partI_set hp]
   unfold stepF
   rw [if_pos hlv])
  (fun i hi => by
   obtain ⟨p, hp⟩ : ∃ p, ps[i]? = some p := ⟨_, List.getElem?_eq_getElem (by omega)⟩
   have hs := sendA_ok ps r i p hp
   rw [hlen] at hs
   have e : SA ps i = sendS p := by unfold SA; rw [hp]; rfl
   rw [e]
   exact hs) (lo_box _) (lo_procs _) (lo_one _) (clo_loS 43) (clo_loT 44)
 refine (CallOK.heads (xs := [boxB n, procsB ps, oneB (.int .i64 r)]) (k := 3) (X := X) rfl (R := fun res ys => res = .sc (.bool (sentA n l r ps)) ∧ ys = [boxB n, procsB (stepA n l r ps), oneB (.int .i64 r)]) (h.mono ?_) ?_ ⟨.pure (pure_sch n l), .sc _, clo_loS 43, clo_loT 44, trivial⟩).mono ?_
 ·rintro res H' ⟨rfl, a, b, d, rfl, h1, h2, h3, rfl, rfl, rfl⟩
  refine ⟨_, rfl, rfl, .sc _, ?_, rfl, rfl⟩
  intro y hy
  simp at hy
  rcases hy with rfl | rfl | rfl
  ·exact h1
  ·exact h2
  ·exact h3
 ·intro y hy
  simp at hy
  rcases hy with rfl | rfl | rfl
  ·exact lo_box _
  ·exact lo_procs _
  ·exact lo_one _
 ·rintro res H' ⟨ys, _, rfl, _, rfl, rfl⟩
  exact ⟨rfl, rfl⟩
def busyAt (l : List C) (r : Int) (ps : List Pr) (k : Nat) : Bool := livesS l k r && !(prAt ps k).done
def busyS (l : List C) (r : Int) (ps : List Pr) (k : Nat) : Bool := (List.range k).any (busyAt l r ps)
theorem busyS_succ (l : List C) (r : Int) (ps : List Pr) (k : Nat) : busyS l r ps (k + 1) = (busyS l r ps k || busyAt l r ps k) := by
 unfold busyS; rw [List.range_succ, List.any_append]; simp
def hp4 (n : Nat) (l : List C) (r : Int) (ps : List Pr) : Heap := [[boxB n], [procsB ps], [oneB (.int .i64 r)], [X42.schB n l]]
theorem pure_schA (n : Nat) (l : List C) : ∀ r ∈ [[AV.sc (.int .i64 n), .tmap (esOf l)]], ∀ c ∈ r, Pure c := by
 intro r hr
 rw [List.mem_singleton.1 hr]
 exact allPure_cons (.sc _) (allPure_cons (pure_es l) allPure_nil)
theorem fin4 {e : Exit} (he : e = .normal ∨ e = .ret) {rs : List IRes} {fr : Fr} {n : Nat} {l : List C} {r : Int} {ps : List Pr} {res : AV} {R : AV → Heap → Prop} (hres : resOf fr (hp4 n l r ps) rs = some res) (hp : Pure res) (hR : R res (hp4 n l r ps)) :
  (e = .normal ∨ e = .ret) ∧ ∃ res res' H2, resOf fr (hp4 n l r ps) rs = some res ∧ SubV 4 (hp4 n l r ps) res H2 res' ∧ R res' H2 :=
 ⟨he, res, res, hp4 n l r ps, hres, SubV.ren (rho [[(0, 0)], [(1, 0)], [(2, 0)], [(3, 0)]]) (Numb.list rfl rfl rfl ⟨⟨⟨_, rfl, RenB.one (sz := 1) (xs := [.hsl 1 0 0 n]) ⟨.hsl _ _ _ _ _ _ rfl, trivial⟩⟩, trivial⟩, ⟨⟨_, rfl, RenB.rows (rows := ps.map prRow) rfl (pure_procs ps)⟩, trivial⟩,
  ⟨⟨_, rfl, RenB.one (sz := 1) (xs := [.sc (.int .i64 r)]) ⟨.sc _, trivial⟩⟩, trivial⟩, ⟨⟨_, rfl, RenB.pure 2 _ (pure_schA n l)⟩, trivial⟩, trivial⟩) (.pure hp), hR⟩
theorem busy_ok {n : Nat} {l : List C} {r : Int} {ps : List Pr} (hn : n ≤ 64) (hlen : ps.length = n) : CallOK Try.prog 40 [.ptr 0 0 0 0, .ptr 3 0 0 0, .ptr 2 0 0 0] (hp4 n l r ps) (fun res H' => res = .sc (.bool (busyS l r ps n)) ∧ H' = hp4 n l r ps) := by
 refine CallOK.of cF40 ?_ (by simp [F40])
 unfold hp4
 refine walkO ?_
 refine AWP.loop (fun k : Nat => [(0, .ptr 0 0 0 0), (1, .ptr 3 0 0 0), (2, .ptr 2 0 0 0), (6, .sc (.int .i64 n)), (7, .sc (.int .i64 k))]) (fun _ => hp4 n l r ps) (fun k => k ≤ n ∧ busyS l r ps k = false) (fun k => n - k) 0 ⟨Nat.zero_le _, rfl⟩ ?_ ?_
 ·refine Sub.re [[(0, 0)], [(1, 0)], [(2, 0)], [(3, 0)]] rfl rfl rfl ⟨⟨⟨_, rfl, RenB.one (sz := 1) (xs := [.hsl 1 0 0 n]) ⟨.hsl _ _ _ _ _ _ rfl, trivial⟩⟩, trivial⟩, ⟨⟨_, rfl, RenB.rows (rows := ps.map prRow) rfl (pure_procs ps)⟩, trivial⟩,
   ⟨⟨_, rfl, RenB.one (sz := 1) (xs := [.sc (.int .i64 r)]) ⟨.sc _, trivial⟩⟩, trivial⟩, ⟨⟨_, rfl, RenB.pure 2 _ (pure_schA n l)⟩, trivial⟩, trivial⟩ ⟨.ptr _ _ _ _ _ _ rfl, .ptr _ _ _ _ _ _ rfl, .ptr _ _ _ _ _ _ rfl, .int rfl, .int rfl, trivial⟩
 rintro k ⟨hk, hb⟩
 have hk1 : IntKind.i64.wrap ((k : Int) + 1) = ((k + 1 : Nat) : Int) := by rw [wrap_small (by omega) (by omega)]; omega
 unfold hp4
 refine walkO ?_
 refine AWP.cond rfl (fun h => ?_) (fun h => ?_)
 ·have hkn : k < n := by simpa using h
  obtain ⟨p, hp⟩ : ∃ p, ps[k]? = some p := ⟨_, List.getElem?_eq_getElem (by omega)⟩
  have hrow0 : (ps.map prRow)[0 + k]? = some (prRow p) := by rw [Nat.zero_add]; exact procs_get hp
  have hat : prAt ps k = p := by unfold prAt; rw [hp]; rfl
  have hbs := busyS_succ l r ps k
  refine walkO ?_
  refine Reg.c (Nat.le_refl _) rfl (CallOK.ofPure (PureRun.of (allPure_cons (pure_sch n l) (allPure_cons (.sc _) (allPure_cons (.sc _) allPure_nil))) (.sc _) (lives_ok n l k r)) _ ?_)
  refine walkO ?_
  refine Reg.gs rfl (fun g => ?_) (fun g => ?_)
  ·refine walkO ?_
   refine Reg.o rfl (dstep_idxH (q := k) rfl rfl rfl hkn (by simp [hlen])) ?_
   refine walkO ?_
   refine Reg.o rfl (dstep_ld1 rfl rfl hrow0 (by exact pr_f p)) ?_
   refine walkO ?_
   refine AWP.cond rfl (fun g2 => ?_) (fun g2 => ?_)
   ·have e : busyS l r ps n = true := by
     unfold busyS
     rw [List.any_eq_true]
     refine ⟨k, List.mem_range.2 hkn, ?_⟩
     unfold busyAt
     rw [hat, g, g2]
     rfl
    refine walkO ?_
    exact fin4 (R := fun res H' => res = .sc (.bool (busyS l r ps n)) ∧ H' = hp4 n l r ps) (.inr rfl) rfl (.sc _) ⟨by rw [e], rfl⟩
   ·have e : busyS l r ps (k + 1) = false := by
     rw [hbs, hb]
     unfold busyAt
     rw [hat, g2, Bool.and_false]
     rfl
    refine walkO ?_
    refine ⟨k + 1, ⟨by omega, e⟩, by omega, ?_⟩
    refine Sub.re [[(0, 0)], [(1, 0)], [(2, 0)], [(3, 0)]] rfl rfl rfl ⟨⟨⟨_, rfl, RenB.one (sz := 1) (xs := [.hsl 1 0 0 n]) ⟨.hsl _ _ _ _ _ _ rfl, trivial⟩⟩, trivial⟩, ⟨⟨_, rfl, RenB.rows (rows := ps.map prRow) rfl (pure_procs ps)⟩, trivial⟩,
     ⟨⟨_, rfl, RenB.one (sz := 1) (xs := [.sc (.int .i64 r)]) ⟨.sc _, trivial⟩⟩, trivial⟩, ⟨⟨_, rfl, RenB.pure 2 _ (pure_schA n l)⟩, trivial⟩, trivial⟩ ⟨.ptr _ _ _ _ _ _ rfl, .ptr _ _ _ _ _ _ rfl, .ptr _ _ _ _ _ _ rfl, .int rfl, .int hk1, trivial⟩
  ·have e : busyS l r ps (k + 1) = false := by
    rw [hbs, hb]
    unfold busyAt
    rw [g]
    rfl
   refine walkO ?_
   refine ⟨k + 1, ⟨by omega, e⟩, by omega, ?_⟩
   refine Sub.re [[(0, 0)], [(1, 0)], [(2, 0)], [(3, 0)]] rfl rfl rfl ⟨⟨⟨_, rfl, RenB.one (sz := 1) (xs := [.hsl 1 0 0 n]) ⟨.hsl _ _ _ _ _ _ rfl, trivial⟩⟩, trivial⟩, ⟨⟨_, rfl, RenB.rows (rows := ps.map prRow) rfl (pure_procs ps)⟩, trivial⟩,
    ⟨⟨_, rfl, RenB.one (sz := 1) (xs := [.sc (.int .i64 r)]) ⟨.sc _, trivial⟩⟩, trivial⟩, ⟨⟨_, rfl, RenB.pure 2 _ (pure_schA n l)⟩, trivial⟩, trivial⟩ ⟨.ptr _ _ _ _ _ _ rfl, .ptr _ _ _ _ _ _ rfl, .ptr _ _ _ _ _ _ rfl, .int rfl, .int hk1, trivial⟩
 ·have hkn : k = n := by
   have : ¬ k < n := by simpa using h
   omega
  refine walkO ?_
  exact fin4 (R := fun res H' => res = .sc (.bool (busyS l r ps n)) ∧ H' = hp4 n l r ps) (.inr rfl) rfl (.sc _) ⟨by rw [← hkn, hb], rfl⟩
def knownV (L : List (List Int)) : AV := .list 1 (L.map fun ks => [intsV ks])
theorem pure_knownV (L : List (List Int)) : Pure (knownV L) := .list _ _ (allPure_map (f := fun ks => [intsV ks]) (fun ks => allPure_cons (pure_ints ks) allPure_nil) L)
def andI (a b : Int) : Int := IntKind.i64.wrap ((BitVec.ofInt IntKind.i64.bits a &&& BitVec.ofInt IntKind.i64.bits b).toNat : Int)
def flagK (w : Nat → Bool) (fl : List Int) : Nat → Int
 | 0 => -1
 | k + 1 => if w k = true then andI (flagK w fl k) ((fl[k]?).getD 0) else flagK w fl k
def fail1 (w : Nat → Bool) (n k i : Nat) : Bool := decide (i < n) && !(decide (i < k) && w i)
def orW (s : Nat → Bool) (x : Nat) (b : Bool) (i : Nat) : Bool := if i = x then (s x || b) else s i
def knownGo (b : Bool) : List Int → (Nat → Bool) → (Nat → Bool)
 | [], s => s
 | x :: r, s => knownGo b r (orW s x.toNat b)
def knownAll (w : Nat → Bool) : Nat → List (List Int) → (Nat → Bool) → (Nat → Bool)
 | _, [], s => s
 | i, ks :: r, s => knownAll w (i + 1) r (knownGo (w i) ks s)
structure Rp where
 dec : Bool
 round : Int
 flag : Int
 failed : List Int
def rpRow (p : Rp) : List AV := [.sc (.bool p.dec), .sc (.int .i64 p.round), .sc (.int .i64 p.flag), intsV p.failed]
theorem pure_rpRow (p : Rp) : ∀ c ∈ rpRow p, Pure c := allPure_cons (.sc _) (allPure_cons (.sc _) (allPure_cons (.sc _) (allPure_cons (pure_ints _) allPure_nil)))
def agreedS (p : Pr) (fl : List Int) (L : List (List Int)) : Rp := ⟨true, p.dec, flagK p.w fl fl.length, elems 64 (knownAll p.w 0 L (fail1 p.w fl.length fl.length))⟩
theorem fin_procsP {e : Exit} (he : e = .normal ∨ e = .ret) {rs : List IRes} {fr : Fr} {X : Heap} {ps : List Pr} {res res' : AV} (hres : resOf fr ([procsB ps] :: X) rs = some res) (hp : Pure res) (hr : res = res') :
  (e = .normal ∨ e = .ret) ∧ ∃ res res'' H2, resOf fr ([procsB ps] :: X) rs = some res ∧ SubV 1 ([procsB ps] :: X) res H2 res'' ∧ (Pure res'' ∧ H2 = [[procsB ps]] ∧ res'' = res') :=
 ⟨he, res, res, [[procsB ps]], hres, SubV.ren (rho [[(0, 0)]]) (Numb.list rfl rfl rfl ⟨⟨⟨_, rfl, RenB.rows (rows := ps.map prRow) rfl (pure_procs ps)⟩, trivial⟩, trivial⟩) (.pure hp), hp, rfl, hr⟩
def z4 : List AV := [.sc (.bool false), .sc (.int .i64 0), .sc (.int .i64 0), .sc (.slice none 0 0)]
def rp4 (d f : Int) : List AV := [.sc (.bool true), .sc (.int .i64 d), .sc (.int .i64 f), .sc (.slice none 0 0)]
theorem pure_z4 : ∀ c ∈ z4, Pure c := allPure_cons (.sc _) (allPure_cons (.sc _) (allPure_cons (.sc _) (allPure_cons (.sc _) allPure_nil)))
theorem pure_rp4 (d f : Int) : ∀ c ∈ rp4 d f, Pure c := allPure_cons (.sc _) (allPure_cons (.sc _) (allPure_cons (.sc _) (allPure_cons (.sc _) allPure_nil)))
set_option maxHeartbeats 2000000 in
theorem agreed1_ok (ps : List Pr) (i : Nat) (p : Pr) (hp : ps[i]? = some p) (fl : List Int) (hfl : fl.length ≤ 64) (L : List (List Int)) (hL : L.length ≤ 64) (hl1 : ∀ ks ∈ L, ks.length ≤ 1000000) (hl2 : ∀ ks ∈ L, ∀ x ∈ ks, 0 ≤ x ∧ x < 64) :
  CallOK Try.prog 46 [.ptr 0 0 i 0, intsV fl, knownV L] [[procsB ps]] (fun res H' => Pure res ∧ H' = [[procsB ps]] ∧ res = .agg (rpRow (agreedS p fl L))) := by
 have hrow := procs_get hp
 have hlen := pr_len p
 refine CallOK.of cF46 ?_ (by simp [F46])
 refine walkO ?_
 refine Reg.o rfl (dstep_ld1 rfl rfl hrow (pr_d p)) ?_
 refine walkO ?_
 have e0 : (intsR fl).length = fl.length := by simp [intsR]
 rw [e0]
 refine Reg.c (show 1 ≤ 3 by omega) rfl (CallOK.ofPure (PureRun.of (allPure_cons (.sc _) allPure_nil) (.agg _ (pure_bset _ _)) (first_ok fl.length hfl)) _ ?_)
 refine walkO ?_
 rw [e0]
 refine AWP.loop (fun k : Nat => [(0, .ptr 0 0 i 0), (2, knownV L), (6, .ptr 1 0 0 0), (7, .ptr 2 0 0 0), (8, .ptr 3 0 0 0), (23, intsV fl), (24, .sc (.int .i64 fl.length)), (25, .sc (.int .i64 k))])
  (fun k => [[procsB ps], [.cells 4 [z4]], [.cells 4 [rp4 p.dec (flagK p.w fl k)]], [.cells 64 [bset 64 (fail1 p.w fl.length k)]]]) (fun k => k ≤ fl.length) (fun k => fl.length - k) 0 (Nat.zero_le _) ?_ ?_
 ·refine Sub.re [[(0, 0)], [(1, 0)], [(2, 0)], [(3, 0)]] rfl rfl rfl ⟨⟨⟨_, rfl, RenB.rows (rows := ps.map prRow) rfl (pure_procs ps)⟩, trivial⟩, ⟨⟨_, rfl, RenB.row rfl pure_z4⟩, trivial⟩, ⟨⟨_, rfl, RenB.row rfl (pure_rp4 _ _)⟩, trivial⟩, ⟨⟨_, rfl, RenB.row ?_ (pure_bset _ _)⟩, trivial⟩, trivial⟩
   ⟨.ptr _ _ _ _ _ _ rfl, .pure (pure_knownV L), .ptr _ _ _ _ _ _ rfl, .ptr _ _ _ _ _ _ rfl, .ptr _ _ _ _ _ _ rfl, .pure (pure_ints fl), .int rfl, .int rfl, trivial⟩
  refine (lsplice_all _ _ (by rw [bset_len]; rfl)).trans (bset_congr fun j hj => ?_)
  simp [fail1]
 intro k hk
 have hk1 : IntKind.i64.wrap ((k : Int) + 1) = ((k + 1 : Nat) : Int) := by rw [wrap_small (by omega) (by omega)]; omega
 refine walkO ?_
 refine AWP.cond rfl (fun h => ?_) (fun h => ?_)
 ·have hkl : k < fl.length := by simpa using h
  have hrf : rowIx (intsR fl) (k : Int) = some [.sc (.int .i64 fl[k])] := rowIx_map _ fl k hkl
  have hgd : (fl[k]?).getD 0 = fl[k] := by rw [List.getElem?_eq_getElem hkl]; rfl
  have hfk : flagK p.w fl (k + 1) = if p.w k = true then andI (flagK p.w fl k) ((fl[k]?).getD 0) else flagK p.w fl k := rfl
  rw [hgd] at hfk
  have hk64 : k < 64 := by omega
  generalize fl[k] = v at hrf hfk
  refine walkO ?_
  refine Reg.o rfl (dstep_idxSl rfl rfl hrf) ?_
  refine walkO ?_
  refine Reg.o rfl (dstep_idxArr (q := k) rfl rfl rfl hk64) ?_
  refine Reg.o rfl (dstep_ld1 rfl rfl hrow (by rw [Nat.mul_one, Nat.zero_add]; exact pr_wget p hk64)) ?_
  refine walkO ?_
  refine AWP.cond rfl (fun hw => ?_) (fun hw => ?_)
  ·refine walkO ?_
   refine Reg.o rfl (dstep_idxArr (q := k) rfl rfl rfl hk64) ?_
   refine Reg.on rfl (dstep_stN rfl rfl rfl rfl rfl (by rw [bset_len]; omega) rfl) ?_
   refine walkO ?_
   rw [if_pos hw] at hfk
   refine ⟨k + 1, by omega, by omega, Sub.re [[(0, 0)], [(1, 0)], [(2, 0)], [(3, 0)]] rfl rfl rfl ⟨⟨⟨_, rfl, RenB.rows (rows := ps.map prRow) rfl (pure_procs ps)⟩, trivial⟩, ⟨⟨_, rfl, RenB.row rfl pure_z4⟩, trivial⟩, ⟨⟨_, rfl, RenB.row ?_ (pure_rp4 _ _)⟩, trivial⟩, ⟨⟨_, rfl, RenB.row ?_ (pure_bset _ _)⟩, trivial⟩, trivial⟩
    ⟨.ptr _ _ _ _ _ _ rfl, .pure (pure_knownV L), .ptr _ _ _ _ _ _ rfl, .ptr _ _ _ _ _ _ rfl, .ptr _ _ _ _ _ _ rfl, .pure (pure_ints fl), .int rfl, .int hk1, trivial⟩⟩
   ·rw [hfk]
    rfl
   ·show lsplice (bset 64 _) _ _ = _
    rw [Nat.mul_one, Nat.zero_add]
    refine (bset_splice 64 _ k false).trans (bset_congr fun j hj => ?_)
    unfold fail1
    by_cases ej : j = k
    ·subst ej
     simp [hw]
    ·have : (j < k + 1) ↔ (j < k) := by omega
     simp [ej, this]
  ·rw [if_neg (by rw [hw]; decide)] at hfk
   refine walkO ?_
   refine ⟨k + 1, by omega, by omega, Sub.re [[(0, 0)], [(1, 0)], [(2, 0)], [(3, 0)]] rfl rfl rfl ⟨⟨⟨_, rfl, RenB.rows (rows := ps.map prRow) rfl (pure_procs ps)⟩, trivial⟩, ⟨⟨_, rfl, RenB.row rfl pure_z4⟩, trivial⟩, ⟨⟨_, rfl, RenB.row (r := rp4 p.dec (flagK p.w fl k)) (by rw [hfk]) (pure_rp4 _ _)⟩, trivial⟩, ⟨⟨_, rfl, RenB.row (r := bset 64 (fail1 p.w fl.length k)) (bset_congr fun j hj => ?_) (pure_bset _ _)⟩, trivial⟩, trivial⟩
    ⟨.ptr _ _ _ _ _ _ rfl, .pure (pure_knownV L), .ptr _ _ _ _ _ _ rfl, .ptr _ _ _ _ _ _ rfl, .ptr _ _ _ _ _ _ rfl, .pure (pure_ints fl), .int rfl, .int hk1, trivial⟩⟩
   unfold fail1
   by_cases ej : j = k
   ·subst ej
    simp [hw]
   ·have : (j < k + 1) ↔ (j < k) := by omega
    simp [this]
 ·have hkn : k = fl.length := by
   have : ¬ k < fl.length := by simpa using h
   omega
  subst hkn
  have eL : (L.map fun ks => [intsV ks]).length = L.length := by simp
  refine walkO ?_
  rw [eL]
  refine AWP.loop (σ := Nat × (Nat → Bool)) (fun s => [(0, .ptr 0 0 i 0), (6, .ptr 1 0 0 0), (7, .ptr 2 0 0 0), (8, .ptr 3 0 0 0), (44, knownV L), (45, .sc (.int .i64 L.length)), (46, .sc (.int .i64 s.1))])
   (fun s => [[procsB ps], [.cells 4 [z4]], [.cells 4 [rp4 p.dec (flagK p.w fl fl.length)]], [.cells 64 [bset 64 s.2]]]) (fun s => s.1 ≤ L.length ∧ knownAll p.w 0 L (fail1 p.w fl.length fl.length) = knownAll p.w s.1 (L.drop s.1) s.2) (fun s => L.length - s.1) (0, fail1 p.w fl.length fl.length) ⟨Nat.zero_le _, rfl⟩ ?_ ?_
  ·exact Sub.re [[(0, 0)], [(1, 0)], [(2, 0)], [(3, 0)]] rfl rfl rfl ⟨⟨⟨_, rfl, RenB.rows (rows := ps.map prRow) rfl (pure_procs ps)⟩, trivial⟩, ⟨⟨_, rfl, RenB.row rfl pure_z4⟩, trivial⟩, ⟨⟨_, rfl, RenB.row rfl (pure_rp4 _ _)⟩, trivial⟩, ⟨⟨_, rfl, RenB.row rfl (pure_bset _ _)⟩, trivial⟩, trivial⟩
    ⟨.ptr _ _ _ _ _ _ rfl, .ptr _ _ _ _ _ _ rfl, .ptr _ _ _ _ _ _ rfl, .ptr _ _ _ _ _ _ rfl, .pure (pure_knownV L), .int rfl, .int rfl, trivial⟩
  rintro ⟨a, s⟩ ⟨ha, hgo⟩
  simp only at ha hgo
  have ha1 : IntKind.i64.wrap ((a : Int) + 1) = ((a + 1 : Nat) : Int) := by rw [wrap_small (by omega) (by omega)]; omega
  refine walkO ?_
  refine AWP.cond rfl (fun h => ?_) (fun h => ?_)
  ·have hal : a < L.length := by simpa using h
   have hra : rowIx (L.map fun ks => [intsV ks]) (a : Int) = some [intsV L[a]] := rowIx_map _ L a hal
   have hdrop : L.drop a = L[a] :: L.drop (a + 1) := List.drop_eq_getElem_cons hal
   have h1 := hl1 L[a] (List.getElem_mem hal)
   have h2 := hl2 L[a] (List.getElem_mem hal)
   rw [hdrop] at hgo
   generalize L[a] = ks at hra h1 h2 hgo
   have hgo2 : knownAll p.w a (ks :: L.drop (a + 1)) s = knownAll p.w (a + 1) (L.drop (a + 1)) (knownGo (p.w a) ks s) := rfl
   rw [hgo2] at hgo
   have eK : (intsR ks).length = ks.length := by simp [intsR]
   refine walkO ?_
   refine Reg.o rfl (dstep_idxSl rfl rfl hra) ?_
   refine walkO ?_
   rw [eK]
   refine AWP.loop (σ := Nat × (Nat → Bool)) (fun q => [(0, .ptr 0 0 i 0), (6, .ptr 1 0 0 0), (7, .ptr 2 0 0 0), (8, .ptr 3 0 0 0), (11, .sc (.int .i64 a)), (44, knownV L), (45, .sc (.int .i64 L.length)), (46, .sc (.int .i64 a)), (51, intsV ks), (52, .sc (.int .i64 ks.length)), (53, .sc (.int .i64 q.1))])
    (fun q => [[procsB ps], [.cells 4 [z4]], [.cells 4 [rp4 p.dec (flagK p.w fl fl.length)]], [.cells 64 [bset 64 q.2]]]) (fun q => q.1 ≤ ks.length ∧ knownGo (p.w a) ks s = knownGo (p.w a) (ks.drop q.1) q.2) (fun q => ks.length - q.1) (0, s) ⟨Nat.zero_le _, rfl⟩ ?_ ?_
   ·exact Sub.re [[(0, 0)], [(1, 0)], [(2, 0)], [(3, 0)]] rfl rfl rfl ⟨⟨⟨_, rfl, RenB.rows (rows := ps.map prRow) rfl (pure_procs ps)⟩, trivial⟩, ⟨⟨_, rfl, RenB.row rfl pure_z4⟩, trivial⟩, ⟨⟨_, rfl, RenB.row rfl (pure_rp4 _ _)⟩, trivial⟩, ⟨⟨_, rfl, RenB.row rfl (pure_bset _ _)⟩, trivial⟩, trivial⟩
     ⟨.ptr _ _ _ _ _ _ rfl, .ptr _ _ _ _ _ _ rfl, .ptr _ _ _ _ _ _ rfl, .ptr _ _ _ _ _ _ rfl, .int rfl, .pure (pure_knownV L), .int rfl, .int rfl, .pure (pure_ints ks), .int rfl, .int rfl, trivial⟩
   rintro ⟨b, t⟩ ⟨hb, hgb⟩
   simp only at hb hgb
   have hb1 : IntKind.i64.wrap ((b : Int) + 1) = ((b + 1 : Nat) : Int) := by rw [wrap_small (by omega) (by omega)]; omega
   refine walkO ?_
   refine AWP.cond rfl (fun h => ?_) (fun h => ?_)
   ·have hbl : b < ks.length := by simpa using h
    have hrb : rowIx (intsR ks) (b : Int) = some [.sc (.int .i64 ks[b])] := rowIx_map _ ks b hbl
    have hdb : ks.drop b = ks[b] :: ks.drop (b + 1) := List.drop_eq_getElem_cons hbl
    have h3 := h2 ks[b] (List.getElem_mem hbl)
    rw [hdb] at hgb
    generalize ks[b] = x at hrb h3 hgb
    have hgb2 : knownGo (p.w a) (x :: ks.drop (b + 1)) t = knownGo (p.w a) (ks.drop (b + 1)) (orW t x.toNat (p.w a)) := rfl
    rw [hgb2] at hgb
    have ex : AV.sc (.int .i64 x) = AV.sc (.int .i64 (x.toNat : Int)) := by rw [Int.toNat_of_nonneg h3.1]
    have hx64 : x.toNat < 64 := by omega
    have ha64 : a < 64 := by omega
    refine walkO ?_
    refine Reg.o rfl (dstep_idxSl rfl rfl hrb) ?_
    refine walkO ?_
    refine Reg.o rfl (dstep_idxArr (q := x.toNat) rfl ex rfl hx64) ?_
    refine Reg.o rfl (dstep_ld1 rfl rfl rfl (c := .sc (.bool (t x.toNat))) (by rw [Nat.mul_one, Nat.zero_add]; exact bset_get hx64)) ?_
    refine walkO ?_
    refine Reg.gs rfl (fun g => ?_) (fun g => ?_)
    ·refine walkO ?_
     refine Reg.o rfl (dstep_idxArr (q := x.toNat) rfl ex rfl hx64) ?_
     refine Reg.on rfl (dstep_stN rfl rfl rfl rfl rfl (by rw [bset_len]; omega) rfl) ?_
     refine walkO ?_
     refine ⟨(b + 1, orW t x.toNat (p.w a)), ⟨by simp only; omega, hgb⟩, by simp only; omega, Sub.re [[(0, 0)], [(1, 0)], [(2, 0)], [(3, 0)]] rfl rfl rfl ⟨⟨⟨_, rfl, RenB.rows (rows := ps.map prRow) rfl (pure_procs ps)⟩, trivial⟩, ⟨⟨_, rfl, RenB.row rfl pure_z4⟩, trivial⟩, ⟨⟨_, rfl, RenB.row rfl (pure_rp4 _ _)⟩, trivial⟩, ⟨⟨_, rfl, RenB.row ?_ (pure_bset _ _)⟩, trivial⟩, trivial⟩
      ⟨.ptr _ _ _ _ _ _ rfl, .ptr _ _ _ _ _ _ rfl, .ptr _ _ _ _ _ _ rfl, .ptr _ _ _ _ _ _ rfl, .int rfl, .pure (pure_knownV L), .int rfl, .int rfl, .pure (pure_ints ks), .int rfl, .int hb1, trivial⟩⟩
     show lsplice (bset 64 t) _ _ = _
     rw [Nat.mul_one, Nat.zero_add]
     refine (bset_splice 64 t x.toNat _).trans (bset_congr fun j hj => ?_)
     unfold orW
     rw [g]
     rfl
    ·refine walkO ?_
     refine Reg.o rfl (dstep_idxArr (q := a) rfl rfl rfl ha64) ?_
     refine Reg.o rfl (dstep_ld1 rfl rfl hrow (by rw [Nat.mul_one, Nat.zero_add]; exact pr_wget p ha64)) ?_
     refine walkO ?_
     refine Reg.o rfl (dstep_idxArr (q := x.toNat) rfl ex rfl hx64) ?_
     refine Reg.on rfl (dstep_stN rfl rfl rfl rfl rfl (by rw [bset_len]; omega) rfl) ?_
     refine walkO ?_
     refine ⟨(b + 1, orW t x.toNat (p.w a)), ⟨by simp only; omega, hgb⟩, by simp only; omega, Sub.re [[(0, 0)], [(1, 0)], [(2, 0)], [(3, 0)]] rfl rfl rfl ⟨⟨⟨_, rfl, RenB.rows (rows := ps.map prRow) rfl (pure_procs ps)⟩, trivial⟩, ⟨⟨_, rfl, RenB.row rfl pure_z4⟩, trivial⟩, ⟨⟨_, rfl, RenB.row rfl (pure_rp4 _ _)⟩, trivial⟩, ⟨⟨_, rfl, RenB.row ?_ (pure_bset _ _)⟩, trivial⟩, trivial⟩
      ⟨.ptr _ _ _ _ _ _ rfl, .ptr _ _ _ _ _ _ rfl, .ptr _ _ _ _ _ _ rfl, .ptr _ _ _ _ _ _ rfl, .int rfl, .pure (pure_knownV L), .int rfl, .int rfl, .pure (pure_ints ks), .int rfl, .int hb1, trivial⟩⟩
     show lsplice (bset 64 t) _ _ = _
     rw [Nat.mul_one, Nat.zero_add]
     refine (bset_splice 64 t x.toNat _).trans (bset_congr fun j hj => ?_)
     unfold orW
     rw [g]
     rfl
   ·have hbk : b = ks.length := by
     have : ¬ b < ks.length := by simpa using h
     omega
    have hgt : knownGo (p.w a) ks s = t := by rw [hgb, hbk, List.drop_length]; rfl
    rw [hgt] at hgo
    refine walkO ?_
    exact ⟨(a + 1, t), ⟨by simp only; omega, hgo⟩, by simp only; omega, Sub.re [[(0, 0)], [(1, 0)], [(2, 0)], [(3, 0)]] rfl rfl rfl ⟨⟨⟨_, rfl, RenB.rows (rows := ps.map prRow) rfl (pure_procs ps)⟩, trivial⟩, ⟨⟨_, rfl, RenB.row rfl pure_z4⟩, trivial⟩, ⟨⟨_, rfl, RenB.row rfl (pure_rp4 _ _)⟩, trivial⟩, ⟨⟨_, rfl, RenB.row rfl (pure_bset _ _)⟩, trivial⟩, trivial⟩
     ⟨.ptr _ _ _ _ _ _ rfl, .ptr _ _ _ _ _ _ rfl, .ptr _ _ _ _ _ _ rfl, .ptr _ _ _ _ _ _ rfl, .pure (pure_knownV L), .int rfl, .int ha1, trivial⟩⟩
  ·have hal : a = L.length := by
    have : ¬ a < L.length := by simpa using h
    omega
   have hs : knownAll p.w 0 L (fail1 p.w fl.length fl.length) = s := by rw [hgo, hal, List.drop_length]; rfl
   have hst : List.take 64 (List.drop 0 (bset 64 s)) = bset 64 s := take_drop0 (bset_len _ _)
   refine walkO ?_
   rw [hst]
   refine Reg.c (show 1 ≤ 4 by omega) rfl (CallOK.ofPure (PureRun.of (allPure_cons (.agg _ (pure_bset _ _)) allPure_nil) (pure_ints _) (list_ok s)) _ ?_)
   refine walkO ?_
   refine fin_procsP (.inr rfl) rfl (.agg _ (pure_rpRow ⟨true, p.dec, flagK p.w fl fl.length, elems 64 s⟩)) ?_
   unfold agreedS
   rw [hs]
   rfl
end Go.Proofs.Ytbpmbofinoinmaa
