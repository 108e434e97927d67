import Derived.Test.YtbpmbofinoinmaaFaX42
import Derived.Test.YtbpmbofinoinmaaFaT6
import Derived.Test.YtbpmbofinoinmaaFaC
import Derived.Test.YtbpmbofinoinmaaGAvP
namespace Go.Proofs.Ytbpmbofinoinmaa
open Go.Av Go.Proofs

/-! A process that agrees, as the program lays it. -/

structure Pr where
  w : Nat → Bool
  h : Nat → Bool
  dec : Int
  done : Bool

structure Msg where
  w : Nat → Bool
  fin : Bool

def prRow (p : Pr) : List AV := bset 64 p.w ++ (bset 64 p.h ++ [.sc (.int .i64 p.dec), .sc (.bool p.done)])
def procsB (ps : List Pr) : Blk := .cells 130 (ps.map prRow)
def msgRow (m : Msg) : List AV := bset 64 m.w ++ [.sc (.bool m.fin)]

theorem pr_len (p : Pr) : (prRow p).length = 130 := by simp [prRow, bset_len]
theorem pure_prRow (p : Pr) : ∀ c ∈ prRow p, Pure c := by
  intro c hc
  unfold prRow at hc
  rcases List.mem_append.1 hc with h | h
  · exact pure_bset _ _ c h
  · rcases List.mem_append.1 h with h | h
    · exact pure_bset _ _ c h
    · exact allPure_cons (.sc _) (allPure_cons (.sc _) allPure_nil) c h
theorem pure_procs (ps : List Pr) : ∀ r ∈ ps.map prRow, ∀ c ∈ r, Pure c := allPure_map pure_prRow ps
theorem msg_len (m : Msg) : (msgRow m).length = 65 := by simp [msgRow, bset_len]
theorem pure_msgRow (m : Msg) : ∀ c ∈ msgRow m, Pure c := by
  intro c hc
  unfold msgRow at hc
  rcases List.mem_append.1 hc with h | h
  · exact pure_bset _ _ c h
  · exact allPure_cons (.sc _) allPure_nil c h

theorem splice_left {α : Type} : ∀ (l vs m : List α), vs.length = l.length → lsplice (l ++ m) 0 vs = vs ++ m
  | [], [], m, _ => by cases m <;> rfl
  | [], _ :: _, _, h => by simp at h
  | _ :: _, [], _, h => by simp at h
  | x :: l, v :: vs, m, h => by
    show v :: lsplice (l ++ m) 0 vs = _
    rw [splice_left l vs m (by simpa using h)]
    rfl
theorem splice_right {α : Type} : ∀ (l m vs : List α) (k : Nat), lsplice (l ++ m) (l.length + k) vs = l ++ lsplice m k vs
  | [], m, vs, k => by simp
  | x :: l, m, vs, k => by
    rw [show (x :: l).length + k = (l.length + k) + 1 by simp; omega]
    show x :: lsplice (l ++ m) (l.length + k) vs = _
    rw [splice_right l m vs k]
    rfl

theorem pr_setw (p : Pr) (s : Nat → Bool) : lsplice (prRow p) 0 (bset 64 s) = prRow { p with w := s } := splice_left _ _ _ (by simp [bset_len])
theorem pr_seth (p : Pr) (s : Nat → Bool) : lsplice (prRow p) 64 (bset 64 s) = prRow { p with h := s } := by
  have h := splice_right (bset 64 p.w) (bset 64 p.h ++ [.sc (.int .i64 p.dec), .sc (.bool p.done)]) (bset 64 s) 0
  rw [bset_len] at h
  exact h.trans (congrArg (bset 64 p.w ++ ·) (splice_left _ _ _ (by simp [bset_len])))
theorem pr_setd (p : Pr) (v : Int) : lsplice (prRow p) 128 [.sc (.int .i64 v)] = prRow { p with dec := v } := by
  have h := splice_right (bset 64 p.w) (bset 64 p.h ++ [.sc (.int .i64 p.dec), .sc (.bool p.done)]) [.sc (.int .i64 v)] 64
  have h2 := splice_right (bset 64 p.h) [.sc (.int .i64 p.dec), .sc (.bool p.done)] [.sc (.int .i64 v)] 0
  rw [bset_len] at h h2
  exact h.trans (congrArg (bset 64 p.w ++ ·) h2)
theorem pr_setf (p : Pr) (v : Bool) : lsplice (prRow p) 129 [.sc (.bool v)] = prRow { p with done := v } := by
  have h := splice_right (bset 64 p.w) (bset 64 p.h ++ [.sc (.int .i64 p.dec), .sc (.bool p.done)]) [.sc (.bool v)] 65
  have h2 := splice_right (bset 64 p.h) [.sc (.int .i64 p.dec), .sc (.bool p.done)] [.sc (.bool v)] 1
  rw [bset_len] at h h2
  exact h.trans (congrArg (bset 64 p.w ++ ·) h2)
theorem pr_w (p : Pr) : ((prRow p).drop 0).take 64 = bset 64 p.w := by
  rw [List.drop_zero]
  unfold prRow
  rw [List.take_append_of_le_length (by simp [bset_len]), List.take_of_length_le (by simp [bset_len])]
theorem pr_h (p : Pr) : ((prRow p).drop 64).take 64 = bset 64 p.h := by
  unfold prRow
  rw [List.drop_append_of_le_length (by simp [bset_len]), List.drop_of_length_le (by simp [bset_len]), List.nil_append, List.take_append_of_le_length (by simp [bset_len]), List.take_of_length_le (by simp [bset_len])]
theorem pr_wget (p : Pr) {q : Nat} (hq : q < 64) : (prRow p)[q]? = some (.sc (.bool (p.w q))) := by
  unfold prRow
  rw [List.getElem?_append_left (by rw [bset_len]; exact hq), bset_get hq]
theorem pr_d (p : Pr) : (prRow p)[128]? = some (.sc (.int .i64 p.dec)) := by
  unfold prRow
  rw [List.getElem?_append_right (by simp [bset_len]), List.getElem?_append_right (by simp [bset_len])]
  simp [bset_len]
theorem pr_f (p : Pr) : (prRow p)[129]? = some (.sc (.bool p.done)) := by
  unfold prRow
  rw [List.getElem?_append_right (by simp [bset_len]), List.getElem?_append_right (by simp [bset_len])]
  simp [bset_len]
theorem msg_w (m : Msg) : ((msgRow m).drop 0).take 64 = bset 64 m.w := by
  rw [List.drop_zero]
  unfold msgRow
  rw [List.take_append_of_le_length (by simp [bset_len]), List.take_of_length_le (by simp [bset_len])]
theorem msg_f (m : Msg) : (msgRow m)[64]? = some (.sc (.bool m.fin)) := by
  unfold msgRow
  rw [List.getElem?_append_right (by simp [bset_len])]
  simp [bset_len]
theorem msg_cell1 (m : Msg) : (msgRow m).all AV.cell1 = true := by
  unfold msgRow
  rw [List.all_append, bset_cell1]
  rfl

theorem procs_get {ps : List Pr} {i : Nat} {p : Pr} (h : ps[i]? = some p) : (ps.map prRow)[i]? = some (prRow p) := by rw [List.getElem?_map, h]; rfl
theorem procs_set (ps : List Pr) (i : Nat) (p : Pr) : (ps.map prRow).set i (prRow p) = (ps.set i p).map prRow := by rw [List.map_set]

/-! take, plainly. -/

def eqB (s t : Nat → Bool) : Bool := (List.range 64).map s == (List.range 64).map t
def addS (s : Nat → Bool) (k : Nat) (i : Nat) : Bool := if i = k then true else s i

def takeGo (p : Pr) (r : Int) : (Nat → Bool) → (Nat → Bool) → List (Nat × Msg) → Pr
  | R, w, [] => { p with w := w, dec := if eqB R p.h = true then r else p.dec, h := R }
  | R, w, x :: rest => if x.2.fin = true then { p with w := x.2.w, dec := r } else takeGo p r (addS R x.1) (orS w x.2.w) rest

def takeS (p : Pr) (i : Nat) (r : Int) (G : List (Nat × Msg)) : Pr := if p.dec > 0 then { p with done := true } else takeGo p r (addS (fun _ => false) i) p.w G

end Go.Proofs.Ytbpmbofinoinmaa
