import Derived.Test.YtnngbbiajioghaaGSuG3
import Derived.Test.YtnngbbiajioghaaGSuW2
import Derived.Test.YtnngbbiajioghaaGSuL8
namespace Go.Proofs.Ytnngbbiajioghaa
open Go.Av Go.Proofs
set_option exponentiation.threshold 4000
set_option maxRecDepth 20000

/-! The law SumAccs. -/

/-- Four of them. -/
def arr (g : Nat) : List AV := [.ptr g 0 0 0, .ptr g 1 0 0, .ptr g 2 0 0, .ptr g 3 0 0]
def accG (s : Nat → St) : List Blk := [.cells 41 [(s 0).acc true], .cells 41 [(s 1).acc true], .cells 41 [(s 2).acc true], .cells 41 [(s 3).acc true]]
def rG (r : Nat → Rs) : List Blk := [.cells 6 [(r 0).row], .cells 6 [(r 1).row], .cells 6 [(r 2).row], .cells 6 [(r 3).row]]
def upd {α : Type} (s : Nat → α) (x : Nat) (v : α) : Nat → α := fun i => if i = x then v else s i
def acH (s : Nat → St) (r : Nat → Rs) : Heap := [[.cells 4 [arr 2]], [.cells 4 [arr 3]], accG s, rG r]

theorem arr_get {g x : Nat} (h : x < 4) : (arr g)[x]? = some (.ptr g x 0 0) := by
  rcases (by omega : x = 0 ∨ x = 1 ∨ x = 2 ∨ x = 3) with rfl | rfl | rfl | rfl <;> rfl
theorem acc_hget {s : Nat → St} {r : Nat → Rs} {x : Nat} (h : x < 4) : hget (acH s r) 2 x = some (.cells 41 [(s x).acc true]) := by
  rcases (by omega : x = 0 ∨ x = 1 ∨ x = 2 ∨ x = 3) with rfl | rfl | rfl | rfl <;> rfl
theorem r_hget {s : Nat → St} {r : Nat → Rs} {x : Nat} (h : x < 4) : hget (acH s r) 3 x = some (.cells 6 [(r x).row]) := by
  rcases (by omega : x = 0 ∨ x = 1 ∨ x = 2 ∨ x = 3) with rfl | rfl | rfl | rfl <;> rfl
theorem acc_hset {s : Nat → St} {r : Nat → Rs} {x : Nat} (v : St) (h : x < 4) : hset (acH s r) 2 x (.cells 41 [v.acc true]) = acH (upd s x v) r := by
  rcases (by omega : x = 0 ∨ x = 1 ∨ x = 2 ∨ x = 3) with rfl | rfl | rfl | rfl <;> rfl
theorem r_hset {s : Nat → St} {r : Nat → Rs} {x : Nat} (v : Rs) (h : x < 4) : hset (acH s r) 3 x (.cells 6 [v.row]) = acH s (upd r x v) := by
  rcases (by omega : x = 0 ∨ x = 1 ∨ x = 2 ∨ x = 3) with rfl | rfl | rfl | rfl <;> rfl
theorem upd_self {α : Type} (s : Nat → α) (x : Nat) : upd s x (s x) = s := by
  funext i
  unfold upd
  split
  · rename_i h; rw [h]
  · rfl

/-- What holds of each. -/
def AccOK (s : Nat → St) (r : Nat → Rs) : Prop := ∀ i, i < 4 → Rel (s i) (r i) ∧ Good (s i)
theorem AccOK.upd {s : Nat → St} {r : Nat → Rs} {x : Nat} {v : St} {w : Rs} (h : AccOK s r) (h1 : Rel v w) (h2 : Good v) : AccOK (upd s x v) (upd r x w) := fun i hi => by
  unfold Go.Proofs.Ytnngbbiajioghaa.upd
  split
  · exact ⟨h1, h2⟩
  · exact h i hi

structure Ac where
  what : Nat
  on : Nat
  other : Nat
  bits : Nat
def acRow (a : Ac) : List AV := [.sc (.int .u8 (a.what : Int)), .sc (.int .u8 (a.on : Int)), .sc (.int .u8 (a.other : Int)), .sc (.int .u64 (a.bits : Int))]
def acR (l : List Ac) : List (List AV) := l.map acRow
instance (a : Ac) : PR (acRow a) := ⟨pr [_, _, _, _]⟩
instance (l : List Ac) : PRs (acR l) := ⟨fun r hr => by
  obtain ⟨a, _, rfl⟩ := List.mem_map.1 hr
  exact pr (acRow a)⟩
theorem acR_len (l : List Ac) : (acR l).length = l.length := by simp [acR]
theorem acR_ix (l : List Ac) (k : Nat) (h : k < l.length) : rowIx (acR l) (k : Int) = some (acRow l[k]) := rowIx_map acRow l k h
structure AcOK (a : Ac) : Prop where
  what : a.what < 256
  on : a.on < 256
  other : a.other < 256
  bits : a.bits < 18446744073709551616

/-- The frame within a round. -/
def acF (l : List Ac) (k x y : Nat) : Fr := [(0, .list 4 (acR l)), (3, .ptr 0 0 0 0), (4, .ptr 1 0 0 0), (6, .sc (.int .i64 (k : Int))), (7, .sc (.int .u8 (x : Int))), (8, .sc (.int .u8 (y : Int)))]

end Go.Proofs.Ytnngbbiajioghaa
namespace Go.Proofs.Ytnngbbiajioghaa
open Go.Av Go.Proofs
set_option exponentiation.threshold 4000
set_option maxRecDepth 20000

/-! One call of SumAccs. -/
def pick : List Nat → ICode → ICode
  | [], c => c
  | 0 :: l, .seq a _ => pick l a
  | _ :: l, .seq _ b => pick l b
  | 0 :: l, .cond _ a _ => pick l a
  | _ :: l, .cond _ _ b => pick l b
  | _ :: l, .block _ a => pick l a
  | _ :: l, .loop a => pick l a
  | _ :: _, c => c

theorem neI (e : Int) : (e != e) = false := by simp
/-- What the call leaves. -/
def acQ (l : List Ac) (k x y : Nat) : Exit → Fr → Heap → Prop := fun e fr' H' => e = .normal ∧ ∃ s' r', AccOK s' r' ∧ Sub 0 F8.n fr' H' (acF l k x y) (acH s' r')

set_option maxHeartbeats 4000000 in
theorem ac_add (l : List Ac) (k x y : Nat) (hk : k < l.length) (hx : x < 4) (hb : l[k].bits < 18446744073709551616) {s : Nat → St} {r : Nat → Rs} (h : AccOK s r) :
    AWP Try.prog F8.n 0 (pick [1, 1, 1, 1, 1, 0, 1, 0, 0, 1, 0, 0, 1, 0, 1] F8.code) (acQ l k x y) ((53, .sc (.int .u8 ((0 : Nat) : Int))) :: acF l k x y) (acH s r) := by
  have a2 := arr_get (g := 2) hx
  have a3 := arr_get (g := 3) hx
  have hr := acR_ix l k hk
  generalize l[k] = a at *
  obtain ⟨hrel, hgood⟩ := h x hx
  have hm := rel_merge hrel (rel_one hb)
  show AWP Try.prog F8.n 0 (.block 4 _) _ _ _
  refine walkS0 ?_
  refine AWP.lin [(true, 0), (true, 1), (true, 2), (true, 3), (true, 4), (true, 5), (true, 6), (true, 7), (true, 9), (true, 10), (true, 11), (true, 12), (true, 13), (true, 14), (true, 15), (true, 16), (false, 8), (false, 17), (true, 18)] mixed (by kernel_rfl) (by kernel_rfl) ?_
  refine walkLS ?_
  refine RT.cc (Nat.zero_le _) rfl (add_at (acc_hget hx) hb) ?_
  rintro res H' ⟨rfl, rfl⟩
  rw [acc_hset _ hx]
  refine ⟨(by repeat (first | exact trivial | exact Keeps.refl _ _ | refine And.intro rfl ?_)), ?_⟩
  refine walkLS ?_
  refine RT.cc (Nat.zero_le _) rfl (radd_at (r_hget hx) hrel.nb hb) ?_
  rintro res H' ⟨rfl, rfl⟩
  rw [r_hset _ hx, ← hm.1]
  refine ⟨(by repeat (first | exact trivial | exact Keeps.refl _ _ | refine And.intro rfl ?_)), ?_⟩
  refine walkLS ?_
  rw [neI]
  refine walkS0 ?_
  refine ⟨rfl, _, _, h.upd (x := x) hm.2 (good_merge hgood (good_one hb)), ?_⟩
  exact Sub.w [] [[(0,0)],[(1,0)],[(2,0),(2,1),(2,2),(2,3)],[(3,0),(3,1),(3,2),(3,3)]]

theorem hset_app {H : Heap} {g i : Nat} {x : Blk} {G : Heap} (h : g < H.length) : hset (H ++ G) g i x = hset H g i x ++ G := by
  induction H generalizing g with
  | nil => simp at h
  | cons f H ih =>
    cases g with
    | zero => rfl
    | succ g =>
      show f :: hset (H ++ G) g i x = f :: hset H g i x ++ G
      rw [ih (by simpa using h)]
      rfl
theorem hget_app {H : Heap} {g i : Nat} {x : Blk} {G : Heap} (h : hget H g i = some x) : hget (H ++ G) g i = some x := by
  unfold hget at h ⊢
  by_cases hg : g < H.length
  · rw [List.getElem?_append_left hg]; exact h
  · rw [List.getElem?_eq_none (by omega)] at h; cases h

set_option maxHeartbeats 4000000 in
theorem ac_merge (l : List Ac) (k x y : Nat) (hx : x < 4) (hy : y < 4) {s : Nat → St} {r : Nat → Rs} (h : AccOK s r) :
    AWP Try.prog F8.n 0 (pick [1, 1, 1, 1, 1, 0, 1, 0, 0, 1, 0, 0, 1, 0, 1] F8.code) (acQ l k x y) ((53, .sc (.int .u8 ((1 : Nat) : Int))) :: acF l k x y) (acH s r) := by
  have a2 := arr_get (g := 2) hx
  have a3 := arr_get (g := 3) hx
  have b2 := arr_get (g := 2) hy
  have b3 := arr_get (g := 3) hy
  obtain ⟨hrel, hgood⟩ := h x hx
  obtain ⟨hrel2, hgood2⟩ := h y hy
  have hm := rel_merge hrel hrel2
  show AWP Try.prog F8.n 0 (.block 4 _) _ _ _
  refine walkS0 ?_
  refine AWP.lin [(true, 0), (true, 1), (true, 2), (true, 3), (true, 4), (true, 5), (true, 7), (true, 8), (true, 9), (true, 10), (true, 11), (true, 12), (false, 6), (false, 13), (false, 14), (true, 15)] mixed (by kernel_rfl) (by kernel_rfl) ?_
  refine walkLS ?_
  refine RT.cc (Nat.zero_le _) rfl (merge2_at (acc_hget hx) (acc_hget hy)) ?_
  rintro res H' ⟨rfl, rfl⟩
  rw [acc_hset _ hx]
  refine ⟨(by repeat (first | exact trivial | exact Keeps.refl _ _ | refine And.intro rfl ?_)), ?_⟩
  refine walkLS ?_
  refine RT.cc (Nat.zero_le _) rfl (rcopy_at (r_hget hy)) ?_
  rintro res H' ⟨rfl, rfl⟩
  refine ⟨(by repeat (first | exact trivial | exact Keeps.refl _ _ | refine And.intro rfl ?_)), ?_⟩
  refine walkLS ?_
  refine RT.cc (Nat.zero_le _) rfl (rmerge_at (s := r y) (hget_app (r_hget hx)) (hget_new _ _) hrel.nb hrel2.nb) ?_
  rintro res H' ⟨rfl, rfl⟩
  rw [hset_app (show 3 < (acH _ _).length by exact Nat.le_refl 4), r_hset _ hx, ← hm.1]
  refine ⟨(by repeat (first | exact trivial | exact Keeps.refl _ _ | refine And.intro rfl ?_)), ?_⟩
  refine walkLS ?_
  rw [neI]
  refine walkS0 ?_
  refine ⟨rfl, _, _, h.upd (x := x) hm.2 (good_merge hgood hgood2), ?_⟩
  exact Sub.w [] [[(0,0)],[(1,0)],[(2,0),(2,1),(2,2),(2,3)],[(3,0),(3,1),(3,2),(3,3)]]

end Go.Proofs.Ytnngbbiajioghaa
namespace Go.Proofs.Ytnngbbiajioghaa
open Go.Av Go.Proofs
set_option exponentiation.threshold 4000
set_option maxRecDepth 20000

/-! .. copies, new ones. -/
theorem To_nilE {H : Heap} {n : Nat} {S : Nat → Nat → Bool} {ρ : Nat → Nat → Option (Nat × Nat)} {sz : Nat} {b : AV} (e : b = .list sz []) : To (ToT H n S) ρ (.sc (.slice none 0 0)) b := by subst e; exact To.nilL
theorem Sub_wn {k N : Nat} {fr fr' : Fr} {H H' : Heap} (szs : List Nat) (ids : List (List (Nat × Nat))) (h4 : famsTo (ToB (ToT (H ++ gh szs) H.length (notIn ids)) (rho ids)) (H ++ gh szs) ids H' := by (repeat' (first | exact ToAll.nil | exact famsTo.nil | exact famTo.nil | exact ToL.nil | exact ToR.nil | refine ToAll.cons ?_ ?_ | refine famsTo.cons ?_ ?_ | refine wt10 ?_ ?_ | exact To.undef _ | exact To.sc _ | exact To.hslL rfl rfl | exact To.ptrO rfl rfl rfl | exact To.mrefO rfl | exact To.nil rfl rfl rfl | exact wt1 | exact To.nilL | exact To_nilE rfl | refine To.int ?_ | refine To.bool ?_ | refine To.hslL rfl ?_ | refine wt2 rfl ?_ ?_ ?_ | refine To.tupL ?_ | refine To.aggL ?_ | refine To.cptrL ?_ | refine wt3 ?_ | refine wt4 ?_ | refine To.cloL ?_ ?_ | exact wt5 | refine ToB.one ?_ | refine wt6 ?_ | exact wt7 | ((with_reducible apply ToL.consE); case e9 => rfl) | refine wt8 ?_ | refine ToL.cons ?_ ?_ | exact wt11 | refine wt9 ?_ ?_ | refine wt12 ?_ | (with_reducible rfl) | assumption)); all_goals (first | rfl | assumption | (simp; done) | (simp; omega) | (rw [wrap_small (by omega) (by omega)]; done) | (rw [wrap_small (by omega) (by omega)]; omega) | (refine congrArg Nat.cast ?_; assumption)))
    (h5 : ToAll (ToT (H ++ gh szs) H.length (notIn ids)) (rho ids) fr fr' := by (repeat' (first | exact ToAll.nil | exact famsTo.nil | exact famTo.nil | exact ToL.nil | exact ToR.nil | refine ToAll.cons ?_ ?_ | refine famsTo.cons ?_ ?_ | refine wt10 ?_ ?_ | exact To.undef _ | exact To.sc _ | exact To.hslL rfl rfl | exact To.ptrO rfl rfl rfl | exact To.mrefO rfl | exact To.nil rfl rfl rfl | exact wt1 | exact To.nilL | exact To_nilE rfl | refine To.int ?_ | refine To.bool ?_ | refine To.hslL rfl ?_ | refine wt2 rfl ?_ ?_ ?_ | refine To.tupL ?_ | refine To.aggL ?_ | refine To.cptrL ?_ | refine wt3 ?_ | refine wt4 ?_ | refine To.cloL ?_ ?_ | exact wt5 | refine ToB.one ?_ | refine wt6 ?_ | exact wt7 | ((with_reducible apply ToL.consE); case e9 => rfl) | refine wt8 ?_ | refine ToL.cons ?_ ?_ | exact wt11 | refine wt9 ?_ ?_ | refine wt12 ?_ | (with_reducible rfl) | assumption)); all_goals (first | rfl | assumption | (simp; done) | (simp; omega) | (rw [wrap_small (by omega) (by omega)]; done) | (rw [wrap_small (by omega) (by omega)]; omega) | (refine congrArg Nat.cast ?_; assumption))) (h1 : lowOK 0 k ids = true := by rfl) (h2 : lens k ids (H ++ gh szs) = true := by rfl) (h3 : ndup ids.flatten = true := by rfl) : Sub k N fr H fr' H' := .to szs ids h5 h4 h1 h2 h3
theorem ac_tell {l : List Ac} {k x y : Nat} (hx : x < 4) {s : Nat → St} {r : Nat → Rs} {sy : St} {ry : Rs} {fr : Fr} (h0 : fr.get 0 = .list 4 (acR l)) (h3 : fr.get 3 = .ptr 0 0 0 0) (h4 : fr.get 4 = .ptr 1 0 0 0) (h6 : fr.get 6 = .sc (.int .i64 (k : Int)))
    (h7 : fr.get 7 = .sc (.int .u8 (x : Int))) (h8 : fr.get 8 = .sc (.int .u8 (y : Int))) :
    Sub 0 F8.n fr [[.cells 4 [(arr 2).set x (.ptr 4 0 0 0)]], [.cells 4 [(arr 3).set x (.ptr 5 0 0 0)]], accG s, rG r, [.cells 41 [sy.acc true]], [.cells 6 [ry.row]]] (acF l k x y) (acH (upd s x sy) (upd r x ry)) := by
  have hf : Sub 0 F8.n fr [[.cells 4 [(arr 2).set x (.ptr 4 0 0 0)]], [.cells 4 [(arr 3).set x (.ptr 5 0 0 0)]], accG s, rG r, [.cells 41 [sy.acc true]], [.cells 6 [ry.row]]] (acF l k x y) [[.cells 4 [(arr 2).set x (.ptr 4 0 0 0)]], [.cells 4 [(arr 3).set x (.ptr 5 0 0 0)]], accG s, rG r, [.cells 41 [sy.acc true]], [.cells 6 [ry.row]]] :=
    Sub.le fun p hp => by
      simp only [acF, List.mem_cons, List.not_mem_nil, or_false] at hp
      rcases hp with rfl | rfl | rfl | rfl | rfl | rfl
      · rw [h0]; exact Le.refl _
      · rw [h3]; exact Le.refl _
      · rw [h4]; exact Le.refl _
      · rw [h6]; exact Le.refl _
      · rw [h7]; exact Le.refl _
      · rw [h8]; exact Le.refl _
  refine hf.trans ?_
  rcases (by omega : x = 0 ∨ x = 1 ∨ x = 2 ∨ x = 3) with rfl | rfl | rfl | rfl
  · exact Sub.w [] [[(0,0)],[(1,0)],[(4,0),(2,1),(2,2),(2,3)],[(5,0),(3,1),(3,2),(3,3)]]
  · exact Sub.w [] [[(0,0)],[(1,0)],[(2,0),(4,0),(2,2),(2,3)],[(3,0),(5,0),(3,2),(3,3)]]
  · exact Sub.w [] [[(0,0)],[(1,0)],[(2,0),(2,1),(4,0),(2,3)],[(3,0),(3,1),(5,0),(3,3)]]
  · exact Sub.w [] [[(0,0)],[(1,0)],[(2,0),(2,1),(2,2),(4,0)],[(3,0),(3,1),(3,2),(5,0)]]

set_option maxHeartbeats 4000000 in
theorem ac_copy (l : List Ac) (k x y : Nat) (hx : x < 4) (hy : y < 4) {s : Nat → St} {r : Nat → Rs} (h : AccOK s r) :
    AWP Try.prog F8.n 0 (pick [1, 1, 1, 1, 1, 0, 1, 0, 0, 1, 0, 0, 1, 0, 1] F8.code) (acQ l k x y) ((53, .sc (.int .u8 ((2 : Nat) : Int))) :: acF l k x y) (acH s r) := by
  have b2 := arr_get (g := 2) hy
  have b3 := arr_get (g := 3) hy
  have l2 : x < (arr 2).length := hx
  have l3 : x < (arr 3).length := hx
  obtain ⟨hrel2, hgood2⟩ := h y hy
  have hu := h.upd (x := x) hrel2 hgood2
  have h1 := copy_at (acc_hget (r := r) (s := s) hy)
  have h2 := rcopy_at (hget_app (G := [[.cells 41 [(s y).acc true]]]) (r_hget (r := r) (s := s) hy))
  generalize s y = sy at *
  generalize r y = ry at *
  show AWP Try.prog F8.n 0 (.block 4 _) _ _ _
  refine walkS0 ?_
  refine AWP.lin [(true, 0), (true, 1), (true, 2), (true, 3), (true, 4), (true, 6), (true, 7), (true, 8), (true, 10), (true, 12), (false, 5), (false, 9), (false, 11), (false, 13)] mixed (by kernel_rfl) (by kernel_rfl) ?_
  refine walkLS ?_
  refine RT.cc (Nat.zero_le _) rfl h1 ?_
  rintro res H' ⟨rfl, rfl⟩
  refine ⟨(by repeat (first | exact trivial | exact Keeps.refl _ _ | refine And.intro rfl ?_)), ?_⟩
  refine walkLS ?_
  refine RT.cc (Nat.zero_le _) rfl h2 ?_
  rintro res H' ⟨rfl, rfl⟩
  refine ⟨(by repeat (first | exact trivial | exact Keeps.refl _ _ | refine And.intro rfl ?_)), ?_⟩
  refine walkLS ?_
  exact ⟨rfl, _, _, hu, ac_tell hx rfl rfl rfl rfl rfl rfl⟩

set_option maxHeartbeats 4000000 in
theorem ac_new (l : List Ac) (k x y : Nat) (hx : x < 4) {s : Nat → St} {r : Nat → Rs} (h : AccOK s r) :
    AWP Try.prog F8.n 0 (pick [1, 1, 1, 1, 1, 0, 1, 0, 0, 1, 0, 0, 1, 0, 1] F8.code) (acQ l k x y) ((53, .sc (.int .u8 ((4 : Nat) : Int))) :: acF l k x y) (acH s r) := by
  have hu := h.upd (x := x) rel_zero good_zero
  have l2 : x < (arr 2).length := hx
  have l3 : x < (arr 3).length := hx
  show AWP Try.prog F8.n 0 (.block 4 _) _ _ _
  refine walkS0 ?_
  refine Reg.c (Nat.zero_le _) rfl ((new_at _).mono ?_)
  rintro res H' ⟨rfl, rfl⟩
  refine walkS0 ?_
  refine ⟨rfl, _, _, hu, ?_⟩
  clear hu h l2 l3
  have e0 : r0.row = [.sc (.bool false), .list 1 [], .sc (.bool false), .sc (.bool false), .sc (.bool false), .sc (.int .i64 0)] := rfl
  rcases (by omega : x = 0 ∨ x = 1 ∨ x = 2 ∨ x = 3) with rfl | rfl | rfl | rfl
  · rw [show acH (upd s 0 s0) (upd r 0 r0) = [[.cells 4 [arr 2]], [.cells 4 [arr 3]], [.cells 41 [s0.acc true], .cells 41 [(s 1).acc true], .cells 41 [(s 2).acc true], .cells 41 [(s 3).acc true]], [.cells 6 [r0.row], .cells 6 [(r 1).row], .cells 6 [(r 2).row], .cells 6 [(r 3).row]]] from rfl, e0]
    exact Sub_wn [] [[(0,0)],[(1,0)],[(4,0),(2,1),(2,2),(2,3)],[(5,0),(3,1),(3,2),(3,3)]]
  · rw [show acH (upd s 1 s0) (upd r 1 r0) = [[.cells 4 [arr 2]], [.cells 4 [arr 3]], [.cells 41 [(s 0).acc true], .cells 41 [s0.acc true], .cells 41 [(s 2).acc true], .cells 41 [(s 3).acc true]], [.cells 6 [(r 0).row], .cells 6 [r0.row], .cells 6 [(r 2).row], .cells 6 [(r 3).row]]] from rfl, e0]
    exact Sub_wn [] [[(0,0)],[(1,0)],[(2,0),(4,0),(2,2),(2,3)],[(3,0),(5,0),(3,2),(3,3)]]
  · rw [show acH (upd s 2 s0) (upd r 2 r0) = [[.cells 4 [arr 2]], [.cells 4 [arr 3]], [.cells 41 [(s 0).acc true], .cells 41 [(s 1).acc true], .cells 41 [s0.acc true], .cells 41 [(s 3).acc true]], [.cells 6 [(r 0).row], .cells 6 [(r 1).row], .cells 6 [r0.row], .cells 6 [(r 3).row]]] from rfl, e0]
    exact Sub_wn [] [[(0,0)],[(1,0)],[(2,0),(2,1),(4,0),(2,3)],[(3,0),(3,1),(5,0),(3,3)]]
  · rw [show acH (upd s 3 s0) (upd r 3 r0) = [[.cells 4 [arr 2]], [.cells 4 [arr 3]], [.cells 41 [(s 0).acc true], .cells 41 [(s 1).acc true], .cells 41 [(s 2).acc true], .cells 41 [s0.acc true]], [.cells 6 [(r 0).row], .cells 6 [(r 1).row], .cells 6 [(r 2).row], .cells 6 [r0.row]]] from rfl, e0]
    exact Sub_wn [] [[(0,0)],[(1,0)],[(2,0),(2,1),(2,2),(4,0)],[(3,0),(3,1),(3,2),(5,0)]]

end Go.Proofs.Ytnngbbiajioghaa
namespace Go.Proofs.Ytnngbbiajioghaa
open Go.Av Go.Proofs
set_option exponentiation.threshold 4000
set_option maxRecDepth 20000

/-! .. bytes. -/
set_option maxHeartbeats 4000000 in
theorem ac_bytes (l : List Ac) (k x y : Nat) (hx : x < 4) (hy : y < 4) {s : Nat → St} {r : Nat → Rs} (h : AccOK s r) :
    AWP Try.prog F8.n 0 (pick [1, 1, 1, 1, 1, 0, 1, 0, 0, 1, 0, 0, 1, 0, 1] F8.code) (acQ l k x y) ((53, .sc (.int .u8 ((3 : Nat) : Int))) :: acF l k x y) (acH s r) := by
  have b2 := arr_get (g := 2) hy
  have b3 := arr_get (g := 3) hy
  have l2 : x < (arr 2).length := hx
  have l3 : x < (arr 3).length := hx
  obtain ⟨hrel2, hgood2⟩ := h y hy
  have hu := h.upd (x := x) hrel2 hgood2
  have hz : (r y).zero ≤ 2 := by rw [← hrel2.zero]; exact hgood2.zero
  have h0 := encode_at (acc_hget (r := r) (s := s) hy) hgood2.n hgood2.zero
  have h1 := rencode_at (r_hget (r := r) (s := s) hy) hrel2.nb hz
  rw [acc_hset _ hy, upd_self] at h0
  rw [r_hset _ hy, upd_self, ← rel_enc hrel2] at h1
  have h2 := decode_own (acH s r) hgood2
  have h3 := rcopy_at (hget_app (G := [[.cells 41 [(s y).acc true]]]) (r_hget (r := r) (s := s) hy))
  have hE := encV_by (s y)
  rw [hE] at h0 h1 h2
  generalize (flags (s y) :: flg (decide (2 ^ 2303 ≤ (s y).n)) 1 :: digs (nb (absN (s y).n)) (absN (s y).n)) = L at *
  clear hE hgood2 hrel2 hz
  generalize s y = sy at *
  generalize r y = ry at *
  show AWP Try.prog F8.n 0 (.block 4 _) _ _ _
  refine walkS0 ?_
  refine Reg.c (Nat.zero_le _) rfl (h0.mono ?_)
  rintro res H' ⟨rfl, rfl⟩
  refine walkS0 ?_
  refine AWP.lin [(true, 0), (true, 1), (true, 2), (true, 3), (true, 4), (true, 5), (true, 6), (true, 7), (false, 8), (true, 9), (true, 10), (true, 11)] mixed (by kernel_rfl) (by kernel_rfl) ?_
  refine walkLS ?_
  refine RT.o rfl (dstep_bs (l := L) rfl) (Keeps.refl _ _) ?_
  refine walkLS ?_
  refine RT.cc (Nat.zero_le _) rfl h1 ?_
  rintro res H' ⟨rfl, rfl⟩
  refine ⟨(by repeat (first | exact trivial | exact Keeps.refl _ _ | refine And.intro rfl ?_)), ?_⟩
  refine walkLS ?_
  refine RT.o rfl (dstep_bs (l := L) rfl) (Keeps.refl _ _) ?_
  refine RT.nil ?_
  refine LP.t0 ?_
  refine RT.o rfl (dstep_sne (s := strB L) rfl rfl) (Keeps.refl _ _) ?_
  refine walkLS ?_
  refine walkS0 ?_
  refine Reg.c (Nat.zero_le _) rfl (h2.mono ?_)
  rintro res H' ⟨rfl, rfl⟩
  refine walkS0 ?_
  refine AWP.lin [(true, 0), (true, 1), (true, 2), (true, 3), (true, 4), (true, 5), (true, 7), (true, 9), (false, 6), (false, 8), (false, 10)] mixed (by kernel_rfl) (by kernel_rfl) ?_
  refine walkLS ?_
  refine RT.cc (Nat.zero_le _) rfl h3 ?_
  rintro res H' ⟨rfl, rfl⟩
  refine ⟨(by repeat (first | exact trivial | exact Keeps.refl _ _ | refine And.intro rfl ?_)), ?_⟩
  refine walkLS ?_
  exact ⟨rfl, _, _, hu, ac_tell hx rfl rfl rfl rfl rfl rfl⟩

end Go.Proofs.Ytnngbbiajioghaa
namespace Go.Proofs.Ytnngbbiajioghaa
open Go.Av Go.Proofs
set_option exponentiation.threshold 4000
set_option maxRecDepth 20000

/-! What is looked at behind each call, and at the end. -/
def acG (l : List Ac) (k : Nat) : Fr := [(0, .list 4 (acR l)), (3, .ptr 0 0 0 0), (4, .ptr 1 0 0 0), (6, .sc (.int .i64 (k : Int)))]

set_option maxHeartbeats 4000000 in
theorem ac_look (l : List Ac) (k x y : Nat) (hx : x < 4) (hy : y < 4) {s : Nat → St} {r : Nat → Rs} (h : AccOK s r) :
    AWP Try.prog F8.n 0 (pick [1, 1, 1, 1, 1, 0, 1, 0, 0, 1, 0, 0, 1, 1] F8.code) (fun e fr' H' => e = .normal ∧ Sub 0 F8.n fr' H' (acG l k) (acH s r)) (acF l k x y) (acH s r) := by
  have a2 := arr_get (g := 2) hx
  have a3 := arr_get (g := 3) hx
  have b2 := arr_get (g := 2) hy
  have b3 := arr_get (g := 3) hy
  obtain ⟨hrel, hgood⟩ := h x hx
  obtain ⟨hrel2, hgood2⟩ := h y hy
  have h1 := look_at (acc_hget (s := s) (r := r) hx) (value_ok (s x) hgood.n)
  have h2 := rlook_at (r_hget (s := s) (r := r) hx) hrel.nb
  rw [← rvalue_rel hrel] at h2
  have h3 := same_at (acc_hget (s := s) (r := r) hx) (acc_hget (s := s) (r := r) hy) hgood.n hgood2.n
  have h4 := rsame_at (r_hget (s := s) (r := r) hx) (r_hget (s := s) (r := r) hy) hrel.nb hrel2.nb
  rw [← rel_same hrel hrel2] at h4
  generalize (s x).value = v at *
  generalize (s x).eqb (s y) = q at *
  clear hrel hgood hrel2 hgood2
  show AWP Try.prog F8.n 0 (.seq _ _) _ _ _
  refine walkS0 ?_
  refine AWP.lin [(true, 0), (true, 1), (true, 2), (true, 4), (true, 5), (true, 6), (false, 3), (false, 7), (true, 8), (true, 9), (true, 10), (true, 11), (true, 12), (true, 13), (true, 14), (true, 15), (true, 17), (true, 18), (true, 19), (true, 20), (true, 21), (true, 22), (false, 16), (false, 23), (true, 24), (true, 25)] mixed (by kernel_rfl) (by kernel_rfl) ?_
  refine walkLS ?_
  refine RT.cc (Nat.zero_le _) rfl h1 ?_
  rintro res H' ⟨rfl, rfl⟩
  refine ⟨(by repeat (first | exact trivial | exact Keeps.refl _ _ | refine And.intro rfl ?_)), ?_⟩
  refine walkLS ?_
  refine RT.cc (Nat.zero_le _) rfl h2 ?_
  rintro res H' ⟨rfl, rfl⟩
  refine ⟨(by repeat (first | exact trivial | exact Keeps.refl _ _ | refine And.intro rfl ?_)), ?_⟩
  refine walkLS ?_
  rw [show (!decide (v = v)) = false from by simp]
  refine walkLS ?_
  refine RT.cc (Nat.zero_le _) rfl h3 ?_
  rintro res H' ⟨rfl, rfl⟩
  refine ⟨(by repeat (first | exact trivial | exact Keeps.refl _ _ | refine And.intro rfl ?_)), ?_⟩
  refine walkLS ?_
  refine RT.cc (Nat.zero_le _) rfl h4 ?_
  rintro res H' ⟨rfl, rfl⟩
  refine ⟨(by repeat (first | exact trivial | exact Keeps.refl _ _ | refine And.intro rfl ?_)), ?_⟩
  refine walkLS ?_
  rw [show (q == q) = true from by simp]
  refine walkS0 ?_
  refine ⟨rfl, ?_⟩
  exact Sub.w [] [[(0,0)],[(1,0)],[(2,0),(2,1),(2,2),(2,3)],[(3,0),(3,1),(3,2),(3,3)]]

set_option maxHeartbeats 4000000 in
theorem ac_last (y : Nat) (hy : y < 4) {s : Nat → St} {r : Nat → Rs} (h : AccOK s r) :
    AWP Try.prog F8.n 0 (pick [1, 1, 1, 1, 1, 1, 0, 1, 0, 0, 1, 0] F8.code) (fun e fr' H' => e = .normal ∧ Sub 0 F8.n fr' H' [(3, .ptr 0 0 0 0), (4, .ptr 1 0 0 0), (12, .sc (.int .i64 (y : Int)))] (acH s r))
      [(3, .ptr 0 0 0 0), (4, .ptr 1 0 0 0), (12, .sc (.int .i64 (y : Int)))] (acH s r) := by
  have b2 := arr_get (g := 2) hy
  have b3 := arr_get (g := 3) hy
  obtain ⟨hrel2, hgood2⟩ := h y hy
  have hz : (r y).zero ≤ 2 := by rw [← hrel2.zero]; exact hgood2.zero
  have h0 := encode_at (acc_hget (r := r) (s := s) hy) hgood2.n hgood2.zero
  have h1 := rencode_at (r_hget (r := r) (s := s) hy) hrel2.nb hz
  rw [acc_hset _ hy, upd_self] at h0
  rw [r_hset _ hy, upd_self, ← rel_enc hrel2] at h1
  have hE := encV_by (s y)
  rw [hE] at h0 h1
  generalize (flags (s y) :: flg (decide (2 ^ 2303 ≤ (s y).n)) 1 :: digs (nb (absN (s y).n)) (absN (s y).n)) = L at *
  clear hE hgood2 hrel2 hz
  show AWP Try.prog F8.n 0 (.block 6 _) _ _ _
  refine walkS0 ?_
  refine Reg.c (Nat.zero_le _) rfl (h0.mono ?_)
  rintro res H' ⟨rfl, rfl⟩
  refine walkS0 ?_
  refine AWP.lin [(true, 0), (true, 1), (true, 2), (true, 3), (true, 4), (true, 5), (true, 6), (true, 7), (false, 8), (true, 9), (true, 10), (true, 11)] mixed (by kernel_rfl) (by kernel_rfl) ?_
  refine walkLS ?_
  refine RT.o rfl (dstep_bs (l := L) rfl) (Keeps.refl _ _) ?_
  refine walkLS ?_
  refine RT.cc (Nat.zero_le _) rfl h1 ?_
  rintro res H' ⟨rfl, rfl⟩
  refine ⟨(by repeat (first | exact trivial | exact Keeps.refl _ _ | refine And.intro rfl ?_)), ?_⟩
  refine walkLS ?_
  refine RT.o rfl (dstep_bs (l := L) rfl) (Keeps.refl _ _) ?_
  refine RT.nil ?_
  refine LP.t0 ?_
  refine RT.o rfl (dstep_sne (s := strB L) rfl rfl) (Keeps.refl _ _) ?_
  refine walkLS ?_
  refine walkS0 ?_
  refine ⟨rfl, ?_⟩
  exact Sub.w [] [[(0,0)],[(1,0)],[(2,0),(2,1),(2,2),(2,3)],[(3,0),(3,1),(3,2),(3,3)]]

end Go.Proofs.Ytnngbbiajioghaa
namespace Go.Proofs.Ytnngbbiajioghaa
open Go.Av Go.Proofs
set_option exponentiation.threshold 4000
set_option maxRecDepth 20000

/-! All calls, one behind the other. -/
set_option maxHeartbeats 4000000 in
theorem ac_rest (l : List Ac) (hlen : l.length ≤ 60) (hl : ∀ a ∈ l, AcOK a) : AWP Try.prog F8.n 0 (pick [1, 1, 1, 1, 1] F8.code) (EndP F8.res (.sc (.bool true))) [(0, .list 4 (acR l)), (3, .ptr 0 0 0 0), (4, .ptr 1 0 0 0)] (acH (fun _ => s0) (fun _ => r0)) := by
  have hw := works_ok
  have e0 := acR_len l
  show AWP Try.prog F8.n 0 (.seq _ _) _ _ _
  refine walkS0 ?_
  refine AWP.loop3 (fun k _ _ => acG l k) (fun _ s r => acH s r) (fun k s r => k ≤ l.length ∧ AccOK s r) (fun k _ _ => l.length - k) 0 (fun _ => s0) (fun _ => r0) ⟨Nat.zero_le _, fun _ _ => ⟨rel_zero, good_zero⟩⟩ ?_ ?_
  · exact Sub.w [] [[(0,0)],[(1,0)],[(2,0),(2,1),(2,2),(2,3)],[(3,0),(3,1),(3,2),(3,3)]]
  rintro k s r ⟨hk, h⟩
  refine walkS0 ?_
  rw [e0]
  refine AWP.condD rfl (fun h1 => ?_) (fun h1 => ?_)
  · have hr := acR_ix l k h1
    obtain ⟨q1, q2, q3, q4⟩ := hl _ (List.getElem_mem h1)
    have hx : l[k].on % 4 < 4 := Nat.mod_lt _ (by decide)
    have hy : l[k].other % 4 < 4 := Nat.mod_lt _ (by decide)
    have hsw : ∀ w x y : Nat, w < 5 → x < 4 → y < 4 → AWP Try.prog F8.n 0 (pick [1, 1, 1, 1, 1, 0, 1, 0, 0, 1, 0, 0, 1, 0, 1] F8.code) (acQ l k x y) ((53, .sc (.int .u8 (w : Int))) :: acF l k x y) (acH s r) := by
      intro w x y hw hx hy
      rcases (by omega : w = 0 ∨ w = 1 ∨ w = 2 ∨ w = 3 ∨ w = 4) with rfl | rfl | rfl | rfl | rfl
      · exact ac_add l k x y h1 hx q4 h
      · exact ac_merge l k x y hx hy h
      · exact ac_copy l k x y hx hy h
      · exact ac_bytes l k x y hx hy h
      · exact ac_new l k x y hx h
    have hsw := hsw (l[k].what % 5) _ _ (Nat.mod_lt _ (by decide)) hx hy
    have hlk := fun s' r' h' => ac_look l k _ _ hx hy (s := s') (r := r') h'
    generalize l[k] = a at *
    refine AWP.skip ?_
    refine AWP.seq ?_
    refine AWP.block ?_
    refine AWP.seq ?_
    refine AWP.dk mixed ?_
    refine walkSuT12 ?_
    refine DK.nil ⟨by kernel_rfl, ?_⟩
    refine AWP.seq ?_
    refine AWP.seq ?_
    refine AWP.region ?_
    refine walkR ?_
    refine AWP.mono (AWP.sub (fr' := (53, .sc (.int .u8 ((a.what % 5 : Nat) : Int))) :: acF l k (a.on % 4) (a.other % 4)) (H' := acH s r) ?_ hsw) ?_
    · exact Sub.w [] [[(0,0)],[(1,0)],[(2,0),(2,1),(2,2),(2,3)],[(3,0),(3,1),(3,2),(3,3)]]
    rintro e fr' H' ⟨rfl, s', r', h', hs⟩
    refine AWP.sub hs ?_
    refine AWP.mono (hlk s' r' h') ?_
    rintro e fr' H' ⟨rfl, hs⟩
    refine AWP.sub hs ?_
    refine walkS0 ?_
    refine ⟨k + 1, s', r', ⟨by omega, h'⟩, by omega, ?_⟩
    exact Sub.w [] [[(0,0)],[(1,0)],[(2,0),(2,1),(2,2),(2,3)],[(3,0),(3,1),(3,2),(3,3)]]
  · refine walkS0 ?_
    refine AWP.loop (fun i : Nat => [(3, .ptr 0 0 0 0), (4, .ptr 1 0 0 0), (12, .sc (.int .i64 (i : Int)))]) (fun _ => acH s r) (fun i => i ≤ 4) (fun i => 4 - i) 0 (Nat.zero_le _) ?_ ?_
    · exact Sub.w [] [[(0,0)],[(1,0)],[(2,0),(2,1),(2,2),(2,3)],[(3,0),(3,1),(3,2),(3,3)]]
    intro i hi
    refine AWP.seq ?_
    refine AWP.seq ?_
    refine AWP.region ?_
    refine walkR ?_
    refine AWP.condD rfl (fun h2 => ?_) (fun h2 => ?_)
    · refine AWP.skip ?_
      refine AWP.seq ?_
      refine AWP.mono (AWP.sub (fr' := [(3, .ptr 0 0 0 0), (4, .ptr 1 0 0 0), (12, .sc (.int .i64 (i : Int)))]) (H' := acH s r) ?_ (ac_last i h2 h)) ?_
      · exact Sub.w [] [[(0,0)],[(1,0)],[(2,0),(2,1),(2,2),(2,3)],[(3,0),(3,1),(3,2),(3,3)]]
      rintro e fr' H' ⟨rfl, hs⟩
      refine AWP.sub hs ?_
      refine walkS0 ?_
      refine ⟨i + 1, by omega, by omega, ?_⟩
      exact Sub.w [] [[(0,0)],[(1,0)],[(2,0),(2,1),(2,2),(2,3)],[(3,0),(3,1),(3,2),(3,3)]]
    · refine walkS0 ?_
      exact EndP.w

end Go.Proofs.Ytnngbbiajioghaa
namespace Go.Proofs.Ytnngbbiajioghaa
open Go.Av Go.Proofs
set_option exponentiation.threshold 4000
set_option maxRecDepth 20000

def nilP : AV := .sc (.pointer none)
def iniH : Nat → Heap
  | 0 => [[.cells 4 [[nilP, nilP, nilP, nilP]]], [.cells 4 [[nilP, nilP, nilP, nilP]]], [], []]
  | 1 => [[.cells 4 [[.ptr 2 0 0 0, nilP, nilP, nilP]]], [.cells 4 [[.ptr 3 0 0 0, nilP, nilP, nilP]]], [.cells 41 [s0.acc true]], [.cells 6 [r0.row]]]
  | 2 => [[.cells 4 [[.ptr 2 0 0 0, .ptr 2 1 0 0, nilP, nilP]]], [.cells 4 [[.ptr 3 0 0 0, .ptr 3 1 0 0, nilP, nilP]]], [.cells 41 [s0.acc true], .cells 41 [s0.acc true]], [.cells 6 [r0.row], .cells 6 [r0.row]]]
  | 3 => [[.cells 4 [[.ptr 2 0 0 0, .ptr 2 1 0 0, .ptr 2 2 0 0, nilP]]], [.cells 4 [[.ptr 3 0 0 0, .ptr 3 1 0 0, .ptr 3 2 0 0, nilP]]], [.cells 41 [s0.acc true], .cells 41 [s0.acc true], .cells 41 [s0.acc true]], [.cells 6 [r0.row], .cells 6 [r0.row], .cells 6 [r0.row]]]
  | _ => acH (fun _ => s0) (fun _ => r0)

set_option maxHeartbeats 4000000 in
theorem sumAccs_ok (l : List Ac) (hl : ∀ a ∈ l, AcOK a) : PureRun Try.prog 8 [.list 4 (acR l)] (.sc (.bool true)) := by
  refine PureRun.mkI cF8 (Nat.le_of_ble_eq_true rfl) ?_
  have hw := works_ok
  have e0 := acR_len l
  refine walkS0 ?_
  rw [e0]
  refine AWP.condD rfl (fun h => ?_) (fun h60 => ?_)
  · refine walkS0 ?_
    exact EndP.w
  refine walkS0 ?_
  refine AWP.loop (fun k : Nat => [(0, .list 4 (acR l)), (3, .ptr 0 0 0 0), (4, .ptr 1 0 0 0), (5, .sc (.int .i64 (k : Int)))]) iniH (fun k => k ≤ 4) (fun k => 4 - k) 0 (Nat.zero_le _) ?_ ?_
  · exact Sub.wx [] [[(0,0)],[(1,0)],[],[]]
  intro k hk
  by_cases h4 : k = 4
  · subst h4
    refine AWP.seq ?_
    refine AWP.seq ?_
    refine AWP.region ?_
    refine walkR ?_
    refine AWP.condF rfl ?_
    refine AWP.exit ?_
    refine AWP.sub ?_ (ac_rest l (by omega) hl)
    exact Sub.le fun p hp => by
      simp only [List.mem_cons, List.not_mem_nil, or_false] at hp
      rcases hp with rfl | rfl | rfl
      · exact Le.refl _
      · exact Le.refl _
      · exact Le.refl _
  · rcases (by omega : k = 0 ∨ k = 1 ∨ k = 2 ∨ k = 3) with rfl | rfl | rfl | rfl
    · refine walkS0 ?_
      refine Reg.c (Nat.zero_le _) rfl ((new_at _).mono ?_)
      rintro res H' ⟨rfl, rfl⟩
      refine walkS0 ?_
      refine ⟨1, by omega, by omega, ?_⟩
      exact Sub.wx [] [[(0,0)],[(1,0)],[(4,0)],[(5,0)]]
    · refine walkS0 ?_
      refine Reg.c (Nat.zero_le _) rfl ((new_at _).mono ?_)
      rintro res H' ⟨rfl, rfl⟩
      refine walkS0 ?_
      refine ⟨2, by omega, by omega, ?_⟩
      exact Sub.wx [] [[(0,0)],[(1,0)],[(2,0),(4,0)],[(3,0),(5,0)]]
    · refine walkS0 ?_
      refine Reg.c (Nat.zero_le _) rfl ((new_at _).mono ?_)
      rintro res H' ⟨rfl, rfl⟩
      refine walkS0 ?_
      refine ⟨3, by omega, by omega, ?_⟩
      exact Sub.wx [] [[(0,0)],[(1,0)],[(2,0),(2,1),(4,0)],[(3,0),(3,1),(5,0)]]
    · refine walkS0 ?_
      refine Reg.c (Nat.zero_le _) rfl ((new_at _).mono ?_)
      rintro res H' ⟨rfl, rfl⟩
      refine walkS0 ?_
      refine ⟨4, by omega, by omega, ?_⟩
      exact Sub.wx [] [[(0,0)],[(1,0)],[(2,0),(2,1),(2,2),(4,0)],[(3,0),(3,1),(3,2),(5,0)]]

end Go.Proofs.Ytnngbbiajioghaa
