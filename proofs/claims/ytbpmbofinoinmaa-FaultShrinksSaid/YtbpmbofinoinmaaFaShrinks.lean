/- The law FaultShrinksSaid answers true for every input; no further condition. -/
import Derived.Test.YtbpmbofinoinmaaGFaW11
namespace Go.Proofs.Ytbpmbofinoinmaa
open Go.Av Go.Proofs
set_option maxRecDepth 20000
def u8R (l : List Nat) : List (List AV) := l.map fun n : Nat => [.sc (.int .u8 (n : Int))]
instance (l : List Nat) : PRs (u8R l) := ⟨fun r hr => by
 obtain ⟨n, _, rfl⟩ := List.mem_map.1 hr
 exact allPure_cons (.sc _) allPure_nil⟩
theorem u8R_len (l : List Nat) : (u8R l).length = l.length := List.length_map ..
theorem kill_more (w : Wd) (p : Int) (G : Heap) (hn : w.n ≤ 64) : CallOK Try.prog 25 [.ptr 0 0 0 0, .sc (.int .i64 p)] (worldH w ++ G) fun res H' => res = .sc (.int .i64 (killW w p).1) ∧ H' = worldH (killW w p).2 ++ G :=
 CallOK.wd G (by unfold killW; split; rfl; split <;> rfl) (.sc _) (kill_ok w p hn) (allPure_cons (.sc _) allPure_nil)
theorem send_more (w : Wd) (c : Nat) (a b : Int) (G : Heap) (hw : WOK w) (hc : c < w.ts.length) : CallOK Try.prog 26 [.ptr 0 0 0 0, .sc (.int .i64 (c : Int)), .sc (.int .i64 a), .sc (.int .i64 b)] (worldH w ++ G) fun res H' => res = .sc (.int .i64 (sendT w (tmAt w.ts c) a b).1) ∧ H' = worldH (sendT w (tmAt w.ts c) a b).2 ++ G :=
 CallOK.wd G (by unfold sendT; split; rfl; split; split; rfl; split <;> rfl; rfl) (.sc _) (wsend_ok w c a b hw hc) (allPure_cons (.sc _) (allPure_cons (.sc _) (allPure_cons (.sc _) allPure_nil)))
def pickI : List Nat → ICode → ICode
 | [], c => c
 | 0 :: l, .seq a _ => pickI l a
 | _ :: l, .seq _ b => pickI l b
 | 0 :: l, .cond _ a _ => pickI l a
 | _ :: l, .cond _ _ b => pickI l b
 | _ :: l, .block _ a => pickI l a
 | _ :: l, .loop a => pickI l a
 | _ :: _, c => c
theorem rowIx_row1 {n i : Nat} {f : Nat → AV} (h : i < n) : rowIx (row1 n f) (i : Int) = some [f i] := by
 have := rowIx_map (fun k => [f k]) (List.range n) i (by simpa using h)
 simpa [row1] using this
theorem wok2 {w : Wd} (h : WOK w) {al : Nat → Bool} {kn : Nat → Nat → Bool} {t : Tm} (ht : GOK w.n t.g) : WOK { w with al := al, kn := kn, ts := w.ts ++ [t] } := by
 refine ⟨h.n1, fun c hc => ?_⟩
 have hc : c < (w.ts ++ [t]).length := hc
 show GOK w.n (tmAt (w.ts ++ [t]) c).g
 rw [List.length_append] at hc
 by_cases h2 : c < w.ts.length
 ·rw [tmAt_old h2]
  exact h.gs c h2
 ·have : c = w.ts.length := by simp at hc; omega
  subst this
  rw [tmAt_new]
  exact ht
theorem args_nil3 {f : FuncId} {a b : AV} {H : Heap} {R : AV → Heap → Prop} (h : CallOK Try.prog f [a, b, .list 3 []] H R) : CallOK Try.prog f [a, b, .sc (.slice none 0 0)] H R :=
 CallOK.args h rfl fun j x y e1 e2 => by
  match j with
  | 0 => injection e1 with e1; injection e2 with e2; subst e1; subst e2; exact .refl _
  | 1 => injection e1 with e1; injection e2 with e2; subst e1; subst e2; exact .refl _
  | 2 => injection e1 with e1; injection e2 with e2; subst e1; subst e2; exact Le.nil 3
  | j + 3 => simp at e1
theorem len_elems0 {s : Nat → Bool} (h : ∀ x, s x = false) : elems 64 s = [] := by
 unfold elems
 rw [List.filter_eq_nil_iff.2 fun x _ => by rw [h x]; decide]
 rfl
set_option maxHeartbeats 16000000 in
theorem rest8 (n : Nat) (w : Wd) (l : List C) (hn1 : 1 ≤ n) (hn20 : n ≤ 20) (hki : KInv n w) (hl : l.length ≤ 9223372036854775807) :
  AWP Try.prog F8.n 0 (pickI [1, 1, 1, 1, 1] F8.code) (EndP F8.res (.sc (.bool true))) [(2, .list 3 (l.map crow)), (7, .sc (.int .i64 (n : Int))), (8, .ptr 0 0 0 0)] (worldH w) := by
 show AWP Try.prog F8.n 0 (.seq _ _) _ _ _
 have hwk := works_pure
 have hko := hki.ok hn1 (by omega)
 have hg0 : (tmAt w.ts 0).g = List.range n := by rw [hki.ts]; rfl
 have hgo : GOK w.n (List.range n) := by rw [hki.n0]; exact range_ok hn1
 have hrl : (List.range n).length = n := List.length_range
 have hal := alive_at w
 have hm1 := members_ok n (elems 64 w.al) (by omega) (by have := elems_len 64 w.al; omega)
 rw [mem_row (by omega)] at hm1
 have hsh := shrink_at w 0 l hko (by rw [hki.ts]; exact Nat.zero_lt_one) (by rw [hki.ts]; exact Nat.le_of_ble_eq_true rfl) hki.dead hl
 rw [hg0] at hsh
 have hck : PureRun Try.prog 12 [.sc (.int .i64 (n : Int)), crV l] (.sc (.int .i64 (checkS n l))) := PureRun.ofI (check_big _ l hl)
 unfold crV at hsh hck
 refine walkX ?_
 refine Reg.c (Nat.zero_le _) rfl (hal.mono ?_)
 rintro res H' ⟨rfl, rfl⟩
 refine walkX ?_
 refine Reg.c (Nat.zero_le _) rfl (hsh.mono ?_)
 rintro res H' ⟨rfl, rfl⟩
 by_cases hbad : (crashW w.al (List.range n) l).2 ≠ 0
 ·rw [shr_bad hbad]
  have hcc := crashW_cases w.al (List.range n) l
  rw [hrl] at hcc
  rcases hcc with ⟨h1, h2⟩ | ⟨h1, h2, h3⟩ | ⟨_, _, h3⟩
  ·rw [h2]
   refine walkX ?_
   rw [show (checkS n l != 0) = true by simpa using h1]
   refine walkX ?_
   rw [beq_self_eq_true]
   refine walkX ?_
   exact EndP.w
  ·rw [h3]
   rw [h1] at hck
   refine walkX ?_
   exact EndP.w
  ·rw [h3] at hbad
   exact absurd rfl hbad
 have hz : (crashW w.al (List.range n) l).2 = 0 := by simpa using hbad
 obtain ⟨h1, h2⟩ : checkS (List.range n).length l = 0 ∧ anyDead w.al (List.range n) l = false := by
  rcases crashW_cases w.al (List.range n) l with ⟨h1, h2⟩ | ⟨h1, h2, h3⟩ | ⟨h1, h2, _⟩
  ·rw [h2] at hz; exact absurd hz h1
  ·rw [h3] at hz; exact absurd hz (by decide)
  ·exact ⟨h1, h2⟩
 have hckz : checkS (n : Int) l = 0 := by rw [hrl] at h1; exact h1
 by_cases hex : ∃ r : Nat, r < (List.range n).length ∧ buryW w.al (List.range n) l (gAt (List.range n) r) = true
 ·obtain ⟨A, K, g2, hS⟩ := shr_good hgo hki.dead (fun i j h => by rw [hki.n0]; exact hki.rng i j h) h1 h2 hex (by rw [hki.ts]; exact Nat.ne_of_lt (Nat.lt_of_sub_pos (by decide : 0 < 64 - 1)))
  have hAw : ∀ x, A x = true → w.al x = true := fun x hx => by
   rw [hS.hal, buryW_spec, Bool.and_eq_true] at hx
   exact hx.1
  have hAn : ∀ x, A x = true → x < n := fun x hx => hki.al x (hAw x hx)
  obtain ⟨r0, hr0, hr1⟩ := hex
  rw [gAt_range (by rw [← hrl]; exact hr0), ← hS.hal] at hr1
  have hr2 : r0 ∈ g2 := hS.keep r0 (List.mem_range.2 (by rw [← hrl]; exact hr0)) hr1
  rw [hS.eq]
  have hw2 := wok2 hko (al := A) (kn := K) (t := ⟨g2, fun _ => false⟩) hS.ok
  have hg2l := hS.ok.len
  have hnn := hki.n0
  generalize hW2 : ({ w with al := A, kn := K, ts := w.ts ++ [⟨g2, fun _ => false⟩] } : Wd) = w2 at *
  have hn2 : w2.n = n := by rw [← hW2]; exact hnn
  have hA2 : w2.al = A := by rw [← hW2]
  have hK2 : w2.kn = K := by rw [← hW2]
  have ht2 : tmAt w2.ts w.ts.length = ⟨g2, fun _ => false⟩ := by rw [← hW2]; exact tmAt_new
  have hl2 : w2.ts.length = 2 := by rw [← hW2]; show (w.ts ++ [_]).length = 2; rw [hki.ts]; rfl
  have hl1 : w.ts.length = 1 := by rw [hki.ts]; rfl
  have hal2 := alive_at w2
  rw [hA2] at hal2
  have hm2 := members_ok n (elems 64 A) (by omega) (by have := elems_len 64 A; omega)
  rw [mem_row (by omega)] at hm2
  have hgr := group_at w2 w.ts.length (by omega) (by rw [ht2]; exact hS.ok.ne) (by rw [ht2]; show g2.length ≤ 64; omega)
  rw [ht2] at hgr
  have hm3 := members_ok n (gI g2) (by omega) (by rw [gI_len]; omega)
  rw [mem_rowG] at hm3
  have hig : intsV (gI g2) = .list 1 (E.natsR g2) := by unfold intsV; rw [natsR_ints]; rfl
  rw [hig] at hm3
  have hdead2 : ∀ i j, w2.kn i j = true → w2.al j = false := by rw [hK2, hA2]; exact hS.dead
  have hrng2 : ∀ i j, w2.kn i j = true → j < w2.n := by rw [hK2, hn2, ← hnn]; exact hS.rng
  have hok2 : GOK w2.n g2 := by rw [hn2, ← hnn]; exact hS.ok
  have hb2 : ∀ x, buryW w2.al g2 [] x = A x := fun x => by rw [hA2]; rfl
  have hex2 : ∃ r : Nat, r < g2.length ∧ buryW w2.al g2 [] (gAt g2 r) = true := by
   obtain ⟨q, hq, e⟩ := List.getElem_of_mem hr2
   refine ⟨q, hq, ?_⟩
   rw [hb2, gAt_get hq, e]
   exact hr1
  obtain ⟨A3, K3, g3, hT⟩ := shr_good (l := []) hok2 hdead2 hrng2 (check_none hS.ok.ne (by omega)) rfl hex2 (by omega)
  have hA3 : A3 = A := funext fun x => by rw [hT.hal, hb2]
  subst hA3
  have hsh2 := shrink_at w2 w.ts.length [] hw2 (by omega) (by omega) hdead2 (by exact Nat.zero_le _)
  rw [ht2] at hsh2
  have hTe : shrF w2 (Tm.mk g2 fun _ => false).g [] = _ := hT.eq
  rw [hTe] at hsh2
  have hsh2 := args_nil3 hsh2
  have hg3l := hT.ok.len
  generalize hW3 : ({ w2 with al := A3, kn := K3, ts := w2.ts ++ [⟨g3, fun _ => false⟩] } : Wd) = w3 at *
  have ht3 : tmAt w3.ts w2.ts.length = ⟨g3, fun _ => false⟩ := by rw [← hW3]; exact tmAt_new
  have hl3 : w3.ts.length = 3 := by rw [← hW3]; show (w2.ts ++ [_]).length = 3; rw [List.length_append, hl2]; rfl
  have hal3 := alive_at w3
  rw [show w3.al = A3 by rw [← hW3]] at hal3
  have hgr3 := group_at w3 w2.ts.length (by omega) (by rw [ht3]; exact hT.ok.ne) (by rw [ht3]; show g3.length ≤ 64; omega)
  rw [ht3] at hgr3
  have hge : gI g3 = elems 64 A3 := by
   unfold gI elems
   refine congrArg (List.map _) (asc_eq hT.ok.pw (List.pairwise_lt_range.filter _) fun x => ?_)
   rw [List.mem_filter, List.mem_range]
   constructor
   ·intro hx
    have h9 := (hT.drop x hx).2
    rw [hA2] at h9
    exact ⟨by have := hAn x h9; omega, h9⟩
   ·rintro ⟨_, h9⟩
    exact hT.keep x (hS.keep x (List.mem_range.2 (hAn x h9)) h9) h9
  have heq : PureRun Try.prog 21 [.list 1 (E.natsR g3), intsV (elems 64 A3)] (.sc (.bool true)) := by
   have h9 := PureRun.ofI (equal_ok (gI g3) (elems 64 A3) (by rw [gI_len]; omega))
   rw [decide_eq_true hge] at h9
   rw [show intsV (gI g3) = .list 1 (E.natsR g3) by unfold intsV; rw [natsR_ints]; rfl] at h9
   exact h9
  clear hW2 hW3 hTe
  rw [hl1, hl2] at *
  refine walkX ?_
  refine Reg.c (Nat.zero_le _) rfl (hal2.mono ?_)
  rintro res H' ⟨rfl, rfl⟩
  refine walkX ?_
  refine Reg.c (Nat.zero_le _) rfl (hgr.mono ?_)
  rintro res H' ⟨rfl, rfl⟩
  refine walkX ?_
  refine AWP.loop (fun i : Nat => [(7, .sc (.int .i64 (n : Int))), (8, .ptr 0 0 0 0), (11, .list 1 (row1 n (boolV w.al))), (12, .sc (.int .i64 ((1 : Nat) : Int))), (13, .list 1 (row1 n (boolV A3))), (15, .sc (.int .i64 0)), (16, .list 1 (row1 n (boolV fun j => decide (j ∈ g2)))), (17, .sc (.int .i64 (i : Int)))])
   (fun _ => worldH w2) (fun i => i ≤ n) (fun i => n - i) 0 (Nat.zero_le _) ?_ ?_
  ·refine Sub.wd (w := w2) [] ?_
   (all_goals (repeat' (first | exact ToAll.nil | exact famsTo.nil | exact famTo.nil | exact ToL.nil | exact ToR.nil | refine ToAll.cons ?_ ?_ | refine famsTo.cons ?_ ?_ | refine wt10 ?_ ?_ | exact To.undef _ | exact To.sc _ | exact To.hslL rfl rfl | exact To.ptrO rfl rfl rfl | exact To.mrefO rfl | exact To.nil rfl rfl rfl | exact wt1 | exact To.nilL | refine To.int ?_ | refine To.bool ?_ | refine To.hslL rfl ?_ | refine wt2 rfl ?_ ?_ ?_ | refine To.tupL ?_ | refine To.aggL ?_ | refine To.cptrL ?_ | refine wt3 ?_ | refine wt4 ?_ | refine To.cloL ?_ ?_ | exact wt5 | refine wt6 ?_ | refine ToB.one ?_ | exact wt7 | ((with_reducible apply ToL.consE); case e9 => rfl) | refine wt8 ?_ | refine ToL.cons ?_ ?_ | exact wt11 | refine wt9 ?_ ?_ | refine wt12 ?_ | (with_reducible rfl) | assumption)); all_goals (first | rfl | assumption | (simp; done) | (simp; omega) | (rw [wrap_small (by omega) (by omega)]; done) | (rw [wrap_small (by omega) (by omega)]; omega) | (refine congrArg Nat.cast ?_; assumption) | skip))
  ·intro i hi
   refine walkX0 ?_
   refine AWP.condD rfl (fun h => ?_) (fun h => ?_)
   ·have hx1 : rowIx (row1 n (boolV A3)) (i : Int) = some [.sc (.bool (A3 i))] := rowIx_row1 h
    have hx2 : rowIx (row1 n (boolV fun j => decide (j ∈ g2))) (i : Int) = some [.sc (.bool (decide (i ∈ g2)))] := rowIx_row1 h
    have hx3 : rowIx (row1 n (boolV w.al)) (i : Int) = some [.sc (.bool (w.al i))] := rowIx_row1 h
    have hkn := known_at w2 i (by rw [hn2]; exact h)
    rw [hK2] at hkn
    have hdl := elems_len 64 (K i)
    have hdm : ∀ x ∈ elems 64 (K i), ∃ j : Nat, x = (j : Int) ∧ j < n ∧ A3 j = false := fun x hx => by
     obtain ⟨j, rfl, _, h3⟩ := mem_elems hx
     exact ⟨j, rfl, by rw [← hnn]; exact hS.rng i j h3, hS.dead i j h3⟩
    have hkey : (A3 i = true ∧ decide (i ∈ g2) = true ∧ w.al i = true) ∨ (A3 i = false ∧ decide (i ∈ g2) = true ∧ w.al i = true) ∨ (A3 i = false ∧ decide (i ∈ g2) = false) := by
     by_cases q : i ∈ g2
     ·have q2 := (hS.drop i q).2
      cases e : A3 i with
      | true => exact .inl ⟨rfl, decide_eq_true q, q2⟩
      | false => exact .inr (.inl ⟨rfl, decide_eq_true q, q2⟩)
     ·refine .inr (.inr ⟨?_, decide_eq_false q⟩)
      cases e : A3 i with
      | false => rfl
      | true => exact absurd (hS.keep i (List.mem_range.2 h) e) q
    generalize elems 64 (K i) = D at *
    have hil := intsLen D
    have hDx : ∀ (k : Nat) (hk : k < D.length), ∃ j : Nat, rowIx (intsR D) (k : Int) = some [.sc (.int .i64 (j : Int))] ∧ rowIx (row1 n (boolV A3)) (j : Int) = some [.sc (.bool false)] := fun k hk => by
     obtain ⟨j, h1, h2, h3⟩ := hdm D[k] (List.getElem_mem hk)
     have e1 : rowIx (intsR D) (k : Int) = some [.sc (.int .i64 D[k])] := rowIx_map (fun n : Int => [AV.sc (.int .i64 n)]) D k hk
     have e2 : rowIx (row1 n (boolV A3)) (j : Int) = some [.sc (.bool (A3 j))] := rowIx_row1 h2
     rw [h1] at e1
     rw [h3] at e2
     exact ⟨j, e1, e2⟩
    unfold intsV at hkn
    rcases hkey with ⟨a, b, c⟩ | ⟨a, b, c⟩ | ⟨a, b⟩
    ·rw [a] at hx1
     rw [b] at hx2
     rw [c] at hx3
     refine walkX0 ?_
     refine Reg.c (Nat.zero_le _) rfl (hkn.mono ?_)
     rintro res H' ⟨rfl, rfl⟩
     refine walkX0 ?_
     refine AWP.loop (fun k : Nat => [(7, .sc (.int .i64 (n : Int))), (8, .ptr 0 0 0 0), (11, .list 1 (row1 n (boolV w.al))), (12, .sc (.int .i64 ((1 : Nat) : Int))), (13, .list 1 (row1 n (boolV A3))), (15, .sc (.int .i64 0)), (16, .list 1 (row1 n (boolV fun j => decide (j ∈ g2)))), (17, .sc (.int .i64 (i : Int))), (18, .list 1 (intsR D)), (19, .sc (.int .i64 0)), (20, .sc (.int .i64 (k : Int)))])
      (fun _ => worldH w2) (fun k => k ≤ D.length) (fun k => D.length - k) 0 (Nat.zero_le _) ?_ ?_
     ·refine Sub.wd (w := w2) [] ?_
      (all_goals (repeat' (first | exact ToAll.nil | exact famsTo.nil | exact famTo.nil | exact ToL.nil | exact ToR.nil | refine ToAll.cons ?_ ?_ | refine famsTo.cons ?_ ?_ | refine wt10 ?_ ?_ | exact To.undef _ | exact To.sc _ | exact To.hslL rfl rfl | exact To.ptrO rfl rfl rfl | exact To.mrefO rfl | exact To.nil rfl rfl rfl | exact wt1 | exact To.nilL | refine To.int ?_ | refine To.bool ?_ | refine To.hslL rfl ?_ | refine wt2 rfl ?_ ?_ ?_ | refine To.tupL ?_ | refine To.aggL ?_ | refine To.cptrL ?_ | refine wt3 ?_ | refine wt4 ?_ | refine To.cloL ?_ ?_ | exact wt5 | refine wt6 ?_ | refine ToB.one ?_ | exact wt7 | ((with_reducible apply ToL.consE); case e9 => rfl) | refine wt8 ?_ | refine ToL.cons ?_ ?_ | exact wt11 | refine wt9 ?_ ?_ | refine wt12 ?_ | (with_reducible rfl) | assumption)); all_goals (first | rfl | assumption | (simp; done) | (simp; omega) | (rw [wrap_small (by omega) (by omega)]; done) | (rw [wrap_small (by omega) (by omega)]; omega) | (refine congrArg Nat.cast ?_; assumption) | skip))
     ·intro k hk
      refine walkX0 ?_
      rw [hil]
      refine AWP.condD rfl (fun h5 => ?_) (fun h5 => ?_)
      ·obtain ⟨j, e1, e2⟩ := hDx k h5
       refine walkX0 ?_
       refine ⟨k + 1, by omega, by omega, ?_⟩
       refine Sub.wd (w := w2) [] ?_
       (all_goals (repeat' (first | exact ToAll.nil | exact famsTo.nil | exact famTo.nil | exact ToL.nil | exact ToR.nil | refine ToAll.cons ?_ ?_ | refine famsTo.cons ?_ ?_ | refine wt10 ?_ ?_ | exact To.undef _ | exact To.sc _ | exact To.hslL rfl rfl | exact To.ptrO rfl rfl rfl | exact To.mrefO rfl | exact To.nil rfl rfl rfl | exact wt1 | exact To.nilL | refine To.int ?_ | refine To.bool ?_ | refine To.hslL rfl ?_ | refine wt2 rfl ?_ ?_ ?_ | refine To.tupL ?_ | refine To.aggL ?_ | refine To.cptrL ?_ | refine wt3 ?_ | refine wt4 ?_ | refine To.cloL ?_ ?_ | exact wt5 | refine wt6 ?_ | refine ToB.one ?_ | exact wt7 | ((with_reducible apply ToL.consE); case e9 => rfl) | refine wt8 ?_ | refine ToL.cons ?_ ?_ | exact wt11 | refine wt9 ?_ ?_ | refine wt12 ?_ | (with_reducible rfl) | assumption)); all_goals (first | rfl | assumption | (simp; done) | (simp; omega) | (rw [wrap_small (by omega) (by omega)]; done) | (rw [wrap_small (by omega) (by omega)]; omega) | (refine congrArg Nat.cast ?_; assumption) | skip))
      ·refine walkX0 ?_
       refine ⟨i + 1, by omega, by omega, ?_⟩
       refine Sub.wd (w := w2) [] ?_
       (all_goals (repeat' (first | exact ToAll.nil | exact famsTo.nil | exact famTo.nil | exact ToL.nil | exact ToR.nil | refine ToAll.cons ?_ ?_ | refine famsTo.cons ?_ ?_ | refine wt10 ?_ ?_ | exact To.undef _ | exact To.sc _ | exact To.hslL rfl rfl | exact To.ptrO rfl rfl rfl | exact To.mrefO rfl | exact To.nil rfl rfl rfl | exact wt1 | exact To.nilL | refine To.int ?_ | refine To.bool ?_ | refine To.hslL rfl ?_ | refine wt2 rfl ?_ ?_ ?_ | refine To.tupL ?_ | refine To.aggL ?_ | refine To.cptrL ?_ | refine wt3 ?_ | refine wt4 ?_ | refine To.cloL ?_ ?_ | exact wt5 | refine wt6 ?_ | refine ToB.one ?_ | exact wt7 | ((with_reducible apply ToL.consE); case e9 => rfl) | refine wt8 ?_ | refine ToL.cons ?_ ?_ | exact wt11 | refine wt9 ?_ ?_ | refine wt12 ?_ | (with_reducible rfl) | assumption)); all_goals (first | rfl | assumption | (simp; done) | (simp; omega) | (rw [wrap_small (by omega) (by omega)]; done) | (rw [wrap_small (by omega) (by omega)]; omega) | (refine congrArg Nat.cast ?_; assumption) | skip))
    ·rw [a] at hx1
     rw [b] at hx2
     rw [c] at hx3
     refine walkX0 ?_
     refine Reg.c (Nat.zero_le _) rfl (hkn.mono ?_)
     rintro res H' ⟨rfl, rfl⟩
     refine walkX0 ?_
     refine AWP.loop (fun k : Nat => [(7, .sc (.int .i64 (n : Int))), (8, .ptr 0 0 0 0), (11, .list 1 (row1 n (boolV w.al))), (12, .sc (.int .i64 ((1 : Nat) : Int))), (13, .list 1 (row1 n (boolV A3))), (15, .sc (.int .i64 0)), (16, .list 1 (row1 n (boolV fun j => decide (j ∈ g2)))), (17, .sc (.int .i64 (i : Int))), (18, .list 1 (intsR D)), (19, .sc (.int .i64 0)), (20, .sc (.int .i64 (k : Int)))])
      (fun _ => worldH w2) (fun k => k ≤ D.length) (fun k => D.length - k) 0 (Nat.zero_le _) ?_ ?_
     ·refine Sub.wd (w := w2) [] ?_
      (all_goals (repeat' (first | exact ToAll.nil | exact famsTo.nil | exact famTo.nil | exact ToL.nil | exact ToR.nil | refine ToAll.cons ?_ ?_ | refine famsTo.cons ?_ ?_ | refine wt10 ?_ ?_ | exact To.undef _ | exact To.sc _ | exact To.hslL rfl rfl | exact To.ptrO rfl rfl rfl | exact To.mrefO rfl | exact To.nil rfl rfl rfl | exact wt1 | exact To.nilL | refine To.int ?_ | refine To.bool ?_ | refine To.hslL rfl ?_ | refine wt2 rfl ?_ ?_ ?_ | refine To.tupL ?_ | refine To.aggL ?_ | refine To.cptrL ?_ | refine wt3 ?_ | refine wt4 ?_ | refine To.cloL ?_ ?_ | exact wt5 | refine wt6 ?_ | refine ToB.one ?_ | exact wt7 | ((with_reducible apply ToL.consE); case e9 => rfl) | refine wt8 ?_ | refine ToL.cons ?_ ?_ | exact wt11 | refine wt9 ?_ ?_ | refine wt12 ?_ | (with_reducible rfl) | assumption)); all_goals (first | rfl | assumption | (simp; done) | (simp; omega) | (rw [wrap_small (by omega) (by omega)]; done) | (rw [wrap_small (by omega) (by omega)]; omega) | (refine congrArg Nat.cast ?_; assumption) | skip))
     ·intro k hk
      refine walkX0 ?_
      rw [hil]
      refine AWP.condD rfl (fun h5 => ?_) (fun h5 => ?_)
      ·obtain ⟨j, e1, e2⟩ := hDx k h5
       refine walkX0 ?_
       refine ⟨k + 1, by omega, by omega, ?_⟩
       refine Sub.wd (w := w2) [] ?_
       (all_goals (repeat' (first | exact ToAll.nil | exact famsTo.nil | exact famTo.nil | exact ToL.nil | exact ToR.nil | refine ToAll.cons ?_ ?_ | refine famsTo.cons ?_ ?_ | refine wt10 ?_ ?_ | exact To.undef _ | exact To.sc _ | exact To.hslL rfl rfl | exact To.ptrO rfl rfl rfl | exact To.mrefO rfl | exact To.nil rfl rfl rfl | exact wt1 | exact To.nilL | refine To.int ?_ | refine To.bool ?_ | refine To.hslL rfl ?_ | refine wt2 rfl ?_ ?_ ?_ | refine To.tupL ?_ | refine To.aggL ?_ | refine To.cptrL ?_ | refine wt3 ?_ | refine wt4 ?_ | refine To.cloL ?_ ?_ | exact wt5 | refine wt6 ?_ | refine ToB.one ?_ | exact wt7 | ((with_reducible apply ToL.consE); case e9 => rfl) | refine wt8 ?_ | refine ToL.cons ?_ ?_ | exact wt11 | refine wt9 ?_ ?_ | refine wt12 ?_ | (with_reducible rfl) | assumption)); all_goals (first | rfl | assumption | (simp; done) | (simp; omega) | (rw [wrap_small (by omega) (by omega)]; done) | (rw [wrap_small (by omega) (by omega)]; omega) | (refine congrArg Nat.cast ?_; assumption) | skip))
      ·refine walkX0 ?_
       refine ⟨i + 1, by omega, by omega, ?_⟩
       refine Sub.wd (w := w2) [] ?_
       (all_goals (repeat' (first | exact ToAll.nil | exact famsTo.nil | exact famTo.nil | exact ToL.nil | exact ToR.nil | refine ToAll.cons ?_ ?_ | refine famsTo.cons ?_ ?_ | refine wt10 ?_ ?_ | exact To.undef _ | exact To.sc _ | exact To.hslL rfl rfl | exact To.ptrO rfl rfl rfl | exact To.mrefO rfl | exact To.nil rfl rfl rfl | exact wt1 | exact To.nilL | refine To.int ?_ | refine To.bool ?_ | refine To.hslL rfl ?_ | refine wt2 rfl ?_ ?_ ?_ | refine To.tupL ?_ | refine To.aggL ?_ | refine To.cptrL ?_ | refine wt3 ?_ | refine wt4 ?_ | refine To.cloL ?_ ?_ | exact wt5 | refine wt6 ?_ | refine ToB.one ?_ | exact wt7 | ((with_reducible apply ToL.consE); case e9 => rfl) | refine wt8 ?_ | refine ToL.cons ?_ ?_ | exact wt11 | refine wt9 ?_ ?_ | refine wt12 ?_ | (with_reducible rfl) | assumption)); all_goals (first | rfl | assumption | (simp; done) | (simp; omega) | (rw [wrap_small (by omega) (by omega)]; done) | (rw [wrap_small (by omega) (by omega)]; omega) | (refine congrArg Nat.cast ?_; assumption) | skip))
    ·rw [a] at hx1
     rw [b] at hx2
     refine walkX0 ?_
     refine Reg.c (Nat.zero_le _) rfl (hkn.mono ?_)
     rintro res H' ⟨rfl, rfl⟩
     refine walkX0 ?_
     refine AWP.loop (fun k : Nat => [(7, .sc (.int .i64 (n : Int))), (8, .ptr 0 0 0 0), (11, .list 1 (row1 n (boolV w.al))), (12, .sc (.int .i64 ((1 : Nat) : Int))), (13, .list 1 (row1 n (boolV A3))), (15, .sc (.int .i64 0)), (16, .list 1 (row1 n (boolV fun j => decide (j ∈ g2)))), (17, .sc (.int .i64 (i : Int))), (18, .list 1 (intsR D)), (19, .sc (.int .i64 0)), (20, .sc (.int .i64 (k : Int)))])
      (fun _ => worldH w2) (fun k => k ≤ D.length) (fun k => D.length - k) 0 (Nat.zero_le _) ?_ ?_
     ·refine Sub.wd (w := w2) [] ?_
      (all_goals (repeat' (first | exact ToAll.nil | exact famsTo.nil | exact famTo.nil | exact ToL.nil | exact ToR.nil | refine ToAll.cons ?_ ?_ | refine famsTo.cons ?_ ?_ | refine wt10 ?_ ?_ | exact To.undef _ | exact To.sc _ | exact To.hslL rfl rfl | exact To.ptrO rfl rfl rfl | exact To.mrefO rfl | exact To.nil rfl rfl rfl | exact wt1 | exact To.nilL | refine To.int ?_ | refine To.bool ?_ | refine To.hslL rfl ?_ | refine wt2 rfl ?_ ?_ ?_ | refine To.tupL ?_ | refine To.aggL ?_ | refine To.cptrL ?_ | refine wt3 ?_ | refine wt4 ?_ | refine To.cloL ?_ ?_ | exact wt5 | refine wt6 ?_ | refine ToB.one ?_ | exact wt7 | ((with_reducible apply ToL.consE); case e9 => rfl) | refine wt8 ?_ | refine ToL.cons ?_ ?_ | exact wt11 | refine wt9 ?_ ?_ | refine wt12 ?_ | (with_reducible rfl) | assumption)); all_goals (first | rfl | assumption | (simp; done) | (simp; omega) | (rw [wrap_small (by omega) (by omega)]; done) | (rw [wrap_small (by omega) (by omega)]; omega) | (refine congrArg Nat.cast ?_; assumption) | skip))
     ·intro k hk
      refine walkX0 ?_
      rw [hil]
      refine AWP.condD rfl (fun h5 => ?_) (fun h5 => ?_)
      ·obtain ⟨j, e1, e2⟩ := hDx k h5
       refine walkX0 ?_
       refine ⟨k + 1, by omega, by omega, ?_⟩
       refine Sub.wd (w := w2) [] ?_
       (all_goals (repeat' (first | exact ToAll.nil | exact famsTo.nil | exact famTo.nil | exact ToL.nil | exact ToR.nil | refine ToAll.cons ?_ ?_ | refine famsTo.cons ?_ ?_ | refine wt10 ?_ ?_ | exact To.undef _ | exact To.sc _ | exact To.hslL rfl rfl | exact To.ptrO rfl rfl rfl | exact To.mrefO rfl | exact To.nil rfl rfl rfl | exact wt1 | exact To.nilL | refine To.int ?_ | refine To.bool ?_ | refine To.hslL rfl ?_ | refine wt2 rfl ?_ ?_ ?_ | refine To.tupL ?_ | refine To.aggL ?_ | refine To.cptrL ?_ | refine wt3 ?_ | refine wt4 ?_ | refine To.cloL ?_ ?_ | exact wt5 | refine wt6 ?_ | refine ToB.one ?_ | exact wt7 | ((with_reducible apply ToL.consE); case e9 => rfl) | refine wt8 ?_ | refine ToL.cons ?_ ?_ | exact wt11 | refine wt9 ?_ ?_ | refine wt12 ?_ | (with_reducible rfl) | assumption)); all_goals (first | rfl | assumption | (simp; done) | (simp; omega) | (rw [wrap_small (by omega) (by omega)]; done) | (rw [wrap_small (by omega) (by omega)]; omega) | (refine congrArg Nat.cast ?_; assumption) | skip))
      ·refine walkX0 ?_
       refine ⟨i + 1, by omega, by omega, ?_⟩
       refine Sub.wd (w := w2) [] ?_
       (all_goals (repeat' (first | exact ToAll.nil | exact famsTo.nil | exact famTo.nil | exact ToL.nil | exact ToR.nil | refine ToAll.cons ?_ ?_ | refine famsTo.cons ?_ ?_ | refine wt10 ?_ ?_ | exact To.undef _ | exact To.sc _ | exact To.hslL rfl rfl | exact To.ptrO rfl rfl rfl | exact To.mrefO rfl | exact To.nil rfl rfl rfl | exact wt1 | exact To.nilL | refine To.int ?_ | refine To.bool ?_ | refine To.hslL rfl ?_ | refine wt2 rfl ?_ ?_ ?_ | refine To.tupL ?_ | refine To.aggL ?_ | refine To.cptrL ?_ | refine wt3 ?_ | refine wt4 ?_ | refine To.cloL ?_ ?_ | exact wt5 | refine wt6 ?_ | refine ToB.one ?_ | exact wt7 | ((with_reducible apply ToL.consE); case e9 => rfl) | refine wt8 ?_ | refine ToL.cons ?_ ?_ | exact wt11 | refine wt9 ?_ ?_ | refine wt12 ?_ | (with_reducible rfl) | assumption)); all_goals (first | rfl | assumption | (simp; done) | (simp; omega) | (rw [wrap_small (by omega) (by omega)]; done) | (rw [wrap_small (by omega) (by omega)]; omega) | (refine congrArg Nat.cast ?_; assumption) | skip))
   ·have hi2 : i = n := by omega
    subst hi2
    refine walkX0 ?_
    refine Reg.c (Nat.zero_le _) rfl (hsh2.mono ?_)
    rintro res H' ⟨rfl, rfl⟩
    refine walkX0 ?_
    refine Reg.c (Nat.zero_le _) rfl (hgr3.mono ?_)
    rintro res H' ⟨rfl, rfl⟩
    refine walkX0 ?_
    refine Reg.c (Nat.zero_le _) rfl (hal3.mono ?_)
    rintro res H' ⟨rfl, rfl⟩
    refine walkX0 ?_
    exact EndP.w
 ·have hnone : ∀ r : Nat, r < (List.range n).length → buryW w.al (List.range n) l (gAt (List.range n) r) = false := fun r hr => by
   cases e : buryW w.al (List.range n) l (gAt (List.range n) r) with
   | false => rfl
   | true => exact absurd ⟨r, hr, e⟩ hex
  obtain ⟨K, e⟩ := shr_dead hgo hki.dead h1 h2 hnone
  have hA : ∀ x, buryW w.al (List.range n) l x = false := fun x => by
   by_cases hx : x < n
   ·have := hnone x (by rw [hrl]; exact hx)
    rwa [gAt_range hx] at this
   ·rw [buryW_spec]
    cases e : w.al x with
    | false => rfl
    | true => exact absurd (hki.al x e) hx
  rw [e]
  have hal2 := alive_at { w with al := buryW w.al (List.range n) l, kn := K }
  rw [len_elems0 hA] at hal2
  rw [hckz] at hck
  refine walkX ?_
  refine Reg.c (Nat.zero_le _) rfl (hal2.mono ?_)
  rintro res H' ⟨rfl, rfl⟩
  refine walkX ?_
  exact EndP.w
set_option maxHeartbeats 16000000 in
theorem faultShrinks_ok (s : Nat) (ks : List Nat) (l : List C) (_hs : s ≤ 255) (hks : ∀ x ∈ ks, x ≤ 255) (_hkl : ks.length ≤ 9223372036854775807) (hl : l.length ≤ 9223372036854775807) : PureRun Try.prog 8 [.sc (.int .u8 (s : Int)), .list 1 (u8R ks), crV l] (.sc (.bool true)) := by
 refine PureRun.mkI cF8 (Nat.le_of_ble_eq_true rfl) ?_
 have hrest := fun w (h : KInv (1 + s % 20) w) => rest8 (1 + s % 20) w l (by omega) (by omega) h hl
 have hwk := works_pure
 have e0 := u8R_len ks
 unfold crV
 refine walkX ?_
 generalize hn : 1 + s % 20 = n at *
 have hn1 : 1 ≤ n := by omega
 have hn20 : n ≤ 20 := by omega
 refine Reg.c (Nat.zero_le _) rfl ((new_at n hn1 (by omega)).mono ?_)
 rintro res H' ⟨rfl, rfl⟩
 refine walkX ?_
 refine AWP.loop (fun k : Nat => [(1, .list 1 (u8R ks)), (2, .list 3 (l.map crow)), (7, .sc (.int .i64 (n : Int))), (8, .ptr 0 0 0 0), (10, .sc (.int .i64 (k : Int)))]) (fun k => worldH (kS n ks k)) (fun k => k ≤ ks.length ∧ k ≤ 30) (fun k => ks.length - k) 0 ⟨Nat.zero_le _, Nat.zero_le _⟩ ?_ ?_
 ·refine Sub.wd (w := wd0 n) [] ?_
  (all_goals (repeat' (first | exact ToAll.nil | exact famsTo.nil | exact famTo.nil | exact ToL.nil | exact ToR.nil | refine ToAll.cons ?_ ?_ | refine famsTo.cons ?_ ?_ | refine wt10 ?_ ?_ | exact To.undef _ | exact To.sc _ | exact To.hslL rfl rfl | exact To.ptrO rfl rfl rfl | exact To.mrefO rfl | exact To.nil rfl rfl rfl | exact wt1 | exact To.nilL | refine To.int ?_ | refine To.bool ?_ | refine To.hslL rfl ?_ | refine wt2 rfl ?_ ?_ ?_ | refine To.tupL ?_ | refine To.aggL ?_ | refine To.cptrL ?_ | refine wt3 ?_ | refine wt4 ?_ | refine To.cloL ?_ ?_ | exact wt5 | refine wt6 ?_ | refine ToB.one ?_ | exact wt7 | ((with_reducible apply ToL.consE); case e9 => rfl) | refine wt8 ?_ | refine ToL.cons ?_ ?_ | exact wt11 | refine wt9 ?_ ?_ | refine wt12 ?_ | (with_reducible rfl) | assumption)); all_goals (first | rfl | assumption | (simp; done) | (simp; omega) | (rw [wrap_small (by omega) (by omega)]; done) | (rw [wrap_small (by omega) (by omega)]; omega) | (refine congrArg Nat.cast ?_; assumption) | skip))
 rintro k ⟨hk, hk30⟩
 have hki := KInv.all hn1 ks k
 have hko := hki.ok hn1 (by omega)
 have hkS : kS n ks (k + 1) = stepK n ((ks[k]?).getD 0) (kS n ks k) := rfl
 by_cases h : k < ks.length ∧ k < 30
 ·have hx : rowIx (u8R ks) (k : Int) = some [.sc (.int .u8 (ks[k] : Nat))] := rowIx_map (fun n : Nat => [AV.sc (.int .u8 (n : Int))]) ks k h.1
  have hx2 := hks _ (List.getElem_mem h.1)
  rw [show (ks[k]?).getD 0 = ks[k] by rw [List.getElem?_eq_getElem h.1]; rfl] at hkS
  generalize ks[k] = x at *
  have hk1 := kill_ok (kS n ks k) ((x % n : Nat) : Int) hko.n1
  have hki2 := hki.kill ((x % n : Nat) : Int)
  unfold stepK at hkS
  generalize (killW (kS n ks k) ((x % n : Nat) : Int)).2 = w2 at *
  have hko2 := hki2.ok hn1 (by omega)
  have hs1 := fun G => send_more w2 0 ((x / 2 % n : Nat) : Int) ((x % n : Nat) : Int) G hko2 (by rw [hki2.ts]; exact Nat.zero_lt_one)
  generalize (sendT w2 (tmAt w2.ts 0) ((x / 2 % n : Nat) : Int) ((x % n : Nat) : Int)).2 = w3 at *
  refine walkX0 ?_
  rw [e0, decide_eq_true h.1]
  refine walkX0 ?_
  rw [decide_eq_true h.2]
  refine walkX0 ?_
  refine Reg.c (Nat.zero_le _) rfl (hk1.mono ?_)
  rintro res H' ⟨rfl, rfl⟩
  refine walkX0 ?_
  refine AWP.dkl rfl mixed ?_
  refine walkX ?_
  refine DK.nil ⟨by kernel_rfl, ?_⟩
  refine Reg.c (Nat.zero_le _) rfl ((hs1 _).mono ?_)
  rintro res H' ⟨rfl, rfl⟩
  refine walkX ?_
  refine ⟨k + 1, ⟨by omega, by omega⟩, by omega, ?_⟩
  rw [hkS]
  refine Sub.wd (w := w3) [] ?_
  (all_goals (repeat' (first | exact ToAll.nil | exact famsTo.nil | exact famTo.nil | exact ToL.nil | exact ToR.nil | refine ToAll.cons ?_ ?_ | refine famsTo.cons ?_ ?_ | refine wt10 ?_ ?_ | exact To.undef _ | exact To.sc _ | exact To.hslL rfl rfl | exact To.ptrO rfl rfl rfl | exact To.mrefO rfl | exact To.nil rfl rfl rfl | exact wt1 | exact To.nilL | refine To.int ?_ | refine To.bool ?_ | refine To.hslL rfl ?_ | refine wt2 rfl ?_ ?_ ?_ | refine To.tupL ?_ | refine To.aggL ?_ | refine To.cptrL ?_ | refine wt3 ?_ | refine wt4 ?_ | refine To.cloL ?_ ?_ | exact wt5 | refine wt6 ?_ | refine ToB.one ?_ | exact wt7 | ((with_reducible apply ToL.consE); case e9 => rfl) | refine wt8 ?_ | refine ToL.cons ?_ ?_ | exact wt11 | refine wt9 ?_ ?_ | refine wt12 ?_ | (with_reducible rfl) | assumption)); all_goals (first | rfl | assumption | (simp; done) | (simp; omega) | (rw [wrap_small (by omega) (by omega)]; done) | (rw [wrap_small (by omega) (by omega)]; omega) | (refine congrArg Nat.cast ?_; assumption) | skip))
 by_cases h1 : k < ks.length
 ·refine AWP.seq ?_
  refine AWP.seq ?_
  refine AWP.region ?_
  refine walkR ?_
  rw [e0, decide_eq_true h1]
  refine walkR ?_
  rw [decide_eq_false (show ¬ k < 30 by omega)]
  refine walkR ?_
  refine AWP.condF rfl ?_
  refine AWP.exit ?_
  refine AWP.sub (fr' := [(2, .list 3 (l.map crow)), (7, .sc (.int .i64 (n : Int))), (8, .ptr 0 0 0 0)]) (H' := worldH (kS n ks k)) ?_ (hrest _ hki)
  refine Sub.wd (w := kS n ks k) [] ?_
  (all_goals (repeat' (first | exact ToAll.nil | exact famsTo.nil | exact famTo.nil | exact ToL.nil | exact ToR.nil | refine ToAll.cons ?_ ?_ | refine famsTo.cons ?_ ?_ | refine wt10 ?_ ?_ | exact To.undef _ | exact To.sc _ | exact To.hslL rfl rfl | exact To.ptrO rfl rfl rfl | exact To.mrefO rfl | exact To.nil rfl rfl rfl | exact wt1 | exact To.nilL | refine To.int ?_ | refine To.bool ?_ | refine To.hslL rfl ?_ | refine wt2 rfl ?_ ?_ ?_ | refine To.tupL ?_ | refine To.aggL ?_ | refine To.cptrL ?_ | refine wt3 ?_ | refine wt4 ?_ | refine To.cloL ?_ ?_ | exact wt5 | refine wt6 ?_ | refine ToB.one ?_ | exact wt7 | ((with_reducible apply ToL.consE); case e9 => rfl) | refine wt8 ?_ | refine ToL.cons ?_ ?_ | exact wt11 | refine wt9 ?_ ?_ | refine wt12 ?_ | (with_reducible rfl) | assumption)); all_goals (first | rfl | assumption | (simp; done) | (simp; omega) | (rw [wrap_small (by omega) (by omega)]; done) | (rw [wrap_small (by omega) (by omega)]; omega) | (refine congrArg Nat.cast ?_; assumption) | skip))
 ·refine AWP.seq ?_
  refine AWP.seq ?_
  refine AWP.region ?_
  refine walkR ?_
  rw [e0, decide_eq_false h1]
  refine walkR ?_
  refine AWP.condF rfl ?_
  refine AWP.exit ?_
  refine AWP.sub (fr' := [(2, .list 3 (l.map crow)), (7, .sc (.int .i64 (n : Int))), (8, .ptr 0 0 0 0)]) (H' := worldH (kS n ks k)) ?_ (hrest _ hki)
  refine Sub.wd (w := kS n ks k) [] ?_
  (all_goals (repeat' (first | exact ToAll.nil | exact famsTo.nil | exact famTo.nil | exact ToL.nil | exact ToR.nil | refine ToAll.cons ?_ ?_ | refine famsTo.cons ?_ ?_ | refine wt10 ?_ ?_ | exact To.undef _ | exact To.sc _ | exact To.hslL rfl rfl | exact To.ptrO rfl rfl rfl | exact To.mrefO rfl | exact To.nil rfl rfl rfl | exact wt1 | exact To.nilL | refine To.int ?_ | refine To.bool ?_ | refine To.hslL rfl ?_ | refine wt2 rfl ?_ ?_ ?_ | refine To.tupL ?_ | refine To.aggL ?_ | refine To.cptrL ?_ | refine wt3 ?_ | refine wt4 ?_ | refine To.cloL ?_ ?_ | exact wt5 | refine wt6 ?_ | refine ToB.one ?_ | exact wt7 | ((with_reducible apply ToL.consE); case e9 => rfl) | refine wt8 ?_ | refine ToL.cons ?_ ?_ | exact wt11 | refine wt9 ?_ ?_ | refine wt12 ?_ | (with_reducible rfl) | assumption)); all_goals (first | rfl | assumption | (simp; done) | (simp; omega) | (rw [wrap_small (by omega) (by omega)]; done) | (rw [wrap_small (by omega) (by omega)]; omega) | (refine congrArg Nat.cast ?_; assumption) | skip))
theorem open_u8s {a : AV} (h : Fit (.slice [.int .u8]) a) : ∃ l : List Nat, a = .list 1 (u8R l) ∧ l.length ≤ maxLen ∧ ∀ x ∈ l, x ≤ 255 := by
 obtain ⟨l, e, hl, hb⟩ := open_rows h (fun n : Nat => [.sc (.int .u8 (n : Int))]) (fun n => n ≤ 255) fun r hl hf => by
  match r, hl with
  | [x], _ =>
   obtain ⟨n, rfl, hn⟩ := open_u8 (hf 0 _ x rfl rfl)
   exact ⟨n, rfl, hn⟩
 exact ⟨l, e, hl, hb⟩
set_option maxRecDepth 100000 in
theorem faultShrinks_lifted (os : Os) (started : os.Started) (H : Type) (enc : TypeId × Value → H) :
  ReturnsInHanded {} Try.checked os 8 .any (Rows.faultShrinksSpec.pre6 enc Try.prog Try.f8 Rows.faultShrinksRow.domain false) (Rows.faultShrinksSpec.post enc Try.prog Try.f8 false true false false) := by
 refine returnsInHanded_of_change (C := Try.checked) Try_own started (by kernel_rfl) Try.func8
  (ChangeSpec.witness6 (enc := enc) (C := Try.checked) false ⟨#[], #[.int .u8 0, .slice none 0 0, .slice none 0 0], []⟩ 8 (by kernel_rfl) (by kernel_rfl) (by kernel_rfl) (by kernel_rfl)) ?_
 intro W base args ds gs before hval hW _ _
 refine law_calls (P := Try.prog) (d := 8) (row := [.int .u8, .slice [.int .u8], .slice [.int .i64, .int .i64, .int .i64]]) (tb := 4) (by kernel_rfl) rfl Try_laid Try_maps Try_slices (by decide) rfl tb_bool (fun ds hds => ?_) (fun avs hl hf => ?_) hval hW
 ·match ds, hds with
  | [_, _, _], _ => exact ⟨rfl, rfl, rfl⟩
 ·obtain ⟨a, b, c, rfl, ha, hb, hc⟩ := avs3 hl hf
  obtain ⟨n, rfl, hn⟩ := open_u8 ha
  obtain ⟨ks, rfl, hk, hkb⟩ := open_u8s hb
  obtain ⟨l, rfl, hl2⟩ := open_cr hc
  exact (PureRun.callOK (faultShrinks_ok n ks l hn hkb (Nat.le_trans hk (by decide)) (Nat.le_trans hl2 (by decide))) []).mono fun _ _ h => h.1
theorem faultShrinks_holds : Rows.FaultShrinksSaid :=
 OpenClaim.holds_of_wide 8 Try.f8 rfl rfl rfl rfl rfl rfl rfl ⟨rfl, rfl, rfl, rfl, rfl⟩ rfl rfl rfl rfl rfl (by kernel_rfl) Try.func8 (by kernel_rfl)
  (of_decide_eq_true (by kernel_rfl)) (by unfold Func.isWrapper; first | (rw [if_pos (by decide +kernel)]; kernel_rfl) | (rw [if_neg (by decide +kernel)]; exact ⟨rfl, rfl⟩))
  (fun os started H enc _ => faultShrinks_lifted os started H enc)
end Go.Proofs.Ytbpmbofinoinmaa
