/- The law FaultRevokesSaid answers true for every input; no further condition. -/
import Derived.Test.YtbpmbofinoinmaaGFaShrinks
namespace Go.Proofs.Ytbpmbofinoinmaa
open Go.Av Go.Proofs
set_option maxRecDepth 20000
structure RInv (n : Nat) (w : Wd) : Prop where
 n0 : w.n = n
 ts : w.ts = [⟨List.range n, fun _ => false⟩, ⟨List.range n, fun _ => false⟩]
 al : ∀ x, w.al x = true → x < n
theorem RInv.ok {n : Nat} {w : Wd} (h : RInv n w) (h1 : 1 ≤ n) (hn : n ≤ 64) : WOK w := by
 refine ⟨by rw [h.n0]; exact hn, fun c hc => ?_⟩
 rw [h.ts] at hc ⊢
 rw [h.n0]
 have hc : c < 2 := hc
 match c, hc with
 | 0, _ => exact range_ok h1
 | 1, _ => exact range_ok h1
theorem RInv.kill {n : Nat} {w : Wd} (h : RInv n w) (p : Int) : RInv n (killW w p).2 := by
 unfold killW
 split
 ·exact h
 ·split
  ·refine ⟨h.n0, h.ts, fun x hx => ?_⟩
   have hx : setAl w.al p.toNat x = true := hx
   unfold setAl at hx
   split at hx
   ·cases hx
   ·exact h.al x hx
  ·exact h
def kR (n : Nat) (ks : List Nat) (w : Wd) : Nat → Wd
 | 0 => w
 | k + 1 => (killW (kR n ks w k) (((ks[k]?).getD 0 % n : Nat) : Int)).2
theorem RInv.all {n : Nat} {w : Wd} (h : RInv n w) (ks : List Nat) : ∀ k, RInv n (kR n ks w k)
 | 0 => h
 | k + 1 => (RInv.all h ks k).kill _
theorem sendT_keep (w : Wd) (t : Tm) (a b : Int) : (sendT w t a b).2.n = w.n ∧ (sendT w t a b).2.ts = w.ts ∧ (sendT w t a b).2.al = w.al := by
 unfold sendT
 split
 ·exact ⟨rfl, rfl, rfl⟩
 ·split
  ·split
   ·exact ⟨rfl, rfl, rfl⟩
   ·split <;> exact ⟨rfl, rfl, rfl⟩
  ·exact ⟨rfl, rfl, rfl⟩
theorem sendT_same {w w' : Wd} (t : Tm) (a b : Int) (h : w'.al = w.al) : (sendT w' t a b).1 = (sendT w t a b).1 := by
 unfold sendT
 rw [h]
 split
 ·rfl
 ·split
  ·split
   ·rfl
   ·split <;> rfl
  ·rfl
theorem outB_in {g : List Nat} {q : Nat} (h : q < g.length) : outB g (q : Int) = false := by
 unfold outB
 simp
 omega
theorem args_nil4 {f : FuncId} {a b c : AV} {H : Heap} {R : AV → Heap → Prop} (h : CallOK Try.prog f [a, b, c, .list 3 []] H R) : CallOK Try.prog f [a, b, c, .sc (.slice none 0 0)] H R :=
 CallOK.args h rfl fun j x y e1 e2 => by
  match j with
  | 0 => injection e1 with e1; injection e2 with e2; subst e1; subst e2; exact .refl _
  | 1 => injection e1 with e1; injection e2 with e2; subst e1; subst e2; exact .refl _
  | 2 => injection e1 with e1; injection e2 with e2; subst e1; subst e2; exact .refl _
  | 3 => injection e1 with e1; injection e2 with e2; subst e1; subst e2; exact Le.nil 3
  | j + 4 => simp at e1
set_option maxHeartbeats 16000000 in
theorem rest9 (n f a b : Nat) (w : Wd) (hn1 : 1 ≤ n) (hn20 : n ≤ 20) (hf : f ≤ 255) (ha : a ≤ 255) (hb : b ≤ 255) (hki : RInv n w) :
  AWP Try.prog F9.n 0 (pickI [1, 1, 1, 1, 1, 1, 1] F9.code) (EndP F9.res (.sc (.bool true))) [(2, .sc (.int .u8 (f : Int))), (3, .sc (.int .u8 (a : Int))), (4, .sc (.int .u8 (b : Int))), (11, .sc (.int .i64 (n : Int))), (12, .ptr 0 0 0 0), (14, .sc (.int .i64 ((1 : Nat) : Int)))] (worldH w) := by
 show AWP Try.prog F9.n 0 (.seq _ _) _ _ _
 have hwk := works_pure
 have hko := hki.ok hn1 (by omega)
 have hgo : GOK w.n (List.range n) := by rw [hki.n0]; exact range_ok hn1
 have hrl : (List.range n).length = n := List.length_range
 have hal := alive_at w
 have hm1 := members_ok n (elems 64 w.al) (by omega) (by have := elems_len 64 w.al; omega)
 rw [mem_row (by omega)] at hm1
 have hx : a % n < n := Nat.mod_lt _ (by omega)
 have hy : b % n < n := Nat.mod_lt _ (by omega)
 have hfn : f % n < n := Nat.mod_lt _ (by omega)
 have ht1 : tmAt w.ts 1 = ⟨List.range n, fun _ => false⟩ := by rw [hki.ts]; rfl
 have ht0 : tmAt w.ts 0 = ⟨List.range n, fun _ => false⟩ := by rw [hki.ts]; rfl
 have hts : w.ts.length = 2 := by rw [hki.ts]; rfl
 have hs1 := wsend_ok w 1 ((a % n : Nat) : Int) ((b % n : Nat) : Int) hko (by omega)
 rw [ht1] at hs1
 obtain ⟨k1, k2, k3⟩ := sendT_keep w ⟨List.range n, fun _ => false⟩ ((a % n : Nat) : Int) ((b % n : Nat) : Int)
 have hsame := fun w' h => @sendT_same w w' ⟨List.range n, fun _ => false⟩ ((a % n : Nat) : Int) ((b % n : Nat) : Int) h
 generalize (sendT w ⟨List.range n, fun _ => false⟩ ((a % n : Nat) : Int) ((b % n : Nat) : Int)).2 = w3 at *
 generalize (sendT w ⟨List.range n, fun _ => false⟩ ((a % n : Nat) : Int) ((b % n : Nat) : Int)).1 = o1 at *
 have hk3 : RInv n w3 := ⟨by rw [k1]; exact hki.n0, by rw [k2]; exact hki.ts, by rw [k3]; exact hki.al⟩
 have hko3 := hk3.ok hn1 (by omega)
 have ht03 : tmAt w3.ts 0 = ⟨List.range n, fun _ => false⟩ := by rw [k2]; exact ht0
 have hrv := args_nil4 (revoke_at w3 0 (f % n) [] hko3 (by rw [k2]; omega) (by rw [ht03]; show f % n < (List.range n).length; omega) (by exact Nat.zero_le _))
 unfold revF at hrv
 rw [ht03] at hrv
 dsimp only at hrv
 rw [gAt_range hfn, k3] at hrv
 have hck : checkS (List.range n).length [] = 0 := by rw [hrl]; exact check_none hn1 (by omega)
 have hcw : crashW w.al (List.range n) [] = (deadK w.al (List.range n) (List.range n).length, 0) := by
  rcases crashW_cases w.al (List.range n) [] with ⟨h, _⟩ | ⟨_, h, _⟩ | ⟨_, _, h⟩
  ·exact absurd hck h
  ·cases h
  ·exact h
 rw [hcw] at hrv
 have hxf : rowIx (row1 n (boolV w.al)) ((f % n : Nat) : Int) = some [.sc (.bool (w.al (f % n)))] := rowIx_row1 hfn
 have hxx : rowIx (row1 n (boolV w.al)) ((a % n : Nat) : Int) = some [.sc (.bool (w.al (a % n)))] := rowIx_row1 hx
 have hfs : f % n = f % n := rfl
 generalize hfr : f % n = fr at *
 refine walkX ?_
 refine Reg.c (Nat.zero_le _) rfl (hal.mono ?_)
 rintro res H' ⟨rfl, rfl⟩
 refine walkX ?_
 refine DK.nil ⟨by kernel_rfl, ?_⟩
 refine walkX ?_
 generalize a % n = x at *
 generalize b % n = y at *
 refine Reg.sub (fr' := [(77, .ptr 0 0 0 0), (78, .sc (.int .i64 ((1 : Nat) : Int))), (79, .sc (.int .i64 (x : Int))), (80, .sc (.int .i64 (y : Int))), (2, .sc (.int .u8 (f : Int))), (11, .sc (.int .i64 (n : Int))), (12, .ptr 0 0 0 0), (14, .sc (.int .i64 ((1 : Nat) : Int))), (16, .list 1 (row1 n (boolV w.al))), (17, .sc (.int .i64 (x : Int))), (18, .sc (.int .i64 (y : Int)))]) (H' := worldH w) ?_ ?_
 ·refine Sub.wd (w := w) [] ?_
  (all_goals (repeat' (first | exact ToAll.nil | exact famsTo.nil | exact famTo.nil | exact ToL.nil | exact ToR.nil | refine ToAll.cons ?_ ?_ | refine famsTo.cons ?_ ?_ | refine wt10 ?_ ?_ | exact To.undef _ | exact To.sc _ | exact To.hslL rfl rfl | exact To.ptrO rfl rfl rfl | exact To.mrefO rfl | exact To.nil rfl rfl rfl | exact wt1 | exact To.nilL | refine To.int ?_ | refine To.bool ?_ | refine To.hslL rfl ?_ | refine wt2 rfl ?_ ?_ ?_ | refine To.tupL ?_ | refine To.aggL ?_ | refine To.cptrL ?_ | refine wt3 ?_ | refine wt4 ?_ | refine To.cloL ?_ ?_ | exact wt5 | refine wt6 ?_ | refine ToB.one ?_ | exact wt7 | ((with_reducible apply ToL.consE); case e9 => rfl) | refine wt8 ?_ | refine ToL.cons ?_ ?_ | exact wt11 | refine wt9 ?_ ?_ | refine wt12 ?_ | (with_reducible rfl) | assumption)); all_goals (first | rfl | assumption | (simp; done) | (simp; omega) | (rw [wrap_small (by omega) (by omega)]; done) | (rw [wrap_small (by omega) (by omega)]; omega) | (refine congrArg Nat.cast ?_; assumption) | skip))
 refine Reg.c (Nat.zero_le _) rfl (hs1.mono ?_)
 rintro res H' ⟨rfl, rfl⟩
 refine walkX ?_
 rw [hfr]
 by_cases haf : w.al fr = true
 ·rw [if_pos haf, if_neg (fun h => h rfl)] at hrv
  dsimp only at hrv
  obtain ⟨q1, q2⟩ := news_alive (g := List.range n) (s := fr) (al := w.al) (by omega) (by omega) (by rw [gAt_range hfn]; exact haf)
  generalize (newsR (List.range n).length fr (deadK w.al (List.range n) (List.range n).length)).1 = out at *
  have hb0 : buryW w.al (List.range n) [] = w.al := rfl
  rw [hb0] at hrv
  have hrow : rvR ⟨List.range n, rvK (fun _ => false) out (List.range n).length⟩ = row1 n (boolV w.al) := by
   unfold rvR
   rw [hrl]
   refine row1_congr fun j hj => ?_
   have h9 := q2 j (by omega)
   rw [gAt_range hj] at h9
   unfold boolV rvK
   dsimp only
   rw [h9]
   simp [hj]
  have hrvx : rvK (fun _ => false) out (List.range n).length x = w.al x := by
   have h9 := q2 x (by omega)
   rw [gAt_range hx] at h9
   unfold rvK
   rw [h9, hrl]
   simp [hx]
  generalize hW4 : ({ w3 with al := w.al, ts := w3.ts.set 0 ⟨List.range n, rvK (fun _ => false) out (List.range n).length⟩ } : Wd) = w4 at *
  have e4 : w4.al = w.al := by rw [← hW4]
  have e5 : w4.n = n := by rw [← hW4]; exact hk3.n0
  have e6 : w4.ts = [⟨List.range n, rvK (fun _ => false) out (List.range n).length⟩, ⟨List.range n, fun _ => false⟩] := by rw [← hW4]; show w3.ts.set 0 _ = _; rw [hk3.ts]; rfl
  have e70 : tmAt w4.ts 0 = ⟨List.range n, rvK (fun _ => false) out (List.range n).length⟩ := by rw [e6]; rfl
  have e71 : tmAt w4.ts 1 = ⟨List.range n, fun _ => false⟩ := by rw [e6]; rfl
  have e8 : w4.ts.length = 2 := by rw [e6]; rfl
  have hko4 : WOK w4 := by
   refine ⟨by omega, fun c hc => ?_⟩
   rw [e5]
   have hc : c < 2 := by omega
   match c, hc with
   | 0, _ => rw [e70]; exact range_ok hn1
   | 1, _ => rw [e71]; exact range_ok hn1
  have hrd := revoked_at w4 0 (by omega) (by rw [e70]; show 0 < (List.range n).length; omega) (by rw [e70]; show (List.range n).length ≤ 64; omega)
  rw [e70, hrow] at hrd
  have hs0 := wsend_ok w4 0 (x : Int) (y : Int) hko4 (by omega)
  rw [e70] at hs0
  have hs4 := wsend_ok w4 1 (x : Int) (y : Int) hko4 (by omega)
  rw [e71, hsame w4 e4] at hs4
  have hin : (outB (List.range n) (x : Int) || outB (List.range n) (y : Int)) = false := by rw [outB_in (by omega), outB_in (by omega)]; rfl
  have hlr : (row1 n (boolV w.al)).length = n := row1_len _ _
  have hst : w.al x = true → sendT w4 ⟨List.range n, rvK (fun _ => false) out (List.range n).length⟩ (x : Int) (y : Int) = (17, w4) := fun h => by
   unfold sendT
   rw [if_neg (by rw [hin]; decide), gAt_range hx, e4, if_pos h, show ((x : Int)).toNat = x from rfl]
   exact if_pos (hrvx.trans h)
  have hsf : w.al x = false → sendT w4 ⟨List.range n, rvK (fun _ => false) out (List.range n).length⟩ (x : Int) (y : Int) = (6, w4) := fun h => by
   unfold sendT
   rw [if_neg (by rw [hin]; decide), gAt_range hx, e4, if_neg (by rw [h]; decide)]
  clear hW4
  refine Reg.c (Nat.zero_le _) rfl (hrv.mono ?_)
  rintro res H' ⟨rfl, rfl⟩
  refine walkX ?_
  refine Reg.c (Nat.zero_le _) rfl (hrd.mono ?_)
  rintro res H' ⟨rfl, rfl⟩
  refine walkX ?_
  rw [hlr]
  refine walkX ?_
  rw [decide_eq_true (rfl : n = n)]
  refine walkX ?_
  refine AWP.loop (fun i : Nat => [(11, .sc (.int .i64 (n : Int))), (12, .ptr 0 0 0 0), (14, .sc (.int .i64 ((1 : Nat) : Int))), (16, .list 1 (row1 n (boolV w.al))), (17, .sc (.int .i64 (x : Int))), (18, .sc (.int .i64 (y : Int))), (19, .sc (.int .i64 o1)), (20, .list 1 (row1 n (boolV w.al))), (22, .sc (.int .i64 (i : Int)))])
   (fun _ => worldH w4) (fun i => i ≤ n) (fun i => n - i) 0 (Nat.zero_le _) ?_ ?_
  ·refine Sub.wd (w := w4) [] ?_
   (all_goals (repeat' (first | exact ToAll.nil | exact famsTo.nil | exact famTo.nil | exact ToL.nil | exact ToR.nil | refine ToAll.cons ?_ ?_ | refine famsTo.cons ?_ ?_ | refine wt10 ?_ ?_ | exact To.undef _ | exact To.sc _ | exact To.hslL rfl rfl | exact To.ptrO rfl rfl rfl | exact To.mrefO rfl | exact To.nil rfl rfl rfl | exact wt1 | exact To.nilL | refine To.int ?_ | refine To.bool ?_ | refine To.hslL rfl ?_ | refine wt2 rfl ?_ ?_ ?_ | refine To.tupL ?_ | refine To.aggL ?_ | refine To.cptrL ?_ | refine wt3 ?_ | refine wt4 ?_ | refine To.cloL ?_ ?_ | exact wt5 | refine wt6 ?_ | refine ToB.one ?_ | exact wt7 | ((with_reducible apply ToL.consE); case e9 => rfl) | refine wt8 ?_ | refine ToL.cons ?_ ?_ | exact wt11 | refine wt9 ?_ ?_ | refine wt12 ?_ | (with_reducible rfl) | assumption)); all_goals (first | rfl | assumption | (simp; done) | (simp; omega) | (rw [wrap_small (by omega) (by omega)]; done) | (rw [wrap_small (by omega) (by omega)]; omega) | (refine congrArg Nat.cast ?_; assumption) | skip))
  ·intro i hi
   refine walkX0 ?_
   refine AWP.condD rfl (fun h => ?_) (fun h => ?_)
   ·have hxi : rowIx (row1 n (boolV w.al)) (i : Int) = some [.sc (.bool (w.al i))] := rowIx_row1 h
    cases hbi : w.al i with
    | true =>
     rw [hbi] at hxi
     refine walkX ?_
     refine DK.nil ⟨by kernel_rfl, ?_⟩
     refine walkX ?_
     refine ⟨i + 1, by omega, by omega, ?_⟩
     refine Sub.wd (w := w4) [] ?_
     (all_goals (repeat' (first | exact ToAll.nil | exact famsTo.nil | exact famTo.nil | exact ToL.nil | exact ToR.nil | refine ToAll.cons ?_ ?_ | refine famsTo.cons ?_ ?_ | refine wt10 ?_ ?_ | exact To.undef _ | exact To.sc _ | exact To.hslL rfl rfl | exact To.ptrO rfl rfl rfl | exact To.mrefO rfl | exact To.nil rfl rfl rfl | exact wt1 | exact To.nilL | refine To.int ?_ | refine To.bool ?_ | refine To.hslL rfl ?_ | refine wt2 rfl ?_ ?_ ?_ | refine To.tupL ?_ | refine To.aggL ?_ | refine To.cptrL ?_ | refine wt3 ?_ | refine wt4 ?_ | refine To.cloL ?_ ?_ | exact wt5 | refine wt6 ?_ | refine ToB.one ?_ | exact wt7 | ((with_reducible apply ToL.consE); case e9 => rfl) | refine wt8 ?_ | refine ToL.cons ?_ ?_ | exact wt11 | refine wt9 ?_ ?_ | refine wt12 ?_ | (with_reducible rfl) | assumption)); all_goals (first | rfl | assumption | (simp; done) | (simp; omega) | (rw [wrap_small (by omega) (by omega)]; done) | (rw [wrap_small (by omega) (by omega)]; omega) | (refine congrArg Nat.cast ?_; assumption) | skip))
    | false =>
     rw [hbi] at hxi
     refine walkX ?_
     refine DK.nil ⟨by kernel_rfl, ?_⟩
     refine walkX ?_
     refine ⟨i + 1, by omega, by omega, ?_⟩
     refine Sub.wd (w := w4) [] ?_
     (all_goals (repeat' (first | exact ToAll.nil | exact famsTo.nil | exact famTo.nil | exact ToL.nil | exact ToR.nil | refine ToAll.cons ?_ ?_ | refine famsTo.cons ?_ ?_ | refine wt10 ?_ ?_ | exact To.undef _ | exact To.sc _ | exact To.hslL rfl rfl | exact To.ptrO rfl rfl rfl | exact To.mrefO rfl | exact To.nil rfl rfl rfl | exact wt1 | exact To.nilL | refine To.int ?_ | refine To.bool ?_ | refine To.hslL rfl ?_ | refine wt2 rfl ?_ ?_ ?_ | refine To.tupL ?_ | refine To.aggL ?_ | refine To.cptrL ?_ | refine wt3 ?_ | refine wt4 ?_ | refine To.cloL ?_ ?_ | exact wt5 | refine wt6 ?_ | refine ToB.one ?_ | exact wt7 | ((with_reducible apply ToL.consE); case e9 => rfl) | refine wt8 ?_ | refine ToL.cons ?_ ?_ | exact wt11 | refine wt9 ?_ ?_ | refine wt12 ?_ | (with_reducible rfl) | assumption)); all_goals (first | rfl | assumption | (simp; done) | (simp; omega) | (rw [wrap_small (by omega) (by omega)]; done) | (rw [wrap_small (by omega) (by omega)]; omega) | (refine congrArg Nat.cast ?_; assumption) | skip))
   ·have hi2 : i = n := by omega
    subst hi2
    refine walkX0 ?_
    cases hax : w.al x with
    | true =>
     rw [hst hax] at hs0
     refine walkX0 ?_
     refine Reg.c (Nat.zero_le _) rfl (hs0.mono ?_)
     rintro res H' ⟨rfl, rfl⟩
     refine walkX0 ?_
     refine Reg.c (Nat.zero_le _) rfl (hs4.mono ?_)
     rintro res H' ⟨rfl, rfl⟩
     refine walkX0 ?_
     rw [beq_self_eq_true]
     refine walkX0 ?_
     exact EndP.w
    | false =>
     rw [hsf hax] at hs0
     refine walkX0 ?_
     refine Reg.c (Nat.zero_le _) rfl (hs0.mono ?_)
     rintro res H' ⟨rfl, rfl⟩
     refine walkX0 ?_
     refine Reg.c (Nat.zero_le _) rfl (hs4.mono ?_)
     rintro res H' ⟨rfl, rfl⟩
     refine walkX0 ?_
     rw [beq_self_eq_true]
     refine walkX0 ?_
     exact EndP.w
 ·rw [if_neg haf] at hrv
  rw [show w.al fr = false by simpa using haf] at hxf
  refine Reg.c (Nat.zero_le _) rfl (hrv.mono ?_)
  rintro res H' ⟨rfl, rfl⟩
  refine walkX ?_
  rw [hfr]
  refine walkX ?_
  exact EndP.w
set_option maxHeartbeats 16000000 in
theorem faultRevokes_ok (s : Nat) (ks : List Nat) (f a b : Nat) (_hs : s ≤ 255) (hks : ∀ x ∈ ks, x ≤ 255) (hf : f ≤ 255) (ha : a ≤ 255) (hb : b ≤ 255) : PureRun Try.prog 9 [.sc (.int .u8 (s : Int)), .list 1 (u8R ks), .sc (.int .u8 (f : Int)), .sc (.int .u8 (a : Int)), .sc (.int .u8 (b : Int))] (.sc (.bool true)) := by
 refine PureRun.mkI cF9 (Nat.le_of_ble_eq_true rfl) ?_
 have hrest := fun w (h : RInv (1 + s % 20) w) => rest9 (1 + s % 20) f a b w (by omega) (by omega) hf ha hb h
 have e0 := u8R_len ks
 refine walkX ?_
 generalize hn : 1 + s % 20 = n at *
 have hn1 : 1 ≤ n := by omega
 have hn20 : n ≤ 20 := by omega
 refine Reg.c (Nat.zero_le _) rfl ((new_at n hn1 (by omega)).mono ?_)
 rintro res H' ⟨rfl, rfl⟩
 have hki := KInv.all hn1 [] 0
 have hko := hki.ok hn1 (by omega)
 have hk0 : kS n [] 0 = wd0 n := rfl
 rw [hk0] at hki hko
 have hgo : GOK n (List.range n) := range_ok hn1
 have hrl : (List.range n).length = n := List.length_range
 obtain ⟨A, K, g2, hS⟩ := shr_good (w := wd0 n) (l := []) hgo hki.dead hki.rng (check_none (by omega) (by omega)) rfl ⟨0, by omega, by rw [gAt_range (by omega)]; exact decide_eq_true (by omega)⟩ (by exact Nat.ne_of_lt (Nat.lt_of_sub_pos (by decide : 0 < 64 - 1)))
 have hA : ∀ x, A x = decide (x < n) := fun x => by rw [hS.hal]; rfl
 have hg2 : g2 = List.range n := asc_eq hS.ok.pw List.pairwise_lt_range fun x => by
  constructor
  ·exact fun h => (hS.drop x h).1
  ·exact fun h => hS.keep x h (by rw [hA]; exact decide_eq_true (List.mem_range.1 h))
 subst hg2
 have hsh := args_nil3 (shrink_at (wd0 n) 0 [] hko (by exact Nat.zero_lt_one) (by exact Nat.le_of_ble_eq_true rfl) hki.dead (by exact Nat.zero_le _))
 have hSe : shrF (wd0 n) (tmAt (wd0 n).ts 0).g [] = _ := hS.eq
 rw [hSe] at hsh
 have hR : RInv n { wd0 n with al := A, kn := K, ts := (wd0 n).ts ++ [⟨List.range n, fun _ => false⟩] } := ⟨rfl, rfl, fun x hx => by
  have hx : A x = true := hx
  rw [hA] at hx
  exact of_decide_eq_true hx⟩
 generalize ({ wd0 n with al := A, kn := K, ts := (wd0 n).ts ++ [⟨List.range n, fun _ => false⟩] } : Wd) = w0 at *
 refine walkX ?_
 refine Reg.c (Nat.zero_le _) rfl (hsh.mono ?_)
 rintro res H' ⟨rfl, rfl⟩
 refine walkX ?_
 refine AWP.loop (fun k : Nat => [(1, .list 1 (u8R ks)), (2, .sc (.int .u8 (f : Int))), (3, .sc (.int .u8 (a : Int))), (4, .sc (.int .u8 (b : Int))), (11, .sc (.int .i64 (n : Int))), (12, .ptr 0 0 0 0), (14, .sc (.int .i64 ((1 : Nat) : Int))), (15, .sc (.int .i64 (k : Int)))]) (fun k => worldH (kR n ks w0 k)) (fun k => k ≤ ks.length ∧ k ≤ 30) (fun k => ks.length - k) 0 ⟨Nat.zero_le _, Nat.zero_le _⟩ ?_ ?_
 ·refine Sub.wd (w := w0) [] ?_
  (all_goals (repeat' (first | exact ToAll.nil | exact famsTo.nil | exact famTo.nil | exact ToL.nil | exact ToR.nil | refine ToAll.cons ?_ ?_ | refine famsTo.cons ?_ ?_ | refine wt10 ?_ ?_ | exact To.undef _ | exact To.sc _ | exact To.hslL rfl rfl | exact To.ptrO rfl rfl rfl | exact To.mrefO rfl | exact To.nil rfl rfl rfl | exact wt1 | exact To.nilL | refine To.int ?_ | refine To.bool ?_ | refine To.hslL rfl ?_ | refine wt2 rfl ?_ ?_ ?_ | refine To.tupL ?_ | refine To.aggL ?_ | refine To.cptrL ?_ | refine wt3 ?_ | refine wt4 ?_ | refine To.cloL ?_ ?_ | exact wt5 | refine wt6 ?_ | refine ToB.one ?_ | exact wt7 | ((with_reducible apply ToL.consE); case e9 => rfl) | refine wt8 ?_ | refine ToL.cons ?_ ?_ | exact wt11 | refine wt9 ?_ ?_ | refine wt12 ?_ | (with_reducible rfl) | assumption)); all_goals (first | rfl | assumption | (simp; done) | (simp; omega) | (rw [wrap_small (by omega) (by omega)]; done) | (rw [wrap_small (by omega) (by omega)]; omega) | (refine congrArg Nat.cast ?_; assumption) | skip))
 rintro k ⟨hk, hk30⟩
 have hrk := hR.all ks k
 have hrko := hrk.ok hn1 (by omega)
 have hkS : kR n ks w0 (k + 1) = (killW (kR n ks w0 k) (((ks[k]?).getD 0 % n : Nat) : Int)).2 := rfl
 by_cases h : k < ks.length ∧ k < 30
 ·have hx : rowIx (u8R ks) (k : Int) = some [.sc (.int .u8 (ks[k] : Nat))] := rowIx_map (fun n : Nat => [AV.sc (.int .u8 (n : Int))]) ks k h.1
  have hx2 := hks _ (List.getElem_mem h.1)
  rw [show (ks[k]?).getD 0 = ks[k] by rw [List.getElem?_eq_getElem h.1]; rfl] at hkS
  generalize ks[k] = x at *
  have hk1 := kill_ok (kR n ks w0 k) ((x % n : Nat) : Int) hrko.n1
  generalize (killW (kR n ks w0 k) ((x % n : Nat) : Int)).2 = w2 at *
  refine walkX0 ?_
  rw [e0, decide_eq_true h.1]
  refine walkX0 ?_
  rw [decide_eq_true h.2]
  refine walkX0 ?_
  refine Reg.c (Nat.zero_le _) rfl (hk1.mono ?_)
  rintro res H' ⟨rfl, rfl⟩
  refine walkX0 ?_
  refine ⟨k + 1, ⟨by omega, by omega⟩, by omega, ?_⟩
  rw [hkS]
  refine Sub.wd (w := w2) [] ?_
  (all_goals (repeat' (first | exact ToAll.nil | exact famsTo.nil | exact famTo.nil | exact ToL.nil | exact ToR.nil | refine ToAll.cons ?_ ?_ | refine famsTo.cons ?_ ?_ | refine wt10 ?_ ?_ | exact To.undef _ | exact To.sc _ | exact To.hslL rfl rfl | exact To.ptrO rfl rfl rfl | exact To.mrefO rfl | exact To.nil rfl rfl rfl | exact wt1 | exact To.nilL | refine To.int ?_ | refine To.bool ?_ | refine To.hslL rfl ?_ | refine wt2 rfl ?_ ?_ ?_ | refine To.tupL ?_ | refine To.aggL ?_ | refine To.cptrL ?_ | refine wt3 ?_ | refine wt4 ?_ | refine To.cloL ?_ ?_ | exact wt5 | refine wt6 ?_ | refine ToB.one ?_ | exact wt7 | ((with_reducible apply ToL.consE); case e9 => rfl) | refine wt8 ?_ | refine ToL.cons ?_ ?_ | exact wt11 | refine wt9 ?_ ?_ | refine wt12 ?_ | (with_reducible rfl) | assumption)); all_goals (first | rfl | assumption | (simp; done) | (simp; omega) | (rw [wrap_small (by omega) (by omega)]; done) | (rw [wrap_small (by omega) (by omega)]; omega) | (refine congrArg Nat.cast ?_; assumption) | skip))
 by_cases h1 : k < ks.length
 ·refine AWP.seq ?_
  refine AWP.seq ?_
  refine AWP.region ?_
  refine walkR ?_
  rw [e0, decide_eq_true h1]
  refine walkR ?_
  rw [decide_eq_false (show ¬ k < 30 by omega)]
  refine walkR ?_
  refine AWP.condF rfl ?_
  refine AWP.exit ?_
  refine AWP.sub (fr' := [(2, .sc (.int .u8 (f : Int))), (3, .sc (.int .u8 (a : Int))), (4, .sc (.int .u8 (b : Int))), (11, .sc (.int .i64 (n : Int))), (12, .ptr 0 0 0 0), (14, .sc (.int .i64 ((1 : Nat) : Int)))]) (H' := worldH (kR n ks w0 k)) ?_ (hrest _ hrk)
  refine Sub.wd (w := kR n ks w0 k) [] ?_
  (all_goals (repeat' (first | exact ToAll.nil | exact famsTo.nil | exact famTo.nil | exact ToL.nil | exact ToR.nil | refine ToAll.cons ?_ ?_ | refine famsTo.cons ?_ ?_ | refine wt10 ?_ ?_ | exact To.undef _ | exact To.sc _ | exact To.hslL rfl rfl | exact To.ptrO rfl rfl rfl | exact To.mrefO rfl | exact To.nil rfl rfl rfl | exact wt1 | exact To.nilL | refine To.int ?_ | refine To.bool ?_ | refine To.hslL rfl ?_ | refine wt2 rfl ?_ ?_ ?_ | refine To.tupL ?_ | refine To.aggL ?_ | refine To.cptrL ?_ | refine wt3 ?_ | refine wt4 ?_ | refine To.cloL ?_ ?_ | exact wt5 | refine wt6 ?_ | refine ToB.one ?_ | exact wt7 | ((with_reducible apply ToL.consE); case e9 => rfl) | refine wt8 ?_ | refine ToL.cons ?_ ?_ | exact wt11 | refine wt9 ?_ ?_ | refine wt12 ?_ | (with_reducible rfl) | assumption)); all_goals (first | rfl | assumption | (simp; done) | (simp; omega) | (rw [wrap_small (by omega) (by omega)]; done) | (rw [wrap_small (by omega) (by omega)]; omega) | (refine congrArg Nat.cast ?_; assumption) | skip))
 ·refine AWP.seq ?_
  refine AWP.seq ?_
  refine AWP.region ?_
  refine walkR ?_
  rw [e0, decide_eq_false h1]
  refine walkR ?_
  refine AWP.condF rfl ?_
  refine AWP.exit ?_
  refine AWP.sub (fr' := [(2, .sc (.int .u8 (f : Int))), (3, .sc (.int .u8 (a : Int))), (4, .sc (.int .u8 (b : Int))), (11, .sc (.int .i64 (n : Int))), (12, .ptr 0 0 0 0), (14, .sc (.int .i64 ((1 : Nat) : Int)))]) (H' := worldH (kR n ks w0 k)) ?_ (hrest _ hrk)
  refine Sub.wd (w := kR n ks w0 k) [] ?_
  (all_goals (repeat' (first | exact ToAll.nil | exact famsTo.nil | exact famTo.nil | exact ToL.nil | exact ToR.nil | refine ToAll.cons ?_ ?_ | refine famsTo.cons ?_ ?_ | refine wt10 ?_ ?_ | exact To.undef _ | exact To.sc _ | exact To.hslL rfl rfl | exact To.ptrO rfl rfl rfl | exact To.mrefO rfl | exact To.nil rfl rfl rfl | exact wt1 | exact To.nilL | refine To.int ?_ | refine To.bool ?_ | refine To.hslL rfl ?_ | refine wt2 rfl ?_ ?_ ?_ | refine To.tupL ?_ | refine To.aggL ?_ | refine To.cptrL ?_ | refine wt3 ?_ | refine wt4 ?_ | refine To.cloL ?_ ?_ | exact wt5 | refine wt6 ?_ | refine ToB.one ?_ | exact wt7 | ((with_reducible apply ToL.consE); case e9 => rfl) | refine wt8 ?_ | refine ToL.cons ?_ ?_ | exact wt11 | refine wt9 ?_ ?_ | refine wt12 ?_ | (with_reducible rfl) | assumption)); all_goals (first | rfl | assumption | (simp; done) | (simp; omega) | (rw [wrap_small (by omega) (by omega)]; done) | (rw [wrap_small (by omega) (by omega)]; omega) | (refine congrArg Nat.cast ?_; assumption) | skip))
theorem avs5 {s t u v x : Sh} {avs : List AV} (hl : avs.length = [s, t, u, v, x].length) (h : ∀ (j : Nat) q c, [s, t, u, v, x][j]? = some q → avs[j]? = some c → Fit q c) : ∃ a b c d e, avs = [a, b, c, d, e] ∧ Fit s a ∧ Fit t b ∧ Fit u c ∧ Fit v d ∧ Fit x e := by
 match avs, hl with
 | [a, b, c, d, e], _ => exact ⟨a, b, c, d, e, rfl, h 0 _ _ rfl rfl, h 1 _ _ rfl rfl, h 2 _ _ rfl rfl, h 3 _ _ rfl rfl, h 4 _ _ rfl rfl⟩
set_option maxRecDepth 100000 in
theorem faultRevokes_lifted (os : Os) (started : os.Started) (H : Type) (enc : TypeId × Value → H) :
  ReturnsInHanded {} Try.checked os 9 .any (Rows.faultRevokesSpec.pre6 enc Try.prog Try.f9 Rows.faultRevokesRow.domain false) (Rows.faultRevokesSpec.post enc Try.prog Try.f9 false true false false) := by
 refine returnsInHanded_of_change (C := Try.checked) Try_own started (by kernel_rfl) Try.func9
  (ChangeSpec.witness6 (enc := enc) (C := Try.checked) false ⟨#[], #[.int .u8 0, .slice none 0 0, .int .u8 0, .int .u8 0, .int .u8 0], []⟩ 8 (by kernel_rfl) (by kernel_rfl) (by kernel_rfl) (by kernel_rfl)) ?_
 intro W base args ds gs before hval hW _ _
 refine law_calls (P := Try.prog) (d := 8) (row := [.int .u8, .slice [.int .u8], .int .u8, .int .u8, .int .u8]) (tb := 4) (by kernel_rfl) rfl Try_laid Try_maps Try_slices (by decide) rfl tb_bool (fun ds hds => ?_) (fun avs hl hf => ?_) hval hW
 ·match ds, hds with
  | [_, _, _, _, _], _ => exact ⟨rfl, rfl, rfl⟩
 ·obtain ⟨s0, s1, s2, s3, s4, rfl, h0, h1, h2, h3, h4⟩ := avs5 hl hf
  obtain ⟨s, rfl, hs⟩ := open_u8 h0
  obtain ⟨ks, rfl, hk, hkb⟩ := open_u8s h1
  obtain ⟨f, rfl, hf2⟩ := open_u8 h2
  obtain ⟨a, rfl, ha⟩ := open_u8 h3
  obtain ⟨b, rfl, hb⟩ := open_u8 h4
  exact (PureRun.callOK (faultRevokes_ok s ks f a b hs hkb hf2 ha hb) []).mono fun _ _ h => h.1
theorem faultRevokes_holds : Rows.FaultRevokesSaid :=
 OpenClaim.holds_of_wide 9 Try.f9 rfl rfl rfl rfl rfl rfl rfl ⟨rfl, rfl, rfl, rfl, rfl⟩ rfl rfl rfl rfl rfl (by kernel_rfl) Try.func9 (by kernel_rfl)
  (of_decide_eq_true (by kernel_rfl)) (by unfold Func.isWrapper; first | (rw [if_pos (by decide +kernel)]; kernel_rfl) | (rw [if_neg (by decide +kernel)]; exact ⟨rfl, rfl⟩))
  (fun os started H enc _ => faultRevokes_lifted os started H enc)
end Go.Proofs.Ytbpmbofinoinmaa
